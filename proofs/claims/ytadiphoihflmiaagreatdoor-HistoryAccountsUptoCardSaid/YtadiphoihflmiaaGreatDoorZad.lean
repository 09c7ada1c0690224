/- Blocks of the evaluator in the model's memory. The evaluator's memory in the model's: what a new block, a store do. -/
import Derived.Test.YtadiphoihflmiaaGreatDoorZac
import Derived.Laws.World
import Derived.Laws.IdiomCopy
import Derived.Below
set_option linter.all false
namespace Go.Abs

def Cont.elems : Cont → List AVal
  | .ints k l => l.map (AVal.int k)
  | .recs c l => l.map c.enc
  | .vals l => l
  | _ => []

/-- What a map holds. -/
def Cont.ents : Cont → List (AVal × AVal)
  | .map k v l => l.map fun p => (k.enc p.1, v.enc p.2)
  | .mapv k l => l.map fun p => (k.enc p.1, p.2)
  | _ => []

def Codec.good (c : Codec) : Prop := (∀ v a, c.dec v = some a → AVal.Le v (c.enc a)) ∧ ∀ a, (c.enc a).keys = []

def Cont.isVar : Cont → Bool
  | .var _ => true
  | _ => false

def Cont.good : Cont → Prop
  | .recs c _ => (∀ v a, c.dec v = some a → AVal.Le v (c.enc a)) ∧ (∀ a, (c.enc a).keys = []) ∧ ∀ vt, c.vt = some vt → (∀ l, (vt.2.1 l).map (encT vt.1) = l.map c.enc) ∧ ∀ m, (vt.2.2 m).map c.enc = m.map (encT vt.1)
  | .map k v _ => k.good ∧ v.good
  | .mapv k _ => k.good
  | _ => True

/-- A map's entries. -/
def RepMs (env : Env) (ρ : PMap) (Z : Zone) (kt vt : Nat) : Nat → List (AVal × AVal) → List MapEntry → Prop
  | _, [], es => es = []
  | n, (k, v) :: l, es => ∃ e es', es = e :: es' ∧ e.born = n ∧ HT env kt k ∧ RepV env ρ Z k e.key ∧ HT env vt v ∧ RepV env ρ Z v e.val ∧ RepMs env ρ Z kt vt (n + 1) l es'

def Cont.ofMap (env : Env) (kt vt : Nat) : Cont → Prop
  | .map k v _ => env.codec kt = some k ∧ env.codec vt = some v ∧ k.eq ≠ none
  | .mapv k _ => env.codec kt = some k ∧ k.eq ≠ none
  | _ => False

def RepEl (env : Env) (ρ : PMap) (Z : Zone) (e : Nat) : List AVal → List Value → Prop
  | [], cs => cs = []
  | v :: vs, cs => ∃ c1 c2, cs = c1 ++ c2 ∧ HT env e v ∧ RepC env ρ Z v c1 ∧ RepEl env ρ Z e vs c2

def RepB (env : Env) (ρ : PMap) (Z : Zone) (b : Blk) (cs : List Value) (n : Nat) : Prop := match b.root, b.c with
  | .var t, .var v => HT env t v ∧ RepC env ρ Z v cs
  | .row _, .var _ => False
  | .map _ _, _ => False
  | .var t, c => ∃ m e, env.td t = some (.arr m e) ∧ c.elems.length = m ∧ RepEl env ρ Z e c.elems cs ∧ c.good
  | .row e, c => (∃ d, env.td e = some d) ∧ c.elems.length = n ∧ RepEl env ρ Z e c.elems cs ∧ c.good

theorem RepEl.len {env : Env} {ρ : PMap} {Z : Zone} (hs : SzOk env) {e : Nat} : ∀ {l : List AVal} {cs : List Value}, RepEl env ρ Z e l cs → cs.length = l.length * env.sz e
  | [], cs, h => by simp [RepEl] at h; simp [h]
  | v :: vs, cs, h => by
    obtain ⟨c1, c2, rfl, h1, h2, h3⟩ := h
    rw [List.length_append, h1.len hs h2, RepEl.len hs h3, List.length_cons, Nat.add_mul]
    omega

theorem RepEl.nth {env : Env} {ρ : PMap} {Z : Zone} (hs : SzOk env) {e : Nat} : ∀ {l : List AVal} {cs : List Value} {n : Nat} {v : AVal}, RepEl env ρ Z e l cs → l[n]? = some v →
    ∃ c1 c2 c3, cs = c1 ++ c2 ++ c3 ∧ c1.length = n * env.sz e ∧ RepC env ρ Z v c2 ∧ HT env e v ∧ RepEl env ρ Z e (l.take n) c1 ∧ RepEl env ρ Z e (l.drop (n + 1)) c3
  | [], _, n, _, _, hn => by simp at hn
  | u :: us, cs, 0, v, h, hn => by
    obtain ⟨c1, c2, rfl, h1, h2, h3⟩ := h
    simp at hn; subst hn
    exact ⟨[], c1, c2, by simp, by simp, h2, h1, by simp [RepEl], by simpa using h3⟩
  | u :: us, cs, n + 1, v, h, hn => by
    obtain ⟨c1, c2, rfl, h1, h2, h3⟩ := h
    simp at hn
    obtain ⟨d1, d2, d3, rfl, hl, hv, ht, ha, hb⟩ := RepEl.nth hs h3 hn
    refine ⟨c1 ++ d1, d2, d3, by simp, by rw [List.length_append, hl, h1.len hs h2, Nat.add_mul]; omega, hv, ht, ?_, by simpa using hb⟩
    simp only [List.take_succ_cons, RepEl]
    exact ⟨c1, d1, rfl, h1, h2, ha⟩

theorem RepEl.append {env : Env} {ρ : PMap} {Z : Zone} {e : Nat} : ∀ {l m : List AVal} {cs ds : List Value}, RepEl env ρ Z e l cs → RepEl env ρ Z e m ds → RepEl env ρ Z e (l ++ m) (cs ++ ds)
  | [], m, cs, ds, h, h' => by simp [RepEl] at h; simpa [h] using h'
  | v :: vs, m, cs, ds, h, h' => by
    obtain ⟨c1, c2, rfl, h1, h2, h3⟩ := h
    exact ⟨c1, c2 ++ ds, by simp, h1, h2, h3.append h'⟩

theorem RepEl.set {env : Env} {ρ : PMap} {Z : Zone} (hs : SzOk env) {e : Nat} {l : List AVal} {cs xs : List Value} {n : Nat} {v x : AVal} (h : RepEl env ρ Z e l cs) (hn : l[n]? = some v)
    (hx : HT env e x) (hr : RepC env ρ Z x xs) {c1 c2 c3 : List Value} (e0 : cs = c1 ++ c2 ++ c3) (e1 : c1.length = n * env.sz e) (e2 : c2.length = env.sz e) : RepEl env ρ Z e (l.set n x) (c1 ++ xs ++ c3) := by
  obtain ⟨d1, d2, d3, rfl, hl, hv, ht, ha, hb⟩ := h.nth hs hn
  obtain ⟨rfl, -, rfl⟩ := app3_inj e0 (by rw [hl, e1]) (by rw [e2, ht.len hs hv])
  have hlt : n < l.length := (List.getElem?_eq_some_iff.1 hn).1
  rw [List.set_eq_take_append_cons_drop, if_pos hlt, List.append_assoc]
  exact ha.append ⟨xs, d3, rfl, hx, hr, hb⟩

theorem RepEl.congr {env : Env} {ρ ρ' : PMap} {Z : Zone} {e : Nat} : ∀ {l : List AVal} {cs : List Value}, RepEl env ρ Z e l cs → (∀ v, v ∈ l → ∀ k, k ∈ v.keys → ρ' k = ρ k) → RepEl env ρ' Z e l cs
  | [], _, h, _ => h
  | v :: vs, cs, h, hk => by
    obtain ⟨c1, c2, rfl, h1, h2, h3⟩ := h
    exact ⟨c1, c2, rfl, h1, h2.congr (hk v (by simp)), h3.congr fun u hu => hk u (by simp [hu])⟩

theorem nthV_eq (l : List AVal) (n : Nat) : nthV l n = l[n]? := by
  induction l generalizing n with
  | nil => rfl
  | cons v vs ih => cases n <;> simp [nthV, ih]

theorem setV_eq {l l' : List AVal} {n : Nat} {x : AVal} (h : setV l n x = some l') : l' = l.set n x := by
  induction l generalizing n l' with
  | nil => simp [setV] at h
  | cons v vs ih =>
    cases n with
    | zero => simp [setV] at h; simp [h]
    | succ n =>
      cases hs : setV vs n x with
      | none => simp [setV, hs] at h
      | some vs' => simp [setV, hs] at h; subst h; simp [ih hs]

/-- The part of an element. -/
theorem Cont.get_el {c : Cont} {n : Nat} {p : List Step} {x : AVal} (hc : c.isVar = false) (h : c.get (.i n :: p) = some x) (hn : n < c.elems.length) :
    ∃ v, c.elems[n]? = some v ∧ AVal.getP p v = some x := by
  cases c with
  | var v => simp [Cont.isVar] at hc
  | ints k l =>
    cases p with
    | cons s p => simp [Cont.get] at h
    | nil =>
      simp [Cont.get] at h; simp [Cont.elems] at hn
      exact ⟨.int k l[n], by simp [Cont.elems, hn], by simp [AVal.getP, ← h, hn]⟩
  | recs c l =>
    simp [Cont.get] at h; simp [Cont.elems] at hn
    exact ⟨c.enc l[n], by simp [Cont.elems, hn], by simpa [hn] using h⟩
  | vals l =>
    cases hg : nthV l n with
    | none => simp [Cont.get, hg] at h
    | some v => simp [Cont.get, hg] at h; rw [nthV_eq] at hg; exact ⟨v, hg, h⟩
  | map | mapv => simp [Cont.get] at h

theorem Cont.set_el {c c' : Cont} {n : Nat} {p : List Step} {x : AVal} (hc : c.isVar = false) (h : c.set (.i n :: p) x = some c') (hn : n < c.elems.length) (hg : c.good) :
    ∃ v v' v'', c.elems[n]? = some v ∧ AVal.setP p v x = some v' ∧ AVal.Le v' v'' ∧ c'.elems = c.elems.set n v'' ∧ c'.isVar = false ∧ c'.good := by
  cases c with
  | var v => simp [Cont.isVar] at hc
  | ints k l =>
    cases p with
    | cons s p => simp [Cont.set] at h
    | nil =>
      cases x <;> simp [Cont.set] at h
      rename_i k' y
      simp [Cont.elems] at hn
      cases hy : castT k k' y with
      | none => simp [hy] at h
      | some y' =>
        simp [hy] at h
        obtain ⟨rfl, rfl⟩ := castT_some hy
        subst h
        exact ⟨.int k' l[n], .int k' y', .int k' y', by simp [Cont.elems, hn], rfl, AVal.Le.refl _, by simp [Cont.elems, List.map_set], rfl, trivial⟩
  | recs c l =>
    simp [Cont.elems] at hn
    cases hs : AVal.setP p (c.enc (l.getD n c.dflt)) x with
    | none => simp [Cont.set, hs] at h; simp [← List.getD_eq_getElem?_getD, hs] at h
    | some v =>
      cases hd : c.dec v with
      | none => simp only [Cont.set, hs, hd] at h; cases h
      | some a =>
        simp only [Cont.set, hs, hd, Option.some.injEq] at h
        subst h
        have he := hg.1 _ _ hd
        exact ⟨c.enc l[n], v, c.enc a, by simp [Cont.elems, hn], by simpa [hn] using hs, he, by simp [Cont.elems, List.map_set], rfl, hg⟩
  | vals l =>
    cases hgt : nthV l n with
    | none => simp [Cont.set, hgt] at h
    | some v =>
      cases hs : AVal.setP p v x with
      | none => simp [Cont.set, hgt, hs] at h
      | some v' =>
        cases hv : setV l n v' with
        | none => simp [Cont.set, hgt, hs, hv] at h
        | some l' =>
          simp [Cont.set, hgt, hs, hv] at h
          subst h
          rw [nthV_eq] at hgt
          exact ⟨v, v', v', hgt, hs, AVal.Le.refl _, by simp [Cont.elems, setV_eq hv], rfl, trivial⟩
  | map | mapv => simp [Cont.set] at h

theorem Blk.get_rep {env : Env} {ρ : PMap} {Z : Zone} (hs : SzOk env) {b : Blk} {pl : Place} {cs : List Value} {p : List Step} {u : Nat} {x : AVal} (hb : RepB env ρ Z b cs pl.len) (hr : pl.root = b.root)
    (ht : b.root.type env p = some u) (hv : validR env pl p) (hg : b.c.get p = some x) :
    ∃ c1 c2 c3, cs = c1 ++ c2 ++ c3 ∧ c1.length = b.root.off env p ∧ RepC env ρ Z x c2 ∧ HT env u x := by
  obtain ⟨root, c⟩ := b
  unfold validR at hv
  rw [hr] at hv
  cases root with
  | map kt vt => simp [Root.type] at ht
  | var t =>
    simp only [Root.type] at ht
    simp only at hv
    cases hc : c.isVar with
    | true =>
      cases c <;> simp [Cont.isVar] at hc
      simp only [RepB] at hb
      exact getP_rep hs p t u _ x cs hb.1 hb.2 ht hv (by simpa [Cont.get] using hg)
    | false =>
      have hb' : ∃ m e, env.td t = some (.arr m e) ∧ c.elems.length = m ∧ RepEl env ρ Z e c.elems cs ∧ c.good := by
        cases c <;> simp [Cont.isVar] at hc <;> exact hb
      obtain ⟨m, e, htd, hl, hel, -⟩ := hb'
      cases p with
      | nil => cases c <;> simp [Cont.isVar] at hc <;> simp [Cont.get] at hg
      | cons s p =>
        cases s with
        | f i => simp [typeP, htd] at ht
        | i n =>
          simp [validP, htd] at hv
          simp [typeP, htd] at ht
          obtain ⟨v, h1, h2⟩ := Cont.get_el hc hg (by omega)
          obtain ⟨c1, c2, c3, rfl, e1, h3, h4, -, -⟩ := hel.nth hs h1
          obtain ⟨d1, d2, d3, rfl, e2, h5, h6⟩ := getP_rep hs p e u v x c2 h4 h3 ht hv.2 h2
          exact ⟨c1 ++ d1, d2, d3 ++ c3, by simp, by simp [Root.off, offP, htd, e1, e2], h5, h6⟩
  | row e =>
    cases p with
    | nil => simp [Root.type] at ht
    | cons s p =>
      cases s with
      | f i => simp [Root.type] at ht
      | i n =>
        simp only [Root.type] at ht
        simp only at hv
        cases hc : c.isVar with
        | true => cases c <;> simp [Cont.isVar] at hc; simp [RepB] at hb
        | false =>
          have hb' : (∃ d, env.td e = some d) ∧ c.elems.length = pl.len ∧ RepEl env ρ Z e c.elems cs ∧ c.good := by
            cases c <;> simp [Cont.isVar] at hc <;> exact hb
          obtain ⟨-, hl, hel, -⟩ := hb'
          obtain ⟨v, h1, h2⟩ := Cont.get_el hc hg (by omega)
          obtain ⟨c1, c2, c3, rfl, e1, h3, h4, -, -⟩ := hel.nth hs h1
          obtain ⟨d1, d2, d3, rfl, e2, h5, h6⟩ := getP_rep hs p e u v x c2 h4 h3 ht hv.2 h2
          exact ⟨c1 ++ d1, d2, d3 ++ c3, by simp, by simp [Root.off, e1, e2], h5, h6⟩

theorem Blk.set_rep {env : Env} {ρ : PMap} {Z : Zone} (hs : SzOk env) {b : Blk} {pl : Place} {cs xs : List Value} {p : List Step} {u : Nat} {x : AVal} {c' : Cont} (hb : RepB env ρ Z b cs pl.len) (hr : pl.root = b.root)
    (ht : b.root.type env p = some u) (hv : validR env pl p) (hg : b.c.set p x = some c') (hx : HT env u x) (hxr : RepC env ρ Z x xs) :
    ∃ c1 c2 c3, cs = c1 ++ c2 ++ c3 ∧ c1.length = b.root.off env p ∧ c2.length = xs.length ∧ RepB env ρ Z ⟨b.root, c'⟩ (c1 ++ xs ++ c3) pl.len := by
  obtain ⟨root, c⟩ := b
  unfold validR at hv
  rw [hr] at hv
  cases root with
  | map kt vt => simp [Root.type] at ht
  | var t =>
    simp only [Root.type] at ht
    simp only at hv
    cases hc : c.isVar with
    | true =>
      cases c <;> simp [Cont.isVar] at hc
      rename_i v
      simp only [RepB] at hb
      cases hsp : AVal.setP p v x with
      | none => simp [Cont.set, hsp] at hg
      | some v' =>
        simp [Cont.set, hsp] at hg
        subst hg
        obtain ⟨c1, c2, c3, e0, e1, e2, h1, h2⟩ := setP_rep hs p t u v x v' cs xs hb.1 hb.2 ht hv hsp hx hxr
        exact ⟨c1, c2, c3, e0, e1, e2, h2, h1⟩
    | false =>
      have hb' : ∃ m e, env.td t = some (.arr m e) ∧ c.elems.length = m ∧ RepEl env ρ Z e c.elems cs ∧ c.good := by
        cases c <;> simp [Cont.isVar] at hc <;> exact hb
      obtain ⟨m, e, htd, hl, hel, hgd⟩ := hb'
      cases p with
      | nil => cases c <;> simp [Cont.isVar] at hc <;> simp [Cont.set] at hg
      | cons s p =>
        cases s with
        | f i => simp [typeP, htd] at ht
        | i n =>
          simp [validP, htd] at hv
          simp [typeP, htd] at ht
          obtain ⟨v, v', v'', h1, h2, hle, h2', hc', hgd'⟩ := Cont.set_el hc hg (by omega) hgd
          obtain ⟨c1, c2, c3, rfl, e1, h3, h4, -, -⟩ := hel.nth hs h1
          obtain ⟨d1, d2, d3, rfl, e2, e3, h5, h6⟩ := setP_rep hs p e u v x v' c2 xs h4 h3 ht hv.2 h2 hx hxr
          refine ⟨c1 ++ d1, d2, d3 ++ c3, by simp, by simp [Root.off, offP, htd, e1, e2], e3, ?_⟩
          have := hel.set hs h1 (h6.le hle) (hle.rep h5) rfl e1 (by rw [h4.len hs h3])
          have hB : ∃ m e, env.td t = some (.arr m e) ∧ c'.elems.length = m ∧ RepEl env ρ Z e c'.elems (c1 ++ d1 ++ xs ++ (d3 ++ c3)) ∧ c'.good :=
            ⟨m, e, htd, by simp [h2', hl], by rw [h2']; simpa using this, hgd'⟩
          cases c' <;> simp [Cont.isVar] at hc' <;> exact hB
  | row e =>
    cases p with
    | nil => simp [Root.type] at ht
    | cons s p =>
      cases s with
      | f i => simp [Root.type] at ht
      | i n =>
        simp only [Root.type] at ht
        simp only at hv
        cases hc : c.isVar with
        | true => cases c <;> simp [Cont.isVar] at hc; simp [RepB] at hb
        | false =>
          have hb' : (∃ d, env.td e = some d) ∧ c.elems.length = pl.len ∧ RepEl env ρ Z e c.elems cs ∧ c.good := by
            cases c <;> simp [Cont.isVar] at hc <;> exact hb
          obtain ⟨hd, hl, hel, hgd⟩ := hb'
          obtain ⟨v, v', v'', h1, h2, hle, h2', hc', hgd'⟩ := Cont.set_el hc hg (by omega) hgd
          obtain ⟨c1, c2, c3, rfl, e1, h3, h4, -, -⟩ := hel.nth hs h1
          obtain ⟨d1, d2, d3, rfl, e2, e3, h5, h6⟩ := setP_rep hs p e u v x v' c2 xs h4 h3 ht hv.2 h2 hx hxr
          refine ⟨c1 ++ d1, d2, d3 ++ c3, by simp, by simp [Root.off, e1, e2], e3, ?_⟩
          have := hel.set hs h1 (h6.le hle) (hle.rep h5) rfl e1 (by rw [h4.len hs h3])
          have hB : (∃ d, env.td e = some d) ∧ c'.elems.length = pl.len ∧ RepEl env ρ Z e c'.elems (c1 ++ d1 ++ xs ++ (d3 ++ c3)) ∧ c'.good :=
            ⟨hd, by simp [h2', hl], by rw [h2']; simpa using this, hgd'⟩
          cases c' <;> simp [Cont.isVar] at hc' <;> exact hB

theorem RepMs.congr {env : Env} {ρ ρ' : PMap} {Z : Zone} {kt vt : Nat} : ∀ {n : Nat} {l : List (AVal × AVal)} {es : List MapEntry}, RepMs env ρ Z kt vt n l es →
    (∀ p, p ∈ l → ∀ k, k ∈ p.1.keys ∨ k ∈ p.2.keys → ρ' k = ρ k) → RepMs env ρ' Z kt vt n l es
  | _, [], _, h, _ => h
  | n, (k, v) :: l, es, h, hk => by
    obtain ⟨e, es', rfl, h1, h2, h3, h4, h5, h6⟩ := h
    exact ⟨e, es', rfl, h1, h2, h3.congr (fun j hj => hk (k, v) (by simp) j (.inl hj)), h4, h5.congr (fun j hj => hk (k, v) (by simp) j (.inr hj)), h6.congr fun p hp => hk p (by simp [hp])⟩

theorem RepEl.zone {env : Env} {ρ : PMap} {Z Z' : Zone} (hg : Z'.g = Z.g) (hz : Zle Z Z') {e : Nat} : ∀ {l : List AVal} {cs : List Value}, RepEl env ρ Z e l cs → RepEl env ρ Z' e l cs
  | [], _, h => h
  | v :: vs, cs, h => by
    obtain ⟨c1, c2, rfl, h1, h2, h3⟩ := h
    exact ⟨c1, c2, rfl, h1, h2.zone hg fun _ => hz, h3.zone hg hz⟩
theorem RepMs.zone {env : Env} {ρ : PMap} {Z Z' : Zone} (hg : Z'.g = Z.g) (hz : Zle Z Z') {kt vt : Nat} : ∀ {n : Nat} {l : List (AVal × AVal)} {es : List MapEntry}, RepMs env ρ Z kt vt n l es → RepMs env ρ Z' kt vt n l es
  | _, [], _, h => h
  | n, (k, v) :: l, es, h => by
    obtain ⟨e, es', rfl, h1, h2, h3, h4, h5, h6⟩ := h
    exact ⟨e, es', rfl, h1, h2, h3.zone hg fun _ => hz, h4, h5.zone hg fun _ => hz, h6.zone hg hz⟩
end Go.Abs

namespace Go.Abs

def MapOk (env : Env) (ρ : PMap) (Z : Zone) (w : World) (pl : Place) (b : Blk) : Prop :=
  ∃ kt vt es, b.root = .map kt vt ∧ pl.lo = 0 ∧ pl.hi = 1 ∧ w.heap[pl.block]? = some (.map es es.size) ∧ RepMs env ρ Z kt vt 0 b.c.ents es.toList ∧ b.c.good ∧ b.c.ofMap env kt vt

structure BlkOk (env : Env) (ρ : PMap) (Z : Zone) (w : World) (pl : Place) (b : Blk) : Prop where
  root : pl.root = b.root
  cells : b.root.isMap = false → ∃ cs, RepB env ρ Z b cs pl.len ∧ (∀ i c, cs[i]? = some c → w.cell? ⟨pl.block, pl.lo + i, none⟩ = some c) ∧ pl.lo + cs.length ≤ pl.hi
  own : b.root.isMap = false → ∀ i, pl.lo ≤ i → i < pl.hi → (w.cell? ⟨pl.block, i, none⟩).isSome = true ∧ w.frozen? ⟨pl.block, i, none⟩ = false
  there : pl.block < w.heap.size
  map : b.root.isMap = true → MapOk env ρ Z w pl b

/-- What package-level variables hold, and what they point to. -/
structure GOk (env : Env) (Z : Zone) (w : World) : Prop where
  cont : ∀ id t v, env.gv id = some (t, v) → v.keys = [] ∧ ∃ ecs, (∀ ρ, RepC env ρ Z v ecs) ∧ ∀ j c, ecs[j]? = some c → Z (Z.g id).1 ((Z.g id).2 + j) = some c
  glob : ∀ id, id < 1000 → Z.g id = (id, 0)
  inj : ∀ i j, env.gv i ≠ none → env.gv j ≠ none → 1000 ≤ i → 1000 ≤ j → Z.g i = Z.g j → i = j
  cells : ∀ id, env.gv id ≠ none → 1000 ≤ id → ∃ c e, w.heap[(Z.g id).1]? = some (.cells c e (0, 0))

def Apart (p q : Place) : Prop := ∀ i, p.block = q.block → p.lo ≤ i → i < p.hi → q.lo ≤ i → i < q.hi → False

theorem Apart.symm {p q : Place} (h : Apart p q) : Apart q p := fun i e h1 h2 h3 h4 => h i e.symm h3 h4 h1 h2

structure HeapOk (env : Env) (ρ : PMap) (Z : Zone) (w : World) (H : Heap) : Prop where
  blk : ∀ k b, H k = some b → BlkOk env ρ Z w (ρ k) b
  dis : ∀ k k' b b', k ≠ k' → H k = some b → H k' = some b' → Apart (ρ k) (ρ k')
  zdis : ∀ k b, H k = some b → ∀ i, (ρ k).lo ≤ i → i < (ρ k).hi → Z (ρ k).block i = none
  zone : ∀ b o v, Z b o = some v → w.cell? ⟨b, o, none⟩ = some v
  /-- the heap is not empty -/
  pos : 0 < w.heap.size
  gok : GOk env Z w

/-- The cells that these blocks may turn. -/
def inReg (ρ : PMap) (H : Heap) (b i : Nat) : Prop := ∃ k B, H k = some B ∧ (ρ k).block = b ∧ (ρ k).lo ≤ i ∧ i < (ρ k).hi

/-- More cells that nobody writes: new ones, or such as the blocks of R give away. -/
structure Grow (R : Nat → Nat → Prop) (w : World) (Z Z' : Zone) : Prop where
  g : Z'.g = Z.g
  le : Zle Z Z'
  new : ∀ b o, Z b o = none → Z' b o ≠ none → w.heap.size ≤ b ∨ R b o
theorem Grow.refl (R : Nat → Nat → Prop) (w : World) (Z : Zone) : Grow R w Z Z := ⟨rfl, fun _ _ _ h => h, fun _ _ h h' => absurd h h'⟩
theorem Grow.trans {R R' : Nat → Nat → Prop} {w w' : World} {Z Z' Z'' : Zone} (h : Grow R w Z Z') (h' : Grow R' w' Z' Z'') (hs : ∀ b o, w'.heap.size ≤ b ∨ R' b o → w.heap.size ≤ b ∨ R b o) : Grow R w Z Z'' := by
  refine ⟨h'.g.trans h.g, fun b o c hc => h'.le b o c (h.le b o c hc), fun b o h1 h2 => ?_⟩
  cases hz : Z' b o with
  | none => exact hs b o (h'.new b o hz h2)
  | some c => exact h.new b o h1 (by rw [hz]; simp)
theorem Grow.mono {R R' : Nat → Nat → Prop} {w : World} {Z Z' : Zone} (h : Grow R w Z Z') (hr : ∀ b o, R b o → R' b o) : Grow R' w Z Z' :=
  ⟨h.g, h.le, fun b o h1 h2 => (h.new b o h1 h2).imp id (hr b o)⟩

def ObjKeeps (R : Nat → Prop) : Obj → Obj → Prop
  | .cells c e fr, .cells c' e' fr' => c'.size = c.size ∧ e' = e ∧ fr' = fr ∧ ∀ i, ¬ R i → c'[i]? = c[i]?
  | .map e c, .map e' c' => ¬ R 0 → e' = e ∧ c' = c
  | o, o' => o' = o

/-- What was there is as it was, but for the cells of R. -/
structure Keeps (R : Nat → Nat → Prop) (w w' : World) : Prop where
  os : w'.os = w.os
  tape : w'.tape = w.tape
  output : w'.output = w.output
  size : w.heap.size ≤ w'.heap.size
  obj : ∀ b o, w.heap[b]? = some o → ∃ o', w'.heap[b]? = some o' ∧ ObjKeeps (R b) o o'

theorem ObjKeeps.refl (R : Nat → Prop) (o : Obj) : ObjKeeps R o o := by cases o <;> simp [ObjKeeps]

theorem Keeps.refl (R : Nat → Nat → Prop) (w : World) : Keeps R w w := by
  refine ⟨rfl, rfl, rfl, Nat.le_refl _, fun b o h => ⟨o, h, ObjKeeps.refl _ _⟩⟩

theorem Keeps.trans {R : Nat → Nat → Prop} {a b c : World} (h : Keeps R a b) (k : Keeps R b c) : Keeps R a c := by
  refine ⟨k.os.trans h.os, k.tape.trans h.tape, k.output.trans h.output, Nat.le_trans h.size k.size, fun i o ho => ?_⟩
  obtain ⟨o1, h1, h2⟩ := h.obj i o ho
  obtain ⟨o2, h3, h4⟩ := k.obj i o1 h1
  refine ⟨o2, h3, ?_⟩
  cases o <;> cases o1 <;> simp [ObjKeeps] at h2 <;> cases o2 <;> simp_all [ObjKeeps]

theorem Keeps.mono {R R' : Nat → Nat → Prop} {w w' : World} (h : Keeps R w w') (hr : ∀ b i, b < w.heap.size → R b i → R' b i) : Keeps R' w w' := by
  refine ⟨h.os, h.tape, h.output, h.size, fun b o ho => ?_⟩
  have hb : b < w.heap.size := (Array.getElem?_eq_some_iff.1 ho).1
  obtain ⟨o', h1, h2⟩ := h.obj b o ho
  refine ⟨o', h1, ?_⟩
  cases o <;> cases o' <;> simp only [ObjKeeps] at h2 ⊢
  all_goals first
    | exact h2
    | exact ⟨h2.1, h2.2.1, h2.2.2.1, fun i hi => h2.2.2.2 i fun hR => hi (hr b i hb hR)⟩
    | exact fun hn => h2 fun hR => hn (hr b 0 hb hR)

theorem Keeps.cell {R : Nat → Nat → Prop} {w w' : World} (h : Keeps R w w') {b i : Nat} {v : Value} (hc : w.cell? ⟨b, i, none⟩ = some v) (hR : ¬ R b i) : w'.cell? ⟨b, i, none⟩ = some v := by
  unfold World.cell? at *
  simp only at *
  cases ho : w.heap[b]? with
  | none => simp [ho] at hc
  | some o =>
    obtain ⟨o', h1, h2⟩ := h.obj b o ho
    cases o <;> simp [ho] at hc
    cases o' <;> simp [ObjKeeps] at h2
    simp [h1, h2.2.2.2 i hR, hc]

theorem Keeps.cellSome {R : Nat → Nat → Prop} {w w' : World} (h : Keeps R w w') {b i : Nat} (hc : (w.cell? ⟨b, i, none⟩).isSome = true) : (w'.cell? ⟨b, i, none⟩).isSome = true := by
  unfold World.cell? at *
  simp only at *
  cases ho : w.heap[b]? with
  | none => simp [ho] at hc
  | some o =>
    obtain ⟨o', h1, h2⟩ := h.obj b o ho
    cases o <;> simp [ho] at hc
    cases o' <;> simp [ObjKeeps] at h2
    simp [h1]
    omega

theorem Keeps.frozen {R : Nat → Nat → Prop} {w w' : World} (h : Keeps R w w') {b i : Nat} (hb : b < w.heap.size) : w'.frozen? ⟨b, i, none⟩ = w.frozen? ⟨b, i, none⟩ := by
  unfold World.frozen?
  simp only
  have ho : w.heap[b]? = some w.heap[b] := by simp [hb]
  obtain ⟨o', h1, h2⟩ := h.obj b _ ho
  rw [ho, h1]
  cases hw : w.heap[b] <;> rw [hw] at h2 <;> cases o' <;> simp [ObjKeeps] at h2 <;> simp_all

theorem Keeps.below {w w' : World} (h : Keeps (fun _ _ => False) w w') : RowKit.Below w.heap.size w w' := by
  refine ⟨h.os, h.tape, h.output, h.size, fun k hk => ?_⟩
  have ho : w.heap[k]? = some w.heap[k] := by simp [hk]
  obtain ⟨o', h1, h2⟩ := h.obj k _ ho
  rw [ho, h1]
  cases hw : w.heap[k] <;> rw [hw] at h2 <;> cases o' <;> simp [ObjKeeps] at h2 <;> simp_all
  exact Array.ext_getElem? h2.2.2.2

theorem Keeps.map {R : Nat → Nat → Prop} {w w' : World} (h : Keeps R w w') {b : Nat} {es : Array MapEntry} {c : Nat} (hb : w.heap[b]? = some (.map es c)) (hR : ¬ R b 0) : w'.heap[b]? = some (.map es c) := by
  obtain ⟨o', h1, h2⟩ := h.obj b _ hb
  cases o' <;> simp [ObjKeeps] at h2
  obtain ⟨rfl, rfl⟩ := h2 hR
  exact h1

theorem BlkOk.keeps {env : Env} {ρ : PMap} {Z : Zone} {w w' : World} {pl : Place} {b : Blk} {R : Nat → Nat → Prop} (h : BlkOk env ρ Z w pl b) (k : Keeps R w w')
    (hR : ∀ i, pl.lo ≤ i → i < pl.hi → ¬ R pl.block i) : BlkOk env ρ Z w' pl b := by
  obtain ⟨h1, h2, h5, h6, h7⟩ := h
  refine ⟨h1, fun hm => ?_, fun hm i hi hi' => ⟨k.cellSome (h5 hm i hi hi').1, by rw [k.frozen h6]; exact (h5 hm i hi hi').2⟩, Nat.lt_of_lt_of_le h6 k.size, fun hm => ?_⟩
  · obtain ⟨cs, h2, h3, h4⟩ := h2 hm
    refine ⟨cs, h2, fun i c hc => k.cell (h3 i c hc) (hR _ (Nat.le_add_right _ _) ?_), h4⟩
    have := (List.getElem?_eq_some_iff.1 hc).1
    omega
  · obtain ⟨kt, vt, es, g1, g2, g3, g4, g5⟩ := h7 hm
    exact ⟨kt, vt, es, g1, g2, g3, k.map g4 (hR 0 (by omega) (by omega)), g5⟩

theorem GOk.keeps {env : Env} {Z : Zone} {w w' : World} {R : Nat → Nat → Prop} (h : GOk env Z w) (k : Keeps R w w') : GOk env Z w' := by
  refine ⟨h.cont, h.glob, h.inj, fun id hid h1 => ?_⟩
  obtain ⟨c, e, hc⟩ := h.cells id hid h1
  obtain ⟨o', h1, h2⟩ := k.obj _ _ hc
  cases o' <;> simp [ObjKeeps] at h2
  obtain ⟨-, rfl, rfl, -⟩ := h2
  exact ⟨_, _, h1⟩

/-! ### keys of a block, and what hangs on them -/
theorem keysL_map (l : List AVal) (k : Nat) : k ∈ keysL l ↔ ∃ v, v ∈ l ∧ k ∈ v.keys := by
  induction l with
  | nil => simp [keysL]
  | cons v vs ih => simp [keysL, ih]

theorem Cont.keys_el {c : Cont} (hg : c.good) {k : Nat} {v : AVal} (hv : v ∈ c.elems) (hk : k ∈ v.keys) : k ∈ c.keys := by
  cases c with
  | var v => simp [Cont.elems] at hv
  | ints kd l =>
    simp [Cont.elems] at hv
    obtain ⟨x, _, rfl⟩ := hv
    simp [AVal.keys] at hk
  | recs c l =>
    simp [Cont.elems] at hv
    obtain ⟨x, _, rfl⟩ := hv
    rw [hg.2.1] at hk; cases hk
  | vals l => exact (keysL_map l k).2 ⟨v, hv, hk⟩
  | map | mapv => simp [Cont.elems] at hv

theorem keysM_map {α : Type} (l : List (α × AVal)) (k : Nat) : k ∈ keysM l ↔ ∃ p, p ∈ l ∧ k ∈ p.2.keys := by
  induction l with
  | nil => simp [keysM]
  | cons p l ih => obtain ⟨a, v⟩ := p; simp [keysM, ih]

theorem Cont.keys_ents {c : Cont} (hg : c.good) {k : Nat} {p : AVal × AVal} (hp : p ∈ c.ents) (hk : k ∈ p.1.keys ∨ k ∈ p.2.keys) : k ∈ c.keys := by
  cases c with
  | map kc vc l =>
    simp only [Cont.ents, List.mem_map] at hp
    obtain ⟨x, _, rfl⟩ := hp
    rw [hg.1.2, hg.2.2] at hk
    simp at hk
  | mapv kc l =>
    simp only [Cont.ents, List.mem_map] at hp
    obtain ⟨x, hx, rfl⟩ := hp
    rw [hg.2] at hk
    simp only [List.not_mem_nil, false_or] at hk
    exact (keysM_map l k).2 ⟨x, hx, hk⟩
  | _ => simp [Cont.ents] at hp

theorem RepB.congr {env : Env} {ρ ρ' : PMap} {Z : Zone} {b : Blk} {cs : List Value} {n : Nat} (h : RepB env ρ Z b cs n) (hk : ∀ k, k ∈ b.c.keys → ρ' k = ρ k) : RepB env ρ' Z b cs n := by
  obtain ⟨root, c⟩ := b
  cases root <;> cases c <;> simp only [RepB] at h ⊢
  all_goals first
    | exact h.elim
    | exact ⟨h.1, h.2.congr hk⟩
    | exact h
    | (obtain ⟨m, e, h1, h2, h3, h4⟩ := h
       exact ⟨m, e, h1, h2, h3.congr fun v hv k hkv => hk k (Cont.keys_el h4 hv hkv), h4⟩)
    | (obtain ⟨h1, h2, h3, h4⟩ := h
       exact ⟨h1, h2, h3.congr fun v hv k hkv => hk k (Cont.keys_el h4 hv hkv), h4⟩)

theorem BlkOk.congr {env : Env} {ρ ρ' : PMap} {Z : Zone} {w : World} {pl : Place} {b : Blk} (h : BlkOk env ρ Z w pl b) (hk : ∀ k, k ∈ b.c.keys → ρ' k = ρ k) : BlkOk env ρ' Z w pl b := by
  obtain ⟨h1, h2, h5, h6, h7⟩ := h
  refine ⟨h1, fun hm => ?_, h5, h6, fun hm => ?_⟩
  · obtain ⟨cs, h2, h3, h4⟩ := h2 hm
    exact ⟨cs, h2.congr hk, h3, h4⟩
  · obtain ⟨kt, vt, es, g1, g2, g3, g4, g5, g6, g7⟩ := h7 hm
    exact ⟨kt, vt, es, g1, g2, g3, g4, g5.congr fun p hp k hkp => hk k (Cont.keys_ents g6 hp hkp), g6, g7⟩

theorem RepB.zone {env : Env} {ρ : PMap} {Z Z' : Zone} (hg : Z'.g = Z.g) (hz : Zle Z Z') {b : Blk} {cs : List Value} {n : Nat} (h : RepB env ρ Z b cs n) : RepB env ρ Z' b cs n := by
  obtain ⟨root, c⟩ := b
  cases root <;> cases c <;> simp only [RepB] at h ⊢
  all_goals first
    | exact h.elim
    | exact ⟨h.1, h.2.zone hg fun _ => hz⟩
    | exact h
    | (obtain ⟨m, e, h1, h2, h3, h4⟩ := h
       exact ⟨m, e, h1, h2, h3.zone hg hz, h4⟩)
    | (obtain ⟨h1, h2, h3, h4⟩ := h
       exact ⟨h1, h2, h3.zone hg hz, h4⟩)
theorem BlkOk.zone {env : Env} {ρ : PMap} {Z Z' : Zone} (hg : Z'.g = Z.g) (hz : Zle Z Z') {w : World} {pl : Place} {b : Blk} (h : BlkOk env ρ Z w pl b) : BlkOk env ρ Z' w pl b := by
  obtain ⟨h1, h2, h5, h6, h7⟩ := h
  refine ⟨h1, fun hm => ?_, h5, h6, fun hm => ?_⟩
  · obtain ⟨cs, h2, h3, h4⟩ := h2 hm
    exact ⟨cs, h2.zone hg hz, h3, h4⟩
  · obtain ⟨kt, vt, es, g1, g2, g3, g4, g5, g6, g7⟩ := h7 hm
    exact ⟨kt, vt, es, g1, g2, g3, g4, g5.zone hg hz, g6, g7⟩

theorem BlkOk.heap_eq {env : Env} {ρ : PMap} {Z : Zone} {w w' : World} {pl : Place} {b : Blk} (h : BlkOk env ρ Z w pl b) (e : w'.heap = w.heap) : BlkOk env ρ Z w' pl b := by
  obtain ⟨h1, h2, h5, h6, h7⟩ := h
  have hc : ∀ a, w'.cell? a = w.cell? a := fun a => by unfold World.cell?; rw [e]
  have hf : ∀ a, w'.frozen? a = w.frozen? a := fun a => by unfold World.frozen?; rw [e]
  refine ⟨h1, fun hm => ?_, fun hm i hi hi' => by rw [hc, hf]; exact h5 hm i hi hi', by rw [e]; exact h6, fun hm => ?_⟩
  · obtain ⟨cs, h2, h3, h4⟩ := h2 hm
    exact ⟨cs, h2, fun i c hi => by rw [hc]; exact h3 i c hi, h4⟩
  · obtain ⟨kt, vt, es, g1, g2, g3, g4, g5⟩ := h7 hm
    exact ⟨kt, vt, es, g1, g2, g3, by rw [e]; exact g4, g5⟩

theorem GOk.heap_eq {env : Env} {Z : Zone} {w w' : World} (h : GOk env Z w) (e : w'.heap = w.heap) : GOk env Z w' :=
  ⟨h.cont, h.glob, h.inj, fun id hid h1 => by rw [e]; exact h.cells id hid h1⟩

theorem HeapOk.heap_eq {env : Env} {ρ : PMap} {Z : Zone} {w w' : World} {H : Heap} (h : HeapOk env ρ Z w H) (e : w'.heap = w.heap) : HeapOk env ρ Z w' H :=
  ⟨fun k b hk => (h.blk k b hk).heap_eq e, h.dis, h.zdis, fun b o v hz => by have := h.zone b o v hz; unfold World.cell? at *; rwa [e], by rw [e]; exact h.pos, h.gok.heap_eq e⟩

theorem Keeps.of_heap_eq {R : Nat → Nat → Prop} {w w' : World} (e : w'.heap = w.heap) (h1 : w'.os = w.os) (h2 : w'.tape = w.tape) (h3 : w'.output = w.output) : Keeps R w w' := by
  refine ⟨h1, h2, h3, by rw [e]; exact Nat.le_refl _, fun b o h => ⟨o, by rw [e]; exact h, ObjKeeps.refl _ _⟩⟩

theorem Keeps.alloc {R : Nat → Nat → Prop} (w : World) (o : Obj) : Keeps R w (w.alloc o) := by
  refine ⟨rfl, rfl, rfl, by simp, fun b x h => ⟨x, ?_, ?_⟩⟩
  · have hb : b < w.heap.size := (Array.getElem?_eq_some_iff.1 h).1
    rw [RowKit.Below.heap_alloc _ _ _ hb]; exact h
  · exact ObjKeeps.refl _ _

theorem Keeps.setCell {R : Nat → Nat → Prop} (w : World) (b i : Nat) (v : Value) (hR : R b i) : Keeps R w (w.setCell ⟨b, i, none⟩ v) := by
  refine ⟨rfl, rfl, rfl, by simp, fun k x h => ?_⟩
  by_cases hk : k = b
  · subst hk
    simp only [World.setCell, Array.getElem?_modify, h]
    cases x <;> simp [ObjKeeps]
    intro j hj
    rw [Array.getElem?_setIfInBounds_ne]
    rintro rfl
    exact hj hR
  · refine ⟨x, ?_, ?_⟩
    · rw [RowKit.Below.heap_setCell _ _ _ _ hk]; exact h
    · exact ObjKeeps.refl _ _

theorem Keeps.setCells {R : Nat → Nat → Prop} (b : Nat) : ∀ (vs : List Value) (i : Nat) (w : World), (∀ j, i ≤ j → j < i + vs.length → R b j) → Keeps R w (w.setCells b i vs)
  | [], i, w, _ => Keeps.refl _ _
  | v :: vs, i, w, h => by
    simp only [World.setCells]
    exact (Keeps.setCell w b i v (h i (Nat.le_refl _) (by simp))).trans (Keeps.setCells b vs (i + 1) _ fun j h1 h2 => h j (by omega) (by simp at h2 ⊢; omega))

theorem Keeps.freeze {R : Nat → Nat → Prop} {w0 w : World} {b i n : Nat} (h : Keeps R w0 w) (hb : w0.heap.size ≤ b) : Keeps R w0 (w.freeze ⟨b, i, none⟩ n) := by
  unfold World.freeze
  split
  · exact h
  · refine ⟨h.os, h.tape, h.output, by simpa using h.size, fun k o ho => ?_⟩
    obtain ⟨o', h1, h2⟩ := h.obj k o ho
    have hk : k < w0.heap.size := (Array.getElem?_eq_some_iff.1 ho).1
    refine ⟨o', ?_, h2⟩
    simp only [Array.getElem?_modify]
    rw [if_neg (by omega)]
    exact h1

/-! ### updates -/
theorem beq_false_of_ne {a b : Nat} (h : a ≠ b) : Nat.beq a b = false := by
  cases hb : Nat.beq a b with
  | false => rfl
  | true => exact absurd (Nat.eq_of_beq_eq_true hb) h

theorem upd1_same (h : Heap) (k : Nat) (b : Option Blk) : upd1 h k b k = b := by simp [upd1]
theorem upd1_other (h : Heap) {k j : Nat} (b : Option Blk) (hj : j ≠ k) : upd1 h k b j = h j := by simp [upd1, beq_false_of_ne hj]

theorem upd1_inv {h : Heap} {k j : Nat} {b : Option Blk} {x : Blk} (hx : upd1 h k b j = some x) : (j = k ∧ b = some x) ∨ (j ≠ k ∧ h j = some x) := by
  by_cases hj : j = k
  · subst hj; rw [upd1_same] at hx; exact .inl ⟨rfl, hx⟩
  · rw [upd1_other _ _ hj] at hx; exact .inr ⟨hj, hx⟩

/-- Places with one more. -/
def PMap.put (ρ : PMap) (k : Nat) (pl : Place) : PMap := fun j => if j = k then pl else ρ j

theorem PMap.put_same (ρ : PMap) (k : Nat) (pl : Place) : ρ.put k pl k = pl := by simp [PMap.put]
theorem PMap.put_other (ρ : PMap) {k j : Nat} (pl : Place) (h : j ≠ k) : ρ.put k pl j = ρ j := by simp [PMap.put, h]

/-- A block goes. -/
theorem HeapOk.drop {env : Env} {ρ : PMap} {Z : Zone} {w : World} {H : Heap} (h : HeapOk env ρ Z w H) (k : Nat) : HeapOk env ρ Z w (upd1 H k none) := by
  have inv : ∀ j b, upd1 H k none j = some b → H j = some b := fun j b hb => by
    rcases upd1_inv hb with ⟨_, h⟩ | ⟨_, h⟩
    · cases h
    · exact h
  exact ⟨fun j b hb => h.blk j b (inv j b hb), fun j j' b b' hne hb hb' => h.dis j j' b b' hne (inv j b hb) (inv j' b' hb'), fun j b hb => h.zdis j b (inv j b hb), h.zone, h.pos, h.gok⟩

/-- A new block, of a key that nothing names. -/
theorem HeapOk.put {env : Env} {ρ : PMap} {Z : Zone} {w : World} {H : Heap} {k : Nat} {b : Blk} {pl : Place} (h : HeapOk env ρ Z w H) (hk : H k = none) (hkk : ∀ j x, H j = some x → k ∉ x.c.keys)
    (hb : BlkOk env (ρ.put k pl) Z w pl b) (hdis : ∀ j x, H j = some x → Apart (ρ j) pl) (hz : ∀ i, pl.lo ≤ i → i < pl.hi → Z pl.block i = none) :
    HeapOk env (ρ.put k pl) Z w (upd1 H k (some b)) := by
  refine ⟨fun j x hx => ?_, fun j j' x x' hne hx hx' => ?_, fun j x hx => ?_, h.zone, h.pos, h.gok⟩
  · rcases upd1_inv hx with ⟨rfl, e⟩ | ⟨hj, e⟩
    · cases e; rw [PMap.put_same]; exact hb
    · rw [PMap.put_other _ _ hj]
      exact (h.blk j x e).congr fun i hi => PMap.put_other _ _ (by rintro rfl; exact hkk j x e hi)
  · rcases upd1_inv hx with ⟨rfl, e⟩ | ⟨hj, e⟩ <;> rcases upd1_inv hx' with ⟨rfl, e'⟩ | ⟨hj', e'⟩
    · exact absurd rfl hne
    · rw [PMap.put_same, PMap.put_other _ _ hj']
      exact (hdis j' x' e').symm
    · rw [PMap.put_same, PMap.put_other _ _ hj]; exact hdis j x e
    · rw [PMap.put_other _ _ hj, PMap.put_other _ _ hj']; exact h.dis j j' x x' hne e e'
  · rcases upd1_inv hx with ⟨rfl, e⟩ | ⟨hj, e⟩
    · rw [PMap.put_same]; exact hz
    · rw [PMap.put_other _ _ hj]; exact h.zdis j x e

/-- Cells of a block are turned. -/
theorem HeapOk.turn {env : Env} {ρ : PMap} {Z : Zone} {w w' : World} {H : Heap} {k : Nat} {b b' : Blk} (h : HeapOk env ρ Z w H) (hk : H k = some b)
    (hkeep : Keeps (fun x i => x = (ρ k).block ∧ (ρ k).lo ≤ i ∧ i < (ρ k).hi) w w') (hb : BlkOk env ρ Z w' (ρ k) b') : HeapOk env ρ Z w' (upd1 H k (some b')) := by
  have notIn : ∀ j x, j ≠ k → H j = some x → ∀ i, (ρ j).lo ≤ i → i < (ρ j).hi → ¬ ((ρ j).block = (ρ k).block ∧ (ρ k).lo ≤ i ∧ i < (ρ k).hi) := by
    intro j x hj hx i h1 h2 ⟨e, h3, h4⟩
    exact h.dis j k x b hj hx hk i e h1 h2 h3 h4
  refine ⟨fun j x hx => ?_, fun j j' x x' hne hx hx' => ?_, fun j x hx => ?_, fun b o v hz => ?_, Nat.lt_of_lt_of_le h.pos hkeep.size, h.gok.keeps hkeep⟩
  · rcases upd1_inv hx with ⟨rfl, e⟩ | ⟨hj, e⟩
    · cases e; exact hb
    · exact (h.blk j x e).keeps hkeep (notIn j x hj e)
  · rcases upd1_inv hx with ⟨rfl, e⟩ | ⟨hj, e⟩ <;> rcases upd1_inv hx' with ⟨rfl, e'⟩ | ⟨hj', e'⟩
    · exact absurd rfl hne
    · exact h.dis _ _ _ _ hne hk e'
    · exact h.dis _ _ _ _ hne e hk
    · exact h.dis j j' x x' hne e e'
  · rcases upd1_inv hx with ⟨rfl, e⟩ | ⟨hj, e⟩
    · exact h.zdis _ _ hk
    · exact h.zdis j x e
  · refine hkeep.cell (h.zone b o v hz) ?_
    rintro ⟨rfl, h1, h2⟩
    rw [h.zdis k _ hk o h1 h2] at hz; cases hz
end Go.Abs
