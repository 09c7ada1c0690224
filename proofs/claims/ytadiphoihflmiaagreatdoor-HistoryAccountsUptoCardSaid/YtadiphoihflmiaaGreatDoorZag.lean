/- Slices: their elements in memory. Operations: loads, parts of structs and arrays. -/
import Derived.Test.YtadiphoihflmiaaGreatDoorZaf
set_option linter.all false
namespace Go.Abs

def Seq.elems : Seq → List AVal
  | .ints k l => l.map (AVal.int k)
  | .recs enc _ l => l.map enc
  | .views t l => l.map (encT t)
  | .vals l => l

theorem Seq.len_elems (q : Seq) : q.elems.length = q.len := by cases q <;> simp [Seq.elems, Seq.len]

/-- Elements one behind the other, each of the size of the type. -/
def RepE (env : Env) (ρ : PMap) (Z : Zone) (e : Nat) : List AVal → List Value → Prop
  | [], cs => cs = []
  | v :: vs, cs => ∃ c1 c2, cs = c1 ++ c2 ∧ c1.length = env.sz e ∧ RepC env ρ Z v c1 ∧ RepE env ρ Z e vs c2

theorem RepEl.toE {env : Env} {ρ : PMap} {Z : Zone} (hs : SzOk env) {e : Nat} : ∀ {l : List AVal} {cs : List Value}, RepEl env ρ Z e l cs → RepE env ρ Z e l cs
  | [], _, h => h
  | v :: vs, cs, h => by
    obtain ⟨c1, c2, rfl, h1, h2, h3⟩ := h
    exact ⟨c1, c2, rfl, h1.len hs h2, h2, h3.toE hs⟩

theorem RepE.len {env : Env} {ρ : PMap} {Z : Zone} {e : Nat} : ∀ {l : List AVal} {cs : List Value}, RepE env ρ Z e l cs → cs.length = l.length * env.sz e
  | [], cs, h => by simp [RepE] at h; simp [h]
  | v :: vs, cs, h => by
    obtain ⟨c1, c2, rfl, h1, h2, h3⟩ := h
    rw [List.length_append, h1, h3.len, List.length_cons, Nat.add_mul]; omega

theorem RepE.drop {env : Env} {ρ : PMap} {Z : Zone} {e : Nat} : ∀ {n : Nat} {l : List AVal} {cs : List Value}, RepE env ρ Z e l cs → RepE env ρ Z e (l.drop n) (cs.drop (n * env.sz e))
  | 0, l, cs, h => by simpa using h
  | n + 1, [], cs, h => by simp [RepE] at h; simp [h, RepE]
  | n + 1, v :: vs, cs, h => by
    obtain ⟨c1, c2, rfl, h1, h2, h3⟩ := h
    have := h3.drop (n := n)
    rw [List.drop_succ_cons, show (n + 1) * env.sz e = c1.length + n * env.sz e by rw [h1, Nat.add_mul]; omega, List.drop_length_add_append]
    exact this

theorem RepE.take {env : Env} {ρ : PMap} {Z : Zone} {e : Nat} : ∀ {n : Nat} {l : List AVal} {cs : List Value}, RepE env ρ Z e l cs → RepE env ρ Z e (l.take n) (cs.take (n * env.sz e))
  | 0, l, cs, h => by simp [RepE]
  | n + 1, [], cs, h => by simp [RepE] at h; simp [h, RepE]
  | n + 1, v :: vs, cs, h => by
    obtain ⟨c1, c2, rfl, h1, h2, h3⟩ := h
    rw [List.take_succ_cons]
    refine ⟨c1, c2.take (n * env.sz e), ?_, h1, h2, h3.take⟩
    rw [show (n + 1) * env.sz e = c1.length + n * env.sz e by rw [h1, Nat.add_mul]; omega, List.take_length_add_append]

theorem RepE.nth {env : Env} {ρ : PMap} {Z : Zone} {e : Nat} : ∀ {l : List AVal} {cs : List Value} {n : Nat} {v : AVal}, RepE env ρ Z e l cs → l[n]? = some v →
    ∃ ecs, ecs.length = env.sz e ∧ RepC env ρ Z v ecs ∧ ∀ j c, ecs[j]? = some c → cs[n * env.sz e + j]? = some c
  | [], _, n, _, _, hn => by simp at hn
  | u :: us, cs, 0, v, h, hn => by
    obtain ⟨c1, c2, rfl, h1, h2, h3⟩ := h
    simp at hn; subst hn
    refine ⟨c1, h1, h2, fun j c hc => ?_⟩
    have := (List.getElem?_eq_some_iff.1 hc).1
    simp only [Nat.zero_mul, Nat.zero_add]
    rw [List.getElem?_append_left this]; exact hc
  | u :: us, cs, n + 1, v, h, hn => by
    obtain ⟨c1, c2, rfl, h1, h2, h3⟩ := h
    simp at hn
    obtain ⟨ecs, g1, g2, g3⟩ := RepE.nth h3 hn
    refine ⟨ecs, g1, g2, fun j c hc => ?_⟩
    rw [show (n + 1) * env.sz e + j = c1.length + (n * env.sz e + j) by rw [h1, Nat.add_mul]; omega, List.getElem?_append_right (by omega), Nat.add_sub_cancel_left]
    exact g3 j c hc

theorem RepE.ints {env : Env} {ρ : PMap} {Z : Zone} {e : Nat} {k : IntKind} (h1 : env.sz e = 1) : ∀ (l : List (TT k)), RepE env ρ Z e (l.map (AVal.int k)) (l.map fun x => Value.int k (toI k x))
  | [] => by simp [RepE]
  | x :: xs => ⟨[.int k (toI k x)], xs.map fun x => Value.int k (toI k x), by simp, by simp [h1], by simp [RepC], RepE.ints h1 xs⟩

theorem fullB_eq {off len n : Nat} (h : fullB off len n = true) : off = 0 ∧ len = n ∧ 0 < len := by
  unfold fullB at h
  cases h1 : Nat.beq off 0 <;> simp [h1] at h
  cases h2 : Nat.blt 0 len <;> simp [h2] at h
  exact ⟨Nat.eq_of_beq_eq_true h1, h, by simpa [Nat.blt_eq] using h2⟩

theorem isInt_td {env : Env} {e : Nat} {k : IntKind} (h : isInt env e k = true) : env.td e = some (.int k) := by
  unfold isInt at h
  cases htd : env.td e with
  | none => simp [htd] at h
  | some d => cases d <;> simp [htd] at h; rw [same_eq h]

theorem sz_int {env : Env} (hs : SzOk env) {e : Nat} {k : IntKind} (h : env.td e = some (.int k)) : env.sz e = 1 := by rw [hs e _ h]; rfl

section
variable {P : Program} {env : Env} {C : Tab} {ρ : PMap} {Z : Zone} {u : Nat → Bool} {base : Nat} {tmps : List (Option AVal)} {H : Heap} {a : Act} {w : World} {K : Eff → Prop} {KP : AVal → List (Nat × Option Blk) → Prop}

/-- Elements in memory, from a place on. -/
def SeqAt (env : Env) (ρ : PMap) (Z : Zone) (u : Nat → Bool) (w : World) (e : Nat) (l : List AVal) (b o : Nat) : Prop :=
  ∃ cs, RepE env ρ Z e l cs ∧ (∀ j c, cs[j]? = some c → w.cell? ⟨b, o + j, none⟩ = some c) ∧ ∀ v, v ∈ l → ∀ k, k ∈ v.keys → known u k

theorem SeqAt.sub {e : Nat} {l : List AVal} {b o : Nat} (h : SeqAt env ρ Z u w e l b o) (n m : Nat) : SeqAt env ρ Z u w e ((l.drop n).take m) b (o + n * env.sz e) := by
  obtain ⟨cs, h1, h2, h3⟩ := h
  refine ⟨_, (h1.drop (n := n)).take (n := m), fun j c hc => ?_, fun v hv => h3 v (List.mem_of_mem_drop (List.mem_of_mem_take hv))⟩
  rw [List.getElem?_take] at hc
  split at hc
  · rw [List.getElem?_drop] at hc
    have := h2 _ _ hc
    rwa [← Nat.add_assoc] at this
  · cases hc

/-- The elements of a block of its own. -/
theorem row_seq (hs : SzOk env) (hp : Pre env ρ Z u tmps H a w) {key e : Nat} {c : Cont} {q : Seq} (hb : H key = some ⟨.row e, c⟩) (hq : c.seq = some q) :
    (ρ key).root = .row e ∧ q.elems = c.elems ∧ q.len = (ρ key).len ∧ c.good ∧ SeqAt env ρ Z u w e q.elems (ρ key).block (ρ key).lo ∧ (ρ key).lo + q.len * env.sz e ≤ (ρ key).hi ∧ ∃ d, env.td e = some d := by
  have hB := hp.heap.blk key _ hb
  obtain ⟨cs, h1, h2, h3⟩ := hB.cells rfl
  have hel : q.elems = c.elems := by cases c <;> simp [Cont.seq] at hq <;> subst hq <;> rfl
  have hv : c.isVar = false := by cases c <;> simp [Cont.seq] at hq <;> rfl
  have h1' : (∃ d, env.td e = some d) ∧ c.elems.length = (ρ key).len ∧ RepEl env ρ Z e c.elems cs ∧ c.good := by cases c <;> simp [Cont.isVar] at hv <;> exact h1
  obtain ⟨hd, hl, hr, hg⟩ := h1'
  have hlen : q.len = (ρ key).len := by rw [← hl, ← hel, Seq.len_elems]
  refine ⟨hB.root, hel, hlen, hg, ⟨cs, by rw [hel]; exact hr.toE hs, h2, fun v hv k hk => (hp.keysH key _ hb).2 k (Cont.keys_el hg (hel ▸ hv) hk)⟩, ?_, hd⟩
  rw [hr.len hs, hl] at h3
  rw [hlen]; exact h3

theorem Seq.sub_elems (q : Seq) (n m : Nat) : (q.sub n m).elems = (q.elems.drop n).take m := by
  cases q <;> simp [Seq.sub, Seq.elems, List.map_take, List.map_drop]

/-- An array inside a block, as elements. -/
theorem arr_seq (he : EnvOk P env) (hp : Pre env ρ Z u tmps H a w) {key t m e : Nat} {p : List Step} {b : Blk} {k : IntKind} {n : Nat} {l : List (TT k)} (hb : H key = some b) (ht : b.root.type env p = some t) (htd : env.td t = some (.arr m e))
    (hg : b.c.get p = some (.arr k n l)) (hv : validR env (ρ key) p) :
    l.length = m ∧ n = m ∧ env.td e = some (.int k) ∧ SeqAt env ρ Z u w e (l.map (AVal.int k)) (ρ key).block ((ρ key).lo + (ρ key).root.off env p) := by
  have hB := hp.heap.blk key b hb
  obtain ⟨cs, h1, h2, h3⟩ := hB.cells (Root.notMap ht)
  obtain ⟨c1, c2, c3, rfl, e1, hr, hty⟩ := Blk.get_rep he.size h1 hB.root ht hv hg
  simp only [RepC] at hr
  obtain ⟨hl, rfl⟩ := hr
  have hkn : env.td e = some (.int k) ∧ m = n := by
    obtain ⟨d, hd⟩ := hty
    cases d with
    | zero => simp [hasTy] at hd
    | succ d =>
      unfold hasTy at hd
      simp only [htd] at hd
      cases hte : env.td e with
      | none => simp [hte] at hd
      | some te =>
        cases te with
        | int kk =>
          simp [hte] at hd
          cases hsm : IntKind.same kk k <;> simp [hsm] at hd
          rw [same_eq hsm]; exact ⟨rfl, hd⟩
        | _ => simp only [hte] at hd; cases m <;> simp [List.replicate_succ, hasL] at hd
  obtain ⟨hte, rfl⟩ := hkn
  refine ⟨hl, rfl, hte, _, RepE.ints (sz_int he.size hte) l, fun j c hc => ?_, fun v hv k hk => ?_⟩
  · rw [Nat.add_assoc]
    refine h2 _ c ?_
    have hi := (List.getElem?_eq_some_iff.1 hc).1
    rw [hB.root, ← e1, List.append_assoc, List.getElem?_append_right (by omega), Nat.add_sub_cancel_left, List.getElem?_append_left hi]
    exact hc
  · simp at hv; obtain ⟨x, _, rfl⟩ := hv; simp [AVal.keys] at hk

theorem offP_append {p : List Step} : ∀ {t m e n : Nat} {u : Nat}, typeP env p t = some u → env.td u = some (.arr m e) → offP env (p ++ [.i n]) t = offP env p t + n * env.sz e := by
  induction p with
  | nil => intro t m e n u h1 h2; simp [typeP] at h1; subst h1; simp [offP, h2]
  | cons s p ih =>
    intro t m e n u h1 h2
    cases s with
    | f i =>
      cases htd : env.td t with
      | none => simp [typeP, htd] at h1
      | some td =>
        cases td <;> simp [typeP, htd] at h1
        rename_i fs
        cases hn : nth fs i with
        | none => simp [hn] at h1
        | some y => simp [hn] at h1; simp [offP, htd, hn, ih h1 h2, Nat.add_assoc]
    | i j =>
      cases htd : env.td t with
      | none => simp [typeP, htd] at h1
      | some td => cases td <;> simp [typeP, htd] at h1; simp [offP, htd, ih h1 h2, Nat.add_assoc]

theorem validP_append {p : List Step} : ∀ {t m e n : Nat} {u : Nat}, typeP env p t = some u → env.td u = some (.arr m e) → (validP env (p ++ [.i n]) t ↔ validP env p t ∧ n < m) := by
  induction p with
  | nil => intro t m e n u h1 h2; simp [typeP] at h1; subst h1; simp [validP, h2]
  | cons s p ih =>
    intro t m e n u h1 h2
    cases s with
    | f i =>
      cases htd : env.td t with
      | none => simp [typeP, htd] at h1
      | some td =>
        cases td <;> simp [typeP, htd] at h1
        rename_i fs
        cases hn : nth fs i with
        | none => simp [hn] at h1
        | some y => simp [hn] at h1; simp [validP, htd, hn, ih h1 h2]
    | i j =>
      cases htd : env.td t with
      | none => simp [typeP, htd] at h1
      | some td => cases td <;> simp [typeP, htd] at h1; simp [validP, htd, ih h1 h2, and_assoc]

/-- A place with its array's element. -/
theorem root_append {r : Root} {p : List Step} {t m e n : Nat} (h1 : r.type env p = some t) (h2 : env.td t = some (.arr m e)) : r.off env (p ++ [.i n]) = r.off env p + n * env.sz e := by
  cases r with
  | map => simp [Root.type] at h1
  | var t0 => simp only [Root.type] at h1; simp only [Root.off]; exact offP_append h1 h2
  | row e0 =>
    cases p with
    | nil => simp [Root.type] at h1
    | cons s p =>
      cases s with
      | f i => simp [Root.type] at h1
      | i j => simp only [Root.type] at h1; simp [Root.off, offP_append h1 h2, Nat.add_assoc]

theorem valid_append {pl : Place} {p : List Step} {t m e n : Nat} (h1 : pl.root.type env p = some t) (h2 : env.td t = some (.arr m e)) : validR env pl (p ++ [.i n]) ↔ validR env pl p ∧ n < m := by
  unfold validR
  cases hr : pl.root with
  | map => rw [hr] at h1; simp [Root.type] at h1
  | var t0 => rw [hr] at h1; simp only [Root.type] at h1; simp only; exact validP_append h1 h2
  | row e0 =>
    rw [hr] at h1
    cases p with
    | nil => simp [Root.type] at h1
    | cons s p =>
      cases s with
      | f i => simp [Root.type] at h1
      | i j => simp only [Root.type] at h1; simp [validP_append h1 h2, and_assoc]

theorem sl_inv {key : Nat} {p : List Step} {off len : Nat} {x : Value} (h : RepV env ρ Z (.sl key p off len) x) : ∃ ao cap, x = .slice ao len cap ∧ len ≤ cap ∧
    (len ≠ 0 → ao = some ⟨(ρ key).block, (ρ key).lo + (ρ key).root.off env (p ++ [.i off]), none⟩) ∧ ∀ i, i < len → validR env (ρ key) (p ++ [.i (off + i)]) := by
  simpa [RepV, AVal.isAgg, RepC] using h

theorem sw_inv {key : Nat} {x : Value} (h : RepV env ρ Z (.sw key) x) : ∃ ao cap e, (ρ key).root = .row e ∧ x = .slice ao (ρ key).len cap ∧ (ρ key).len ≤ cap ∧
    (cap ≠ 0 → ao = some ⟨(ρ key).block, (ρ key).lo, none⟩ ∧ (ρ key).lo + cap * env.sz e ≤ (ρ key).hi) := by
  simpa [RepV, AVal.isAgg, RepC] using h

/-- What a slice reads as. -/
theorem seq_rep (he : EnvOk P env) (hp : Pre env ρ Z u tmps H a w) {e : Nat} {v : AVal} {q : Seq} {x : Value} (hq : seqOf env H e v = some q) (hx : RepV env ρ Z v x) :
    ∃ ao cap, x = .slice ao q.len cap ∧ q.len ≤ cap ∧ (q.len ≠ 0 → ∃ b o, ao = some ⟨b, o, none⟩ ∧ SeqAt env ρ Z u w e q.elems b o) := by
  cases v with
  | nilsl =>
    simp [seqOf] at hq; subst hq
    rw [repV_nilsl] at hx; subst hx
    exact ⟨none, 0, rfl, Nat.le_refl _, fun h => absurd rfl h⟩
  | sw key =>
    simp only [seqOf] at hq
    cases hb : H key with
    | none => simp [hb] at hq
    | some b =>
      obtain ⟨root, c⟩ := b
      cases root with
      | map => simp [hb] at hq
      | var t => simp [hb] at hq
      | row e' =>
        simp only [hb] at hq
        cases hee : Nat.beq e e' with
        | false => simp [hee] at hq
        | true =>
          simp only [hee] at hq
          have := beq_eq hee; subst this
          obtain ⟨r1, r2, r3, r4, r5, r6, r7⟩ := row_seq he.size hp hb hq
          obtain ⟨ao, cap, e2, h1, rfl, h2, h3⟩ := sw_inv hx
          refine ⟨ao, cap, by rw [r3], by omega, fun hne => ⟨_, _, (h3 (by omega)).1, r5⟩⟩
  | sl key p off len =>
    obtain ⟨ao, cap, rfl, h1, h2, h3⟩ := sl_inv hx
    cases p with
    | nil =>
      simp only [seqOf] at hq
      cases hb : H key with
      | none => simp [hb] at hq
      | some b =>
        obtain ⟨root, c⟩ := b
        cases root with
        | map => simp [hb] at hq
        | row e' =>
          simp only [hb] at hq
          cases hee : Nat.beq e e' with
          | false => simp [hee] at hq
          | true =>
            simp only [hee] at hq
            have := beq_eq hee; subst this
            cases hc : c.seq with
            | none => simp [hc] at hq
            | some q0 =>
              simp [hc] at hq; subst hq
              obtain ⟨r1, r2, r3, r4, r5, r6, r7⟩ := row_seq he.size hp hb hc
              have hlen : len = 0 ∨ off + len ≤ q0.len := by
                rcases Nat.eq_zero_or_pos len with h | h
                · exact .inl h
                · right
                  have := h3 (len - 1) (by omega)
                  simp [validR, r1] at this
                  omega
              have hql : (q0.sub off len).len = len := by
                rw [← Seq.len_elems, Seq.sub_elems, List.length_take, List.length_drop, Seq.len_elems]
                omega
              refine ⟨ao, cap, by rw [hql], by omega, fun hne => ⟨_, _, h2 (by omega), ?_⟩⟩
              rw [Seq.sub_elems]
              simpa [r1, Root.off, offP] using r5.sub off len
        | var t =>
          simp only [hb] at hq
          cases c <;> try (simp at hq; done)
          rename_i v
          cases v <;> simp at hq
          rename_i k n l
          cases htd : env.td t with
          | none => simp [htd] at hq
          | some td =>
            cases td <;> simp [htd] at hq
            rename_i m e'
            cases hee : Nat.beq e e' <;> simp [hee] at hq
            have := beq_eq hee; subst this
            cases hmn : Nat.beq m n <;> simp [hmn] at hq
            have hroot := (hp.heap.blk key _ hb).root
            have hv0 : validR env (ρ key) [] := by simp [validR, hroot, validP]
            obtain ⟨g1, g2, g3, g4⟩ := arr_seq he hp hb (t := t) (m := m) (e := e) (p := []) rfl htd rfl hv0
            have hlen : len = 0 ∨ off + len ≤ l.length := by
              rcases Nat.eq_zero_or_pos len with h | h
              · exact .inl h
              · right
                have := (valid_append (pl := ρ key) (p := []) (by rw [hroot]; rfl) htd).1 (h3 (len - 1) (by omega))
                omega
            have hao : len ≠ 0 → ao = some ⟨(ρ key).block, (ρ key).lo + (ρ key).root.off env [] + off * env.sz e, none⟩ := fun hne => by
              rw [h2 hne, root_append (p := []) (t := t) (m := m) (e := e) (by rw [hroot]; rfl) htd, Nat.add_assoc]
            have plain : q = .ints k ((l.drop off).take len) → ∃ ao' cap', (Value.slice ao len cap) = .slice ao' q.len cap' ∧ q.len ≤ cap' ∧ (q.len ≠ 0 → ∃ b o, ao' = some ⟨b, o, none⟩ ∧ SeqAt env ρ Z u w e q.elems b o) := fun hq => by
              subst hq
              have hql : (Seq.ints k ((l.drop off).take len)).len = len := by simp [Seq.len]; omega
              refine ⟨ao, cap, by rw [hql], by omega, fun hne => ⟨_, _, hao (by omega), ?_⟩⟩
              have := g4.sub off len
              simpa [Seq.elems, List.map_take, List.map_drop] using this
            cases ho : fullB off len n with
            | false => simp [ho] at hq; exact plain hq.symm
            | true =>
              simp [ho] at hq
              obtain ⟨e1, e2, e3⟩ := fullB_eq ho
              refine plain ?_
              rw [← hq]; subst e1; subst e2
              congr 1
              simp; rw [List.take_of_length_le (by omega)]
    | cons s p =>
      simp only [seqOf] at hq
      cases hb : H key with
      | none => simp [hb] at hq
      | some b =>
        simp only [hb] at hq
        cases ht : b.root.type env (s :: p) with
        | none => simp [ht] at hq
        | some t =>
          simp only [ht] at hq
          cases htd : env.td t with
          | none => simp [htd] at hq
          | some td =>
            cases td <;> simp [htd] at hq
            rename_i m e'
            cases hee : Nat.beq e e' <;> simp [hee] at hq
            have := beq_eq hee; subst this
            cases hg : b.c.get (s :: p) with
            | none => simp [hg] at hq
            | some v =>
              cases v <;> simp [hg] at hq
              rename_i k n l
              cases hmn : Nat.beq m n <;> simp [hmn] at hq
              have hroot := (hp.heap.blk key _ hb).root
              have hlv : len = 0 ∨ (validR env (ρ key) (s :: p) ∧ off + len ≤ m) := by
                rcases Nat.eq_zero_or_pos len with h | h
                · exact .inl h
                · right
                  have := (valid_append (pl := ρ key) (by rw [hroot]; exact ht) htd).1 (h3 (len - 1) (by omega))
                  exact ⟨this.1, by omega⟩
              have plain : q = .ints k ((l.drop off).take len) → ∃ ao' cap', (Value.slice ao len cap) = .slice ao' q.len cap' ∧ q.len ≤ cap' ∧ (q.len ≠ 0 → ∃ b o, ao' = some ⟨b, o, none⟩ ∧ SeqAt env ρ Z u w e q.elems b o) := fun hq => by
                subst hq
                rcases hlv with rfl | ⟨hv0, hlen⟩
                · refine ⟨ao, cap, by simp [Seq.len], by simp [Seq.len], fun h => ?_⟩
                  simp [Seq.len] at h
                · obtain ⟨g1, g2, g3, g4⟩ := arr_seq he hp hb ht htd hg hv0
                  have hao : len ≠ 0 → ao = some ⟨(ρ key).block, (ρ key).lo + (ρ key).root.off env (s :: p) + off * env.sz e, none⟩ := fun hne => by
                    rw [h2 hne, root_append (by rw [hroot]; exact ht) htd, Nat.add_assoc]
                  have hql : (Seq.ints k ((l.drop off).take len)).len = len := by simp [Seq.len]; omega
                  refine ⟨ao, cap, by rw [hql], by omega, fun hne => ⟨_, _, hao (by omega), ?_⟩⟩
                  have := g4.sub off len
                  simpa [Seq.elems, List.map_take, List.map_drop] using this
              cases ho : fullB off len n with
              | false => simp [ho] at hq; exact plain hq.symm
              | true =>
                simp [ho] at hq
                obtain ⟨e1, e2, e3⟩ := fullB_eq ho
                rcases hlv with e4 | ⟨hv0, hlen⟩
                · omega
                · obtain ⟨g1, g2, g3, g4⟩ := arr_seq he hp hb ht htd hg hv0
                  refine plain ?_
                  rw [← hq]; subst e1; subst e2
                  congr 1
                  simp; rw [List.take_of_length_le (by omega)]
  | vw k l =>
    simp only [seqOf] at hq
    cases hi : isInt env e k with
    | false => simp [hi] at hq
    | true =>
      simp [hi] at hq; subst hq
      simp only [RepV, AVal.isAgg, RepC] at hx
      obtain ⟨ao, cap, e1, hl, hz⟩ := hx
      simp at e1; subst e1
      refine ⟨ao, cap, rfl, hl, fun hne => ?_⟩
      obtain ⟨b, o, e2, hz2⟩ := hz (by rintro rfl; simp [Seq.len] at hne)
      refine ⟨b, o, e2, _, RepE.ints (sz_int he.size (isInt_td hi)) l, fun j c hc => ?_, fun v hv k hk => ?_⟩
      · simp at hc
        obtain ⟨y, hy, rfl⟩ := hc
        exact hp.heap.zone _ _ _ (hz2 j y hy)
      · simp [Seq.elems] at hv; obtain ⟨x, _, rfl⟩ := hv; simp [AVal.keys] at hk
  | vr tg e' enc d l =>
    simp only [seqOf] at hq
    cases hee : Nat.beq e e' with
    | false => simp [hee] at hq
    | true =>
      simp [hee] at hq; subst hq
      have := beq_eq hee; subst this
      simp only [RepV, AVal.isAgg, RepC] at hx
      obtain ⟨rfl, ao, cap, e1, hl, hz⟩ := hx
      simp at e1; subst e1
      refine ⟨ao, cap, rfl, hl, fun hne => ?_⟩
      obtain ⟨b, o, e2, hz2⟩ := hz (by rintro rfl; simp [Seq.len] at hne)
      refine ⟨b, o, e2, ?_⟩
      have key : ∀ (l : List _) (o : Nat), (∀ i x, l[i]? = some x → ∃ ecs, RepC env ρ Z (encT tg x) ecs ∧ (encT tg x).keys = [] ∧ ecs.length = env.sz e ∧ ∀ j c, ecs[j]? = some c → Z b (o + i * env.sz e + j) = some c) →
          SeqAt env ρ Z u w e (l.map (encT tg)) b o := by
        intro l
        induction l with
        | nil => intro o _; exact ⟨[], by simp [RepE], by simp, by simp⟩
        | cons x xs ih =>
          intro o hz
          obtain ⟨ecs, h1, h2, h3, h4⟩ := hz 0 x rfl
          obtain ⟨cs, g1, g2, g3⟩ := ih (o + env.sz e) fun i y hy => by
            obtain ⟨ecs, h1, h2, h3, h4⟩ := hz (i + 1) y (by simpa using hy)
            exact ⟨ecs, h1, h2, h3, fun j c hc => by rw [← h4 j c hc]; congr 1; rw [Nat.add_mul]; omega⟩
          refine ⟨ecs ++ cs, ⟨ecs, cs, rfl, h3, h1, g1⟩, fun j c hc => ?_, fun v hv k hk => ?_⟩
          · by_cases hj : j < ecs.length
            · rw [List.getElem?_append_left hj] at hc
              have := h4 j c hc
              simp at this
              exact hp.heap.zone _ _ _ this
            · rw [List.getElem?_append_right (by omega)] at hc
              have := g2 _ _ hc
              rw [← this]; congr 2; omega
          · simp at hv
            rcases hv with rfl | ⟨y, hy, rfl⟩
            · rw [h2] at hk; cases hk
            · exact g3 _ (by simp; exact ⟨y, hy, rfl⟩) k hk
      exact key l o hz2
  | _ => simp [seqOf] at hq
end
end Go.Abs

namespace Go.Abs
section
variable {P : Program} {env : Env} {C : Tab} {ρ : PMap} {Z : Zone} {u : Nat → Bool} {base : Nat} {tmps : List (Option AVal)} {H : Heap} {a : Act} {w : World} {K : Eff → Prop} {KP : AVal → List (Nat × Option Blk) → Prop}

theorem same_refl (k : IntKind) : IntKind.same k k = true := by cases k <;> rfl

theorem RepE.ints_inv {e : Nat} {k : IntKind} : ∀ {l : List (TT k)} {cs : List Value}, RepE env ρ Z e (l.map (AVal.int k)) cs → cs = l.map fun x => Value.int k (toI k x)
  | [], cs, h => by simpa [RepE] using h
  | x :: xs, cs, h => by
    simp only [List.map_cons, RepE] at h
    obtain ⟨c1, c2, rfl, h1, h2, h3⟩ := h
    simp only [RepC] at h2
    rw [h2, RepE.ints_inv h3]; rfl

theorem kp_inv {key : Nat} {p : List Step} {off n : Nat} {x : Value} (h : RepV env ρ Z (.kp key p off n) x) : 0 < n ∧ x = .pointer (some ⟨(ρ key).block, (ρ key).lo + (ρ key).root.off env (p ++ [.i off]), none⟩) ∧
    ∀ i, i < n → validR env (ρ key) (p ++ [.i (off + i)]) := by
  simpa [RepV, AVal.isAgg, RepC] using h

/-- A pointer to what is known, as one to what is only read. -/
theorem gpv_pre (hp : Pre env ρ Z u tmps H a w) {x : Operand} {v : AVal} (h : opVal tmps x = some v) : ∃ v', gpv env v = v' ∧ RepV env ρ Z v' (a.eval x) ∧ ∀ k, k ∈ v'.keys → known u k := by
  obtain ⟨h1, h2⟩ := hp.opVal h
  refine ⟨_, rfl, ?_⟩
  cases v with
  | gp id =>
    cases hg : env.gv id with
    | none => simp only [gpv, hg]; exact ⟨h1, h2⟩
    | some tv =>
      obtain ⟨t, v⟩ := tv
      obtain ⟨hk, ecs, hr, hz⟩ := hp.heap.gok.cont id t v hg
      simp only [gpv, hg]
      exact ⟨repV_vp.2 ⟨hk, _, _, ecs, repV_gp.1 h1, hr ρ, hz⟩, fun k hk => by simp [AVal.keys] at hk⟩
  | _ => exact ⟨h1, h2⟩

theorem op_load (he : EnvOk P env) (hp : Pre env ρ Z u tmps H a w) {o : Oper} {t : Nat} {x : Operand} (ho : o.op = .load t x)
    (h : ob (opVal tmps x) fun a => loadA env H t (gpv env a) (K1 K)) : OpPost P env ρ Z u base H w K KP ((execOp a.eval o).run P w) := by
  obtain ⟨v0, hv, q1⟩ := ob_inv h
  obtain ⟨v, e0, h1, h2⟩ := gpv_pre hp hv
  rw [e0] at q1
  unfold loadA at q1
  cases v <;> try exact q1.elim
  · rename_i key p
    obtain ⟨b, hb, q2⟩ := ob_inv q1
    obtain ⟨t', ht', q3⟩ := ob0_inv q2
    obtain ⟨e, q4⟩ := chk_inv q3
    obtain rfl := beq_eq e
    obtain ⟨y, hg, q5⟩ := ob_inv q4
    obtain ⟨hvr, hx⟩ := ptr_inv h1
    obtain ⟨z, hz, hrz, _, hk⟩ := load_blk he hp hb ht' hg hvr
    exact OpPost.val hp (x := z) (by simp [execOp, ho, hx, Instr.loadAt, Instr.sureAddr, hz]) q5 hrz hk
  · obtain ⟨ht, q2⟩ := chk_inv q1
    obtain ⟨b, o', y, e, hy, hry⟩ := load_vp he hp.heap h1 ⟨8, ht⟩
    exact OpPost.val hp (x := y) (by simp [execOp, ho, e, Instr.loadAt, Instr.sureAddr, hy]) q2 hry (by rw [(repV_vp.1 h1).1]; simp)
  · rename_i key p off n
    simp only at q1
    cases htd : env.td t with
    | none => simp only [htd] at q1
    | some td =>
      cases td <;> simp only [htd] at q1
      rename_i n' e
      obtain ⟨hn, q2⟩ := chk_inv q1
      obtain rfl := beq_eq hn
      obtain ⟨q, hq, q3⟩ := ob_inv q2
      cases q <;> try exact q3.elim
      rename_i k l
      obtain ⟨hi, q4⟩ := chk_inv q3
      obtain ⟨g1, g2, g3⟩ := kp_inv h1
      have hsl : RepV env ρ Z (.sl key p off n) (.slice (some ⟨(ρ key).block, (ρ key).lo + (ρ key).root.off env (p ++ [.i off]), none⟩) n n) := by
        simp only [RepV, AVal.isAgg, RepC]
        exact ⟨_, _, rfl, Nat.le_refl _, fun _ => rfl, g3⟩
      obtain ⟨ao, cap, e1, e2, e3⟩ := seq_rep he hp hq hsl
      simp [Seq.len] at e1
      obtain ⟨rfl, e4, rfl⟩ := e1
      obtain ⟨b, o', e5, cs, f1, f2, f3⟩ := e3 (by simp only [Seq.len]; omega)
      have hcs := f1.ints_inv
      simp at e5
      obtain ⟨rfl, rfl⟩ := e5
      have ht : HT env t (.arr k n l) := ⟨1, by simp [hasTy, htd, isInt_td hi, same_refl, Nat.beq_refl]⟩
      obtain ⟨y, hy, hry⟩ := run_loadVar (P := P) (w := w) (ρ := ρ) (Z := Z) he ht (cs := cs) (by simp only [RepC]; exact ⟨e4.symm, hcs⟩) f2
      exact OpPost.val hp (x := y) (by simp [execOp, ho, g2, Instr.loadAt, Instr.sureAddr, hy]) q4 hry (by simp [AVal.keys])

/-! ### paths -/
theorem nth_get (l : List Nat) (i : Nat) : nth l i = l[i]? := by
  induction l generalizing i with
  | nil => simp [nth]
  | cons x xs ih => cases i <;> simp [nth, ih]

theorem paths_append {q : List Step} {v : Nat} : ∀ {p : List Step} {t : Nat}, typeP env p t = some v →
    typeP env (p ++ q) t = typeP env q v ∧ offP env (p ++ q) t = offP env p t + offP env q v ∧ (validP env (p ++ q) t ↔ validP env p t ∧ validP env q v) := by
  intro p
  induction p with
  | nil => intro t h; simp [typeP] at h; subst h; simp [offP, validP]
  | cons s p ih =>
    intro t h
    cases s with
    | f i =>
      cases htd : env.td t with
      | none => simp [typeP, htd] at h
      | some td =>
        cases td <;> simp [typeP, htd] at h
        rename_i fs
        cases hn : nth fs i with
        | none => simp [hn] at h
        | some y =>
          simp [hn] at h
          obtain ⟨i1, i2, i3⟩ := ih h
          simp [typeP, offP, validP, htd, hn, i1, i2, i3, Nat.add_assoc]
    | i j =>
      cases htd : env.td t with
      | none => simp [typeP, htd] at h
      | some td =>
        cases td <;> simp [typeP, htd] at h
        obtain ⟨i1, i2, i3⟩ := ih h
        simp [typeP, offP, validP, htd, i1, i2, i3, Nat.add_assoc, and_assoc]

theorem roots_append {pl : Place} {p q : List Step} {v : Nat} (h : pl.root.type env p = some v) :
    pl.root.type env (p ++ q) = typeP env q v ∧ pl.root.off env (p ++ q) = pl.root.off env p + offP env q v ∧ (validR env pl (p ++ q) ↔ validR env pl p ∧ validP env q v) := by
  unfold validR
  cases hr : pl.root with
  | map => rw [hr] at h; simp [Root.type] at h
  | var t0 => rw [hr] at h; simp only [Root.type] at h; simp only [Root.type, Root.off]; exact paths_append h
  | row e0 =>
    rw [hr] at h
    cases p with
    | nil => simp [Root.type] at h
    | cons s p =>
      cases s with
      | f i => simp [Root.type] at h
      | i j =>
        simp only [Root.type] at h
        obtain ⟨i1, i2, i3⟩ := paths_append (q := q) h
        simp [Root.type, Root.off, i1, i2, i3, Nat.add_assoc, and_assoc]

theorem und_field (he : EnvOk P env) {s f v : Nat} {fs : List Nat} (hs : env.td s = some (.struct fs)) (hf : nth fs f = some v) :
    ∃ fields : Array Field, P.underlying s = some (.struct fields) ∧ ∃ fd : Field, fields[f]? = some fd ∧ fd.type = v ∧ fd.offset = sumSz env (fs.take f) := by
  obtain ⟨fields, h1, h2, h3⟩ := he.und s _ hs
  rw [nth_get, ← h2] at hf
  simp at hf
  obtain ⟨fd, h4, h5⟩ := hf
  exact ⟨fields, h1, fd, h4, h5, h3 f fd h4⟩

/-- A part of a struct. -/
theorem run_field (he : EnvOk P env) {s f : Nat} {fs : List Nat} {v y : AVal} {x : Value} (hs : env.td s = some (.struct fs)) (ht : hasTy env 8 s v = true) (hg : v.getF f = some y) (hx : RepV env ρ Z v x) (w : World) :
    ∃ z, (Instr.field s x f).run P w = .ok z w ∧ RepV env ρ Z y z := by
  have hL : hasL (hasTy env 7) fs v = true := by
    have := ht
    unfold hasTy at this
    simpa [hs] using this
  have hlt := getF_lt hL hg
  have hn : nth fs f = some fs[f] := by rw [nth_get]; simp [hlt]
  obtain ⟨fields, h1, fd, h2, h3, h4⟩ := und_field he hs hn
  have hag := hasL_agg hL
  unfold RepV at hx
  rw [hag] at hx
  obtain ⟨az, rfl, hr⟩ := hx
  obtain ⟨c1, c2, c3, e, hl, hry, hu⟩ := getF_rep (hasTy_len he.size 7) fs f _ v y _ hL hr hn hg
  obtain ⟨z, hz, hrz⟩ := run_part (P := P) (cs := az.toList) he ⟨7, hu⟩ hry e (hl.trans h4.symm) w
  refine ⟨z, ?_, hrz⟩
  simp only [Array.toArray_toList] at hz
  simp [Instr.field, run_underlying' h1, h2, asAgg, h3, hz]

theorem getF_keys {v y : AVal} {f : Nat} (hg : v.getF f = some y) : ∀ k, k ∈ y.keys → k ∈ v.keys :=
  getP_keys (p := [.f f]) (by simp [AVal.getP, hg])

theorem op_field (he : EnvOk P env) (hp : Pre env ρ Z u tmps H a w) {o : Oper} {s f : Nat} {x : Operand} (ho : o.op = .field s x f)
    (h : ob (opVal tmps x) fun x => chk (hasTy env 8 s x) (match env.td s with
    | some (.struct _) => ob (x.getF f) (K1 K)
    | _ => False)) : OpPost P env ρ Z u base H w K KP ((execOp a.eval o).run P w) := by
  obtain ⟨v, hv, q1⟩ := ob_inv h
  obtain ⟨h1, h2⟩ := hp.opVal hv
  obtain ⟨ht, q2⟩ := chk_inv q1
  cases hs : env.td s with
  | none => rw [hs] at q2; exact q2.elim
  | some td =>
    rw [hs] at q2
    cases td <;> try exact q2.elim
    obtain ⟨y, hy, q3⟩ := ob_inv q2
    obtain ⟨z, hz, hrz⟩ := run_field he hs ht hy h1 w
    exact OpPost.val hp (x := z) (by simp [execOp, ho, hz]) q3 hrz fun k hk => h2 k (getF_keys hy k hk)

theorem op_fieldAddr (he : EnvOk P env) (hp : Pre env ρ Z u tmps H a w) {o : Oper} {s f : Nat} {x : Operand} (ho : o.op = .fieldAddr s x f)
    (h : ob (opVal tmps x) fun x => match env.td s with
    | some (.struct fs) => ob0 (nth fs f) fun u => match Nat.beq (env.sz u) 0 with
      | true => False
      | false => match gpv env x with
        | .ptr key p => ob (H key) fun b => ob0 (b.root.type env p) fun t => chk (Nat.beq s t) (K1 K (.ptr key (p ++ [.f f])))
        | .vp v => chk (hasTy env 8 s v) (ob (v.getF f) fun w => K1 K (.vp w))
        | _ => False
    | _ => False) : OpPost P env ρ Z u base H w K KP ((execOp a.eval o).run P w) := by
  obtain ⟨v0, hv, q1⟩ := ob_inv h
  obtain ⟨v, e0, h1, h2⟩ := gpv_pre hp hv
  rw [e0] at q1
  cases hs : env.td s with
  | none => rw [hs] at q1; exact q1.elim
  | some td =>
    rw [hs] at q1
    cases td <;> try exact q1.elim
    rename_i fs
    obtain ⟨ft, hft, q2⟩ := ob0_inv q1
    cases hz : Nat.beq (env.sz ft) 0 with
    | true => rw [hz] at q2; exact q2.elim
    | false =>
      rw [hz] at q2
      have hz' : env.sz ft ≠ 0 := Nat.ne_of_beq_eq_false hz
      obtain ⟨d, hd⟩ := he.clo s _ hs f ft hft
      obtain ⟨fields, g1, fd, g2, g3, g4⟩ := und_field he hs hft
      have run : ∀ b o', a.eval x = .pointer (some ⟨b, o', none⟩) → (execOp a.eval o).run P w = .ok (.value (.pointer (some ⟨b, o' + sumSz env (fs.take f), none⟩))) w := fun b o' e => by
        simp [execOp, ho, e, Instr.fieldAt, run_underlying' g1, g2, Instr.sureAddr, fieldPlace, g3, run_sizeOf he hd, hz', g4, add_addr]
      cases v <;> try exact q2.elim
      · rename_i key p
        obtain ⟨b, hb, q3⟩ := ob_inv q2
        obtain ⟨t', ht', q4⟩ := ob0_inv q3
        obtain ⟨e, q5⟩ := chk_inv q4
        obtain rfl := beq_eq e
        obtain ⟨hvr, hx⟩ := ptr_inv h1
        have hroot := (hp.heap.blk key b hb).root
        obtain ⟨r1, r2, r3⟩ := roots_append (pl := ρ key) (p := p) (q := [.f f]) (by rw [hroot]; exact ht')
        refine OpPost.val hp (run _ _ hx) q5 ?_ (by simpa [AVal.keys] using h2)
        simp only [RepV, AVal.isAgg, RepC]
        refine ⟨r3.2 ⟨hvr, by simp [validP, hs, hft]⟩, ?_⟩
        rw [r2]
        simp [offP, hs, hft, Nat.add_assoc]
      · rename_i v
        obtain ⟨ht, q3⟩ := chk_inv q2
        obtain ⟨y, hy, q4⟩ := ob_inv q3
        obtain ⟨hk, b, o', ecs, hx, hr, hzn⟩ := repV_vp.1 h1
        have hL : hasL (hasTy env 7) fs v = true := by
          have := ht
          unfold hasTy at this
          simpa [hs] using this
        obtain ⟨c1, c2, c3, e, hl, hry, hu⟩ := getF_rep (hasTy_len he.size 7) fs f _ v y _ hL hr hft hy
        have hky : y.keys = [] := List.eq_nil_iff_forall_not_mem.2 fun k hm => by have := getF_keys hy k hm; rw [hk] at this; cases this
        refine OpPost.val hp (run _ _ hx) q4 (repV_vp.2 ⟨hky, b, _, c2, rfl, hry, fun j c hc => ?_⟩) (by simp [AVal.keys])
        have := hzn (c1.length + j) c (by
          subst e
          have hi := (List.getElem?_eq_some_iff.1 hc).1
          rw [List.append_assoc, List.getElem?_append_right (by omega), Nat.add_sub_cancel_left, List.getElem?_append_left hi]; exact hc)
        rw [← this, hl, Nat.add_assoc]

/-! ### indices -/
theorem ix_inv {v : AVal} {n : Nat} {K : Nat → Prop} (h : ix v n K) : ∃ k x, v = .int k x ∧ 0 ≤ toI k x ∧ toI k x < n ∧ K (toI k x).toNat := by
  unfold ix at h
  cases v <;> try exact h.elim
  obtain ⟨h1, h2⟩ := chk_inv h
  obtain ⟨h3, h4⟩ := chk_inv h2
  exact ⟨_, _, rfl, isNeg_false h1, by simpa using h3, h4⟩

theorem run_indexAt_arr (he : EnvOk P env) {t n e : Nat} (ht : env.td t = some (.arr n e)) {b o' : Nat} {k : IntKind} {i : Int} (h0 : 0 ≤ i) (h1 : i < n) (w : World) :
    (Instr.indexAt t (.pointer (some ⟨b, o', none⟩)) (.int k i)).run P w = .ok (.pointer (some ⟨b, o' + i.toNat * env.sz e, none⟩)) w := by
  obtain ⟨d, hd⟩ := he.clo t _ ht
  have hu := he.und t _ ht
  simp only [UndOk] at hu
  simp [Instr.indexAt, asIntOf, run_underlying' hu, Instr.sureAddr, h0, h1, run_sizeOf he hd, add_addr]

theorem run_indexAt_sl (he : EnvOk P env) {t e : Nat} (ht : env.td t = some (.slice e)) {b o' n cap : Nat} {k : IntKind} {i : Int} (h0 : 0 ≤ i) (h1 : i < n) (w : World) :
    (Instr.indexAt t (.slice (some ⟨b, o', none⟩) n cap) (.int k i)).run P w = .ok (.pointer (some ⟨b, o' + i.toNat * env.sz e, none⟩)) w := by
  obtain ⟨d, hd⟩ := he.clo t _ ht
  have hu := he.und t _ ht
  simp only [UndOk] at hu
  simp [Instr.indexAt, asIntOf, run_underlying' hu, h0, h1, run_sizeOf he hd, add_addr]

theorem elemAt_inv {H : Heap} {key : Nat} {p : List Step} {e : Nat} (h : elemAt env H key p = some e) :
    ∃ b, H key = some b ∧ ((p = [] ∧ b.root = .row e) ∨ ∃ t m, b.root.type env p = some t ∧ env.td t = some (.arr m e)) := by
  unfold elemAt at h
  cases hb : H key with
  | none => simp [hb] at h
  | some b =>
    refine ⟨b, rfl, ?_⟩
    have arr : ∀ b', (match arrAt env b' p with
      | some (_, e) => some e
      | none => none) = some e → ∃ t m, b'.root.type env p = some t ∧ env.td t = some (.arr m e) := fun b' h => by
      unfold arrAt at h
      cases ht : b'.root.type env p with
      | none => simp [ht] at h
      | some t =>
        cases htd : env.td t with
        | none => simp [ht, htd] at h
        | some td => cases td <;> simp [ht, htd] at h; subst h; exact ⟨t, _, rfl, htd⟩
    obtain ⟨root, c⟩ := b
    cases root with
    | map => rw [hb] at h; exact .inr (arr _ h)
    | var t0 => rw [hb] at h; exact .inr (arr _ h)
    | row e0 =>
      rw [hb] at h
      cases p with
      | nil => simp at h; subst h; exact .inl ⟨rfl, rfl⟩
      | cons s p => exact .inr (arr _ h)

/-- Where the elements of a slice of a block lie. -/
theorem elem_off {pl : Place} {p : List Step} {e : Nat} (h : (p = [] ∧ pl.root = .row e) ∨ ∃ t m, pl.root.type env p = some t ∧ env.td t = some (.arr m e)) (n i : Nat) :
    pl.root.off env (p ++ [.i (n + i)]) = pl.root.off env (p ++ [.i n]) + i * env.sz e := by
  rcases h with ⟨rfl, h⟩ | ⟨t, m, h1, h2⟩
  · simp [h, Root.off, offP, Nat.add_mul]
  · rw [root_append h1 h2, root_append h1 h2, Nat.add_mul]; omega

theorem splitN_inv {K : Nat → Prop} : ∀ {n s m : Nat}, splitN n s m K → K m
  | n + 1, s, m, h => by
    simp only [splitN] at h
    cases hq : Nat.beq m s with
    | true => rw [hq] at h; rw [beq_eq hq]; exact h
    | false => rw [hq] at h; exact splitN_inv h
theorem pickI_inv {env : Env} {e n j : Nat} {K : Nat → Prop} (h : pickI env e n j K) : K j := by
  unfold pickI at h
  split at h
  · exact h
  · exact splitN_inv h
theorem op_indexAddr (he : EnvOk P env) (hp : Pre env ρ Z u tmps H a w) {o : Oper} {t : Nat} {x i : Operand} (ho : o.op = .indexAddr t x i)
    (h : ob (opVal tmps x) fun x => ob (opVal tmps i) fun i => indexAddrA env H t (gpv env x) i (K1 K)) : OpPost P env ρ Z u base H w K KP ((execOp a.eval o).run P w) := by
  obtain ⟨v0, hv, q1⟩ := ob_inv h
  obtain ⟨vi, hvi, q2⟩ := ob_inv q1
  obtain ⟨v, e0, h1, h2⟩ := gpv_pre hp hv
  rw [e0] at q2
  obtain ⟨h3, h4⟩ := hp.opVal hvi
  unfold indexAddrA at q2
  cases ht : env.td t with
  | none => rw [ht] at q2; exact q2.elim
  | some td =>
    rw [ht] at q2
    cases td <;> try exact q2.elim
    · -- a slice
      rename_i e
      simp only at q2
      cases v <;> try exact q2.elim
      · -- sl
        rename_i key p off n
        obtain ⟨e', he', q3⟩ := ob0_inv q2
        obtain ⟨hee, q4⟩ := chk_inv q3
        obtain rfl := beq_eq hee
        obtain ⟨k, j, rfl, j0, j1, q5⟩ := ix_inv q4
        obtain ⟨b, hb, hpl⟩ := elemAt_inv he'
        have hroot := (hp.heap.blk key b hb).root
        rw [← hroot] at hpl
        obtain ⟨ao, cap, hx, g1, g2, g3⟩ := sl_inv h1
        rw [g2 (by omega)] at hx
        rw [repV_int] at h3
        refine OpPost.val hp (by simp only [execOp, ho, hx, h3, Sem.run_bind, run_indexAt_sl he ht j0 j1, Result.andThen_ok, Sem.run_pure]; rfl) q5 ?_ (by simpa [AVal.keys] using h2)
        simp only [RepV, AVal.isAgg, RepC]
        exact ⟨g3 _ (by omega), by rw [elem_off hpl, Nat.add_assoc]⟩
      · -- sw
        rename_i key
        simp only at q2
        cases hb : H key with
        | none => rw [hb] at q2; exact q2.elim
        | some b =>
          obtain ⟨root, c⟩ := b
          cases root with
          | map => rw [hb] at q2; exact q2.elim
          | var t0 => rw [hb] at q2; exact q2.elim
          | row e' =>
            rw [hb] at q2
            obtain ⟨hee, q3⟩ := chk_inv q2
            obtain rfl := beq_eq hee
            obtain ⟨q, hq, q4⟩ := ob_inv q3
            obtain ⟨k, j, rfl, j0, j1, q5⟩ := ix_inv q4
            obtain ⟨r1, r2, r3, r4, r5, r6, r7⟩ := row_seq he.size hp hb hq
            obtain ⟨ao, cap, e2, g1, hx, g2, g3⟩ := sw_inv h1
            rw [(g3 (by omega)).1, ← r3] at hx
            rw [repV_int] at h3
            refine OpPost.val hp (by simp only [execOp, ho, hx, h3, Sem.run_bind, run_indexAt_sl he ht j0 j1, Result.andThen_ok, Sem.run_pure]; rfl) q5 ?_ (by simpa [AVal.keys] using h2)
            simp only [RepV, AVal.isAgg, RepC, validR, r1, Root.off, offP, validP]
            exact ⟨⟨by omega, trivial⟩, rfl⟩
      · -- vw
        rename_i k l
        obtain ⟨hi, q3⟩ := chk_inv q2
        obtain ⟨k', j, rfl, j0, j1, q5⟩ := ix_inv q3
        simp only [RepV, AVal.isAgg, RepC] at h1
        obtain ⟨ao, cap, hx, g1, g2⟩ := h1
        obtain ⟨b, o', e1, g3⟩ := g2 (by rintro rfl; simp at j1; omega)
        simp at hx
        rw [e1] at hx
        rw [repV_int] at h3
        have hs1 := sz_int he.size (isInt_td hi)
        refine OpPost.val hp (by simp only [execOp, ho, hx, h3, Sem.run_bind, run_indexAt_sl he ht j0 j1, Result.andThen_ok, Sem.run_pure]; rfl) q5 ?_ (by simp [AVal.keys])
        refine repV_vp.2 ⟨rfl, b, _, [.int k (toI k (l.getD (toI k' j).toNat (zeroT k)))], rfl, by simp [RepC], fun m c hc => ?_⟩
        obtain ⟨rfl, rfl⟩ : m = 0 ∧ _ = c := by
          cases m with
          | zero => exact ⟨rfl, by simpa using hc⟩
          | succ m => simp at hc
        have hlt : (toI k' j).toNat < l.length := by omega
        have := g3 (toI k' j).toNat l[(toI k' j).toNat] (by simp [hlt])
        rw [hs1]
        simpa [hlt] using this
      · -- vr
        rename_i tg e' enc d l
        obtain ⟨hee, q3⟩ := chk_inv q2
        obtain rfl := beq_eq hee
        obtain ⟨k', j, rfl, j0, j1, q5⟩ := ix_inv q3
        simp only [RepV, AVal.isAgg, RepC] at h1
        obtain ⟨henc, ao, cap, hx, g1, g2⟩ := h1
        obtain ⟨b, o', e1, g3⟩ := g2 (by rintro rfl; simp at j1; omega)
        simp at hx
        rw [e1] at hx
        rw [repV_int] at h3
        have hlt : (toI k' j).toNat < l.length := by omega
        obtain ⟨ecs, f1, f2, f3, f4⟩ := g3 (toI k' j).toNat l[(toI k' j).toNat] (by simp [hlt])
        refine OpPost.val hp (by simp only [execOp, ho, hx, h3, Sem.run_bind, run_indexAt_sl he ht j0 j1, Result.andThen_ok, Sem.run_pure]; rfl) q5 ?_ (by simp [AVal.keys])
        have hgd : l.getD (toI k' j).toNat d = l[(toI k' j).toNat] := by simp [hlt]
        rw [hgd]
        exact repV_vp.2 ⟨f2, b, _, ecs, rfl, f1, f4⟩
    · -- an array
      rename_i n e
      simp only at q2
      cases v <;> try exact q2.elim
      · rename_i key p
        obtain ⟨b, hb, q3⟩ := ob_inv q2
        obtain ⟨t', ht', q4⟩ := ob0_inv q3
        obtain ⟨hee, q5⟩ := chk_inv q4
        obtain rfl := beq_eq hee
        obtain ⟨k, j, rfl, j0, j1, q6⟩ := ix_inv q5
        replace q6 := pickI_inv q6
        obtain ⟨hvr, hx⟩ := ptr_inv h1
        rw [repV_int] at h3
        have hroot := (hp.heap.blk key b hb).root
        refine OpPost.val hp (by simp only [execOp, ho, hx, h3, Sem.run_bind, run_indexAt_arr he ht j0 j1, Result.andThen_ok, Sem.run_pure]; rfl) q6 ?_ (by simpa [AVal.keys] using h2)
        simp only [RepV, AVal.isAgg, RepC]
        refine ⟨(valid_append (by rw [hroot]; exact ht') ht).2 ⟨hvr, by omega⟩, ?_⟩
        rw [root_append (by rw [hroot]; exact ht') ht, Nat.add_assoc]
      · rename_i v
        cases v <;> try exact q2.elim
        rename_i k n' l
        obtain ⟨hty, q3⟩ := chk_inv q2
        obtain ⟨k', j, rfl, j0, j1, q4⟩ := ix_inv q3
        obtain ⟨hk, b, o', ecs, hx, hr, hzn⟩ := repV_vp.1 h1
        rw [repV_int] at h3
        have hte : env.td e = some (.int k) ∧ n = n' := by
          unfold hasTy at hty
          simp only [ht] at hty
          obtain ⟨d, hd⟩ := he.clo t _ ht
          cases d with
          | int kk =>
            simp only [hd] at hty
            cases hsm : IntKind.same kk k <;> simp [hsm] at hty
            rw [same_eq hsm] at hd; exact ⟨hd, hty⟩
          | _ => simp only [hd] at hty; cases n <;> simp [List.replicate_succ, hasL] at hty
        obtain ⟨hte, rfl⟩ := hte
        simp only [RepC] at hr
        obtain ⟨hl, rfl⟩ := hr
        have hlt : (toI k' j).toNat < l.length := by omega
        refine OpPost.val hp (by simp only [execOp, ho, hx, h3, Sem.run_bind, run_indexAt_arr he ht j0 j1, Result.andThen_ok, Sem.run_pure]; rfl) q4 ?_ (by simp [AVal.keys])
        refine repV_vp.2 ⟨rfl, b, _, [.int k (toI k (l.getD (toI k' j).toNat (zeroT k)))], rfl, by simp [RepC], fun m c hc => ?_⟩
        obtain ⟨rfl, rfl⟩ : m = 0 ∧ _ = c := by
          cases m with
          | zero => exact ⟨rfl, by simpa using hc⟩
          | succ m => simp at hc
        have := hzn (toI k' j).toNat (.int k (toI k l[(toI k' j).toNat])) (by simp [hlt])
        rw [sz_int he.size hte]
        simpa [hlt] using this
end
end Go.Abs
