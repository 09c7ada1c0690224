/- Moves that the model does not see: a row that is only read from now on; a nil slice taken for an empty row. Slices of numbers whose headers alone are known to the evaluator: their memory is left alone by it. Functions whose loops are shown by hand. What a call has made, and nobody writes any more, becomes what is only read. -/
import Derived.Test.YtadiphoihflmiaaGreatDoorZat
import Derived.Test.YtadiphoihflmiaaGreatDoorZap
set_option linter.all false
namespace Go.Abs

/-- A slice of all of a block, taken for something else. -/
def swapV (k : Nat) (x : AVal) : AVal → AVal
  | .pair a b => .pair (swapV k x a) (swapV k x b)
  | .tcons a b => .tcons (swapV k x a) (swapV k x b)
  | .iface t v => .iface t (swapV k x v)
  | .fn f a b => .fn f (swapV k x a) (swapV k x b)
  | .sw j => match Nat.beq j k with
    | true => x
    | false => .sw j
  | v => v

section
variable {P : Program} {env : Env} {ρ ρ0 : PMap} {Z Z' Z0 : Zone} {k : Nat} {x : AVal} {nb : Nat} {H H0 : Heap} {a : Act} {w w0 : World} {S : St}

theorem swapV_agg (hag : x.isAgg = false) (v : AVal) : (swapV k x v).isAgg = v.isAgg := by
  cases v <;> first | rfl | skip
  rename_i j
  simp only [swapV]
  cases Nat.beq j k with
  | true => exact hag
  | false => rfl

theorem RepCA_swap (hx : ∀ cs, RepC env ρ Z (.sw k) cs → RepC env ρ Z' x cs) (hag : x.isAgg = false) (hg : Z'.g = Z.g) (hz : Zle Z Z') (v : AVal) :
    (∀ cs, RepC env ρ Z v cs → RepC env ρ Z' (swapV k x v) cs) ∧ (∀ cs, RepA env ρ Z v cs → RepA env ρ Z' (swapV k x v) cs) := by
  have keep : ∀ v : AVal, (∀ cs, RepC env ρ Z v cs → RepC env ρ Z' v cs) ∧ (∀ cs, RepA env ρ Z v cs → RepA env ρ Z' v cs) := fun v =>
    ⟨fun cs h => (RepCA_zone (Z := Z) (Z' := Z') (ρ := ρ) (env := env) hg v).1 cs (fun _ => hz) h, fun cs h => (RepCA_zone (Z := Z) (Z' := Z') (ρ := ρ) (env := env) hg v).2 cs (fun _ => hz) h⟩
  have one : ∀ (a : AVal) (y : Value), (∀ cs, RepC env ρ Z a cs → RepC env ρ Z' (swapV k x a) cs) → (match a.isAgg with
      | true => ∃ ar, y = .agg ar ∧ RepC env ρ Z a ar.toList
      | false => RepC env ρ Z a [y]) → (match (swapV k x a).isAgg with
      | true => ∃ ar, y = .agg ar ∧ RepC env ρ Z' (swapV k x a) ar.toList
      | false => RepC env ρ Z' (swapV k x a) [y]) := fun a y h hy => by
    rw [swapV_agg hag]
    cases hq : a.isAgg <;> simp only [hq] at hy ⊢
    · exact h _ hy
    · obtain ⟨ar, e, hy⟩ := hy
      exact ⟨ar, e, h _ hy⟩
  induction v with
  | pair a b iha ihb =>
    refine ⟨fun cs h => ?_, fun cs h => ?_⟩
    · simp only [RepC, swapV] at h ⊢
      obtain ⟨c1, c2, rfl, h1, h2⟩ := h
      exact ⟨c1, c2, rfl, iha.1 _ h1, ihb.1 _ h2⟩
    · simp only [RepA, swapV] at h ⊢
      obtain ⟨y, ys, rfl, h1, h2⟩ := h
      exact ⟨y, ys, rfl, one a y iha.1 h1, ihb.2 _ h2⟩
  | tcons a b iha ihb =>
    refine ⟨fun cs h => ?_, fun cs h => ?_⟩
    · simp only [RepC, swapV] at h ⊢
      obtain ⟨vs, rfl, y, ys, e, h1, h2⟩ := h
      exact ⟨vs, rfl, y, ys, e, one a y iha.1 h1, ihb.2 _ h2⟩
    · simp only [RepA, swapV] at h ⊢
      obtain ⟨y, ys, rfl, h1, h2⟩ := h
      exact ⟨y, ys, rfl, one a y iha.1 h1, ihb.2 _ h2⟩
  | iface t v ih =>
    refine ⟨fun cs h => ?_, fun cs h => by simp [RepA] at h⟩
    simp only [RepC, swapV] at h ⊢
    obtain ⟨y, rfl, h1⟩ := h
    exact ⟨y, rfl, one v y ih.1 h1⟩
  | fn f a b iha ihb =>
    refine ⟨fun cs h => ?_, fun cs h => by simp [RepA] at h⟩
    simp only [RepC, swapV] at h ⊢
    obtain ⟨xs, ys, rfl, h1, h2⟩ := h
    exact ⟨xs, ys, rfl, iha.2 _ h1, ihb.2 _ h2⟩
  | sw j =>
    refine ⟨fun cs h => ?_, fun cs h => by simp [RepA] at h⟩
    simp only [swapV]
    cases hq : Nat.beq j k with
    | true => simp only; rw [beq_eq hq] at h; exact hx _ h
    | false => exact (keep _).1 _ h
  | _ => exact keep _

theorem RepV_swap (hx : ∀ cs, RepC env ρ Z (.sw k) cs → RepC env ρ Z' x cs) (hag : x.isAgg = false) (hg : Z'.g = Z.g) (hz : Zle Z Z') {v : AVal} {y : Value} (h : RepV env ρ Z v y) : RepV env ρ Z' (swapV k x v) y := by
  unfold RepV at *
  rw [swapV_agg hag]
  cases hq : v.isAgg <;> simp only [hq] at h ⊢
  · exact (RepCA_swap hx hag hg hz v).1 _ h
  · obtain ⟨ar, e, h⟩ := h
    exact ⟨ar, e, (RepCA_swap hx hag hg hz v).1 _ h⟩

theorem hasL_map {f : AVal → AVal} (hf1 : f .unit = .unit) (hf2 : ∀ a b, f (.pair a b) = .pair (f a) (f b)) {h : Nat → AVal → Bool} (hh : ∀ t v, h t v = true → h t (f v) = true) : ∀ (fs : List Nat) (v : AVal), hasL h fs v = true → hasL h fs (f v) = true
  | [], v, hl => by cases v <;> simp [hasL] at hl; rw [hf1]; rfl
  | t :: ts, v, hl => by
    cases v <;> simp [hasL] at hl
    rename_i a b
    cases hb : h t a with
    | false => simp [hb] at hl
    | true =>
      simp [hb] at hl
      rw [hf2]
      simp only [hasL, hh t a hb]
      exact hasL_map hf1 hf2 hh ts b hl

theorem hasTy_swap (hx : ∀ d t e, env.td t = some (.slice e) → hasTy env (d + 1) t x = true) : ∀ (d t : Nat) (v : AVal), hasTy env d t v = true → hasTy env d t (swapV k x v) = true
  | 0, _, _, h => by simp [hasTy] at h
  | d + 1, t, v, h => by
    have ih := hasTy_swap hx d
    have h0 := h
    have hl := hasL_map (f := swapV k x) rfl (fun _ _ => rfl) (h := hasTy env d) ih
    unfold hasTy at h ⊢
    cases htd : env.td t with
    | none => simp [htd] at h
    | some td =>
      cases td with
      | struct fs =>
        simp only [htd] at h ⊢
        exact hl fs v h
      | arr n e =>
        simp only [htd] at h ⊢
        cases hte : env.td e with
        | none => simp [hte] at h
        | some te =>
          cases te
          case int kk => cases v <;> simp [hte] at h <;> simpa [swapV, hte] using h
          all_goals
            simp only [hte] at h ⊢
            exact hl _ v h
      | slice e =>
        suffices h9 : hasTy env (d + 1) t (swapV k x v) = true by
          unfold hasTy at h9
          rw [htd] at h9
          exact h9
        cases v with
        | sw j =>
          simp only [swapV]
          cases Nat.beq j k with
          | true => exact hx d t e htd
          | false => exact h0
        | pair | tcons | iface | fn => simp [htd] at h
        | _ => exact h0
      | _ => cases v <;> simp [htd] at h <;> simpa [swapV, htd] using h

def swapC (k : Nat) (x : AVal) : Cont → Cont
  | .var v => .var (swapV k x v)
  | c => c
def swapB (k : Nat) (x : AVal) (b : Blk) : Blk := ⟨b.root, swapC k x b.c⟩

theorem swapC_keys (hk : x.keys = []) (c : Cont) : ∀ j, j ∈ (swapC k x c).keys → j ∈ c.keys := by
  have key : ∀ v : AVal, ∀ j, j ∈ (swapV k x v).keys → j ∈ v.keys := by
    intro v
    induction v with
    | pair a b iha ihb => intro j hj; simp only [swapV, AVal.keys, List.mem_append] at hj ⊢; exact hj.imp (iha j) (ihb j)
    | tcons a b iha ihb => intro j hj; simp only [swapV, AVal.keys, List.mem_append] at hj ⊢; exact hj.imp (iha j) (ihb j)
    | fn f a b iha ihb => intro j hj; simp only [swapV, AVal.keys, List.mem_append] at hj ⊢; exact hj.imp (iha j) (ihb j)
    | iface t v ih => intro j hj; simp only [swapV, AVal.keys] at hj ⊢; exact ih j hj
    | sw i =>
      intro j hj
      simp only [swapV] at hj
      split at hj
      · rw [hk] at hj; cases hj
      · exact hj
    | _ => intro j hj; exact hj
  cases c <;> first | exact fun j hj => hj | exact key _
theorem swapV_keys (hk : x.keys = []) (v : AVal) : ∀ j, j ∈ (swapV k x v).keys → j ∈ v.keys := swapC_keys (k := k) hk (.var v)

theorem BlkOk.swap (hx : ∀ cs, RepC env ρ Z (.sw k) cs → RepC env ρ Z' x cs) (hag : x.isAgg = false) (ht : ∀ d t e, env.td t = some (.slice e) → hasTy env (d + 1) t x = true) (hg : Z'.g = Z.g) (hz : Zle Z Z') {pl : Place} {b : Blk} (h : BlkOk env ρ Z w pl b) :
    BlkOk env ρ Z' w pl (swapB k x b) := by
  obtain ⟨root, c⟩ := b
  cases c with
  | var v =>
    refine ⟨h.root, fun hm => ?_, h.own, h.there, fun hm => ?_⟩
    · obtain ⟨cs, h1, h2, h3⟩ := h.cells hm
      refine ⟨cs, ?_, h2, h3⟩
      cases root with
      | var t =>
        obtain ⟨⟨d, g1⟩, g2⟩ := h1
        exact ⟨⟨d, hasTy_swap ht d t v g1⟩, (RepCA_swap hx hag hg hz v).1 _ g2⟩
      | row e => exact h1.elim
      | map a b => exact h1.elim
    · obtain ⟨kt, vt, es, -, -, -, -, -, -, hq⟩ := h.map hm
      exact hq.elim
  | _ => exact h.zone hg hz

/-- A state, a block of which is only read from now on. -/
def St.frz (k : Nat) (x : AVal) (S : St) : St := ⟨S.tmps.map (Option.map (swapV k x)), fun j => match Nat.beq j k with
  | true => none
  | false => match S.heap j with
    | some b => some (swapB k x b)
    | none => none, S.used⟩

theorem getL_map {f : AVal → AVal} : ∀ {l : List (Option AVal)} {t : Nat} {v : AVal}, getL (l.map (Option.map f)) t = some v → ∃ u, getL l t = some u ∧ v = f u
  | [], t, v, h => by simp [getL] at h
  | some u :: l, 0, v, h => by simp [getL] at h; exact ⟨u, rfl, h.symm⟩
  | none :: l, 0, v, h => by simp [getL] at h
  | _ :: l, t + 1, v, h => by simp only [List.map_cons, getL] at h ⊢; exact getL_map h

theorem frz_inv {j : Nat} {b : Blk} (h : (S.frz k x).heap j = some b) : j ≠ k ∧ ∃ b', S.heap j = some b' ∧ b = swapB k x b' := by
  simp only [St.frz] at h
  cases hq : Nat.beq j k with
  | true => rw [hq] at h; cases h
  | false =>
    rw [hq] at h
    refine ⟨Nat.ne_of_beq_eq_false hq, ?_⟩
    cases hb : S.heap j with
    | none => rw [hb] at h; cases h
    | some b' => rw [hb] at h; cases h; exact ⟨b', rfl, rfl⟩

theorem Sync.frz (hs : Sync env Z0 Z ρ0 H0 w0 nb S ρ a w) {B : Blk} (hk : S.heap k = some B) (hx : ∀ cs, RepC env ρ Z (.sw k) cs → RepC env ρ (zone1 Z w (ρ k)) x cs) (hag : x.isAgg = false) (hkx : x.keys = []) (ht : ∀ d t e, env.td t = some (.slice e) → hasTy env (d + 1) t x = true) :
    Sync env Z0 (zone1 Z w (ρ k)) ρ0 H0 w0 nb (S.frz k x) ρ a w := by
  have h1 := heap1 hs.pre.heap hk
  have hr : ∀ b, ¬ b = k → Nat.beq b k = false := fun b hb => beq_false_of_ne hb
  refine ⟨⟨?_, fun t v hv => ?_, ?_, fun j b hb => ?_⟩, hs.keep, fun j b hb => ?_, hs.old, hs.nb, hs.defers, ⟨hs.grow.g, fun b o c h => zone1_le _ _ _ (hs.grow.le b o c h), fun b o g1 g2 => ?_⟩⟩
  · simp only [St.frz, List.length_map]; exact hs.pre.size
  · obtain ⟨u, hu, rfl⟩ := getL_map hv
    obtain ⟨g1, g2⟩ := hs.pre.tmps t u hu
    exact ⟨RepV_swap hx hag rfl zone1_le g1, fun j hj => g2 j (swapV_keys hkx u j hj)⟩
  · refine ⟨fun j b hb => ?_, fun j j' b b' hne hb hb' => ?_, fun j b hb => ?_, h1.zone, h1.pos, h1.gok⟩
    · obtain ⟨-, b', g1, rfl⟩ := frz_inv hb
      exact (hs.pre.heap.blk j b' g1).swap hx hag ht rfl zone1_le
    · obtain ⟨-, c, g1, -⟩ := frz_inv hb
      obtain ⟨-, c', g1', -⟩ := frz_inv hb'
      exact hs.pre.heap.dis j j' c c' hne g1 g1'
    · obtain ⟨g0, c, g1, -⟩ := frz_inv hb
      refine h1.zdis j c ?_
      unfold upd1
      rw [hr j g0]
      exact g1
  · obtain ⟨-, b', g1, rfl⟩ := frz_inv hb
    obtain ⟨g2, g3⟩ := hs.pre.keysH j b' g1
    exact ⟨g2, fun i hi => g3 i (swapC_keys hkx b'.c i hi)⟩
  · obtain ⟨-, b', g1, rfl⟩ := frz_inv hb
    exact hs.reg j b' g1
  · cases hz : Z b o with
    | some c => exact hs.grow.new b o g1 (by rw [hz]; simp)
    | none =>
      obtain ⟨rfl, q1, q2⟩ := zone1_new hz g2
      exact hs.reg k B hk o q1 q2

/-! ### a nil slice, taken for an empty row -/
inductive NilTo (k : Nat) : AVal → AVal → Prop where
  | refl (v : AVal) : NilTo k v v
  | nil : NilTo k .nilsl (.sw k)
  | pair {a a' b b' : AVal} : NilTo k a a' → NilTo k b b' → NilTo k (.pair a b) (.pair a' b')

theorem NilTo.agg {v v' : AVal} (h : NilTo k v v') : v'.isAgg = v.isAgg := by cases h <;> rfl
theorem NilTo.keys {v v' : AVal} (h : NilTo k v v') : ∀ j, j ∈ v'.keys → j ∈ v.keys ∨ j = k := by
  induction h with
  | refl v => exact fun j hj => .inl hj
  | nil => exact fun j hj => .inr (by simpa [AVal.keys] using hj)
  | pair h1 h2 ih1 ih2 =>
    intro j hj
    simp only [AVal.keys, List.mem_append] at hj ⊢
    rcases hj with hj | hj
    · exact (ih1 j hj).imp .inl id
    · exact (ih2 j hj).imp .inr id
theorem NilTo.rep {e : Nat} {v v' : AVal} (h : NilTo k v v') {pl : Place} (hp : pl.root = .row e ∧ pl.len = 0) : k ∉ v.keys → ∀ cs, RepC env ρ Z v cs → RepC env (ρ.put k pl) Z v' cs := by
  induction h with
  | refl v => exact fun hk cs h => h.congr fun j hj => PMap.put_other ρ pl fun e => hk (e ▸ hj)
  | nil =>
    intro _ cs h
    simp only [RepC] at h ⊢
    exact ⟨none, 0, e, by rw [PMap.put_same]; exact hp.1, by rw [PMap.put_same, hp.2]; exact h, by rw [PMap.put_same, hp.2]; exact Nat.le_refl _, fun h => (h rfl).elim⟩
  | pair h1 h2 ih1 ih2 =>
    intro hk cs h
    simp only [AVal.keys, List.mem_append, not_or] at hk
    simp only [RepC] at h ⊢
    obtain ⟨c1, c2, rfl, g1, g2⟩ := h
    exact ⟨c1, c2, rfl, ih1 hk.1 _ g1, ih2 hk.2 _ g2⟩
theorem hasTy_nilTo : ∀ (d t : Nat) {v v' : AVal}, NilTo k v v' → hasTy env d t v = true → hasTy env d t v' = true
  | 0, _, _, _, _, h => by simp [hasTy] at h
  | d + 1, t, v, v', hn, h => by
    have hl : ∀ (fs : List Nat) {v v' : AVal}, NilTo k v v' → hasL (hasTy env d) fs v = true → hasL (hasTy env d) fs v' = true := by
      intro fs
      induction fs with
      | nil => intro v v' hn hv; cases hn <;> first | exact hv | simp [hasL] at hv
      | cons u us ih =>
        intro v v' hn hv
        cases hn with
        | refl => exact hv
        | nil => simp [hasL] at hv
        | @pair a a' b b' h1 h2 =>
          simp only [hasL] at hv ⊢
          cases hb : hasTy env d u a with
          | false => simp [hb] at hv
          | true =>
            simp only [hb] at hv
            rw [hasTy_nilTo d u h1 hb]
            exact ih h2 hv
    cases hn with
    | refl => exact h
    | nil =>
      unfold hasTy at h ⊢
      cases htd : env.td t with
      | none => simp [htd] at h
      | some td =>
        cases td with
        | struct fs => cases fs <;> simp [htd, hasL] at h
        | arr n e =>
          cases hte : env.td e with
          | none => simp [htd, hte] at h
          | some te => cases te <;> cases n <;> simp [htd, hte, hasL, List.replicate] at h
        | _ => simp [htd] at h <;> simp [htd]
    | pair h1 h2 =>
      have hn := NilTo.pair h1 h2
      unfold hasTy at h ⊢
      cases htd : env.td t with
      | none => simp [htd] at h
      | some td =>
        cases td with
        | struct fs => simp only [htd] at h ⊢; exact hl fs hn h
        | arr n e =>
          simp only [htd] at h ⊢
          cases hte : env.td e with
          | none => simp [hte] at h
          | some te =>
            cases te
            case int kk => simp [hte] at h
            all_goals
              simp only [hte] at h ⊢
              exact hl _ hn h
        | _ => simp [htd] at h

inductive NilC (k : Nat) : Cont → Cont → Prop where
  | refl (c : Cont) : NilC k c c
  | var {v v' : AVal} : NilTo k v v' → NilC k (.var v) (.var v')

theorem NilC.keys {c c' : Cont} (h : NilC k c c') : ∀ j, j ∈ c'.keys → j ∈ c.keys ∨ j = k := by
  cases h with
  | refl => exact fun j hj => .inl hj
  | var h => exact h.keys

theorem BlkOk.nilC {e : Nat} {pl pk : Place} (hp : pk.root = .row e ∧ pk.len = 0) {root : Root} {c c' : Cont} (hn : NilC k c c') (hk : k ∉ c.keys) (h : BlkOk env ρ Z w pl ⟨root, c⟩) : BlkOk env (ρ.put k pk) Z w pl ⟨root, c'⟩ := by
  cases hn with
  | refl => exact h.congr fun j hj => PMap.put_other ρ pk fun e => hk (e ▸ hj)
  | @var v v' hn =>
    refine ⟨h.root, fun hm => ?_, h.own, h.there, fun hm => ?_⟩
    · obtain ⟨cs, h1, h2, h3⟩ := h.cells hm
      refine ⟨cs, ?_, h2, h3⟩
      cases root with
      | var t =>
        obtain ⟨⟨d, g1⟩, g2⟩ := h1
        exact ⟨⟨d, hasTy_nilTo d t hn g1⟩, hn.rep hp hk _ g2⟩
      | row e => exact h1.elim
      | map a b => exact h1.elim
    · obtain ⟨kt, vt, es, -, -, -, -, -, -, hq⟩ := h.map hm
      exact hq.elim

theorem Sync.nilRow (hs : Sync env Z0 Z ρ0 H0 w0 nb S ρ a w) {e : Nat} {c : Cont} {T : St} (hk0 : S.heap k = none) (hk1 : k < 256) (hk2 : nb ≤ k) (hd : ∃ d, env.td e = some d) (hc : c.elems = []) (hcv : c.isVar = false) (hg : c.good) (hck : c.keys = [])
    (hu : T.used = S.used) (hl : T.tmps.length = S.tmps.length) (ht : ∀ t v', getL T.tmps t = some v' → ∃ v, getL S.tmps t = some v ∧ NilTo k v v' ∧ k ∉ v.keys)
    (hT : T.heap k = some ⟨.row e, c⟩) (hH : ∀ j b', j ≠ k → T.heap j = some b' → ∃ b, S.heap j = some b ∧ b'.root = b.root ∧ NilC k b.c b'.c ∧ k ∉ b.c.keys) :
    Sync env Z0 Z ρ0 H0 w0 nb T (ρ.put k ⟨0, 0, 0, .row e, 0⟩) a w := by
  have hp : (⟨0, 0, 0, .row e, 0⟩ : Place).root = .row e ∧ (⟨0, 0, 0, .row e, 0⟩ : Place).len = 0 := ⟨rfl, rfl⟩
  generalize hpl : (⟨0, 0, 0, .row e, 0⟩ : Place) = pl at *
  have hlo : pl.lo = 0 := by rw [← hpl]
  have hhi : pl.hi = 0 := by rw [← hpl]
  have hbl : pl.block = 0 := by rw [← hpl]
  have hput : ∀ j, j ≠ k → ρ.put k pl j = ρ j := fun j hj => PMap.put_other ρ pl hj
  have hkk : ρ.put k pl k = pl := PMap.put_same ρ k pl
  have hkn : known S.used k := .inl hk1
  refine ⟨⟨by rw [hl]; exact hs.pre.size, fun t v' hv => ?_, ⟨fun j b hb => ?_, fun j j' b b' hne hb hb' => ?_, fun j b hb => ?_, hs.pre.heap.zone, hs.pre.heap.pos, hs.pre.heap.gok⟩, fun j b hb => ?_⟩, hs.keep, fun j b hb i h1 h2 => ?_, fun j hj => ?_, hs.nb, hs.defers, hs.grow⟩
  · obtain ⟨v, g1, g2, g3⟩ := ht t v' hv
    obtain ⟨q1, q2⟩ := hs.pre.tmps t v g1
    refine ⟨?_, fun j hj => ?_⟩
    · unfold RepV at *
      rw [g2.agg]
      cases hq : v.isAgg <;> simp only [hq] at q1 ⊢
      · exact g2.rep hp g3 _ q1
      · obtain ⟨ar, e1, q1⟩ := q1
        exact ⟨ar, e1, g2.rep hp g3 _ q1⟩
    · rw [hu]
      rcases g2.keys j hj with h | rfl
      · exact q2 j h
      · exact hkn
  · by_cases hj : j = k
    · subst hj
      rw [hT] at hb; cases hb
      rw [hkk]
      refine ⟨hp.1, fun _ => ⟨[], ?_, fun i c h => by simp at h, by rw [hlo, hhi]; simp⟩, fun _ i h1 h2 => by omega, by rw [hbl]; exact hs.pre.heap.pos, fun h => by cases h⟩
      have : (∃ d, env.td e = some d) ∧ c.elems.length = pl.len ∧ RepEl env (ρ.put j pl) Z e c.elems [] ∧ c.good := ⟨hd, by rw [hc, hp.2]; rfl, by rw [hc]; simp [RepEl], hg⟩
      cases c <;> first | exact this | simp [Cont.isVar] at hcv
    · obtain ⟨b0, g1, g2, g3, g4⟩ := hH j b hj hb
      rw [hput j hj]
      obtain ⟨root, c'⟩ := b
      obtain ⟨root0, c0⟩ := b0
      simp only at g2 g3 g4
      subst g2
      exact BlkOk.nilC hp g3 g4 (hs.pre.heap.blk j _ g1)
  · intro i h1 h2 h3 h4 h5
    by_cases hj : j = k
    · subst hj; rw [hkk] at h2 h3; omega
    · by_cases hj' : j' = k
      · subst hj'; rw [hkk] at h4 h5; omega
      · rw [hput j hj] at h1 h2 h3
        rw [hput j' hj'] at h1 h4 h5
        obtain ⟨b0, g1, -⟩ := hH j b hj hb
        obtain ⟨b1, g1', -⟩ := hH j' b' hj' hb'
        exact hs.pre.heap.dis j j' _ _ hne g1 g1' i h1 h2 h3 h4 h5
  · intro i h1 h2
    by_cases hj : j = k
    · subst hj; rw [hkk] at h1 h2; omega
    · rw [hput j hj] at h1 h2 ⊢
      obtain ⟨b0, g1, -⟩ := hH j b hj hb
      exact hs.pre.heap.zdis j _ g1 i h1 h2
  · rw [hu]
    by_cases hj : j = k
    · subst hj
      rw [hT] at hb; cases hb
      exact ⟨hkn, fun i hi => by rw [hck] at hi; cases hi⟩
    · obtain ⟨b0, g1, g2, g3, g4⟩ := hH j b hj hb
      obtain ⟨q1, q2⟩ := hs.pre.keysH j b0 g1
      refine ⟨q1, fun i hi => ?_⟩
      rcases g3.keys i hi with h | rfl
      · exact q2 i h
      · exact hkn
  · by_cases hj : j = k
    · subst hj; rw [hkk] at h1 h2; omega
    · rw [hput j hj] at h1 h2 ⊢
      obtain ⟨b0, g1, -⟩ := hH j b hj hb
      exact hs.reg j b0 g1 i h1 h2
  · rw [hput j (by omega)]
    exact hs.old j hj
end
end Go.Abs

namespace Go.Abs

structure Own where
  b : Nat
  o : Nat
  cap : Nat
  vals : List Int

def Own.has (x : Own) (b o : Nat) : Prop := b = x.b ∧ x.o ≤ o ∧ o < x.o + x.cap

structure OwnOk (n0 : Nat) (x : Own) (Z : Zone) (ρ : PMap) (H : Heap) (w : World) : Prop where
  len : x.vals.length ≤ x.cap
  cells : ∀ (i : Nat) (v : Int), x.vals[i]? = some v → w.cell? ⟨x.b, x.o + i, none⟩ = some (.int .i64 v)
  there : ∀ b i, x.has b i → (w.cell? ⟨b, i, none⟩).isSome = true ∧ w.frozen? ⟨b, i, none⟩ = false
  fresh : ∀ b i, x.has b i → n0 ≤ b ∧ b < w.heap.size
  zone : ∀ b i, x.has b i → Z b i = none
  heap : ∀ b i, x.has b i → ¬ inReg ρ H b i

structure OwnsOk (n0 : Nat) (X : List Own) (Z : Zone) (ρ : PMap) (H : Heap) (w : World) : Prop where
  all : ∀ x, x ∈ X → OwnOk n0 x Z ρ H w
  dis : ∀ (i j : Nat) (x y : Own), X[i]? = some x → X[j]? = some y → i ≠ j → ∀ b o, x.has b o → y.has b o → False

def sideX (n0 : Nat) : Side (List Own) := OwnsOk n0

section
variable {P : Program} {env : Env} {ρ ρ' ρ0 : PMap} {Z Z' Z0 : Zone} {nb n0 : Nat} {H H0 : Heap} {a a' : Act} {w w' w0 : World} {S S' : St}

/-- What the evaluator does not reach stays as it is. -/
theorem OwnOk.step {x : Own} (h : OwnOk n0 x Z ρ H w) {R : Nat → Nat → Prop} (hR : ∀ b i, x.has b i → ¬ R b i) (hk : Keeps R w w') (hg : Grow R w Z Z') (hh : ∀ b i, x.has b i → ¬ inReg ρ' S'.heap b i) : OwnOk n0 x Z' ρ' S'.heap w' := by
  refine ⟨h.len, fun i v hv => ?_, fun b i hb => ?_, fun b i hb => ⟨(h.fresh b i hb).1, Nat.lt_of_lt_of_le (h.fresh b i hb).2 hk.size⟩, fun b i hb => ?_, hh⟩
  · have hi := (List.getElem?_eq_some_iff.1 hv).1
    have := h.len
    exact hk.cell (h.cells i v hv) (hR _ _ ⟨rfl, by omega, by omega⟩)
  · exact ⟨hk.cellSome (h.there b i hb).1, by rw [hk.frozen (h.fresh b i hb).2]; exact (h.there b i hb).2⟩
  · cases hz : Z' b i with
    | none => rfl
    | some c =>
      rcases hg.new b i (h.zone b i hb) (by rw [hz]; simp) with h1 | h1
      · have := (h.fresh b i hb).2; omega
      · exact (hR b i hb h1).elim

theorem sideX_ok : SideOk env nb (sideX n0) := by
  intro X Z Z' ρ ρ' H S' a' w w' hj hs
  refine ⟨fun x hx => (hj.all x hx).step (hj.all x hx).heap hs.keep hs.grow fun b i hb hr => ?_, hj.dis⟩
  obtain ⟨k, B, g1, rfl, g3, g4⟩ := hr
  rcases hs.reg k B g1 i g3 g4 with h | h
  · have := ((hj.all x hx).fresh _ i hb).2; omega
  · exact (hj.all x hx).heap _ i hb h

theorem sideX_nil {Z : Zone} {ρ : PMap} {H : Heap} {w : World} : sideX n0 [] Z ρ H w := ⟨fun x hx => (by cases hx), fun i j x y hx => by simp at hx⟩

/-! ### a tuple's last part -/
theorem RepC_last {vs : List AVal} {u : AVal} {cs : List Value} : RepC env ρ Z (AVal.ofList (vs ++ [u])) cs ↔ ∃ c1 c2, cs = c1 ++ c2 ∧ RepC env ρ Z (AVal.ofList vs) c1 ∧ RepC env ρ Z u c2 := by
  induction vs generalizing cs with
  | nil =>
    simp only [List.nil_append, AVal.ofList, RepC]
    constructor
    · rintro ⟨c1, c2, rfl, h1, h2⟩; subst h2; exact ⟨[], c1, by simp, rfl, h1⟩
    · rintro ⟨c1, c2, rfl, h1, h2⟩; subst h1; exact ⟨c2, [], by simp, h2, rfl⟩
  | cons v vs ih =>
    simp only [List.cons_append, AVal.ofList, RepC]
    constructor
    · rintro ⟨c1, c2, rfl, h1, h2⟩
      obtain ⟨d1, d2, rfl, g1, g2⟩ := ih.1 h2
      exact ⟨c1 ++ d1, d2, by simp, ⟨c1, d1, rfl, h1, g1⟩, g2⟩
    · rintro ⟨c1, c2, rfl, ⟨d1, d2, rfl, g1, g2⟩, h2⟩
      exact ⟨d1, d2 ++ c2, by simp, g1, ih.2 ⟨d2, c2, rfl, g2, h2⟩⟩


/-! ### a block, and more, that is only read from now on -/
theorem Sync.frzP (hs : Sync env Z0 Z ρ0 H0 w0 nb S ρ a w) {R : Nat → Nat → Prop} {k : Nat} {x : AVal} {B : Blk} (hk : S.heap k = some B) (hR1 : ∀ b o, R b o → w0.heap.size ≤ b ∨ inReg ρ0 H0 b o)
    (hR2 : ∀ j b, j ≠ k → S.heap j = some b → ∀ i, (ρ j).lo ≤ i → i < (ρ j).hi → ¬ R (ρ j).block i) (hx : ∀ cs, RepC env ρ Z (.sw k) cs → RepC env ρ (zoneP Z w R) x cs) (hag : x.isAgg = false) (hkx : x.keys = [])
    (ht : ∀ d t e, env.td t = some (.slice e) → hasTy env (d + 1) t x = true) : Sync env Z0 (zoneP Z w R) ρ0 H0 w0 nb (S.frz k x) ρ a w := by
  refine ⟨⟨?_, fun t v hv => ?_, ?_, fun j b hb => ?_⟩, hs.keep, fun j b hb => ?_, hs.old, hs.nb, hs.defers, ⟨hs.grow.g, fun b o c h => zone1_le _ _ _ (hs.grow.le b o c h), fun b o g1 g2 => ?_⟩⟩
  · simp only [St.frz, List.length_map]; exact hs.pre.size
  · obtain ⟨u, hu, rfl⟩ := getL_map hv
    obtain ⟨g1, g2⟩ := hs.pre.tmps t u hu
    exact ⟨RepV_swap hx hag rfl zone1_le g1, fun j hj => g2 j (swapV_keys hkx u j hj)⟩
  · refine ⟨fun j b hb => ?_, fun j j' b b' hne hb hb' => ?_, fun j b hb i h1 h2 => ?_, fun b o v hz => zone1_cell hs.pre.heap.zone hz, hs.pre.heap.pos, hs.pre.heap.gok.grow rfl zone1_le⟩
    · obtain ⟨-, b', g1, rfl⟩ := frz_inv hb
      exact (hs.pre.heap.blk j b' g1).swap hx hag ht rfl zone1_le
    · obtain ⟨-, c, g1, -⟩ := frz_inv hb
      obtain ⟨-, c', g1', -⟩ := frz_inv hb'
      exact hs.pre.heap.dis j j' c c' hne g1 g1'
    · obtain ⟨g0, c, g1, -⟩ := frz_inv hb
      cases hz : zoneP Z w R (ρ j).block i with
      | none => rfl
      | some v => exact (hR2 j c g0 g1 i h1 h2 (zone1_new (hs.pre.heap.zdis j c g1 i h1 h2) (by rw [hz]; simp))).elim
  · obtain ⟨-, b', g1, rfl⟩ := frz_inv hb
    obtain ⟨g2, g3⟩ := hs.pre.keysH j b' g1
    exact ⟨g2, fun i hi => g3 i (swapC_keys hkx b'.c i hi)⟩
  · obtain ⟨-, b', g1, rfl⟩ := frz_inv hb
    exact hs.reg j b' g1
  · cases hz : Z b o with
    | some c => exact hs.grow.new b o g1 (by rw [hz]; simp)
    | none => exact hR1 b o (zone1_new hz g2)

/-- A variable's content, taken for more. -/
theorem Sync.leVar (hs : Sync env Z0 Z ρ0 H0 w0 nb S ρ a w) {k : Nat} {root : Root} {v v' : AVal} {T : St} (hk : S.heap k = some ⟨root, .var v⟩) (hl : AVal.Le v v') (ht : T.tmps = S.tmps) (hu : T.used = S.used)
    (hT : T.heap k = some ⟨root, .var v'⟩) (hH : ∀ j, j ≠ k → T.heap j = S.heap j) : Sync env Z0 Z ρ0 H0 w0 nb T ρ a w := by
  have hp := hs.pre.heap
  have hB := hp.blk k _ hk
  have hB' : BlkOk env ρ Z w (ρ k) ⟨root, .var v'⟩ := by
    refine ⟨hB.root, fun hm => ?_, hB.own, hB.there, fun hm => ?_⟩
    · obtain ⟨cs, h1, h2, h3⟩ := hB.cells hm
      refine ⟨cs, ?_, h2, h3⟩
      cases root with
      | var t => exact ⟨h1.1.le hl, hl.rep h1.2⟩
      | row e => exact h1.elim
      | map a b => exact h1.elim
    · obtain ⟨kt, vt, es, -, -, -, -, -, -, hq⟩ := hB.map hm
      exact hq.elim
  have ex : ∀ j b, T.heap j = some b → ∃ b', S.heap j = some b' ∧ (j ≠ k → b = b') := fun j b hb => by
    by_cases hj : j = k
    · exact ⟨_, hj ▸ hk, fun h => (h hj).elim⟩
    · rw [hH j hj] at hb; exact ⟨b, hb, fun _ => rfl⟩
  refine ⟨⟨by rw [ht]; exact hs.pre.size, fun t v h => ?_, ⟨fun j b hb => ?_, fun j j' b b' hne hb hb' => ?_, fun j b hb => ?_, hp.zone, hp.pos, hp.gok⟩, fun j b hb => ?_⟩, hs.keep, fun j b hb => ?_, hs.old, hs.nb, hs.defers, hs.grow⟩
  · rw [ht] at h; rw [hu]; exact hs.pre.tmps t v h
  · by_cases hj : j = k
    · subst hj; rw [hT] at hb; cases hb; exact hB'
    · rw [hH j hj] at hb; exact hp.blk j b hb
  · obtain ⟨c, h1, -⟩ := ex j b hb
    obtain ⟨c', h1', -⟩ := ex j' b' hb'
    exact hp.dis j j' c c' hne h1 h1'
  · obtain ⟨c, h1, -⟩ := ex j b hb
    exact hp.zdis j c h1
  · rw [hu]
    by_cases hj : j = k
    · subst hj; rw [hT] at hb; cases hb
      obtain ⟨g1, g2⟩ := hs.pre.keysH j _ hk
      exact ⟨g1, fun i hi => g2 i (hl.keys i hi)⟩
    · rw [hH j hj] at hb; exact hs.pre.keysH j b hb
  · obtain ⟨c, h1, -⟩ := ex j b hb
    exact hs.reg j c h1
end
end Go.Abs

set_option maxRecDepth 1000000
namespace Go.Abs
open Go.Proofs

noncomputable def evG {γ : Type} (l : List (Nat × Ctr)) (hooks : Hooks γ) (f n nb fuel : Nat) (c : Code) : HkG γ := evalCodeS env (tabF l n) nb (liveOf f) hooks fuel c
noncomputable def runS (l : List (Nat × Ctr)) (hooks : Hooks (List Own)) (f n fuel : Nat) (us : List AVal) (bs : List Blk) (K : AVal → List (Nat × Blk) → Prop) : Prop := match fnsOf f with
  | some (fn, body) => evalFnH (fun nb S K => evalCodeS env (tabF l n) nb (liveOf f) hooks fuel body S [] fun e S _ => K e S) fn env us bs K
  | none => False

section
variable {P : Program} {env : Env} {ρ ρ0 : PMap} {Z Z0 : Zone} {nb : Nat} {H0 : Heap} {a : Act} {w w0 : World} {S : St} {γ : Type} {J : Side γ} {hooks : Hooks γ}

/-- A loop that is shown by hand. -/
def LoopG (P : Program) (env : Env) (Z0 : Zone) (ρ0 : PMap) (H0 : Heap) (w0 : World) (nb : Nat) (J : Side γ) (hooks : Hooks γ) (p : Nat × Code) : Prop := match hooks.loop p.1 with
  | some hk => SoundG P env Z0 ρ0 H0 w0 nb J (.loop p.2) hk
  | none => True

/-- Loops alone are shown by hand. -/
theorem hooks_loops (hr : ∀ id, hooks.reg id = none) : ∀ (c : Code), AllL (LoopG P env Z0 ρ0 H0 w0 nb J hooks) (loopsOf c) → HooksOk P env Z0 ρ0 H0 w0 nb J hooks c := by
  intro c
  induction c with
  | seq a b iha ihb => intro h; exact ⟨iha (allL_app h).1, ihb (allL_app h).2⟩
  | cond c a b iha ihb => intro h; exact ⟨iha (allL_app h).1, ihb (allL_app h).2⟩
  | block id a ih => intro h; exact ih h
  | loop a ih =>
    intro h
    simp only [loopsOf] at h
    simp only [HooksOk]
    cases hq : firstRegion a with
    | none => rw [hq] at h; exact ih h
    | some r =>
      rw [hq] at h
      obtain ⟨h1, h2⟩ := h
      simp only [LoopG] at h1
      simp only
      cases hl : hooks.loop r with
      | none => exact ih h2
      | some hk => rw [hl] at h1; exact h1
  | region id ops draw => intro h; simp only [HooksOk, hr]
  | _ => intro h; trivial

def regsAt (id : Nat) : Code → List Code
  | .seq a b => regsAt id a ++ regsAt id b
  | .cond _ a b => regsAt id a ++ regsAt id b
  | .block _ a => regsAt id a
  | .loop a => regsAt id a
  | .region i ops d => match Nat.beq i id with
    | true => [.region i ops d]
    | false => []
  | _ => []

/-- One region alone is shown by hand. -/
theorem hooks_reg {id : Nat} {hk : HkG γ} : ∀ (c : Code), AllL (fun c' => SoundG P env Z0 ρ0 H0 w0 nb J c' hk) (regsAt id c) → HooksOk P env Z0 ρ0 H0 w0 nb J ⟨fun _ => none, fun i => match Nat.beq i id with
    | true => some hk
    | false => none⟩ c := by
  intro c
  induction c with
  | seq a b iha ihb => intro h; exact ⟨iha (allL_app h).1, ihb (allL_app h).2⟩
  | cond c a b iha ihb => intro h; exact ⟨iha (allL_app h).1, ihb (allL_app h).2⟩
  | block id a ih => intro h; exact ih h
  | loop a ih =>
    intro h
    simp only [HooksOk]
    cases hq : firstRegion a with
    | none => exact ih h
    | some r => exact ih h
  | region i ops draw =>
    intro h
    simp only [HooksOk]
    simp only [regsAt] at h
    cases hb : Nat.beq i id with
    | true => rw [hb] at h; exact h.1
    | false => trivial
  | _ => intro h; trivial

theorem Sync.drop (hs : Sync env Z0 Z ρ0 H0 w0 nb S ρ a w) {T : St} (hl : T.tmps.length = S.tmps.length) (ht : ∀ t v, getL T.tmps t = some v → getL S.tmps t = some v ∧ ∀ k, k ∈ v.keys → known T.used k)
    (hh : ∀ k b, T.heap k = some b → S.heap k = some b ∧ known T.used k ∧ ∀ k', k' ∈ b.c.keys → known T.used k') : Sync env Z0 Z ρ0 H0 w0 nb T ρ a w := by
  have hp := hs.pre.heap
  refine ⟨⟨by rw [hl]; exact hs.pre.size, fun t v h => ⟨(hs.pre.tmps t v (ht t v h).1).1, (ht t v h).2⟩, ⟨fun k b h => hp.blk k b (hh k b h).1, fun k k' b b' hne h h' => hp.dis k k' b b' hne (hh k b h).1 (hh k' b' h').1, fun k b h => hp.zdis k b (hh k b h).1, hp.zone, hp.pos, hp.gok⟩, fun k b h => (hh k b h).2⟩, hs.keep, fun k b h => hs.reg k b (hh k b h).1, hs.old, hs.nb, hs.defers, hs.grow⟩
end

theorem ctr_of_G {l : List (Nat × Ctr)} (hl : AllOk l) {f n : Nat} {c : Ctr} (hd : ∀ us bs, Det fun (K : Out → Prop) => c.run us bs fun v h => K ⟨v, h⟩)
    (h : ∀ {us : List AVal} {bs : List Blk} {K : AVal → List (Nat × Blk) → Prop}, c.run us bs K → ∃ (hooks : Hooks (List Own)) (fuel : Nat), (∀ id, hooks.reg id = none) ∧
      (∀ {ρ : PMap} {Z : Zone} {w : World}, AllL (LoopG Tryz.prog env Z ρ (ofBlks 0 bs) w bs.length (sideX w.heap.size) hooks) (loopsOf (bodyF f))) ∧ runS l hooks f n fuel us bs K) : CtrOk Tryz.prog env f c := by
  refine ⟨fun {ρ Z w us bs xs K} hh hx hk hb hr => ?_, hd⟩
  obtain ⟨hooks, fuel, h1, h2, h3⟩ := h hr
  have hC := tabN_ok env_ok mixed (tabL_ok hl) (live := liveOf) (fuel := 5000) fnsOf_ok n
  unfold runS at h3
  unfold bodyF at h2
  cases hf : fnsOf f with
  | none => rw [hf] at h3; exact h3.elim
  | some p =>
    obtain ⟨fn, body⟩ := p
    rw [hf] at h3 h2
    obtain ⟨g1, g2, g3⟩ := fnsOf_ok f fn body hf
    have hso : SoundG Tryz.prog env Z ρ (ofBlks 0 bs) w bs.length (sideX w.heap.size) body (evalCodeS env (tabF l n) bs.length (liveOf f) hooks fuel body) := by
      have h0 := hooks_loops h1 body (h2 (ρ := ρ) (Z := Z) (w := w))
      intro S g Z' ρ' a w' KK Q hQ hs hj hev
      exact codeG_sound (J := sideX w.heap.size) sideX_ok hC env_ok mixed body h0 hQ hs hj hev
    have hat : SoundAt Tryz.prog env Z ρ (ofBlks 0 bs) w bs.length body (fun S K => evalCodeS env (tabF l n) bs.length (liveOf f) hooks fuel body S [] fun e S _ => K e S) := by
      intro S Z' ρ' a w' KK Q hQ hs hev
      exact SoundG.at hso (fun Z ρ H w => sideX_nil) hQ hs hev
    exact fnH_run (ev := fun nb S K => evalCodeS env (tabF l n) nb (liveOf f) hooks fuel body S [] fun e S _ => K e S) env_ok g1 g2 g3 hat hh hx hk hb h3

attribute [irreducible] runS evG
end Go.Abs

namespace Go.Abs

/-! ### values whose new slices are only read -/
def dfltT : (t : VT) → t.ty
  | .hash => hash0
  | .comm => comm0
  | .seen => ⟨0, 0, 0, hash0, 0, 0, [], comm0, [], [], hash0, List.replicate 64 (zeroT .u8), 0, []⟩
  | .acct => ⟨hash0, [], [], false, List.replicate 64 (zeroT .u8), false, 0, [], []⟩

def frzV (n : Nat) (h : Heap) : AVal → Option AVal
  | .sw k => match Nat.blt k n with
    | true => some (.sw k)
    | false => match h k with
      | some ⟨.row _, .ints kd l⟩ => some (.vw kd l)
      | some ⟨.row e, .recs c l⟩ => match c.vt with
        | some vt => some (.vr vt.1 e (encT vt.1) (dfltT vt.1) (vt.2.1 l))
        | none => none
      | _ => none
  | .pair a b => match frzV n h a with
    | some a' => match frzV n h b with
      | some b' => some (.pair a' b')
      | none => none
    | none => none
  | .tcons a b => match frzV n h a with
    | some a' => match frzV n h b with
      | some b' => some (.tcons a' b')
      | none => none
    | none => none
  | .ptr k p => match Nat.blt k n with
    | true => some (.ptr k p)
    | false => none
  | .int k x => some (.int k x)
  | .bool b => some (.bool b)
  | .str s => some (.str s)
  | .arr k m l => some (.arr k m l)
  | .unit => some .unit
  | .nilptr => some .nilptr
  | .nilsl => some .nilsl
  | .vw k l => some (.vw k l)
  | .vr tg e enc d l => some (.vr tg e enc d l)
  | .vp v => some (.vp v)
  | .nilIface => some .nilIface
  | .nilfn => some .nilfn
  | .tnil => some .tnil
  | .gp i => some (.gp i)
  | .th t => some (.th t)
  | .nilmap => some .nilmap
  | _ => none

def lowH (n : Nat) : List (Nat × Blk) → List (Nat × Blk)
  | [] => []
  | (k, b) :: l => match Nat.blt k n with
    | true => (k, b) :: lowH n l
    | false => lowH n l

section
variable {P : Program} {env : Env} {ρ : PMap} {Z : Zone} {w : World} {H : Heap}

theorem lowH_look {n k : Nat} : ∀ {l : List (Nat × Blk)} {b : Blk}, lookL (lowH n l) k = some b → k < n ∧ lookL l k = some b
  | [], b, h => by cases h
  | (j, c) :: l, b, h => by
    simp only [lowH] at h
    cases hq : Nat.blt j n with
    | true =>
      rw [hq] at h
      simp only [lookL] at h ⊢
      cases hb : Nat.beq k j with
      | true =>
        rw [hb] at h
        have := beq_eq hb; subst this
        exact ⟨Nat.le_of_ble_eq_true hq, h⟩
      | false => rw [hb] at h; exact lowH_look h
    | false =>
      rw [hq] at h
      obtain ⟨h1, h2⟩ := lowH_look h
      refine ⟨h1, ?_⟩
      simp only [lookL]
      have : Nat.beq k j = false := beq_false_of_ne fun e => by
        subst e
        have : Nat.blt k n = true := Nat.ble_eq_true_of_le h1
        rw [this] at hq; cases hq
      rw [this]; exact h2

/-- The cells of the blocks from n on. -/
def highReg (ρ : PMap) (H : Heap) (n b o : Nat) : Prop := ∃ k B, H k = some B ∧ n ≤ k ∧ B.root.isMap = false ∧ (ρ k).block = b ∧ (ρ k).lo ≤ o ∧ o < (ρ k).hi
noncomputable def pickP (p : Prop) (x : Option Value) : Option Value := by
  classical exact if p then x else none
theorem pickP_pos {p : Prop} {x : Option Value} (h : p) : pickP p x = x := by simp [pickP, h]
theorem pickP_neg {p : Prop} {x : Option Value} (h : ¬ p) : pickP p x = none := by simp [pickP, h]
/-- Their cells are only read from now on. -/
noncomputable def frzZ (ρ : PMap) (Z : Zone) (w : World) (H : Heap) (n : Nat) : Zone := ⟨fun b o => match Z b o with
  | some c => some c
  | none => pickP (highReg ρ H n b o) (w.cell? ⟨b, o, none⟩), Z.g⟩

theorem frzZ_le {n : Nat} : Zle Z (frzZ ρ Z w H n) := fun b o c h => by
  show (match Z b o with
    | some c => some c
    | none => _) = some c
  rw [h]
theorem frzZ_new {n b o : Nat} (h : Z b o = none) (h' : frzZ ρ Z w H n b o ≠ none) : highReg ρ H n b o := by
  have e : frzZ ρ Z w H n b o = (match Z b o with
    | some c => some c
    | none => pickP (highReg ρ H n b o) (w.cell? ⟨b, o, none⟩)) := rfl
  rw [e, h] at h'
  by_cases hr : highReg ρ H n b o
  · exact hr
  · simp [pickP_neg hr] at h'
theorem frzZ_cell (hz : ∀ b o v, Z b o = some v → w.cell? ⟨b, o, none⟩ = some v) {n b o : Nat} {v : Value} (h : frzZ ρ Z w H n b o = some v) : w.cell? ⟨b, o, none⟩ = some v := by
  have e : frzZ ρ Z w H n b o = (match Z b o with
    | some c => some c
    | none => pickP (highReg ρ H n b o) (w.cell? ⟨b, o, none⟩)) := rfl
  rw [e] at h
  cases hzz : Z b o with
  | some c => rw [hzz] at h; cases h; exact hz b o _ hzz
  | none =>
    rw [hzz] at h
    by_cases hr : highReg ρ H n b o
    · simpa [pickP_pos hr] using h
    · simp [pickP_neg hr] at h
theorem frzZ_high (hh : HeapOk env ρ Z w H) {n k i : Nat} {B : Blk} {v : Value} (hk : H k = some B) (hn : n ≤ k) (hm : B.root.isMap = false) (h1 : (ρ k).lo ≤ i) (h2 : i < (ρ k).hi) (hc : w.cell? ⟨(ρ k).block, i, none⟩ = some v) : frzZ ρ Z w H n (ρ k).block i = some v := by
  have e : frzZ ρ Z w H n (ρ k).block i = (match Z (ρ k).block i with
    | some c => some c
    | none => pickP (highReg ρ H n (ρ k).block i) (w.cell? ⟨(ρ k).block, i, none⟩)) := rfl
  rw [e, hh.zdis k B hk i h1 h2]
  simp only
  rw [pickP_pos ⟨k, B, hk, hn, hm, rfl, h1, h2⟩]
  exact hc

theorem GOk.le {Z' : Zone} (h : GOk env Z w) (hg : Z'.g = Z.g) (hz : Zle Z Z') : GOk env Z' w := by
  refine ⟨fun id t v hid => ?_, fun id hid => by rw [hg]; exact h.glob id hid, fun i j => by rw [hg]; exact h.inj i j, fun id => by rw [hg]; exact h.cells id⟩
  obtain ⟨h1, ecs, h2, h3⟩ := h.cont id t v hid
  exact ⟨h1, ecs, fun ρ => (h2 ρ).zone hg fun _ => hz, fun j c hj => by rw [hg]; exact hz _ _ _ (h3 j c hj)⟩

theorem frz_heap (hh : HeapOk env ρ Z w H) (n : Nat) {H' : Heap} (hl : ∀ k b, H' k = some b → k < n ∧ H k = some b) : HeapOk env ρ (frzZ ρ Z w H n) w H' := by
  refine ⟨fun k b hb => BlkOk.zone (Z := Z) (Z' := frzZ ρ Z w H n) rfl frzZ_le (hh.blk k b (hl k b hb).2), fun k k' b b' hne hb hb' => hh.dis k k' b b' hne (hl k b hb).2 (hl k' b' hb').2, fun k b hb i h1 h2 => ?_, fun b o v hz => frzZ_cell hh.zone hz, hh.pos, hh.gok.le rfl frzZ_le⟩
  cases hz : frzZ ρ Z w H n (ρ k).block i with
  | none => rfl
  | some c =>
    obtain ⟨k', B, g1, g2, g3, g4, g5, g6⟩ := frzZ_new (hh.zdis k b (hl k b hb).2 i h1 h2) (by rw [hz]; simp)
    have hlt := (hl k b hb).1
    exact (hh.dis k k' b B (by omega) (hl k b hb).2 g1 i g4.symm h1 h2 g5 g6).elim

theorem frz_rep (he : SzOk env) (hh : HeapOk env ρ Z w H) (n : Nat) : ∀ (v : AVal),
    (∀ v' cs, frzV n H v = some v' → RepC env ρ Z v cs → RepC env ρ (frzZ ρ Z w H n) v' cs ∧ v'.isAgg = v.isAgg) ∧ (∀ v' cs, frzV n H v = some v' → RepA env ρ Z v cs → RepA env ρ (frzZ ρ Z w H n) v' cs) := by
  have same : ∀ v : AVal, (∀ cs, RepC env ρ Z v cs → RepC env ρ (frzZ ρ Z w H n) v cs) ∧ (∀ cs, RepA env ρ Z v cs → RepA env ρ (frzZ ρ Z w H n) v cs) := fun v =>
    ⟨fun cs h => (RepCA_zone (Z := Z) (Z' := frzZ ρ Z w H n) (ρ := ρ) (env := env) rfl v).1 cs (fun _ => frzZ_le) h, fun cs h => (RepCA_zone (Z := Z) (Z' := frzZ ρ Z w H n) (ρ := ρ) (env := env) rfl v).2 cs (fun _ => frzZ_le) h⟩
  have keep : ∀ v v' : AVal, some v = some v' → (∀ cs, RepC env ρ Z v cs → RepC env ρ (frzZ ρ Z w H n) v' cs ∧ v'.isAgg = v.isAgg) ∧ (∀ cs, RepA env ρ Z v cs → RepA env ρ (frzZ ρ Z w H n) v' cs) := fun v v' e => by
    cases e
    exact ⟨fun cs h => ⟨(same v).1 cs h, rfl⟩, (same v).2⟩
  have one : ∀ (a a' : AVal) (x : Value), (∀ cs, RepC env ρ Z a cs → RepC env ρ (frzZ ρ Z w H n) a' cs ∧ a'.isAgg = a.isAgg) → a'.isAgg = a.isAgg → (match a.isAgg with
      | true => ∃ ar, x = .agg ar ∧ RepC env ρ Z a ar.toList
      | false => RepC env ρ Z a [x]) → (match a'.isAgg with
      | true => ∃ ar, x = .agg ar ∧ RepC env ρ (frzZ ρ Z w H n) a' ar.toList
      | false => RepC env ρ (frzZ ρ Z w H n) a' [x]) := fun a a' x h hag hx => by
    rw [hag]
    cases hq : a.isAgg <;> simp only [hq] at hx ⊢
    · exact (h _ hx).1
    · obtain ⟨ar, e, hx⟩ := hx
      exact ⟨ar, e, (h _ hx).1⟩
  have agg : ∀ (a a' : AVal), frzV n H a = some a' → a'.isAgg = a.isAgg := fun a a' h => by
    cases a with
    | pair x y => cases h1 : frzV n H x <;> cases h2 : frzV n H y <;> simp [frzV, h1, h2] at h; subst h; rfl
    | tcons x y => cases h1 : frzV n H x <;> cases h2 : frzV n H y <;> simp [frzV, h1, h2] at h; subst h; rfl
    | ptr k p => cases h1 : Nat.blt k n <;> simp [frzV, h1] at h; subst h; rfl
    | sw k =>
      cases h1 : Nat.blt k n with
      | true => simp [frzV, h1] at h; subst h; rfl
      | false =>
        simp only [frzV, h1] at h
        split at h <;> first | (cases h <;> rfl) | (split at h <;> cases h <;> rfl)
    | _ => simp [frzV] at h <;> (try subst h) <;> rfl
  intro v
  induction v with
  | pair a b iha ihb =>
    refine ⟨fun v' cs hf h => ?_, fun v' cs hf h => ?_⟩
    · cases h1 : frzV n H a with
      | none => simp [frzV, h1] at hf
      | some a' =>
        cases h2 : frzV n H b with
        | none => simp [frzV, h1, h2] at hf
        | some b' =>
          simp [frzV, h1, h2] at hf
          subst hf
          obtain ⟨c1, c2, rfl, g1, g2⟩ := h
          exact ⟨⟨c1, c2, rfl, (iha.1 a' c1 h1 g1).1, (ihb.1 b' c2 h2 g2).1⟩, rfl⟩
    · cases h1 : frzV n H a with
      | none => simp [frzV, h1] at hf
      | some a' =>
        cases h2 : frzV n H b with
        | none => simp [frzV, h1, h2] at hf
        | some b' =>
          simp [frzV, h1, h2] at hf
          subst hf
          obtain ⟨x, ys, rfl, g1, g2⟩ := h
          exact ⟨x, ys, rfl, one a a' x (fun cs hc => iha.1 a' cs h1 hc) (agg a a' h1) g1, ihb.2 b' ys h2 g2⟩
  | tcons a b iha ihb =>
    refine ⟨fun v' cs hf h => ?_, fun v' cs hf h => ?_⟩
    · cases h1 : frzV n H a with
      | none => simp [frzV, h1] at hf
      | some a' =>
        cases h2 : frzV n H b with
        | none => simp [frzV, h1, h2] at hf
        | some b' =>
          simp [frzV, h1, h2] at hf
          subst hf
          obtain ⟨vs, rfl, x, ys, e, g1, g2⟩ := h
          exact ⟨⟨vs, rfl, x, ys, e, one a a' x (fun cs hc => iha.1 a' cs h1 hc) (agg a a' h1) g1, ihb.2 b' ys h2 g2⟩, rfl⟩
    · cases h1 : frzV n H a with
      | none => simp [frzV, h1] at hf
      | some a' =>
        cases h2 : frzV n H b with
        | none => simp [frzV, h1, h2] at hf
        | some b' =>
          simp [frzV, h1, h2] at hf
          subst hf
          obtain ⟨x, ys, rfl, g1, g2⟩ := h
          exact ⟨x, ys, rfl, one a a' x (fun cs hc => iha.1 a' cs h1 hc) (agg a a' h1) g1, ihb.2 b' ys h2 g2⟩
  | ptr k p =>
    cases h1 : Nat.blt k n with
    | false => exact ⟨fun v' cs hf => by simp [frzV, h1] at hf, fun v' cs hf => by simp [frzV, h1] at hf⟩
    | true => exact ⟨fun v' cs hf h => (keep _ v' (by simpa [frzV, h1] using hf)).1 cs h, fun v' cs hf h => (keep _ v' (by simpa [frzV, h1] using hf)).2 cs h⟩
  | sw k =>
    refine ⟨fun v' cs hf h => ?_, fun v' cs hf h => by simp [RepA] at h⟩
    cases h1 : Nat.blt k n with
    | true => exact (keep _ v' (by simpa [frzV, h1] using hf)).1 cs h
    | false =>
      have hnk : n ≤ k := by
        rcases Nat.lt_or_ge k n with h0 | h0
        · have : Nat.blt k n = true := Nat.ble_eq_true_of_le h0
          rw [this] at h1; cases h1
        · exact h0
      simp only [frzV, h1] at hf
      obtain ⟨a, cap, e0, r0, rfl, hlc, hcap⟩ := h
      split at hf
      · rename_i e kd l hk
        cases hf
        have hB := hh.blk k _ hk
        obtain ⟨cs, b1, b2, b3⟩ := hB.cells rfl
        obtain ⟨b4, b5, b6, b7⟩ := b1
        have hlen : l.length = (ρ k).len := by simpa [Cont.elems] using b5
        refine ⟨⟨a, cap, by rw [hlen], by rw [hlen]; exact hlc, fun hne => ?_⟩, rfl⟩
        have hpos : 0 < l.length := List.length_pos_iff.2 hne
        obtain ⟨q1, q2⟩ := hcap (by omega)
        refine ⟨_, _, q1, fun i x hx => ?_⟩
        have hel : (Cont.ints kd l).elems[i]? = some (.int kd x) := by simp [Cont.elems, hx]
        obtain ⟨c1, c2, c3, g0, g1, g2, g3, -, -⟩ := b6.nth he hel
        simp only [RepC] at g2
        have hs1 : env.sz e = 1 := by rw [← g3.len he (show RepC env ρ Z (.int kd x) c2 by simp only [RepC]; exact g2), g2]; rfl
        rw [hs1, Nat.mul_one] at g1
        have hci : cs[i]? = some (.int kd (toI kd x)) := by rw [g0, g2]; simp [← g1]
        have hi : i < cs.length := (List.getElem?_eq_some_iff.1 hci).1
        exact frzZ_high hh hk hnk rfl (by omega) (by omega) (b2 i _ hci)
      · rename_i e c l hk
        split at hf
        case h_2 => cases hf
        rename_i vt hvt
        cases hf
        have hB := hh.blk k _ hk
        obtain ⟨cs, b1, b2, b3⟩ := hB.cells rfl
        obtain ⟨b4, b5, b6, b7⟩ := b1
        have hmap : (vt.2.1 l).map (encT vt.1) = l.map c.enc := (b7.2.2 vt hvt).1 l
        have hlen : (vt.2.1 l).length = (ρ k).len := by rw [← List.length_map (encT vt.1), hmap]; exact b5
        refine ⟨⟨rfl, a, cap, by rw [hlen], by rw [hlen]; exact hlc, fun hne => ?_⟩, rfl⟩
        have hpos : 0 < (vt.2.1 l).length := List.length_pos_iff.2 hne
        obtain ⟨q1, q2⟩ := hcap (by omega)
        refine ⟨_, _, q1, fun i x hx => ?_⟩
        have hel : (Cont.recs c l).elems[i]? = some (encT vt.1 x) := by
          show (l.map c.enc)[i]? = _
          rw [← hmap]; simp [hx]
        have hnk0 : (encT vt.1 x).keys = [] := by
          have hm : encT vt.1 x ∈ l.map c.enc := List.mem_of_getElem? hel
          obtain ⟨y, -, hy⟩ := List.mem_map.1 hm
          rw [← hy]; exact b7.2.1 y
        obtain ⟨c1, c2, c3, g0, g1, g2, g3, -, -⟩ := b6.nth he hel
        refine ⟨c2, (same _).1 _ g2, hnk0, g3.len he g2, fun j v hj => ?_⟩
        have hjl : j < c2.length := (List.getElem?_eq_some_iff.1 hj).1
        have hci : cs[i * env.sz e + j]? = some v := by
          rw [g0, List.append_assoc, List.getElem?_append_right (by omega), g1, show i * env.sz e + j - i * env.sz e = j by omega, List.getElem?_append_left hjl]
          exact hj
        have hi : i * env.sz e + j < cs.length := (List.getElem?_eq_some_iff.1 hci).1
        rw [Nat.add_assoc]
        exact frzZ_high hh hk hnk rfl (by omega) (by omega) (b2 _ _ hci)
      · cases hf
  | _ =>
    refine ⟨fun v' cs hf h => ?_, fun v' cs hf h => ?_⟩
    · first | exact (keep _ v' hf).1 cs h | cases hf
    · first | exact (keep _ v' hf).2 cs h | cases hf

/-- A contract whose new slices are only read from its end on. -/
def frzC (c : Ctr) : Ctr := ⟨fun us bs K => c.run us bs fun v h => ob (frzV bs.length (lookL h) v) fun v' => chk (allLt bs.length (keysB (lowH bs.length h))) (K v' (lowH bs.length h))⟩

theorem frz_ok (he : EnvOk P env) {f : Nat} {c : Ctr} (hc : CtrOk P env f c) : CtrOk P env f (frzC c) := by
  refine ⟨fun {ρ Z w us bs xs K} hh hx hk hkH hr => ?_, fun us bs => ?_⟩
  · refine (hc.run hh hx hk hkH hr).mono ?_
    rintro x w' ⟨v, h2, Z', ρ', hK, hgr, hres⟩
    obtain ⟨v', hv', hK⟩ := ob_inv hK
    obtain ⟨ha, hK⟩ := chk_inv hK
    refine ⟨v', _, frzZ ρ' Z' w' (lookL h2) bs.length, ρ', hK, ⟨hgr.g, fun b o c h => frzZ_le _ _ _ (hgr.le b o c h), fun b o h1 h3 => ?_⟩, ?_, frz_heap hres.heap bs.length fun k b hb => lowH_look hb, hres.old, hres.keep, fun k b hb => hres.reg k b (lowH_look hb).2⟩
    · cases hz : Z' b o with
      | some c => exact hgr.new b o h1 (by rw [hz]; simp)
      | none =>
        obtain ⟨k, B, g1, g2, g3, g4, g5, g6⟩ := frzZ_new hz h3
        rw [← g4]
        exact hres.reg k B g1 o g5 g6
    · have hv := hres.val
      have hfr := (frz_rep he.size hres.heap bs.length v).1 v'
      unfold RepV at hv ⊢
      cases hag : v.isAgg with
      | false =>
        rw [hag] at hv
        obtain ⟨g1, g2⟩ := hfr _ hv' hv
        rw [g2, hag]
        exact g1
      | true =>
        rw [hag] at hv
        obtain ⟨ar, e, hv⟩ := hv
        obtain ⟨g1, g2⟩ := hfr _ hv' hv
        rw [g2, hag]
        exact ⟨ar, e, g1⟩
  · exact det_bind (F := fun (K : Out → Prop) => c.run us bs fun v h => K ⟨v, h⟩) (G := fun o (K : Out → Prop) => ob (frzV bs.length (lookL o.h) o.v) fun v' => chk (allLt bs.length (keysB (lowH bs.length o.h))) (K ⟨v', lowH bs.length o.h⟩)) (hc.det us bs) fun o => det_ob fun v' => det_chk (det_pure (⟨v', _⟩ : Out))
end
end Go.Abs
