/- rimeref26: may all rows be; the first Begun of a session. rimeref26.Accounts: the rounds. The reference's accounts are the program's. -/
import Derived.Test.YtadiphoihflmiaaGreatDoorZax
set_option linter.all false
set_option maxRecDepth 1000000
namespace Go.Abs
open Go.Proofs

/-! ### may -/
def headMy (l : List SeenD) (i : Int) : Hd := (some (vS l) :: none :: none :: some (.int .i64 i) :: noneL 20, [])
theorem step_may (l : List SeenD) (i : Int) (h : Hd) (fuel : Nat) : evC [] 32 0 0 (fuel + 10) (loopN 32 0) (headSt (headMy l i)) (backK 32 2 h) =
  br (ltT .i64 i (l.length : Int)) (chk (!isNeg .i64 i) (chk (decide (toI .i64 i < ((l.length : Nat) : Int))) (br (ltT .i64 (rowAt l i).kind (rawI .i64 1)) False
    (chk (!isNeg .i64 i) (chk (decide (toI .i64 i < ((l.length : Nat) : Int))) (br (ltT .i64 (rawI .i64 11) (rowAt l i).kind) False (headMy l (addT .i64 i (rawI .i64 1)) = h))))))) False := by kernel_rfl
theorem loops32 : loopsOf (bodyF 32) = [(2, loopN 32 0)] := by kernel_rfl
def jump2 (r0 : Nat) (a b : Hd) : Nat → Option Jump := fun r => match Nat.beq r r0 with
  | true => some ⟨a, b⟩
  | false => none
theorem run_may (l : List SeenD) (i : Int) (fuel : Nat) : ∀ K, runJ [] (jump2 2 (headMy l 0) (headMy l i)) 32 0 (fuel + 100) [vS l] [] K = (headMy l 0 = headMy l 0 ∧
  br (ltT .i64 i (l.length : Int)) (chk (!isNeg .i64 i) (chk (decide (toI .i64 i < ((l.length : Nat) : Int))) (br (ltT .i64 (rowAt l i).kind (rawI .i64 1)) (K (.int .i64 (261 : Int)) [])
    (chk (!isNeg .i64 i) (chk (decide (toI .i64 i < ((l.length : Nat) : Int))) (br (ltT .i64 (rawI .i64 11) (rowAt l i).kind) (K (.int .i64 (261 : Int)) []) False)))))) (K (.int .i64 (0 : Int)) [])) := by intro K; kernel_rfl

/-! ### begun -/
def court0 : AVal := .pair (.int .i64 (0 : Int)) (.pair (.arr .u8 32 (List.replicate 32 (zeroT .u8))) (.pair .nilsl .unit))
def courtV (l : List SeenD) : AVal := .pair court0 (.pair .nilsl (.pair (vS l) .unit))
def headBg (l : List SeenD) (n : Int) (s : List UInt8) (i : Int) : Hd := (none :: some (.int .i64 n) :: none :: some (.ptr 0 []) :: none :: some (.ptr 1 []) :: none :: some (.int .i64 i) :: noneL 23, [(0, ⟨.var 119, .var (courtV l)⟩), (1, ⟨.var 76, .var (.arr .u8 32 s)⟩)])

theorem step_beg (l : List SeenD) (n : Int) (s : List UInt8) (i : Int) (h : Hd) (fuel : Nat) : evC [] 33 0 0 (fuel + 10) (loopN 33 0) (headSt (headBg l n s i)) (backK 33 2 h) =
  br (ltT .i64 i n) (chk (!isNeg .i64 i) (chk (decide (toI .i64 i < ((l.length : Nat) : Int))) (br (eqT .i64 (rowAt l i).kind (rawI .i64 1))
    (chk (!isNeg .i64 i) (chk (decide (toI .i64 i < ((l.length : Nat) : Int))) (br (eqH (rowAt l i).ses s) False (headBg l n s (addT .i64 i (rawI .i64 1)) = h))))
    (headBg l n s (addT .i64 i (rawI .i64 1)) = h)))) False := by kernel_rfl
theorem loops33 : loopsOf (bodyF 33) = [(2, loopN 33 0)] := by kernel_rfl
theorem run_beg (l : List SeenD) (n : Int) (s : List UInt8) (i : Int) (fuel : Nat) : ∀ K, runJ [] (jump2 2 (headBg l n s 0) (headBg l n s i)) 33 0 (fuel + 100) [courtV l, .int .i64 n, .arr .u8 32 s] [] K = (headBg l n s 0 = headBg l n s 0 ∧
  br (ltT .i64 i n) (chk (!isNeg .i64 i) (chk (decide (toI .i64 i < ((l.length : Nat) : Int))) (br (eqT .i64 (rowAt l i).kind (rawI .i64 1))
    (chk (!isNeg .i64 i) (chk (decide (toI .i64 i < ((l.length : Nat) : Int))) (br (eqH (rowAt l i).ses s) (K (.int .i64 i) []) False)))
    False))) (K (.int .i64 (-1 : Int)) [])) := by intro K; kernel_rfl

/-! ### the contracts -/
def may0C : Ctr := ⟨fun us bs K => match bs with
  | [] => ob0 (rowsOf us) fun l => us = [vS l] ∧ chk (roomy l.length 344) (br (okRows l) (K (.int .i64 (0 : Int)) []) (K (.int .i64 (261 : Int)) []))
  | _ :: _ => False⟩
def mayC : Ctr := ⟨fun us bs K => match bs with
  | [] => ob0 (rowsOf us) fun l => chk (roomy l.length 344) (br (okRows l) (K (.int .i64 (0 : Int)) []) (K (.int .i64 (261 : Int)) []))
  | _ :: _ => False⟩
theorem may0C_det (us : List AVal) (bs : List Blk) : Det fun (K : Out → Prop) => may0C.run us bs fun v h => K ⟨v, h⟩ := by
  cases bs with
  | nil => exact det_ob0 fun l => det_and (det_chk (det_br (det_pure (⟨_, []⟩ : Out)) (det_pure (⟨_, []⟩ : Out))))
  | cons b bs => exact det_false
theorem mayC_det (us : List AVal) (bs : List Blk) : Det fun (K : Out → Prop) => mayC.run us bs fun v h => K ⟨v, h⟩ := by
  cases bs with
  | nil => exact det_ob0 fun l => det_chk (det_br (det_pure (⟨_, []⟩ : Out)) (det_pure (⟨_, []⟩ : Out)))
  | cons b bs => exact det_false

theorem ltI_iff {x y : Int} : ltT .i64 x y = true ↔ x < y := ⟨fun h => of_decide_eq_true h, fun h => decide_eq_true (p := toI .i64 x < toI .i64 y) h⟩
theorem ltI_false {x y : Int} : ltT .i64 x y = false ↔ ¬ x < y := ⟨fun h => of_decide_eq_false h, fun h => decide_eq_false (p := toI .i64 x < toI .i64 y) h⟩
theorem leI_iff {x y : Int} : leT .i64 x y = true ↔ x ≤ y := ⟨fun h => of_decide_eq_true h, fun h => decide_eq_true (p := toI .i64 x ≤ toI .i64 y) h⟩
theorem leI_false {x y : Int} : leT .i64 x y = false ↔ ¬ x ≤ y := ⟨fun h => of_decide_eq_false h, fun h => decide_eq_false (p := toI .i64 x ≤ toI .i64 y) h⟩
theorem okRow_lt {r : SeenD} (h : okRow r = true) : ltT .i64 r.kind (rawI .i64 1) = false ∧ ltT .i64 (rawI .i64 11) r.kind = false := by
  unfold okRow at h
  split at h
  · rename_i h1
    have h1 : (1 : Int) ≤ r.kind := leI_iff.1 h1
    have h : r.kind ≤ 11 := leI_iff.1 h
    exact ⟨ltI_false.2 (show ¬ r.kind < (1 : Int) by omega), ltI_false.2 (show ¬ (11 : Int) < r.kind by omega)⟩
  · cases h
theorem badRow_lt {r : SeenD} (h : okRow r = false) : ltT .i64 r.kind (rawI .i64 1) = true ∨ (ltT .i64 r.kind (rawI .i64 1) = false ∧ ltT .i64 (rawI .i64 11) r.kind = true) := by
  unfold okRow at h
  split at h
  · rename_i h1
    have h1 : (1 : Int) ≤ r.kind := leI_iff.1 h1
    have h : ¬ r.kind ≤ 11 := leI_false.1 h
    exact .inr ⟨ltI_false.2 (show ¬ r.kind < (1 : Int) by omega), ltI_iff.2 (show (11 : Int) < r.kind by omega)⟩
  · rename_i h1
    have h1 : ¬ (1 : Int) ≤ r.kind := leI_false.1 h1
    exact .inl (ltI_iff.2 (show r.kind < (1 : Int) by omega))

theorem idx_facts {n i : Nat} (h : i < n) : ltT .i64 (i : Int) (n : Int) = true ∧ (!isNeg .i64 (i : Int)) = true ∧ decide (toI .i64 (i : Int) < ((n : Nat) : Int)) = true ∧ (toI .i64 (i : Int)).toNat = i := by
  refine ⟨by simp [ltT, toI]; omega, by show (!decide ((i : Int) < 0)) = true; simp, by simp [toI]; omega, by simp [toI]⟩
theorem add1 {i : Nat} (h : i < 4611686018427387904) : addT .i64 (i : Int) (rawI .i64 1) = ((i + 1 : Nat) : Int) := by
  show IntKind.i64.wrap ((i : Int) + 1) = _
  rw [wrap_sm (by omega) (by omega)]; rfl
theorem rowAt_nat (l : List SeenD) (i : Nat) : rowAt l (i : Int) = l.getD i seenZ := by unfold rowAt; rw [show (toI .i64 (i : Int)).toNat = i by simp [toI]]
theorem lt_irrefl (n : Nat) : ltT .i64 (n : Int) (n : Int) = false := by simp [ltT, toI]

theorem steps_may {l : List SeenD} (hl : l.length < 4611686018427387904) (fuel : Nat) : ∀ (m i : Nat), i + m = badI l → Steps 0 (liveOf 32 2) (evC [] 32 0 0 (fuel + 10) (loopN 32 0)) m (headMy l (i : Int)) (headMy l ((badI l : Nat) : Int))
  | 0, i, h => by rw [show i = badI l by omega]; exact Steps.refl _
  | m + 1, i, h => by
    have hb := badI_le l
    obtain ⟨h1, h2, h3, -⟩ := idx_facts (n := l.length) (i := i) (by omega)
    obtain ⟨k1, k2⟩ := okRow_lt (badI_ok (l := l) (i := i) (by omega))
    refine Steps.step (h1 := headMy l ((i + 1 : Nat) : Int)) ((step_may l (i : Int) _ fuel).mpr ?_) (steps_may hl fuel m (i + 1) (by omega))
    rw [h1, h2, h3, rowAt_nat, k1, k2, add1 (by omega)]
    exact rfl

theorem may_ok : CtrOk Tryz.prog env 32 mayC := (pre_ok (ctr_of_runJ (l := []) trivial (n := 0) (c := may0C) may0C_det fun {ρ Z us bs xs K} hx hr => by
  cases bs with
  | cons b bs => exact hr.elim
  | nil =>
    obtain ⟨l, hl, hus, hr1⟩ := ob0_inv hr
    obtain ⟨hq, hr2⟩ := chk_inv hr1
    clear hr hr1
    subst hus
    have hrl : l.length * 345 ≤ 70368744177664 := by simpa [roomy] using hq
    have hb := badI_le l
    refine ⟨jump2 2 (headMy l 0) (headMy l ((badI l : Nat) : Int)), l.length + 100, ?_, (run_may l ((badI l : Nat) : Int) l.length K).mpr ⟨rfl, ?_⟩⟩
    · rw [loops32]
      exact ⟨⟨badI l, by omega, steps_may (by omega) (l.length + 90) (badI l) 0 (by omega)⟩, trivial⟩
    · cases hall : okRows l with
      | true =>
        rw [hall] at hr2
        rw [badI_all hall, lt_irrefl]
        exact hr2
      | false =>
        rw [hall] at hr2
        obtain ⟨h1, h2⟩ := badI_bad hall
        obtain ⟨q1, q2, q3, -⟩ := idx_facts h1
        rw [q1, q2, q3, rowAt_nat]
        rcases badRow_lt h2 with h3 | ⟨h3, h4⟩
        · rw [h3]; exact hr2
        · rw [h3, h4]; exact hr2) rowsN_le).of mayC_det fun {ρ Z w us bs xs K} hh hx hr => by
  cases bs with
  | cons b bs => exact hr.elim
  | nil =>
    obtain ⟨l, hl, hr⟩ := ob0_inv hr
    show ob (rowsN us) _
    simp only [rowsN, hl]
    exact ⟨rfl, hr⟩

/-- The first Begun of a session. -/
def isBeg (r : SeenD) (s : List UInt8) : Bool := match eqT .i64 r.kind 1 with
  | true => eqH r.ses s
  | false => false
def bI : List SeenD → List UInt8 → Nat
  | [], _ => 0
  | r :: l, s => match isBeg r s with
    | true => 0
    | false => bI l s + 1
def begR (l : List SeenD) (n : Int) (s : List UInt8) : Int := match Nat.blt (bI (l.take n.toNat) s) n.toNat with
  | true => ((bI (l.take n.toNat) s : Nat) : Int)
  | false => -1
def begGate (l : List SeenD) (n : Int) : Bool := andB (leT .i64 0 n) (andB (leT .i64 n ((l.length : Nat) : Int)) (roomy l.length 344))
def isC0 : AVal → AVal → Bool
  | .pair (.int .i64 x) (.pair (.arr .u8 n z) (.pair .nilsl .unit)), .nilsl => andB (eqT .i64 x (0 : Int)) (andB (Nat.beq n 32) (eqH z (List.replicate 32 (zeroT .u8))))
  | _, _ => false
theorem isC0_eq {k c : AVal} (h : isC0 k c = true) : k = court0 ∧ c = .nilsl := by
  unfold isC0 at h
  split at h
  · simp only [andB_iff] at h
    obtain ⟨h1, h2, h3⟩ := h
    rw [eqI_iff.1 h1, beq_eq h2, eqH_iff.1 h3]
    exact ⟨rfl, rfl⟩
  · cases h
def begOf : List AVal → Option (List SeenD × Int × List UInt8)
  | [.pair k (.pair c (.pair (.vr .seen e _ _ l) .unit)), .int .i64 n, .arr .u8 m s] => match andB (isC0 k c) (andB (Nat.beq e 92) (Nat.beq m 32)) with
    | true => some (l, n, s)
    | false => none
  | _ => none
def begN (us : List AVal) : Option (List AVal) := match begOf us with
  | some p => some [courtV p.1, .int .i64 p.2.1, .arr .u8 32 p.2.2]
  | none => none
theorem vr_leS {enc : SeenD → AVal} {d : SeenD} {l : List SeenD} : AVal.Le (.vr .seen 92 enc d l) (vS l) := by
  have h : rowsN [.vr .seen 92 enc d l] = some [vS l] := rfl
  exact (rowsN_le _ _ h).1
theorem begN_le : ∀ us us', begN us = some us' → LeL us us' := fun us us' h => by
  unfold begN at h
  split at h
  case h_2 => cases h
  rename_i p hp
  cases h
  unfold begOf at hp
  split at hp
  · split at hp <;> cases hp
    rename_i hb
    simp only [andB_iff] at hb
    obtain ⟨h1, h2, h3⟩ := hb
    obtain ⟨rfl, rfl⟩ := isC0_eq h1
    have := beq_eq h2; subst this
    have := beq_eq h3; subst this
    exact ⟨AVal.Le.ofList (l := [_, _, _]) (l' := [_, _, _]) ⟨AVal.Le.refl _, AVal.Le.refl _, vr_leS, trivial⟩, AVal.Le.refl _, AVal.Le.refl _, trivial⟩
  · cases hp
def beg0C : Ctr := ⟨fun us bs K => match bs with
  | [] => ob0 (begOf us) fun p => us = [courtV p.1, .int .i64 p.2.1, .arr .u8 32 p.2.2] ∧ chk (begGate p.1 p.2.1) (K (.int .i64 (begR p.1 p.2.1 p.2.2)) [])
  | _ :: _ => False⟩
def begC : Ctr := ⟨fun us bs K => match bs with
  | [] => ob0 (begOf us) fun p => chk (begGate p.1 p.2.1) (K (.int .i64 (begR p.1 p.2.1 p.2.2)) [])
  | _ :: _ => False⟩
theorem beg0C_det (us : List AVal) (bs : List Blk) : Det fun (K : Out → Prop) => beg0C.run us bs fun v h => K ⟨v, h⟩ := by
  cases bs with
  | nil => exact det_ob0 fun l => det_and (det_chk (det_pure (⟨_, []⟩ : Out)))
  | cons b bs => exact det_false
theorem begC_det (us : List AVal) (bs : List Blk) : Det fun (K : Out → Prop) => begC.run us bs fun v h => K ⟨v, h⟩ := by
  cases bs with
  | nil => exact det_ob0 fun l => det_chk (det_pure (⟨_, []⟩ : Out))
  | cons b bs => exact det_false

theorem bI_le : ∀ (l : List SeenD) (s : List UInt8), bI l s ≤ l.length
  | [], s => Nat.le_refl _
  | r :: l, s => by
    have := bI_le l s
    simp only [bI]
    split <;> simp <;> omega
theorem bI_no : ∀ {l : List SeenD} {s : List UInt8} {i : Nat}, i < bI l s → isBeg (l.getD i seenZ) s = false
  | [], s, i, h => by simp [bI] at h
  | r :: l, s, i, h => by
    simp only [bI] at h
    split at h
    · omega
    · cases i with
      | zero => simpa using ‹_›
      | succ i => simpa using bI_no (l := l) (i := i) (by omega)
theorem bI_yes : ∀ {l : List SeenD} {s : List UInt8}, bI l s < l.length → isBeg (l.getD (bI l s) seenZ) s = true
  | [], s, h => by simp [bI] at h
  | r :: l, s, h => by
    simp only [bI] at h ⊢
    split
    · simpa using ‹_›
    · rename_i hb
      rw [hb] at h
      simpa using bI_yes (l := l) (by simpa using h)
theorem getD_take {l : List SeenD} {n i : Nat} (h : i < n) : (l.take n).getD i seenZ = l.getD i seenZ := by
  simp [List.getD, List.getElem?_take, h]
theorem isBeg_no {r : SeenD} {s : List UInt8} (h : isBeg r s = false) : eqT .i64 r.kind (rawI .i64 1) = false ∨ (eqT .i64 r.kind (rawI .i64 1) = true ∧ eqH r.ses s = false) := by
  unfold isBeg at h
  split at h
  · exact .inr ⟨‹_›, h⟩
  · exact .inl ‹_›
theorem isBeg_yes {r : SeenD} {s : List UInt8} (h : isBeg r s = true) : eqT .i64 r.kind (rawI .i64 1) = true ∧ eqH r.ses s = true := by
  unfold isBeg at h
  split at h
  · exact ⟨‹_›, h⟩
  · cases h

theorem steps_beg {l : List SeenD} {n : Nat} {s : List UInt8} (hn : n ≤ l.length) (hl : l.length < 4611686018427387904) (fuel : Nat) : ∀ (m i : Nat), i + m = bI (l.take n) s → Steps 0 (liveOf 33 2) (evC [] 33 0 0 (fuel + 10) (loopN 33 0)) m (headBg l (n : Int) s (i : Int)) (headBg l (n : Int) s ((bI (l.take n) s : Nat) : Int))
  | 0, i, h => by rw [show i = bI (l.take n) s by omega]; exact Steps.refl _
  | m + 1, i, h => by
    have hb := bI_le (l.take n) s
    have htl : (l.take n).length = n := by simp; omega
    obtain ⟨h1, -⟩ := idx_facts (n := n) (i := i) (by omega)
    obtain ⟨-, h2, h3, -⟩ := idx_facts (n := l.length) (i := i) (by omega)
    have hno := bI_no (l := l.take n) (s := s) (i := i) (by omega)
    rw [getD_take (by omega)] at hno
    refine Steps.step (h1 := headBg l (n : Int) s ((i + 1 : Nat) : Int)) ((step_beg l (n : Int) s (i : Int) _ fuel).mpr ?_) (steps_beg hn hl fuel m (i + 1) (by omega))
    rw [h1, h2, h3, rowAt_nat, add1 (by omega)]
    rcases isBeg_no hno with h4 | ⟨h4, h5⟩
    · rw [h4]; exact rfl
    · rw [h4, h5]; exact rfl

theorem beg_ok : CtrOk Tryz.prog env 33 begC := (pre_ok (ctr_of_runJ (l := []) trivial (n := 0) (c := beg0C) beg0C_det fun {ρ Z us bs xs K} hx hr => by
  cases bs with
  | cons b bs => exact hr.elim
  | nil =>
    obtain ⟨⟨l, nI, s⟩, hl, hus, hr1⟩ := ob0_inv hr
    obtain ⟨hq, hr2⟩ := chk_inv hr1
    clear hr hr1
    simp only at hus hq hr2
    subst hus
    simp only [begGate, andB_iff] at hq
    obtain ⟨q1, q2, q3⟩ := hq
    have q1 : (0 : Int) ≤ nI := leI_iff.1 q1
    have q2 : nI ≤ ((l.length : Nat) : Int) := leI_iff.1 q2
    have hrl : l.length * 345 ≤ 70368744177664 := by simpa [roomy] using q3
    obtain ⟨n, rfl⟩ : ∃ n : Nat, nI = (n : Int) := ⟨nI.toNat, by omega⟩
    have hn : n ≤ l.length := by omega
    have hb := bI_le (l.take n) s
    have htl : (l.take n).length = n := by simp; omega
    refine ⟨jump2 2 (headBg l (n : Int) s 0) (headBg l (n : Int) s ((bI (l.take n) s : Nat) : Int)), l.length + 100, ?_, (run_beg l (n : Int) s ((bI (l.take n) s : Nat) : Int) l.length K).mpr ⟨rfl, ?_⟩⟩
    · rw [loops33]
      exact ⟨⟨bI (l.take n) s, by omega, steps_beg hn (by omega) (l.length + 90) (bI (l.take n) s) 0 (by omega)⟩, trivial⟩
    · unfold begR at hr2
      simp only [Int.toNat_natCast] at hr2
      rcases Nat.lt_or_ge (bI (l.take n) s) n with h1 | h1
      · have h2 : Nat.blt (bI (l.take n) s) n = true := Nat.ble_eq_true_of_le h1
        rw [h2] at hr2
        obtain ⟨k1, -⟩ := idx_facts h1
        obtain ⟨-, k2, k3, -⟩ := idx_facts (n := l.length) (i := bI (l.take n) s) (by omega)
        have hy := bI_yes (l := l.take n) (s := s) (by omega)
        rw [getD_take h1] at hy
        obtain ⟨y1, y2⟩ := isBeg_yes hy
        rw [k1, k2, k3, rowAt_nat, y1, y2]
        exact hr2
      · have h2 : Nat.blt (bI (l.take n) s) n = false := by
          cases hq : Nat.blt (bI (l.take n) s) n with
          | false => rfl
          | true => have := Nat.le_of_ble_eq_true hq; omega
        rw [h2] at hr2
        rw [show bI (l.take n) s = n by omega, lt_irrefl]
        exact hr2) begN_le).of begC_det fun {ρ Z w us bs xs K} hh hx hr => by
  cases bs with
  | cons b bs => exact hr.elim
  | nil =>
    obtain ⟨p, hl, hr⟩ := ob0_inv hr
    show ob (begN us) _
    simp only [begN, hl]
    refine ⟨?_, hr⟩
    exact rfl
end Go.Abs

namespace Go.Abs
open Go.Proofs

noncomputable def baseRf : List (Nat × Ctr) := [(32, mayC), (33, begC), (34, gateN copyIntsQ copyIntsF), (35, gateN copyBytesQ copyBytesF)]
theorem baseRf_ok : AllOk baseRf := ⟨may_ok, beg_ok, copyInts_ok, copyBytes_ok, trivial⟩

/-! ### heads -/
def acctIE (a : AcctD) (k : Nat) : AVal := AVal.ofList [.arr .u8 32 a.ses, .vw .i64 a.ids, .vw .u8 a.text, .bool a.done, .arr .u8 64 a.sig, .bool a.failed, .int .i64 a.code, .vw .i64 a.culprits, .sw k]
def acctNE (r : SeenD) : AVal := AVal.ofList [.arr .u8 32 r.ses, .vw .i64 r.ids, .vw .u8 r.text, .bool false, .arr .u8 64 (List.replicate 64 (zeroT .u8)), .bool false, .int .i64 (0 : Int), .nilsl, .nilsl]
def acctME (r : SeenD) : AVal := AVal.ofList [.arr .u8 32 r.ses, .vw .i64 r.ids, .vw .u8 r.text, .bool false, .arr .u8 64 (List.replicate 64 (zeroT .u8)), .bool false, .int .i64 (0 : Int), .vw .i64 [], .nilsl]
def courtB (l : List SeenD) : Blk := ⟨.var 119, .var (courtV l)⟩
def headO0 (l : List SeenD) : Hd := (some (vS l) :: none :: none :: none :: some (.ptr 0 []) :: some .nilsl :: some (.int .i64 (0 : Int)) :: noneL 94, [(0, courtB l)])
def headO (l : List SeenD) (L : List AcctD) (i : Int) : Hd := (some (vS l) :: none :: none :: none :: some (.ptr 0 []) :: some (.sw 1) :: some (.int .i64 i) :: noneL 94, [(0, courtB l), (1, ⟨.row 81, .recs acctC L⟩)])
def tmpsI (l : List SeenD) (i k : Int) : List (Option AVal) := some (vS l) :: none :: none :: none :: some (.ptr 0 []) :: some (.sw 1) :: some (.int .i64 i) :: some (.ptr 2 []) :: some (.ptr 3 []) :: some (.int .i64 k) :: noneL 91
def headI0 (l : List SeenD) (L : List AcctD) (i : Int) (r : SeenD) : Hd := (tmpsI l i (addT .i64 i (rawI .i64 1)), [(0, courtB l), (1, ⟨.row 81, .recs acctC L⟩), (2, ⟨.var 92, .var (seenE r)⟩), (3, ⟨.var 81, .var (acctNE r)⟩)])
def headI1 (l : List SeenD) (L : List AcctD) (i : Int) (r : SeenD) : Hd := (tmpsI l i (addT .i64 i (rawI .i64 1)), [(0, courtB l), (1, ⟨.row 81, .recs acctC L⟩), (2, ⟨.var 92, .var (seenE r)⟩), (3, ⟨.var 81, .var (acctME r)⟩)])
def headI (l : List SeenD) (L : List AcctD) (i : Int) (r : SeenD) (B : AcctD) (k : Int) : Hd := (tmpsI l i k, [(0, courtB l), (1, ⟨.row 81, .recs acctC L⟩), (2, ⟨.var 92, .var (seenE r)⟩), (3, ⟨.var 81, .var (acctIE B 4)⟩), (4, ⟨.row 3, .ints .i64 B.shared⟩)])

/-! ### the inner loop -/
abbrev KInn := Nat → List (Option AVal) → List (Option Blk) → Nat → Prop
noncomputable def rndI (KH : Hd → Prop) (KE : KInn) : XE → St → List Own → Prop := fun e S' g' => match e with
  | .normal => canonD 0 (liveOf 11 12) S' KH
  | .ret => False
  | .exit id => KE id [getL S'.tmps 0, getL S'.tmps 4, getL S'.tmps 5, getL S'.tmps 6, getL S'.tmps 8] [S'.heap 0, S'.heap 1, S'.heap 3, S'.heap 4] S'.tmps.length
def noHooks : Hooks (List Own) := ⟨fun _ => none, fun _ => none⟩
section
variable (l : List SeenD) (L : List AcctD) (i k : Int) (r x : SeenD) (B : AcctD) (KH : Hd → Prop)
def contI : Prop := KH (headI l L i r B (addT .i64 k (rawI .i64 1)))
def innP : Prop := br (!eqH x.ses r.ses) (contI l L i k r B KH) (br (eqT .i64 x.kind (rawI .i64 8)) (br (!B.done) (contI l L i k r { B with done := true, sig := x.sig } KH) (contI l L i k r B KH))
  (br (eqT .i64 x.kind (rawI .i64 9)) (br (!B.failed) (chk (roomy (0 + x.ids.length) 8) (contI l L i k r { B with failed := true, code := x.code, culprits := x.ids } KH)) (contI l L i k r B KH))
    (br (eqT .i64 x.kind (rawI .i64 5)) (chk (roomy (B.shared.length + 1) 8) (contI l L i k r { B with shared := B.shared ++ [x.id] } KH)) (contI l L i k r B KH))))
end
theorem stepI (l : List SeenD) (L : List AcctD) (i k : Int) (r : SeenD) (B : AcctD) (fuel : Nat) (KH : Hd → Prop) (KE : KInn) (X : List Own) :
    evG baseRf noHooks 11 0 0 (fuel + 10) (loopN 11 1) (headSt (headI l L i r B k)) X (rndI KH KE) =
    br (ltT .i64 k (l.length : Int)) (chk (!isNeg .i64 k) (chk (decide (toI .i64 k < ((l.length : Nat) : Int))) (innP l L i k r (rowAt l k) B KH)))
      (KE 2 [some (vS l), some (.ptr 0 []), some (.sw 1), some (.int .i64 i), some (.ptr 3 [])] [some (courtB l), some ⟨.row 81, .recs acctC L⟩, some ⟨.var 81, .var (acctIE B 4)⟩, some ⟨.row 3, .ints .i64 B.shared⟩] 101) := by kernel_rfl

/-! ### the outer loop -/
def foldA (r : SeenD) (xs : List SeenD) (a : AcctD) : AcctD := xs.foldl (fun a x => if x.ses = r.ses then updD x a else a) a
def aAt (l : List SeenD) (i : Nat) : AcctD := foldA (l.getD i seenZ) (l.drop (i + 1)) (newD (l.getD i seenZ))
def endI (l : List SeenD) (L : List AcctD) (i : Int) (A : AcctD) : St := ⟨some (vS l) :: none :: none :: none :: some (.ptr 0 []) :: some (.sw 1) :: some (.int .i64 i) :: none :: some (.ptr 3 []) :: noneL 92,
  lookL [(0, courtB l), (1, ⟨.row 81, .recs acctC L⟩), (3, ⟨.var 81, .var (acctE A)⟩)], fun _ => false⟩
noncomputable def hkI (l : List SeenD) (L : List AcctD) (i : Int) (r : SeenD) (A : AcctD) : HkG (List Own) := fun S X K => X = [] ∧ canonD 0 (liveOf 11 12) S (fun h => h = headI0 l L i r) ∧ K (.exit 2) (endI l L i A) []
noncomputable def hooksI (l : List SeenD) (L : List AcctD) (i : Int) (r : SeenD) (A : AcctD) : Hooks (List Own) := ⟨fun q => match Nat.beq q 12 with
  | true => some (hkI l L i r A)
  | false => none, fun _ => none⟩
abbrev KOut := Nat → Option AVal → Option Blk → Nat → Prop
noncomputable def rndO (KH : Hd → Prop) (KE : KOut) : XE → St → List Own → Prop := fun e S' g' => match e with
  | .normal => g' = [] ∧ canonD 0 (liveOf 11 6) S' KH
  | .ret => False
  | .exit id => KE id (getL S'.tmps 5) (S'.heap 1) S'.tmps.length
section
variable (l : List SeenD) (L : List AcctD) (i : Int) (r : SeenD) (A : AcctD) (X : List Own) (KH : Hd → Prop)
def contO (L : List AcctD) : Prop := X = [] ∧ KH (headO l L (addT .i64 i (rawI .i64 1)))
def outP : Prop := br (!eqT .i64 r.kind (rawI .i64 1)) (contO l i X KH L) (chk (begGate l i) (br (leT .i64 (rawI .i64 0) (begR l i r.ses)) (contO l i X KH L)
  (chk (roomy (0 + r.ids.length) 8) (chk (roomy (0 + r.text.length) 1) (X = [] ∧ headI0 l L i r = headI0 l L i r ∧ chk (roomy (L.length + 1) (env.bytes 81)) (contO l i [] KH (L ++ [A])))))))
end
theorem stepO (l : List SeenD) (L : List AcctD) (i : Int) (A : AcctD) (fuel : Nat) (KH : Hd → Prop) (KE : KOut) (X : List Own) :
    evG baseRf (hooksI l L i (rowAt l i) A) 11 0 0 (fuel + 10) (loopN 11 0) (headSt (headO l L i)) X (rndO KH KE) =
    br (ltT .i64 i (l.length : Int)) (chk (!isNeg .i64 i) (chk (decide (toI .i64 i < ((l.length : Nat) : Int))) (outP l L i (rowAt l i) A X KH)))
      (KE 0 (some (.sw 1)) (some ⟨.row 81, .recs acctC L⟩) 101) := by kernel_rfl

/-! ### the function -/
def endO (L : List AcctD) : St := ⟨none :: none :: none :: none :: none :: some (vA L) :: noneL 95, fun _ => none, fun _ => false⟩
noncomputable def hk11 (l : List SeenD) (L : List AcctD) : HkG (List Own) := fun S X K => X = [] ∧ canonD 0 (liveOf 11 6) S (fun h => h = headO0 l) ∧ K (.exit 0) (endO L) []
noncomputable def hooks11 (l : List SeenD) (L : List AcctD) : Hooks (List Own) := ⟨fun q => match Nat.beq q 6 with
  | true => some (hk11 l L)
  | false => none, fun _ => none⟩
theorem run11 (l : List SeenD) (L : List AcctD) (fuel : Nat) (K : AVal → List (Nat × Blk) → Prop) : runS baseRf (hooks11 l L) 11 0 (fuel + 100) [vS l] [] K =
    chk (roomy l.length 344) (br (okRows l) (([] : List Own) = [] ∧ headO0 l = headO0 l ∧ K (vOk (vA L)) []) (K vErr [])) := by kernel_rfl
theorem loops11 : loopsOf (bodyF 11) = [(6, loopN 11 0), (12, loopN 11 1)] := by kernel_rfl
theorem loops11O : loopsOf (loopN 11 0) = [(12, loopN 11 1)] := by kernel_rfl
theorem loops11I : loopsOf (loopN 11 1) = [] := by kernel_rfl
end Go.Abs

namespace Go.Abs
open Go.Proofs

def refStart (l : List SeenD) (i : Nat) : Bool := andB (eqT .i64 (l.getD i seenZ).kind (rawI .i64 1)) (!(leT .i64 (rawI .i64 0) (begR l (i : Int) (l.getD i seenZ).ses)))
def refTo (l : List SeenD) : Nat → List AcctD
  | 0 => []
  | i + 1 => match refStart l i with
    | true => refTo l i ++ [aAt l i]
    | false => refTo l i
def gU (x : SeenD) (a : AcctD) : AcctD := if x.ses = a.ses then updD x a else a

theorem foldA_snoc (r : SeenD) (xs : List SeenD) (x : SeenD) (a : AcctD) : foldA r (xs ++ [x]) a = if x.ses = r.ses then updD x (foldA r xs a) else foldA r xs a := by simp [foldA]
theorem foldA_ses (r : SeenD) : ∀ (xs : List SeenD) (a : AcctD), (foldA r xs a).ses = a.ses
  | [], a => rfl
  | x :: xs, a => by
    show (foldA r xs (if x.ses = r.ses then updD x a else a)).ses = a.ses
    rw [foldA_ses r xs]
    split
    · exact updD_ses x a
    · rfl

theorem begR_neg {l : List SeenD} {i : Nat} {s : List UInt8} (hi : i ≤ l.length) : leT .i64 (rawI .i64 0) (begR l (i : Int) s) = false ↔ ∀ j, j < i → isBeg (l.getD j seenZ) s = false := by
  have htl : (l.take i).length = i := by simp; omega
  have hb := bI_le (l.take i) s
  unfold begR
  simp only [Int.toNat_natCast]
  rcases Nat.lt_or_ge (bI (l.take i) s) i with h | h
  · have h2 : Nat.blt (bI (l.take i) s) i = true := Nat.ble_eq_true_of_le h
    rw [h2]
    simp only
    have hy := bI_yes (l := l.take i) (s := s) (by omega)
    rw [getD_take h] at hy
    constructor
    · intro h3
      exact (leI_false.1 h3 (show (0 : Int) ≤ ((bI (l.take i) s : Nat) : Int) by omega)).elim
    · intro h3
      rw [h3 _ h] at hy
      cases hy
  · have h2 : Nat.blt (bI (l.take i) s) i = false := by
      cases hq : Nat.blt (bI (l.take i) s) i with
      | false => rfl
      | true => have := Nat.le_of_ble_eq_true hq; omega
    rw [h2]
    refine ⟨fun _ j hj => ?_, fun _ => rfl⟩
    have := bI_no (l := l.take i) (s := s) (i := j) (by omega)
    rwa [getD_take hj] at this

theorem getD_app1 {t : List SeenD} {x : SeenD} {i : Nat} (h : i < t.length) : (t ++ [x]).getD i seenZ = t.getD i seenZ := by simp [List.getD, List.getElem?_append_left h]
theorem getD_app2 {t : List SeenD} {x : SeenD} : (t ++ [x]).getD t.length seenZ = x := by simp [List.getD]
theorem begR_app {t : List SeenD} {x : SeenD} {i : Nat} {s : List UInt8} (h : i ≤ t.length) : begR (t ++ [x]) (i : Int) s = begR t (i : Int) s := by
  unfold begR
  simp only [Int.toNat_natCast]
  rw [List.take_append_of_le_length h]
theorem refStart_app {t : List SeenD} {x : SeenD} {i : Nat} (h : i < t.length) : refStart (t ++ [x]) i = refStart t i := by
  unfold refStart
  rw [getD_app1 h, begR_app (by omega)]
theorem aAt_ses (l : List SeenD) (i : Nat) : (aAt l i).ses = (l.getD i seenZ).ses := by unfold aAt; rw [foldA_ses]; rfl
theorem aAt_app {t : List SeenD} {x : SeenD} {i : Nat} (h : i < t.length) : aAt (t ++ [x]) i = gU x (aAt t i) := by
  unfold gU
  rw [aAt_ses]
  unfold aAt
  rw [getD_app1 h, List.drop_append_of_le_length (by omega), foldA_snoc]
theorem refTo_app {t : List SeenD} {x : SeenD} : ∀ {i : Nat}, i ≤ t.length → refTo (t ++ [x]) i = (refTo t i).map (gU x)
  | 0, _ => rfl
  | i + 1, h => by
    simp only [refTo]
    rw [refStart_app (by omega), refTo_app (by omega), aAt_app (by omega)]
    cases refStart t i <;> simp

/-! ### one step -/
theorem map_gU_none {x : SeenD} : ∀ {L : List AcctD}, (∀ a, a ∈ L → a.ses ≠ x.ses) → L.map (gU x) = L
  | [], _ => rfl
  | a :: L, h => by
    simp only [List.map_cons]
    rw [map_gU_none fun b hb => h b (by simp [hb])]
    unfold gU
    rw [if_neg fun e => h a (by simp) e.symm]
theorem findS_none {s : List UInt8} : ∀ {L : List AcctD}, findS L s = none ↔ ∀ a, a ∈ L → a.ses ≠ s
  | [] => by simp [findS]
  | a :: L => by
    simp only [findS]
    by_cases h : a.ses = s
    · simp [h]
    · rw [if_neg h]
      have := findS_none (s := s) (L := L)
      cases hf : findS L s with
      | none =>
        rw [hf] at this
        simp only [true_iff, List.mem_cons, forall_eq_or_imp]
        exact ⟨h, this.1 rfl⟩
      | some k =>
        rw [hf] at this
        simp only [List.mem_cons, forall_eq_or_imp]
        constructor
        · intro h; cases h
        · rintro ⟨-, h2⟩
          have := this.2 h2
          cases this
theorem set_gU {x : SeenD} : ∀ {L : List AcctD} {k : Nat}, (L.map (·.ses)).Nodup → findS L x.ses = some k → L.set k (updD x (L.getD k acct0)) = L.map (gU x)
  | [], k, _, h => by cases h
  | a :: L, k, hn, h => by
    simp only [List.map_cons, List.nodup_cons] at hn
    simp only [findS] at h
    split at h
    · rename_i ha
      cases h
      simp only [List.map_cons]
      rw [map_gU_none fun b hb e => hn.1 (by rw [ha, ← e]; exact List.mem_map.2 ⟨b, hb, rfl⟩)]
      unfold gU
      rw [if_pos ha.symm]
      simp
    · rename_i ha
      split at h
      · cases h
        rename_i k' hk
        have := set_gU hn.2 hk
        simp only [List.map_cons]
        rw [← this]
        unfold gU
        rw [if_neg fun e => ha e.symm]
        simp
      · cases h
theorem accStep_eq {L : List AcctD} {x : SeenD} (hn : (L.map (·.ses)).Nodup) : accStep L x = L.map (gU x) ++ (if x.kind = 1 ∧ findS L x.ses = none then [newD x] else []) := by
  unfold accStep
  cases hf : findS L x.ses with
  | none =>
    rw [map_gU_none (findS_none.1 hf)]
    by_cases hk : x.kind = 1
    · simp [hk]
    · simp [hk]
  | some k =>
    have h1 : ¬ (x.kind = 1 ∧ (some k : Option Nat) = none) := fun h => by cases h.2
    show L.set k (updD x (L.getD k acct0)) = L.map (gU x) ++ (if x.kind = 1 ∧ (some k : Option Nat) = none then [newD x] else [])
    rw [if_neg h1, List.append_nil]
    exact set_gU hn hf
theorem gU_ses (x : SeenD) (a : AcctD) : (gU x a).ses = a.ses := by
  unfold gU
  split
  · exact updD_ses x a
  · rfl
theorem accStep_ses {L : List AcctD} {x : SeenD} (hn : (L.map (·.ses)).Nodup) : (accStep L x).map (·.ses) = L.map (·.ses) ++ (if x.kind = 1 ∧ findS L x.ses = none then [x.ses] else []) := by
  rw [accStep_eq hn, List.map_append, List.map_map]
  congr 1
  · exact List.map_congr_left fun a _ => gU_ses x a
  · split <;> rfl

/-- Which sessions there are, each once. -/
theorem accF_ses (l : List SeenD) : ∀ (i : Nat), i ≤ l.length → ((accF (l.take i)).map (·.ses)).Nodup ∧ ∀ s, findS (accF (l.take i)) s = none ↔ ∀ j, j < i → isBeg (l.getD j seenZ) s = false
  | 0, _ => ⟨by simp [accF], fun s => by simp [accF, findS]⟩
  | i + 1, h => by
    obtain ⟨h1, h2⟩ := accF_ses l i (by omega)
    have hi : i < l.length := by omega
    have hx : l.getD i seenZ = l[i] := by simp [List.getD, hi]
    rw [List.take_add_one, show l[i]?.toList = [l[i]] by simp [hi], accF_snoc, ← hx]
    clear hx
    obtain ⟨x, hx⟩ : ∃ x, l.getD i seenZ = x := ⟨_, rfl⟩
    rw [hx]
    have hses := accStep_ses (x := x) h1
    refine ⟨?_, fun s => ?_⟩
    · rw [hses]
      split
      · rename_i hc
        rw [List.nodup_append]
        refine ⟨h1, by simp, fun a ha b hb => ?_⟩
        simp only [List.mem_singleton] at hb
        subst hb
        rintro rfl
        obtain ⟨c, hc1, hc2⟩ := List.mem_map.1 ha
        exact findS_none.1 hc.2 c hc1 hc2
      · simpa using h1
    · rw [findS_none]
      have hmem : (∀ a, a ∈ accStep (accF (l.take i)) x → a.ses ≠ s) ↔ ∀ t, t ∈ (accStep (accF (l.take i)) x).map (·.ses) → t ≠ s := by simp
      rw [hmem, hses]
      have hmem2 : (∀ t, t ∈ (accF (l.take i)).map (·.ses) → t ≠ s) ↔ findS (accF (l.take i)) s = none := by rw [findS_none]; simp
      constructor
      · intro hall j hj
        rcases Nat.lt_or_ge j i with hji | hji
        · exact (h2 s).1 (hmem2.1 fun t ht => hall t (List.mem_append_left _ ht)) j hji
        · have : j = i := by omega
          subst this
          rw [hx]
          cases hb : isBeg x s with
          | false => rfl
          | true =>
            exfalso
            obtain ⟨b1, b2⟩ := isBeg_yes hb
            have b1 : x.kind = 1 := eqI_iff.1 b1
            have b2 := eqH_iff.1 b2
            by_cases hf : findS (accF (l.take j)) x.ses = none
            · exact hall x.ses (List.mem_append_right _ (by rw [if_pos ⟨b1, hf⟩]; simp)) b2
            · have hf' : findS (accF (l.take j)) s ≠ none := b2 ▸ hf
              exact hf' (hmem2.1 fun t ht => hall t (List.mem_append_left _ ht))
      · intro hall t ht
        rw [List.mem_append] at ht
        rcases ht with ht | ht
        · exact hmem2.2 ((h2 s).2 fun j hj => hall j (by omega)) t ht
        · split at ht
          · rename_i hc
            simp only [List.mem_singleton] at ht
            subst ht
            rintro rfl
            have := hall i (by omega)
            unfold isBeg at this
            rw [hx] at this
            rw [show eqT .i64 x.kind 1 = true from eqI_iff.2 hc.1] at this
            simp only at this
            rw [eqH_iff.2 rfl] at this
            cases this
          · simp at ht

theorem refTo_accF (l : List SeenD) : ∀ (i : Nat), i ≤ l.length → refTo (l.take i) i = accF (l.take i)
  | 0, _ => rfl
  | i + 1, h => by
    have hi : i < l.length := by omega
    have ht : (l.take i).length = i := by simp; omega
    have ih := refTo_accF l i (by omega)
    obtain ⟨h1, h2⟩ := accF_ses l i (by omega)
    have hx : l.getD i seenZ = l[i] := by simp [List.getD, hi]
    rw [List.take_add_one, show l[i]?.toList = [l[i]] by simp [hi], accF_snoc, accStep_eq h1]
    generalize l[i] = x at *
    simp only [refTo]
    rw [refTo_app (by omega), ih]
    have hlast : (l.take i ++ [x]).getD i seenZ = x := by rw [← ht]; simp only [List.length_take, Nat.min_eq_left (Nat.le_of_lt hi)] at ht ⊢; exact (by simp [List.getD, Nat.le_of_lt hi])
    have hA : aAt (l.take i ++ [x]) i = newD x := by
      unfold aAt
      rw [hlast, List.drop_of_length_le (by simp; omega)]
      rfl
    have hs : refStart (l.take i ++ [x]) i = true ↔ x.kind = 1 ∧ findS (accF (l.take i)) x.ses = none := by
      unfold refStart
      rw [hlast, begR_app (by omega), andB_iff, h2]
      have hb := begR_neg (l := l.take i) (i := i) (s := x.ses) (by omega)
      constructor
      · rintro ⟨k1, k2⟩
        refine ⟨eqI_iff.1 k1, fun j hj => ?_⟩
        have := hb.1 (by simpa using k2) j hj
        rwa [getD_take hj] at this
      · rintro ⟨k1, k2⟩
        refine ⟨eqI_iff.2 k1, ?_⟩
        have := hb.2 fun j hj => by rw [getD_take hj]; exact k2 j hj
        rw [this]; rfl
    cases hq : refStart (l.take i ++ [x]) i with
    | true => rw [if_pos (hs.1 hq), hA]
    | false =>
      rw [if_neg fun h => Bool.noConfusion ((hs.2 h).symm.trans hq), List.append_nil]
theorem ref_law (l : List SeenD) : refTo l l.length = accF l := by
  have := refTo_accF l l.length (Nat.le_refl _)
  rwa [List.take_length] at this
end Go.Abs
