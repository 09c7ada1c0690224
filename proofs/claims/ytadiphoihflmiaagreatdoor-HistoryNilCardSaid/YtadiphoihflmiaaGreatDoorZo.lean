/- The field's functions: contracts by values. -/
import Derived.Test.YtadiphoihflmiaaGreatDoorZn
set_option linter.all false
set_option maxRecDepth 1000000
namespace Go.Abs
open Go.Proofs

/-! ### a sum of products -/
def wEnc (w : UInt64 × UInt64) : AVal := .pair (.int .u64 w.1) (.pair (.int .u64 w.2) .unit)
def wDec : AVal → Option (UInt64 × UInt64)
  | .pair (.int .u64 a) (.pair (.int .u64 b) .unit) => some (a, b)
  | _ => none
def wsEnc : List (UInt64 × UInt64) → AVal
  | [] => .unit
  | w :: ws => .pair (wEnc w) (wsEnc ws)
def wsDec : AVal → Option (List (UInt64 × UInt64))
  | .unit => some []
  | .pair a b => match wDec a with
    | some w => match wsDec b with
      | some ws => some (w :: ws)
      | none => none
    | none => none
  | _ => none

theorem wDec_inv {v : AVal} {w : UInt64 × UInt64} (h : wDec v = some w) : v = wEnc w := by
  unfold wDec at h
  split at h <;> cases h
  rfl
theorem wsDec_inv : ∀ {v : AVal} {ws : List (UInt64 × UInt64)}, wsDec v = some ws → v = wsEnc ws
  | .unit, ws, h => by simp [wsDec] at h; subst h; rfl
  | .pair a b, ws, h => by
    simp only [wsDec] at h
    split at h
    · split at h
      · cases h
        rename_i h1 _ _ h2
        rw [wDec_inv h1, wsDec_inv h2]; rfl
      · cases h
    · cases h
  | .int .., ws, h | .bool .., ws, h | .str .., ws, h | .arr .., ws, h | .ptr .., ws, h | .nilptr, ws, h | .sl .., ws, h | .sw .., ws, h | .nilsl, ws, h | .vw .., ws, h | .vr .., ws, h | .vp .., ws, h | .kp .., ws, h
  | .iface .., ws, h | .nilIface, ws, h | .fn .., ws, h | .nilfn, ws, h | .tnil, ws, h | .tcons .., ws, h | .gp .., ws, h | .th .., ws, h | .mp .., ws, h | .nilmap, ws, h => by simp [wsDec] at h

def modAt {α : Type} (f : α → α) : List α → Nat → List α
  | [], _ => []
  | x :: xs, 0 => f x :: xs
  | x :: xs, n + 1 => x :: modAt f xs n

def wadd (a b : UInt64) (w : UInt64 × UInt64) : UInt64 × UInt64 := (adcS w.1 (mulH a b) (adcC w.2 (mulL a b) 0), adcS w.2 (mulL a b) 0)

def wArgs : List AVal → Option (Nat × UInt64 × UInt64)
  | [.ptr 0 [.i n], .int .u64 a, .int .u64 b] => some (n, a, b)
  | _ => none
def wBlk : List Blk → Option (List (UInt64 × UInt64))
  | [⟨.var t, .var v⟩] => match Nat.beq t 429 with
    | true => wsDec v
    | false => none
  | _ => none

theorem wArgs_inv {us : List AVal} {n : Nat} {a b : UInt64} (h : wArgs us = some (n, a, b)) : us = [.ptr 0 [.i n], .int .u64 a, .int .u64 b] := by
  unfold wArgs at h
  split at h <;> cases h
  rfl
theorem wBlk_inv {bs : List Blk} {ws : List (UInt64 × UInt64)} (h : wBlk bs = some ws) : bs = [⟨.var 429, .var (wsEnc ws)⟩] := by
  unfold wBlk at h
  split at h
  · split at h
    · rename_i e
      rw [beq_eq e, wsDec_inv h]
    · cases h
  · cases h

/-- To one of five sums a product is added. -/
def wideC : Ctr := ⟨fun us bs K => ob0 (wArgs us) fun p => ob0 (wBlk bs) fun ws => chk (Nat.blt p.1 5) (chk (Nat.beq ws.length 5) (K (.tup []) [(0, ⟨.var 429, .var (wsEnc (modAt (wadd p.2.1 p.2.2) ws p.1))⟩)]))⟩

theorem run_wide0 (a b h0 l0 h1 l1 h2 l2 h3 l3 h4 l4 : UInt64) : ∀ K, run base1 238 0 [.ptr 0 [.i 0], .int .u64 a, .int .u64 b] [⟨.var 429, .var (wsEnc [(h0, l0), (h1, l1), (h2, l2), (h3, l3), (h4, l4)])⟩] K =
  chk (Nat.ble (UInt64.toNat (adcC l0 (mulL a b) 0)) 1) (K (.tup []) [(0, ⟨.var 429, .var (wsEnc (modAt (wadd a b) [(h0, l0), (h1, l1), (h2, l2), (h3, l3), (h4, l4)] 0))⟩)]) := by intro K; kernel_rfl
theorem run_wide1 (a b h0 l0 h1 l1 h2 l2 h3 l3 h4 l4 : UInt64) : ∀ K, run base1 238 0 [.ptr 0 [.i 1], .int .u64 a, .int .u64 b] [⟨.var 429, .var (wsEnc [(h0, l0), (h1, l1), (h2, l2), (h3, l3), (h4, l4)])⟩] K =
  chk (Nat.ble (UInt64.toNat (adcC l1 (mulL a b) 0)) 1) (K (.tup []) [(0, ⟨.var 429, .var (wsEnc (modAt (wadd a b) [(h0, l0), (h1, l1), (h2, l2), (h3, l3), (h4, l4)] 1))⟩)]) := by intro K; kernel_rfl
theorem run_wide2 (a b h0 l0 h1 l1 h2 l2 h3 l3 h4 l4 : UInt64) : ∀ K, run base1 238 0 [.ptr 0 [.i 2], .int .u64 a, .int .u64 b] [⟨.var 429, .var (wsEnc [(h0, l0), (h1, l1), (h2, l2), (h3, l3), (h4, l4)])⟩] K =
  chk (Nat.ble (UInt64.toNat (adcC l2 (mulL a b) 0)) 1) (K (.tup []) [(0, ⟨.var 429, .var (wsEnc (modAt (wadd a b) [(h0, l0), (h1, l1), (h2, l2), (h3, l3), (h4, l4)] 2))⟩)]) := by intro K; kernel_rfl
theorem run_wide3 (a b h0 l0 h1 l1 h2 l2 h3 l3 h4 l4 : UInt64) : ∀ K, run base1 238 0 [.ptr 0 [.i 3], .int .u64 a, .int .u64 b] [⟨.var 429, .var (wsEnc [(h0, l0), (h1, l1), (h2, l2), (h3, l3), (h4, l4)])⟩] K =
  chk (Nat.ble (UInt64.toNat (adcC l3 (mulL a b) 0)) 1) (K (.tup []) [(0, ⟨.var 429, .var (wsEnc (modAt (wadd a b) [(h0, l0), (h1, l1), (h2, l2), (h3, l3), (h4, l4)] 3))⟩)]) := by intro K; kernel_rfl
theorem run_wide4 (a b h0 l0 h1 l1 h2 l2 h3 l3 h4 l4 : UInt64) : ∀ K, run base1 238 0 [.ptr 0 [.i 4], .int .u64 a, .int .u64 b] [⟨.var 429, .var (wsEnc [(h0, l0), (h1, l1), (h2, l2), (h3, l3), (h4, l4)])⟩] K =
  chk (Nat.ble (UInt64.toNat (adcC l4 (mulL a b) 0)) 1) (K (.tup []) [(0, ⟨.var 429, .var (wsEnc (modAt (wadd a b) [(h0, l0), (h1, l1), (h2, l2), (h3, l3), (h4, l4)] 4))⟩)]) := by intro K; kernel_rfl

theorem adcC_le (x y c : UInt64) (hc : c.toNat ≤ 1) : Nat.ble (UInt64.toNat (adcC x y c)) 1 = true := by
  have a := UInt64.toNat_lt x
  have b := UInt64.toNat_lt y
  apply Nat.ble_eq_true_of_le
  rw [adcC, UInt64.toNat_ofNat']
  have : (x.toNat + y.toNat + c.toNat) / 18446744073709551616 ≤ 1 := by omega
  omega

theorem chk_mk {b : Bool} {p : Prop} (h : b = true) (hp : p) : chk b p := by subst h; exact hp
theorem list5 {α : Type} {l : List α} (h : l.length = 5) : ∃ a b c d e, l = [a, b, c, d, e] := by
  match l, h with
  | [a, b, c, d, e], _ => exact ⟨a, b, c, d, e, rfl⟩

theorem wide_ok : CtrOk Tryz.prog env 238 wideC :=
  (run_ok base1_ok 238 0).of (fun us bs => det_ob0 fun p => det_ob0 fun ws => det_chk (det_chk (det_pure (⟨.tup [], [(0, ⟨.var 429, .var (wsEnc (modAt (wadd p.2.1 p.2.2) ws p.1))⟩)]⟩ : Out)))) fun {ρ Z w us bs xs K} hh hx hr => by
    obtain ⟨⟨n, a, b⟩, e1, hr⟩ := ob0_inv hr
    obtain ⟨ws, e2, hr⟩ := ob0_inv hr
    obtain ⟨e3, hr⟩ := chk_inv hr
    obtain ⟨e4, hr⟩ := chk_inv hr
    have := wArgs_inv e1; subst this
    have := wBlk_inv e2; subst this
    have e4 := beq_eq e4
    have hn : n < 5 := Nat.le_of_ble_eq_true e3
    obtain ⟨⟨h0, l0⟩, ⟨h1, l1⟩, ⟨h2, l2⟩, ⟨h3, l3⟩, ⟨h4, l4⟩, rfl⟩ := list5 e4
    have hn : n = 0 ∨ n = 1 ∨ n = 2 ∨ n = 3 ∨ n = 4 := by omega
    rcases hn with rfl | rfl | rfl | rfl | rfl
    · exact (run_wide0 a b h0 l0 h1 l1 h2 l2 h3 l3 h4 l4 K).mpr (chk_mk (adcC_le _ _ _ (by decide)) hr)
    · exact (run_wide1 a b h0 l0 h1 l1 h2 l2 h3 l3 h4 l4 K).mpr (chk_mk (adcC_le _ _ _ (by decide)) hr)
    · exact (run_wide2 a b h0 l0 h1 l1 h2 l2 h3 l3 h4 l4 K).mpr (chk_mk (adcC_le _ _ _ (by decide)) hr)
    · exact (run_wide3 a b h0 l0 h1 l1 h2 l2 h3 l3 h4 l4 K).mpr (chk_mk (adcC_le _ _ _ (by decide)) hr)
    · exact (run_wide4 a b h0 l0 h1 l1 h2 l2 h3 l3 h4 l4 K).mpr (chk_mk (adcC_le _ _ _ (by decide)) hr)

def base2 : List (Nat × Ctr) := (238, wideC) :: base1
theorem base2_ok : AllOk base2 := ⟨wide_ok, base1_ok⟩

/-! ### carried -/
def M51 : UInt64 := rawI .u64 2251799813685247
def c19 : UInt64 := rawI .u64 19
def carT (a0 a1 a2 a3 a4 : UInt64) : List UInt64 :=
  [addT .u64 (andT .u64 a0 M51) (mulT .u64 c19 (shrT .u64 a4 51)), addT .u64 (andT .u64 a1 M51) (shrT .u64 a0 51), addT .u64 (andT .u64 a2 M51) (shrT .u64 a1 51), addT .u64 (andT .u64 a3 M51) (shrT .u64 a2 51), addT .u64 (andT .u64 a4 M51) (shrT .u64 a3 51)]

theorem run_car (a0 a1 a2 a3 a4 : UInt64) : ∀ K, run base2 240 0 [.arr .u64 5 [a0, a1, a2, a3, a4]] [] K = K (.arr .u64 5 (carT a0 a1 a2 a3 a4)) [] := by intro K; kernel_rfl

def carL : List UInt64 → List UInt64
  | [a0, a1, a2, a3, a4] => carT a0 a1 a2 a3 a4
  | l => l

theorem rep_arr {env : Env} {ρ : PMap} {Z : Zone} {k : IntKind} {n : Nat} {l : List (TT k)} {v : Value} (h : RepV env ρ Z (.arr k n l) v) : l.length = n := by
  obtain ⟨_, _, h, _⟩ := h
  exact h

/-- A function of lists of words. -/
def arrG1 (n m : Nat) (f : List UInt64 → List UInt64) : List AVal → Option AVal
  | [.arr .u64 k l] => match Nat.beq k n with
    | true => some (.arr .u64 m (f l))
    | false => none
  | _ => none
def arrG2 (n m : Nat) (f : List UInt64 → List UInt64 → List UInt64) : List AVal → Option AVal
  | [.arr .u64 k a, .arr .u64 j b] => match Nat.beq k n, Nat.beq j n with
    | true, true => some (.arr .u64 m (f a b))
    | _, _ => none
  | _ => none

theorem arrG1_inv {n m : Nat} {f : List UInt64 → List UInt64} {us : List AVal} {v : AVal} {ρ : PMap} {Z : Zone} {xs : List Value} (hx : RepVs env ρ Z us xs) (h : arrG1 n m f us = some v) : ∃ l : List UInt64, us = [.arr .u64 n l] ∧ l.length = n ∧ v = .arr .u64 m (f l) := by
  unfold arrG1 at h
  split at h
  · split at h <;> cases h
    rename_i e
    have := beq_eq e; subst this
    obtain ⟨_, _, _, h1, _⟩ := hx
    exact ⟨_, rfl, rep_arr h1, rfl⟩
  · cases h
theorem arrG2_inv {n m : Nat} {f : List UInt64 → List UInt64 → List UInt64} {us : List AVal} {v : AVal} {ρ : PMap} {Z : Zone} {xs : List Value} (hx : RepVs env ρ Z us xs) (h : arrG2 n m f us = some v) : ∃ a b : List UInt64, us = [.arr .u64 n a, .arr .u64 n b] ∧ a.length = n ∧ b.length = n ∧ v = .arr .u64 m (f a b) := by
  unfold arrG2 at h
  split at h
  · split at h
    · cases h
      rename_i e e'
      have := beq_eq e; subst this
      have := beq_eq e'; subst this
      obtain ⟨_, _, _, h1, _, _, _, h2, _⟩ := hx
      exact ⟨_, _, rfl, rep_arr h1, rep_arr h2, rfl⟩
    · cases h
  · cases h

theorem car_ok : CtrOk Tryz.prog env 240 (pureN (arrG1 5 5 carL)) := pureN_of_run (n := 0) base2_ok fun {ρ Z us xs v} hx hg K hK => by
  obtain ⟨l, rfl, hl, rfl⟩ := arrG1_inv hx hg
  obtain ⟨a0, a1, a2, a3, a4, rfl⟩ := list5 hl
  rw [run_car]
  exact hK

def base3 : List (Nat × Ctr) := (240, pureN (arrG1 5 5 carL)) :: base2
theorem base3_ok : AllOk base3 := ⟨car_ok, base2_ok⟩

/-! ### times -/
def w0 : UInt64 := rawI .u64 0
def t19 (a : UInt64) : UInt64 := mulT .u64 c19 a
def row5 (a b c d e f g h i j : UInt64) : UInt64 × UInt64 := wadd i j (wadd g h (wadd e f (wadd c d (wadd a b (w0, w0)))))
def outL (r : UInt64 × UInt64) (c : UInt64) : UInt64 := andT .u64 (adcS r.2 c w0) M51
def outC (r : UInt64 × UInt64) (c : UInt64) : UInt64 := orT .u64 (shlT .u64 (addT .u64 r.1 (adcC r.2 c w0)) 13) (shrT .u64 (adcS r.2 c w0) 51)
def chain5 (r0 r1 r2 r3 r4 : UInt64 × UInt64) : List UInt64 :=
  [addT .u64 (outL r0 w0) (mulT .u64 c19 (outC r4 (outC r3 (outC r2 (outC r1 (outC r0 w0)))))), outL r1 (outC r0 w0), outL r2 (outC r1 (outC r0 w0)), outL r3 (outC r2 (outC r1 (outC r0 w0))), outL r4 (outC r3 (outC r2 (outC r1 (outC r0 w0))))]
def mulT5 (a0 a1 a2 a3 a4 b0 b1 b2 b3 b4 : UInt64) : List UInt64 :=
  carL (chain5 (row5 a0 b0 (t19 a1) b4 (t19 a2) b3 (t19 a3) b2 (t19 a4) b1) (row5 a0 b1 a1 b0 (t19 a2) b4 (t19 a3) b3 (t19 a4) b2) (row5 a0 b2 a1 b1 a2 b0 (t19 a3) b4 (t19 a4) b3) (row5 a0 b3 a1 b2 a2 b1 a3 b0 (t19 a4) b4) (row5 a0 b4 a1 b3 a2 b2 a3 b1 a4 b0))

theorem run_times (a0 a1 a2 a3 a4 b0 b1 b2 b3 b4 : UInt64) : ∀ K, run base3 212 0 [.arr .u64 5 [a0, a1, a2, a3, a4], .arr .u64 5 [b0, b1, b2, b3, b4]] [] K = K (.arr .u64 5 (mulT5 a0 a1 a2 a3 a4 b0 b1 b2 b3 b4)) [] := by intro K; kernel_rfl

def mulF : List UInt64 → List UInt64 → List UInt64
  | [a0, a1, a2, a3, a4], [b0, b1, b2, b3, b4] => mulT5 a0 a1 a2 a3 a4 b0 b1 b2 b3 b4
  | l, _ => l

theorem times_ok : CtrOk Tryz.prog env 212 (pureN (arrG2 5 5 mulF)) := pureN_of_run (n := 0) base3_ok fun {ρ Z us xs v} hx hg K hK => by
  obtain ⟨a, b, rfl, ha, hb, rfl⟩ := arrG2_inv hx hg
  obtain ⟨a0, a1, a2, a3, a4, rfl⟩ := list5 ha
  obtain ⟨b0, b1, b2, b3, b4, rfl⟩ := list5 hb
  rw [run_times]
  exact hK

def base4 : List (Nat × Ctr) := (212, pureN (arrG2 5 5 mulF)) :: base3
theorem base4_ok : AllOk base4 := ⟨times_ok, base3_ok⟩

/-! ### sums, differences, squares -/
def addF : List UInt64 → List UInt64 → List UInt64
  | [a0, a1, a2, a3, a4], [b0, b1, b2, b3, b4] => carT (addT .u64 a0 b0) (addT .u64 a1 b1) (addT .u64 a2 b2) (addT .u64 a3 b3) (addT .u64 a4 b4)
  | l, _ => l
def P0 : UInt64 := rawI .u64 4503599627370458
def P1 : UInt64 := rawI .u64 4503599627370494
def subF : List UInt64 → List UInt64 → List UInt64
  | [a0, a1, a2, a3, a4], [b0, b1, b2, b3, b4] => carT (addT .u64 a0 (subT .u64 P0 b0)) (addT .u64 a1 (subT .u64 P1 b1)) (addT .u64 a2 (subT .u64 P1 b2)) (addT .u64 a3 (subT .u64 P1 b3)) (addT .u64 a4 (subT .u64 P1 b4))
  | l, _ => l
def sqF (a : List UInt64) : List UInt64 := mulF a a

theorem run_plus (a0 a1 a2 a3 a4 b0 b1 b2 b3 b4 : UInt64) : ∀ K, run base4 235 0 [.arr .u64 5 [a0, a1, a2, a3, a4], .arr .u64 5 [b0, b1, b2, b3, b4]] [] K = K (.arr .u64 5 (addF [a0, a1, a2, a3, a4] [b0, b1, b2, b3, b4])) [] := by intro K; kernel_rfl
theorem run_minus (a0 a1 a2 a3 a4 b0 b1 b2 b3 b4 : UInt64) : ∀ K, run base4 233 0 [.arr .u64 5 [a0, a1, a2, a3, a4], .arr .u64 5 [b0, b1, b2, b3, b4]] [] K = K (.arr .u64 5 (subF [a0, a1, a2, a3, a4] [b0, b1, b2, b3, b4])) [] := by intro K; kernel_rfl
theorem run_square (a : List UInt64) : ∀ K, run base4 231 0 [.arr .u64 5 a] [] K = K (.arr .u64 5 (sqF a)) [] := by intro K; kernel_rfl

theorem plus_ok : CtrOk Tryz.prog env 235 (pureN (arrG2 5 5 addF)) := pureN_of_run (n := 0) base4_ok fun {ρ Z us xs v} hx hg K hK => by
  obtain ⟨a, b, rfl, ha, hb, rfl⟩ := arrG2_inv hx hg
  obtain ⟨a0, a1, a2, a3, a4, rfl⟩ := list5 ha
  obtain ⟨b0, b1, b2, b3, b4, rfl⟩ := list5 hb
  rw [run_plus]
  exact hK
theorem minus_ok : CtrOk Tryz.prog env 233 (pureN (arrG2 5 5 subF)) := pureN_of_run (n := 0) base4_ok fun {ρ Z us xs v} hx hg K hK => by
  obtain ⟨a, b, rfl, ha, hb, rfl⟩ := arrG2_inv hx hg
  obtain ⟨a0, a1, a2, a3, a4, rfl⟩ := list5 ha
  obtain ⟨b0, b1, b2, b3, b4, rfl⟩ := list5 hb
  rw [run_minus]
  exact hK
theorem square_ok : CtrOk Tryz.prog env 231 (pureN (arrG1 5 5 sqF)) := pureN_of_run (n := 0) base4_ok fun {ρ Z us xs v} hx hg K hK => by
  obtain ⟨a, rfl, ha, rfl⟩ := arrG1_inv hx hg
  rw [run_square]
  exact hK

def base5 : List (Nat × Ctr) := (235, pureN (arrG2 5 5 addF)) :: (233, pureN (arrG2 5 5 subF)) :: (231, pureN (arrG1 5 5 sqF)) :: base4
theorem base5_ok : AllOk base5 := ⟨plus_ok, minus_ok, square_ok, base4_ok⟩
end Go.Abs
