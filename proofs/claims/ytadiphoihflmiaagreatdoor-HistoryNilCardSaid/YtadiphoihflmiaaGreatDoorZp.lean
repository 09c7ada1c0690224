/- The field's bytes; points. -/
import Derived.Test.YtadiphoihflmiaaGreatDoorZo
set_option linter.all false
set_option maxRecDepth 1000000
namespace Go.Abs
open Go.Proofs

/-! ### bytes in -/
def ldW : Nat → UInt64 → List UInt8 → UInt64
  | _, acc, [] => acc
  | i, acc, b :: bs => ldW (i + 8) (orT .u64 acc (shlT .u64 (convT .u8 .u64 b) i)) bs
/-- A word of 8 bytes. -/
def ldA (l : List UInt8) : UInt64 := ldW 0 w0 l
def ldL (w0 w1 w2 w3 : UInt64) : List UInt64 :=
  [addT .u64 (andT .u64 w0 M51) (mulT .u64 c19 (shrT .u64 w3 63)), andT .u64 (orT .u64 (shrT .u64 w0 51) (shlT .u64 w1 13)) M51, andT .u64 (orT .u64 (shrT .u64 w1 38) (shlT .u64 w2 26)) M51,
    andT .u64 (orT .u64 (shrT .u64 w2 25) (shlT .u64 w3 39)) M51, andT .u64 (shrT .u64 w3 12) M51]
def loadF (l : List UInt8) : List UInt64 := ldL (ldA (l.take 8)) (ldA ((l.drop 8).take 8)) (ldA ((l.drop 16).take 8)) (ldA (l.drop 24))

theorem run_load (x0 x1 x2 x3 x4 x5 x6 x7 x8 x9 x10 x11 x12 x13 x14 x15 x16 x17 x18 x19 x20 x21 x22 x23 x24 x25 x26 x27 x28 x29 x30 x31 : UInt8) : ∀ K, run base5 210 0 [.arr .u8 32 [x0, x1, x2, x3, x4, x5, x6, x7, x8, x9, x10, x11, x12, x13, x14, x15, x16, x17, x18, x19, x20, x21, x22, x23, x24, x25, x26, x27, x28, x29, x30, x31]] [] K = K (.arr .u64 5 (loadF [x0, x1, x2, x3, x4, x5, x6, x7, x8, x9, x10, x11, x12, x13, x14, x15, x16, x17, x18, x19, x20, x21, x22, x23, x24, x25, x26, x27, x28, x29, x30, x31])) [] := by intro K; kernel_rfl

/-! ### bytes out -/
def stB : Nat → UInt64 → Nat → List UInt8
  | 0, _, _ => []
  | n + 1, w, i => convT .u64 .u8 (shrT .u64 w i) :: stB n w (i + 8)
def stA (w : UInt64) : List UInt8 := stB 8 w 0
def q19 (a0 a1 a2 a3 a4 : UInt64) : UInt64 := shrT .u64 (addT .u64 a4 (shrT .u64 (addT .u64 a3 (shrT .u64 (addT .u64 a2 (shrT .u64 (addT .u64 a1 (shrT .u64 (addT .u64 a0 c19) 51)) 51)) 51)) 51)) 51
def byW (a0 a1 a2 a3 a4 : UInt64) : List UInt8 :=
  stA (orT .u64 a0 (shlT .u64 a1 51)) ++ stA (orT .u64 (shrT .u64 a1 13) (shlT .u64 a2 38)) ++ stA (orT .u64 (shrT .u64 a2 26) (shlT .u64 a3 25)) ++ stA (orT .u64 (shrT .u64 a3 39) (shlT .u64 a4 12))
def byR (b0 a1 a2 a3 a4 : UInt64) : List UInt8 :=
  byS (addT .u64 a1 (shrT .u64 b0 51)) a2 a3 a4 (andT .u64 b0 M51)
where
  byS (b1 a2 a3 a4 c0 : UInt64) : List UInt8 := byT (addT .u64 a2 (shrT .u64 b1 51)) a3 a4 c0 (andT .u64 b1 M51)
  byT (b2 a3 a4 c0 c1 : UInt64) : List UInt8 := byU (addT .u64 a3 (shrT .u64 b2 51)) a4 c0 c1 (andT .u64 b2 M51)
  byU (b3 a4 c0 c1 c2 : UInt64) : List UInt8 := byW c0 c1 c2 (andT .u64 b3 M51) (andT .u64 (addT .u64 a4 (shrT .u64 b3 51)) M51)
def byC : List UInt64 → List UInt8
  | [a0, a1, a2, a3, a4] => byR (addT .u64 a0 (mulT .u64 c19 (q19 a0 a1 a2 a3 a4))) a1 a2 a3 a4
  | _ => []
def bytesF (l : List UInt64) : List UInt8 := byC (carL (carL l))

theorem run_bytes (a0 a1 a2 a3 a4 : UInt64) : ∀ K, run base5 216 0 [.arr .u64 5 [a0, a1, a2, a3, a4]] [] K = K (.arr .u8 32 (bytesF [a0, a1, a2, a3, a4])) [] := by intro K; kernel_rfl

def inG (f : List UInt8 → List UInt64) : List AVal → Option AVal
  | [.arr .u8 k l] => match Nat.beq k 32 with
    | true => some (.arr .u64 5 (f l))
    | false => none
  | _ => none
theorem inG_inv {f : List UInt8 → List UInt64} {us : List AVal} {v : AVal} {ρ : PMap} {Z : Zone} {xs : List Value} (hx : RepVs env ρ Z us xs) (h : inG f us = some v) : ∃ l : List UInt8, us = [.arr .u8 32 l] ∧ l.length = 32 ∧ v = .arr .u64 5 (f l) := by
  unfold inG at h
  split at h
  · split at h <;> cases h
    rename_i e
    have := beq_eq e; subst this
    obtain ⟨_, _, _, h1, _⟩ := hx
    exact ⟨_, rfl, rep_arr h1, rfl⟩
  · cases h
/-- A function of one list of five words. -/
def fe1G (f : List UInt64 → AVal) : List AVal → Option AVal
  | [.arr .u64 k l] => match Nat.beq k 5 with
    | true => some (f l)
    | false => none
  | _ => none
def fe2G (f : List UInt64 → List UInt64 → AVal) : List AVal → Option AVal
  | [.arr .u64 k a, .arr .u64 j b] => match Nat.beq k 5, Nat.beq j 5 with
    | true, true => some (f a b)
    | _, _ => none
  | _ => none
theorem fe1G_inv {f : List UInt64 → AVal} {us : List AVal} {v : AVal} {ρ : PMap} {Z : Zone} {xs : List Value} (hx : RepVs env ρ Z us xs) (h : fe1G f us = some v) : ∃ l : List UInt64, us = [.arr .u64 5 l] ∧ l.length = 5 ∧ v = f l := by
  unfold fe1G at h
  split at h
  · split at h <;> cases h
    rename_i e
    have := beq_eq e; subst this
    obtain ⟨_, _, _, h1, _⟩ := hx
    exact ⟨_, rfl, rep_arr h1, rfl⟩
  · cases h
theorem fe2G_inv {f : List UInt64 → List UInt64 → AVal} {us : List AVal} {v : AVal} {ρ : PMap} {Z : Zone} {xs : List Value} (hx : RepVs env ρ Z us xs) (h : fe2G f us = some v) : ∃ a b : List UInt64, us = [.arr .u64 5 a, .arr .u64 5 b] ∧ a.length = 5 ∧ b.length = 5 ∧ v = f a b := by
  unfold fe2G at h
  split at h
  · split at h
    · cases h
      rename_i e e'
      have := beq_eq e; subst this
      have := beq_eq e'; subst this
      obtain ⟨_, _, _, h1, _, _, _, h2, _⟩ := hx
      exact ⟨_, _, rfl, rep_arr h1, rep_arr h2, rfl⟩
    · cases h
  · cases h

theorem run_load' {l : List UInt8} (h : l.length = 32) (K : AVal → List (Nat × Blk) → Prop) (hK : K (.arr .u64 5 (loadF l)) []) : run base5 210 0 [.arr .u8 32 l] [] K := by
  match l, h with
  | [x0, x1, x2, x3, x4, x5, x6, x7, x8, x9, x10, x11, x12, x13, x14, x15, x16, x17, x18, x19, x20, x21, x22, x23, x24, x25, x26, x27, x28, x29, x30, x31], _ => exact (run_load x0 x1 x2 x3 x4 x5 x6 x7 x8 x9 x10 x11 x12 x13 x14 x15 x16 x17 x18 x19 x20 x21 x22 x23 x24 x25 x26 x27 x28 x29 x30 x31 K).mpr hK

theorem load_ok : CtrOk Tryz.prog env 210 (pureN (inG loadF)) := pureN_of_run (n := 0) base5_ok fun {ρ Z us xs v} hx hg K hK => by
  obtain ⟨l, rfl, hl, rfl⟩ := inG_inv hx hg
  exact run_load' hl K hK
theorem bytes_ok : CtrOk Tryz.prog env 216 (pureN (fe1G fun l => .arr .u8 32 (bytesF l))) := pureN_of_run (n := 0) base5_ok fun {ρ Z us xs v} hx hg K hK => by
  obtain ⟨l, rfl, hl, rfl⟩ := fe1G_inv hx hg
  obtain ⟨a0, a1, a2, a3, a4, rfl⟩ := list5 hl
  rw [run_bytes]
  exact hK

def base6 : List (Nat × Ctr) := (210, pureN (inG loadF)) :: (216, pureN (fe1G fun l => .arr .u8 32 (bytesF l))) :: base5
theorem base6_ok : AllOk base6 := ⟨load_ok, bytes_ok, base5_ok⟩

/-! ### powers -/
def sqN : Nat → List UInt64 → List UInt64
  | 0, a => a
  | n + 1, a => sqN n (sqF a)
def sqG : List AVal → Option AVal
  | [.arr .u64 k a, .int .i64 n] => match Nat.beq k 5, memN n.toNat [2, 5, 10, 20, 50, 100], (n == (n.toNat : Int) : Bool) with
    | true, true, true => some (.arr .u64 5 (sqN n.toNat a))
    | _, _, _ => none
  | _ => none
theorem run_sq2 (a : List UInt64) : ∀ K, run base6 256 0 [.arr .u64 5 a, .int .i64 (2 : Int)] [] K = K (.arr .u64 5 (sqN 2 a)) [] := by intro K; kernel_rfl
theorem run_sq5 (a : List UInt64) : ∀ K, run base6 256 0 [.arr .u64 5 a, .int .i64 (5 : Int)] [] K = K (.arr .u64 5 (sqN 5 a)) [] := by intro K; kernel_rfl
theorem run_sq10 (a : List UInt64) : ∀ K, run base6 256 0 [.arr .u64 5 a, .int .i64 (10 : Int)] [] K = K (.arr .u64 5 (sqN 10 a)) [] := by intro K; kernel_rfl
theorem run_sq20 (a : List UInt64) : ∀ K, run base6 256 0 [.arr .u64 5 a, .int .i64 (20 : Int)] [] K = K (.arr .u64 5 (sqN 20 a)) [] := by intro K; kernel_rfl
theorem run_sq50 (a : List UInt64) : ∀ K, run base6 256 0 [.arr .u64 5 a, .int .i64 (50 : Int)] [] K = K (.arr .u64 5 (sqN 50 a)) [] := by intro K; kernel_rfl
theorem run_sq100 (a : List UInt64) : ∀ K, run base6 256 0 [.arr .u64 5 a, .int .i64 (100 : Int)] [] K = K (.arr .u64 5 (sqN 100 a)) [] := by intro K; kernel_rfl

theorem squares_ok : CtrOk Tryz.prog env 256 (pureN sqG) := pureN_of_run (n := 0) base6_ok fun {ρ Z us xs v} hx hg K hK => by
  unfold sqG at hg
  split at hg
  · rename_i k a n
    split at hg
    · cases hg
      rename_i e1 e2 e3
      have := beq_eq e1; subst this
      have e3 := eq_of_beq e3
      have e2 := memN_iff.1 e2
      generalize hm : Int.toNat n = m at *
      subst e3
      simp only [List.mem_cons, List.not_mem_nil, or_false] at e2
      rcases e2 with rfl | rfl | rfl | rfl | rfl | rfl
      · exact (run_sq2 a K).mpr hK
      · exact (run_sq5 a K).mpr hK
      · exact (run_sq10 a K).mpr hK
      · exact (run_sq20 a K).mpr hK
      · exact (run_sq50 a K).mpr hK
      · exact (run_sq100 a K).mpr hK
    · cases hg
  · cases hg

def base7 : List (Nat × Ctr) := (256, pureN sqG) :: base6
theorem base7_ok : AllOk base7 := ⟨squares_ok, base6_ok⟩
end Go.Abs
