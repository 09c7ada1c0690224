/- Numbers modulo L: contracts by values. -/
import Derived.Test.YtadiphoihflmiaaGreatDoorZq
set_option linter.all false
set_option maxRecDepth 1000000
namespace Go.Abs
open Go.Proofs

theorem list4 {α : Type} {l : List α} (h : l.length = 4) : ∃ a b c d, l = [a, b, c, d] := by
  match l, h with
  | [a, b, c, d], _ => exact ⟨a, b, c, d, rfl⟩

/-- A function of one list of four words. -/
def n1G (f : List UInt64 → AVal) : List AVal → Option AVal
  | [.arr .u64 k l] => match Nat.beq k 4 with
    | true => some (f l)
    | false => none
  | _ => none
def n2G (f : List UInt64 → List UInt64 → AVal) : List AVal → Option AVal
  | [.arr .u64 k a, .arr .u64 j b] => match Nat.beq k 4, Nat.beq j 4 with
    | true, true => some (f a b)
    | _, _ => none
  | _ => none
theorem n1_ok {l : List (Nat × Ctr)} (hl : AllOk l) {f n : Nat} {F : List UInt64 → AVal} (h : ∀ a0 a1 a2 a3 K, K (F [a0, a1, a2, a3]) [] → run l f n [.arr .u64 4 [a0, a1, a2, a3]] [] K) : CtrOk Tryz.prog env f (pureN (n1G F)) := pureN_of_run (n := n) hl fun {ρ Z us xs v} hx hg K hK => by
  unfold n1G at hg
  split at hg
  · split at hg <;> cases hg
    rename_i e
    have := beq_eq e; subst this
    obtain ⟨_, _, _, h1, _⟩ := hx
    obtain ⟨a0, a1, a2, a3, rfl⟩ := list4 (rep_arr h1)
    exact h _ _ _ _ K hK
  · cases hg
theorem n2_ok {l : List (Nat × Ctr)} (hl : AllOk l) {f n : Nat} {F : List UInt64 → List UInt64 → AVal} (h : ∀ a0 a1 a2 a3 b0 b1 b2 b3 K, K (F [a0, a1, a2, a3] [b0, b1, b2, b3]) [] → run l f n [.arr .u64 4 [a0, a1, a2, a3], .arr .u64 4 [b0, b1, b2, b3]] [] K) : CtrOk Tryz.prog env f (pureN (n2G F)) := pureN_of_run (n := n) hl fun {ρ Z us xs v} hx hg K hK => by
  unfold n2G at hg
  split at hg
  · split at hg
    · cases hg
      rename_i e e'
      have := beq_eq e; subst this
      have := beq_eq e'; subst this
      obtain ⟨_, _, _, h1, _, _, _, h2, _⟩ := hx
      obtain ⟨a0, a1, a2, a3, rfl⟩ := list4 (rep_arr h1)
      obtain ⟨b0, b1, b2, b3, rfl⟩ := list4 (rep_arr h2)
      exact h _ _ _ _ _ _ _ _ K hK
    · cases hg
  · cases hg

theorem sbbB_le (x y c : UInt64) : Nat.ble (UInt64.toNat (sbbB x y c)) 1 = true := by
  apply Nat.ble_eq_true_of_le
  rw [sbbB, UInt64.toNat_ofNat']
  split <;> simp

/-! ### less -/
def lsB (a0 a1 a2 a3 b0 b1 b2 b3 : UInt64) : UInt64 := sbbB a3 b3 (sbbB a2 b2 (sbbB a1 b1 (sbbB a0 b0 w0)))
def lsD (a0 a1 a2 a3 b0 b1 b2 b3 : UInt64) : List UInt64 :=
  [sbbD a0 b0 w0, sbbD a1 b1 (sbbB a0 b0 w0), sbbD a2 b2 (sbbB a1 b1 (sbbB a0 b0 w0)), sbbD a3 b3 (sbbB a2 b2 (sbbB a1 b1 (sbbB a0 b0 w0)))]
def le1 (x : UInt64) : Bool := Nat.ble (UInt64.toNat x) 1
def lessV : List UInt64 → List UInt64 → AVal
  | [a0, a1, a2, a3], [b0, b1, b2, b3] => .tup [.arr .u64 4 (lsD a0 a1 a2 a3 b0 b1 b2 b3), .int .u64 (lsB a0 a1 a2 a3 b0 b1 b2 b3)]
  | _, _ => .unit
theorem run_less (a0 a1 a2 a3 b0 b1 b2 b3 : UInt64) : ∀ K, run base9 156 0 [.arr .u64 4 [a0, a1, a2, a3], .arr .u64 4 [b0, b1, b2, b3]] [] K =
  chk (le1 (sbbB a0 b0 w0)) (chk (le1 (sbbB a1 b1 (sbbB a0 b0 w0))) (chk (le1 (sbbB a2 b2 (sbbB a1 b1 (sbbB a0 b0 w0)))) (K (lessV [a0, a1, a2, a3] [b0, b1, b2, b3]) []))) := by intro K; kernel_rfl
theorem less_ok : CtrOk Tryz.prog env 156 (pureN (n2G lessV)) := n2_ok base9_ok fun a0 a1 a2 a3 b0 b1 b2 b3 K hK =>
  (run_less a0 a1 a2 a3 b0 b1 b2 b3 K).mpr (chk_mk (sbbB_le _ _ _) (chk_mk (sbbB_le _ _ _) (chk_mk (sbbB_le _ _ _) hK)))

/-! ### bytes -/
def fromF (l : List UInt8) : List UInt64 := [ldA (l.take 8), ldA ((l.drop 8).take 8), ldA ((l.drop 16).take 8), ldA (l.drop 24)]
def backF : List UInt64 → List UInt8
  | [a, b, c, d] => stA a ++ stA b ++ stA c ++ stA d
  | _ => []
theorem run_from (x0 x1 x2 x3 x4 x5 x6 x7 x8 x9 x10 x11 x12 x13 x14 x15 x16 x17 x18 x19 x20 x21 x22 x23 x24 x25 x26 x27 x28 x29 x30 x31 : UInt8) : ∀ K, run base9 157 0 [.arr .u8 32 [x0, x1, x2, x3, x4, x5, x6, x7, x8, x9, x10, x11, x12, x13, x14, x15, x16, x17, x18, x19, x20, x21, x22, x23, x24, x25, x26, x27, x28, x29, x30, x31]] [] K = K (.arr .u64 4 (fromF [x0, x1, x2, x3, x4, x5, x6, x7, x8, x9, x10, x11, x12, x13, x14, x15, x16, x17, x18, x19, x20, x21, x22, x23, x24, x25, x26, x27, x28, x29, x30, x31])) [] := by intro K; kernel_rfl
theorem run_back (a b c d : UInt64) : ∀ K, run base9 220 0 [.arr .u64 4 [a, b, c, d]] [] K = K (.arr .u8 32 (backF [a, b, c, d])) [] := by intro K; kernel_rfl
def b32G (f : List UInt8 → AVal) : List AVal → Option AVal
  | [.arr .u8 k l] => match Nat.beq k 32 with
    | true => some (f l)
    | false => none
  | _ => none
theorem b32_ok {l : List (Nat × Ctr)} (hl : AllOk l) {f n : Nat} {F : List UInt8 → AVal} (h : ∀ a : List UInt8, a.length = 32 → ∀ K, K (F a) [] → run l f n [.arr .u8 32 a] [] K) : CtrOk Tryz.prog env f (pureN (b32G F)) := pureN_of_run (n := n) hl fun {ρ Z us xs v} hx hg K hK => by
  unfold b32G at hg
  split at hg
  · split at hg <;> cases hg
    rename_i e
    have := beq_eq e; subst this
    obtain ⟨_, _, _, h1, _⟩ := hx
    exact h _ (rep_arr h1) K hK
  · cases hg
theorem run_from' {l : List UInt8} (h : l.length = 32) (K : AVal → List (Nat × Blk) → Prop) (hK : K (.arr .u64 4 (fromF l)) []) : run base9 157 0 [.arr .u8 32 l] [] K := by
  match l, h with
  | [x0, x1, x2, x3, x4, x5, x6, x7, x8, x9, x10, x11, x12, x13, x14, x15, x16, x17, x18, x19, x20, x21, x22, x23, x24, x25, x26, x27, x28, x29, x30, x31], _ => exact (run_from x0 x1 x2 x3 x4 x5 x6 x7 x8 x9 x10 x11 x12 x13 x14 x15 x16 x17 x18 x19 x20 x21 x22 x23 x24 x25 x26 x27 x28 x29 x30 x31 K).mpr hK
theorem from_ok : CtrOk Tryz.prog env 157 (pureN (b32G fun l => .arr .u64 4 (fromF l))) := b32_ok base9_ok fun a h K hK => run_from' h K hK
theorem back_ok : CtrOk Tryz.prog env 220 (pureN (n1G fun l => .arr .u8 32 (backF l))) := n1_ok base9_ok fun a b c d K hK => (run_back a b c d K).mpr hK

def baseS1 : List (Nat × Ctr) := (156, pureN (n2G lessV)) :: (157, pureN (b32G fun l => .arr .u64 4 (fromF l))) :: (220, pureN (n1G fun l => .arr .u8 32 (backF l))) :: base9
theorem baseS1_ok : AllOk baseS1 := ⟨less_ok, from_ok, back_ok, base9_ok⟩
end Go.Abs
