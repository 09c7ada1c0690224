/- Numbers modulo L, on. -/
import Derived.Test.YtadiphoihflmiaaGreatDoorZs
set_option linter.all false
set_option maxRecDepth 1000000
namespace Go.Abs
open Go.Proofs

def L0 : UInt64 := rawI .u64 6346243789798364141
def L1 : UInt64 := rawI .u64 1503914060200516822
def L3 : UInt64 := rawI .u64 1152921504606846976
def lowT (a0 a1 a2 a3 : UInt64) : List UInt64 := match eqT .u64 (lsB a0 a1 a2 a3 L0 L1 w0 L3) w0 with
  | true => lsD a0 a1 a2 a3 L0 L1 w0 L3
  | false => [a0, a1, a2, a3]
def lowF : List UInt64 → List UInt64
  | [a0, a1, a2, a3] => lowT a0 a1 a2 a3
  | l => l
theorem run_low (a0 a1 a2 a3 : UInt64) : ∀ K, run baseS1 218 1 [.arr .u64 4 [a0, a1, a2, a3]] [] K =
  br (eqT .u64 (lsB a0 a1 a2 a3 L0 L1 w0 L3) w0) (K (.arr .u64 4 (lsD a0 a1 a2 a3 L0 L1 w0 L3)) []) (K (.arr .u64 4 [a0, a1, a2, a3]) []) := by intro K; kernel_rfl
theorem low_ok : CtrOk Tryz.prog env 218 (pureN (n1G fun l => .arr .u64 4 (lowF l))) := n1_ok baseS1_ok fun a0 a1 a2 a3 K hK => by
  rw [run_low]
  simp only [lowF, lowT] at hK
  cases h : eqT .u64 (lsB a0 a1 a2 a3 L0 L1 w0 L3) w0 <;> rw [h] at hK <;> exact hK

/-- hi and lo of a b + x + c. -/
def maH (a b x c : UInt64) : UInt64 := addT .u64 (addT .u64 (mulH a b) (adcC (mulL a b) x w0)) (adcC (adcS (mulL a b) x w0) c w0)
def maL (a b x c : UInt64) : UInt64 := adcS (adcS (mulL a b) x w0) c w0
theorem run_ma (a b x c : UInt64) : ∀ K, run baseS1 264 0 [.int .u64 a, .int .u64 b, .int .u64 x, .int .u64 c] [] K = K (.tup [.int .u64 (maH a b x c), .int .u64 (maL a b x c)]) [] := by intro K; kernel_rfl
def maG : List AVal → Option AVal
  | [.int .u64 a, .int .u64 b, .int .u64 x, .int .u64 c] => some (.tup [.int .u64 (maH a b x c), .int .u64 (maL a b x c)])
  | _ => none
theorem ma_ok : CtrOk Tryz.prog env 264 (pureN maG) := pureN_of_run (n := 0) baseS1_ok fun {ρ Z us xs v} hx hg K hK => by
  unfold maG at hg
  split at hg <;> cases hg
  exact (run_ma _ _ _ _ K).mpr hK

def baseS2 : List (Nat × Ctr) := (218, pureN (n1G fun l => .arr .u64 4 (lowF l))) :: (264, pureN maG) :: baseS1
theorem baseS2_ok : AllOk baseS2 := ⟨low_ok, ma_ok, baseS1_ok⟩

/-! ### value -/
def lowN : Nat → List UInt64 → List UInt64
  | 0, a => a
  | n + 1, a => lowN n (lowF a)
def valF (l : List UInt8) : List UInt64 := lowN 16 (fromF l)
theorem run_val (l : List UInt8) : ∀ K, run baseS2 181 0 [.arr .u8 32 l] [] K = K (.arr .u64 4 (valF l)) [] := by intro K; kernel_rfl

/-! ### sums -/
def plC (a0 a1 a2 a3 b0 b1 b2 b3 : UInt64) : List UInt64 :=
  [adcS a0 b0 w0, adcS a1 b1 (adcC a0 b0 w0), adcS a2 b2 (adcC a1 b1 (adcC a0 b0 w0)), adcS a3 b3 (adcC a2 b2 (adcC a1 b1 (adcC a0 b0 w0)))]
def plF : List UInt64 → List UInt64 → List UInt64
  | [a0, a1, a2, a3], [b0, b1, b2, b3] => lowF (plC a0 a1 a2 a3 b0 b1 b2 b3)
  | l, _ => l
theorem run_pl (a0 a1 a2 a3 b0 b1 b2 b3 : UInt64) : ∀ K, run baseS2 221 0 [.arr .u64 4 [a0, a1, a2, a3], .arr .u64 4 [b0, b1, b2, b3]] [] K =
  chk (le1 (adcC a0 b0 w0)) (chk (le1 (adcC a1 b1 (adcC a0 b0 w0))) (chk (le1 (adcC a2 b2 (adcC a1 b1 (adcC a0 b0 w0)))) (K (.arr .u64 4 (plF [a0, a1, a2, a3] [b0, b1, b2, b3])) []))) := by intro K; kernel_rfl
theorem adcC_le1 {x y c : UInt64} (h : le1 c = true) : le1 (adcC x y c) = true := adcC_le x y c (Nat.le_of_ble_eq_true h)
theorem pl_ok : CtrOk Tryz.prog env 221 (pureN (n2G fun a b => .arr .u64 4 (plF a b))) := n2_ok baseS2_ok fun a0 a1 a2 a3 b0 b1 b2 b3 K hK => by
  have h0 : le1 w0 = true := by kernel_rfl
  exact (run_pl a0 a1 a2 a3 b0 b1 b2 b3 K).mpr (chk_mk (adcC_le1 h0) (chk_mk (adcC_le1 (adcC_le1 h0)) (chk_mk (adcC_le1 (adcC_le1 (adcC_le1 h0))) hK)))

def val_okG : List AVal → Option AVal := b32G fun l => .arr .u64 4 (valF l)
theorem val_ok : CtrOk Tryz.prog env 181 (pureN (b32G fun l => .arr .u64 4 (valF l))) := b32_ok baseS2_ok fun a _ K hK => (run_val a K).mpr hK

/-! ### Montgomery's product -/
def turn : UInt64 := rawI .u64 15183074304973897243
def mr5 (u4 u5 v0 v1 v2 d3 : UInt64) : List UInt64 := [v0, v1, v2, adcS u4 d3 w0, addT .u64 u5 (adcC u4 d3 w0)]
def mr4 (m u1 u2 u3 u4 u5 d0 : UInt64) : List UInt64 :=
  mr5 u4 u5 (maL m L1 u1 d0) (maL m w0 u2 (maH m L1 u1 d0)) (maL m L3 u3 (maH m w0 u2 (maH m L1 u1 d0))) (maH m L3 u3 (maH m w0 u2 (maH m L1 u1 d0)))
def mr3 (u0 u1 u2 u3 u4 u5 : UInt64) : List UInt64 := mr4 (mulT .u64 u0 turn) u1 u2 u3 u4 u5 (maH (mulT .u64 u0 turn) L0 u0 w0)
def mr2 (t4 u0 u1 u2 u3 c : UInt64) : List UInt64 := mr3 u0 u1 u2 u3 (adcS t4 c w0) (adcC t4 c w0)
def mr1 (a b0 b1 b2 b3 t0 t1 t2 t3 t4 c0 : UInt64) : List UInt64 :=
  mr2 t4 (maL a b0 t0 w0) (maL a b1 t1 c0) (maL a b2 t2 (maH a b1 t1 c0)) (maL a b3 t3 (maH a b2 t2 (maH a b1 t1 c0))) (maH a b3 t3 (maH a b2 t2 (maH a b1 t1 c0)))
def mrF (a b0 b1 b2 b3 : UInt64) : List UInt64 → List UInt64
  | [t0, t1, t2, t3, t4] => mr1 a b0 b1 b2 b3 t0 t1 t2 t3 t4 (maH a b0 t0 w0)
  | l => l
def take4 : List UInt64 → List UInt64
  | [a, b, c, d, _] => [a, b, c, d]
  | l => l
def montF : List UInt64 → List UInt64 → List UInt64
  | [a0, a1, a2, a3], [b0, b1, b2, b3] => lowF (take4 (mrF a3 b0 b1 b2 b3 (mrF a2 b0 b1 b2 b3 (mrF a1 b0 b1 b2 b3 (mrF a0 b0 b1 b2 b3 [w0, w0, w0, w0, w0])))))
  | l, _ => l
theorem run_mont (a0 a1 a2 a3 b0 b1 b2 b3 : UInt64) : ∀ K, run baseS2 249 1 [.arr .u64 4 [a0, a1, a2, a3], .arr .u64 4 [b0, b1, b2, b3]] [] K = K (.arr .u64 4 (montF [a0, a1, a2, a3] [b0, b1, b2, b3])) [] := by intro K; kernel_rfl

theorem mont_ok : CtrOk Tryz.prog env 249 (pureN (n2G fun a b => .arr .u64 4 (montF a b))) := n2_ok baseS2_ok fun a0 a1 a2 a3 b0 b1 b2 b3 K hK => (run_mont a0 a1 a2 a3 b0 b1 b2 b3 K).mpr hK
def baseS3 : List (Nat × Ctr) := (181, pureN (b32G fun l => .arr .u64 4 (valF l))) :: (221, pureN (n2G fun a b => .arr .u64 4 (plF a b))) :: (249, pureN (n2G fun a b => .arr .u64 4 (montF a b))) :: baseS2
theorem baseS3_ok : AllOk baseS3 := ⟨val_ok, pl_ok, mont_ok, baseS2_ok⟩

def radF : List UInt64 := [rawI .u64 11819153939886771969, rawI .u64 14991950615390032711, rawI .u64 14910419812499177061, rawI .u64 259310039853996605]
def tiF (a b : List UInt64) : List UInt64 := montF (montF a b) radF
theorem run_ti (a b : List UInt64) : ∀ K, run baseS3 230 1 [.arr .u64 4 a, .arr .u64 4 b] [] K = K (.arr .u64 4 (tiF a b)) [] := by intro K; kernel_rfl
theorem ti_ok : CtrOk Tryz.prog env 230 (pureN (n2G fun a b => .arr .u64 4 (tiF a b))) := n2_ok baseS3_ok fun a0 a1 a2 a3 b0 b1 b2 b3 K hK => (run_ti _ _ K).mpr hK

def ordF : List UInt64 := [L0, L1, w0, L3]
def zN : List UInt64 := List.replicate 4 (zeroT .u64)
def negF : List UInt64 → List UInt64
  | [a0, a1, a2, a3] => match eqL .u64 [a0, a1, a2, a3] zN with
    | true => [a0, a1, a2, a3]
    | false => lsD L0 L1 w0 L3 a0 a1 a2 a3
  | l => l
theorem run_neg (a0 a1 a2 a3 : UInt64) : ∀ K, run baseS3 262 1 [.arr .u64 4 [a0, a1, a2, a3]] [] K =
  br (eqL .u64 [a0, a1, a2, a3] zN) (K (.arr .u64 4 [a0, a1, a2, a3]) []) (K (.arr .u64 4 (lsD L0 L1 w0 L3 a0 a1 a2 a3)) []) := by intro K; kernel_rfl
theorem neg_ok : CtrOk Tryz.prog env 262 (pureN (n1G fun l => .arr .u64 4 (negF l))) := n1_ok baseS3_ok fun a0 a1 a2 a3 K hK => by
  rw [run_neg]
  simp only [negF] at hK
  cases h : eqL .u64 [a0, a1, a2, a3] zN <;> rw [h] at hK <;> exact hK
def baseS4 : List (Nat × Ctr) := (230, pureN (n2G fun a b => .arr .u64 4 (tiF a b))) :: (262, pureN (n1G fun l => .arr .u64 4 (negF l))) :: baseS3
theorem baseS4_ok : AllOk baseS4 := ⟨ti_ok, neg_ok, baseS3_ok⟩

/-! ### doors -/
def sAddF (a b : List UInt8) : List UInt8 := backF (plF (valF a) (valF b))
def sMulF (a b : List UInt8) : List UInt8 := backF (tiF (valF a) (valF b))
def sSubF (a b : List UInt8) : List UInt8 := backF (plF (valF a) (negF (valF b)))
theorem run_sAdd (a b : List UInt8) : ∀ K, run baseS4 183 0 [.arr .u8 32 a, .arr .u8 32 b] [] K = K (.arr .u8 32 (sAddF a b)) [] := by intro K; kernel_rfl
theorem run_sMul (a b : List UInt8) : ∀ K, run baseS4 198 0 [.arr .u8 32 a, .arr .u8 32 b] [] K = K (.arr .u8 32 (sMulF a b)) [] := by intro K; kernel_rfl
theorem run_sSub (a b : List UInt8) : ∀ K, run baseS4 247 0 [.arr .u8 32 a, .arr .u8 32 b] [] K = K (.arr .u8 32 (sSubF a b)) [] := by intro K; kernel_rfl
end Go.Abs
