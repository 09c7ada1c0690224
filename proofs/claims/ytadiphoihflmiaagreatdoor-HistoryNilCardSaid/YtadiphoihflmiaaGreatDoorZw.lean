/- The curve's doors. -/
import Derived.Test.YtadiphoihflmiaaGreatDoorZt
import Derived.Test.YtadiphoihflmiaaGreatDoorZv
set_option linter.all false
set_option maxRecDepth 1000000
namespace Go.Abs
open Go.Proofs

def bxB : List UInt8 := [26, 213, 37, 143, 96, 45, 86, 201, 178, 167, 37, 149, 96, 199, 44, 105, 92, 220, 214, 253, 49, 226, 164, 192, 254, 83, 110, 205, 211, 54, 105, 33]
def byB : List UInt8 := 88 :: List.replicate 31 102
def basePt : Pt := ⟨loadF bxB, loadF byB, oneF, mulF (loadF bxB) (loadF byB)⟩
theorem run_base : ∀ K, run base12 178 0 [] [] K = K basePt.v [] := by intro K; kernel_rfl
/-- The doors' table, with any opening. -/
def baseD (op : List UInt8 → Pt × Bool) : List (Nat × Ctr) := (178, pureN (conG basePt.v)) :: (199, pureN (b32G fun e => ptB (op e).1 (op e).2)) :: base12
theorem baseD_ok : AllOk (baseD openF) := ⟨con_ok base12_ok run_base, open_ok, base12_ok⟩
theorem run_mulBase (op : List UInt8 → Pt × Bool) (k : List UInt8) : ∀ K, run (baseD op) 144 0 [.arr .u8 32 k] [] K = K (.arr .u8 32 (formF (ptMul basePt k))) [] := by intro K; kernel_rfl

def noE : AVal := .tup [.arr .u8 32 z32, .int .i64 (41 : Int)]
def okE (l : List UInt8) : AVal := .tup [.arr .u8 32 l, .int .i64 (0 : Int)]
theorem run_check (op : List UInt8 → Pt × Bool) (e : List UInt8) : ∀ K, run (baseD op) 165 0 [.arr .u8 32 e] [] K = br (!(op e).2) (K (.int .i64 (41 : Int)) []) (K (.int .i64 (0 : Int)) []) := by intro K; kernel_rfl
theorem run_mulE (op : List UInt8 → Pt × Bool) (k e : List UInt8) : ∀ K, run (baseD op) 166 2 [.arr .u8 32 k, .arr .u8 32 e] [] K = br (!(op e).2) (K noE []) (K (okE (formF (ptMul (op e).1 k))) []) := by intro K; kernel_rfl
theorem run_addE (op : List UInt8 → Pt × Bool) (a b : List UInt8) : ∀ K, run (baseD op) 168 2 [.arr .u8 32 a, .arr .u8 32 b] [] K =
  br (!(op a).2) (K noE []) (br (!(op b).2) (K noE []) (K (okE (formF (ptAdd (op a).1 (op b).1))) [])) := by intro K; kernel_rfl
theorem run_identE (op : List UInt8 → Pt × Bool) : ∀ K, run (baseD op) 194 0 [] [] K = K (.arr .u8 32 (formF ptId)) [] := by intro K; kernel_rfl

def bb2G (f : List UInt8 → List UInt8 → AVal) : List AVal → Option AVal
  | [.arr .u8 k a, .arr .u8 j b] => match Nat.beq k 32, Nat.beq j 32 with
    | true, true => some (f a b)
    | _, _ => none
  | _ => none
theorem bb2_ok {l : List (Nat × Ctr)} (hl : AllOk l) {f n : Nat} {F : List UInt8 → List UInt8 → AVal} (h : ∀ a b : List UInt8, ∀ K, K (F a b) [] → run l f n [.arr .u8 32 a, .arr .u8 32 b] [] K) : CtrOk Tryz.prog env f (pureN (bb2G F)) := pureN_of_run (n := n) hl fun {ρ Z us xs v} hx hg K hK => by
  unfold bb2G at hg
  split at hg
  · split at hg
    · cases hg
      rename_i e e'
      have := beq_eq e; subst this
      have := beq_eq e'; subst this
      exact h _ _ K hK
    · cases hg
  · cases hg

def checkF (e : List UInt8) : AVal := match (openF e).2 with
  | true => .int .i64 (0 : Int)
  | false => .int .i64 (41 : Int)
def mulE (k e : List UInt8) : AVal := match (openF e).2 with
  | true => okE (formF (ptMul (openF e).1 k))
  | false => noE
def addE (a b : List UInt8) : AVal := match (openF a).2 with
  | true => match (openF b).2 with
    | true => okE (formF (ptAdd (openF a).1 (openF b).1))
    | false => noE
  | false => noE
theorem check_ok : CtrOk Tryz.prog env 165 (pureN (b32G checkF)) := b32_ok baseD_ok fun e _ K hK => by
  rw [run_check]
  unfold checkF at hK
  cases h : (openF e).2 <;> rw [h] at hK <;> exact hK
theorem mulE_ok : CtrOk Tryz.prog env 166 (pureN (bb2G mulE)) := bb2_ok baseD_ok fun k e K hK => by
  rw [run_mulE]
  unfold mulE at hK
  cases h : (openF e).2 <;> rw [h] at hK <;> exact hK
theorem addE_ok : CtrOk Tryz.prog env 168 (pureN (bb2G addE)) := bb2_ok baseD_ok fun a b K hK => by
  rw [run_addE]
  unfold addE at hK
  cases h : (openF a).2 <;> cases h' : (openF b).2 <;> simp only [h, h'] at hK <;> exact hK
theorem mulB_ok : CtrOk Tryz.prog env 144 (pureN (b32G fun k => .arr .u8 32 (formF (ptMul basePt k)))) := b32_ok baseD_ok fun k _ K hK => (run_mulBase openF k K).mpr hK
theorem identE_ok : CtrOk Tryz.prog env 194 (pureN (conG (.arr .u8 32 (formF ptId)))) := con_ok baseD_ok (run_identE openF)
theorem sAdd_ok : CtrOk Tryz.prog env 183 (pureN (bb2G fun a b => .arr .u8 32 (sAddF a b))) := bb2_ok baseS4_ok fun a b K hK => (run_sAdd a b K).mpr hK
theorem sMul_ok : CtrOk Tryz.prog env 198 (pureN (bb2G fun a b => .arr .u8 32 (sMulF a b))) := bb2_ok baseS4_ok fun a b K hK => (run_sMul a b K).mpr hK
theorem sSub_ok : CtrOk Tryz.prog env 247 (pureN (bb2G fun a b => .arr .u8 32 (sSubF a b))) := bb2_ok baseS4_ok fun a b K hK => (run_sSub a b K).mpr hK
end Go.Abs
