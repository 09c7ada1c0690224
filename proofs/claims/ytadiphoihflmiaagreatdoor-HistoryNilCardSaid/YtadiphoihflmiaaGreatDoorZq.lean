/- Powers, roots, points. -/
import Derived.Test.YtadiphoihflmiaaGreatDoorZp
set_option linter.all false
set_option maxRecDepth 1000000
namespace Go.Abs
open Go.Proofs

/-! ### powers -/
def nineF (a : List UInt64) : List UInt64 := mulF a (sqN 2 (sqF a))
def elevF (a : List UInt64) : List UInt64 := mulF (nineF a) (sqF a)
def x5F (a : List UInt64) : List UInt64 := mulF (nineF a) (sqF (elevF a))
def x10F (a : List UInt64) : List UInt64 := mulF (x5F a) (sqN 5 (x5F a))
def x20F (a : List UInt64) : List UInt64 := mulF (x10F a) (sqN 10 (x10F a))
def x40F (a : List UInt64) : List UInt64 := mulF (x20F a) (sqN 20 (x20F a))
def x50F (a : List UInt64) : List UInt64 := mulF (x10F a) (sqN 10 (x40F a))
def x100F (a : List UInt64) : List UInt64 := mulF (x50F a) (sqN 50 (x50F a))
def x200F (a : List UInt64) : List UInt64 := mulF (x100F a) (sqN 100 (x100F a))
def x250F (a : List UInt64) : List UInt64 := mulF (x50F a) (sqN 50 (x200F a))
def invF (a : List UInt64) : List UInt64 := mulF (sqN 5 (x250F a)) (elevF a)
def eigF (a : List UInt64) : List UInt64 := mulF (sqN 2 (x250F a)) a

theorem run_chain (a : List UInt64) : ∀ K, run base7 255 0 [.arr .u64 5 a] [] K = K (.tup [.arr .u64 5 (x250F a), .arr .u64 5 (elevF a)]) [] := by intro K; kernel_rfl
theorem chain_ok : CtrOk Tryz.prog env 255 (pureN (fe1G fun a => .tup [.arr .u64 5 (x250F a), .arr .u64 5 (elevF a)])) := pureN_of_run (n := 0) base7_ok fun {ρ Z us xs v} hx hg K hK => by
  obtain ⟨l, rfl, hl, rfl⟩ := fe1G_inv hx hg
  exact (run_chain l K).mpr hK
def base8 : List (Nat × Ctr) := (255, pureN (fe1G fun a => .tup [.arr .u64 5 (x250F a), .arr .u64 5 (elevF a)])) :: base7
theorem base8_ok : AllOk base8 := ⟨chain_ok, base7_ok⟩

def sameF (a b : List UInt64) : Bool := eqL .u8 (bytesF a) (bytesF b)
def oddF (a : List UInt64) : Bool := eqT .u8 (andT .u8 ((bytesF a).getD 0 (zeroT .u8)) (rawI .u8 1)) (rawI .u8 1)
theorem run_inv (a : List UInt64) : ∀ K, run base8 241 0 [.arr .u64 5 a] [] K = K (.arr .u64 5 (invF a)) [] := by intro K; kernel_rfl
theorem run_eig (a : List UInt64) : ∀ K, run base8 251 0 [.arr .u64 5 a] [] K = K (.arr .u64 5 (eigF a)) [] := by intro K; kernel_rfl
theorem run_same (a b : List UInt64) : ∀ K, run base8 252 0 [.arr .u64 5 a, .arr .u64 5 b] [] K = K (.bool (sameF a b)) [] := by intro K; kernel_rfl
theorem run_odd (a : List UInt64) : ∀ K, run base8 217 0 [.arr .u64 5 a] [] K = K (.bool (oddF a)) [] := by intro K; kernel_rfl
def smallF (n : UInt64) : List UInt64 := [n, w0, w0, w0, w0]
theorem run_small (n : UInt64) : ∀ K, run base8 211 0 [.int .u64 n] [] K = K (.arr .u64 5 (smallF n)) [] := by intro K; kernel_rfl
def curveB : List UInt8 := [163, 120, 89, 19, 202, 77, 235, 117, 171, 216, 65, 65, 77, 10, 112, 0, 152, 232, 121, 119, 121, 64, 199, 140, 115, 254, 111, 43, 238, 108, 3, 82]
def rootB : List UInt8 := [176, 160, 14, 74, 39, 27, 238, 196, 120, 228, 47, 173, 6, 24, 67, 47, 167, 215, 251, 61, 153, 0, 77, 43, 11, 223, 193, 79, 128, 36, 131, 43]
def dF : List UInt64 := loadF curveB
def rF : List UInt64 := loadF rootB
theorem run_curve : ∀ K, run base8 234 0 [] [] K = K (.arr .u64 5 dF) [] := by intro K; kernel_rfl
theorem run_rootM : ∀ K, run base8 253 0 [] [] K = K (.arr .u64 5 rF) [] := by intro K; kernel_rfl

theorem fe1_ok {l : List (Nat × Ctr)} (hl : AllOk l) {f n : Nat} {F : List UInt64 → AVal} (h : ∀ a K, run l f n [.arr .u64 5 a] [] K = K (F a) []) : CtrOk Tryz.prog env f (pureN (fe1G F)) := pureN_of_run (n := n) hl fun {ρ Z us xs v} hx hg K hK => by
  obtain ⟨a, rfl, _, rfl⟩ := fe1G_inv hx hg
  exact (h a K).mpr hK
theorem fe2_ok {l : List (Nat × Ctr)} (hl : AllOk l) {f n : Nat} {F : List UInt64 → List UInt64 → AVal} (h : ∀ a b K, run l f n [.arr .u64 5 a, .arr .u64 5 b] [] K = K (F a b) []) : CtrOk Tryz.prog env f (pureN (fe2G F)) := pureN_of_run (n := n) hl fun {ρ Z us xs v} hx hg K hK => by
  obtain ⟨a, b, rfl, _, _, rfl⟩ := fe2G_inv hx hg
  exact (h a b K).mpr hK
def conG (v : AVal) : List AVal → Option AVal
  | [] => some v
  | _ :: _ => none
theorem con_ok {l : List (Nat × Ctr)} (hl : AllOk l) {f n : Nat} {v : AVal} (h : ∀ K, run l f n [] [] K = K v []) : CtrOk Tryz.prog env f (pureN (conG v)) := pureN_of_run (n := n) hl fun {ρ Z us xs u} hx hg K hK => by
  unfold conG at hg
  split at hg <;> cases hg
  exact (h K).mpr hK

def base9 : List (Nat × Ctr) := (241, pureN (fe1G fun a => .arr .u64 5 (invF a))) :: (251, pureN (fe1G fun a => .arr .u64 5 (eigF a))) :: (252, pureN (fe2G fun a b => .bool (sameF a b))) :: (217, pureN (fe1G fun a => .bool (oddF a))) ::
  (234, pureN (conG (.arr .u64 5 dF))) :: (253, pureN (conG (.arr .u64 5 rF))) :: base8
theorem base9_ok : AllOk base9 := ⟨fe1_ok base8_ok run_inv, fe1_ok base8_ok run_eig, fe2_ok base8_ok run_same, fe1_ok base8_ok run_odd, con_ok base8_ok run_curve, con_ok base8_ok run_rootM, base8_ok⟩

/-! ### roots -/
def v3F (v : List UInt64) : List UInt64 := mulF (sqF v) v
def rxF (u v : List UInt64) : List UInt64 := mulF (mulF u (v3F v)) (eigF (mulF u (mulF (sqF (v3F v)) v)))
def fitF (u v x : List UInt64) : Bool := sameF (mulF v (sqF x)) u
def feB (x : List UInt64) (b : Bool) : AVal := .tup [.arr .u64 5 x, .bool b]
theorem run_root (u v : List UInt64) : ∀ K, run base9 232 0 [.arr .u64 5 u, .arr .u64 5 v] [] K =
  br (fitF u v (rxF u v)) (K (feB (rxF u v) true) []) (br (fitF u v (mulF (rxF u v) rF)) (K (feB (mulF (rxF u v) rF) true) []) (K (feB (mulF (mulF (rxF u v) rF) rF) false) [])) := by intro K; kernel_rfl

def rootF (u v : List UInt64) : List UInt64 × Bool := match fitF u v (rxF u v) with
  | true => (rxF u v, true)
  | false => match fitF u v (mulF (rxF u v) rF) with
    | true => (mulF (rxF u v) rF, true)
    | false => (mulF (mulF (rxF u v) rF) rF, false)
theorem br_eq {α : Type} {K : α → Prop} {b : Bool} {x y : α} : br b (K x) (K y) = K (match b with | true => x | false => y) := by cases b <;> rfl
theorem root_run (u v : List UInt64) (K : AVal → List (Nat × Blk) → Prop) : run base9 232 0 [.arr .u64 5 u, .arr .u64 5 v] [] K = K (feB (rootF u v).1 (rootF u v).2) [] := by
  rw [run_root]
  unfold rootF
  cases fitF u v (rxF u v) with
  | true => rfl
  | false => cases fitF u v (mulF (rxF u v) rF) <;> rfl
theorem root_ok : CtrOk Tryz.prog env 232 (pureN (fe2G fun u v => feB (rootF u v).1 (rootF u v).2)) := fe2_ok base9_ok root_run

/-! ### points -/
structure Pt where
  x : List UInt64
  y : List UInt64
  z : List UInt64
  t : List UInt64
def Pt.v (p : Pt) : AVal := .pair (.arr .u64 5 p.x) (.pair (.arr .u64 5 p.y) (.pair (.arr .u64 5 p.z) (.pair (.arr .u64 5 p.t) .unit)))
def ptDec : AVal → Option Pt
  | .pair (.arr .u64 i x) (.pair (.arr .u64 j y) (.pair (.arr .u64 k z) (.pair (.arr .u64 m t) .unit))) => match Nat.beq i 5, Nat.beq j 5, Nat.beq k 5, Nat.beq m 5 with
    | true, true, true, true => some ⟨x, y, z, t⟩
    | _, _, _, _ => none
  | _ => none
theorem ptDec_inv {v : AVal} {p : Pt} (h : ptDec v = some p) : v = p.v := by
  unfold ptDec at h
  split at h
  · split at h
    · cases h
      rename_i e1 e2 e3 e4
      rw [beq_eq e1, beq_eq e2, beq_eq e3, beq_eq e4]
      rfl
    · cases h
  · cases h
def ptAdd (p q : Pt) : Pt := fin (mulF p.x q.x) (mulF p.y q.y) (mulF (mulF dF p.t) q.t) (mulF p.z q.z) (mulF (addF p.x p.y) (addF q.x q.y))
where
  fin (a b c d s : List UInt64) : Pt := four (subF (subF s a) b) (subF d c) (addF d c) (addF b a)
  four (e f g h : List UInt64) : Pt := ⟨mulF e f, mulF g h, mulF f g, mulF e h⟩
def ptDbl (p : Pt) : Pt := fin (sqF p.x) (sqF p.y) (addF (sqF p.z) (sqF p.z)) (sqF (addF p.x p.y))
where
  fin (a b c s : List UInt64) : Pt := four (addF a b) (subF a b) c s
  four (h g c s : List UInt64) : Pt := five (subF h s) (addF c g) g h
  five (e f g h : List UInt64) : Pt := ⟨mulF e f, mulF g h, mulF f g, mulF e h⟩
theorem run_ptAdd (p q : Pt) : ∀ K, run base9 203 0 [p.v, q.v] [] K = K (ptAdd p q).v [] := by intro K; kernel_rfl
theorem run_ptDbl (p : Pt) : ∀ K, run base9 214 0 [p.v] [] K = K (ptDbl p).v [] := by intro K; kernel_rfl
end Go.Abs
