/- Powers, roots, points. A point, so many times. A copy of rows. history.Accounts: the loop, in the model; the contract. history.Accounts: the contract. -/
import Derived.Test.YtadiphoihflmiaaGreatDoorZaw
import Derived.Test.YtadiphoihflmiaaGreatDoorZat
import Derived.Test.YtadiphoihflmiaaGreatDoorZav
set_option linter.all false
set_option maxRecDepth 1000000
namespace Go.Abs
open Go.Proofs

/-! ### powers -/
def nineF (a : List UInt64) : List UInt64 := mulF a (sqN 2 (sqF a))
def elevF (a : List UInt64) : List UInt64 := mulF (nineF a) (sqF a)
def x5F (a : List UInt64) : List UInt64 := mulF (nineF a) (sqF (elevF a))
def x10F (a : List UInt64) : List UInt64 := mulF (x5F a) (sqN 5 (x5F a))
def x20F (a : List UInt64) : List UInt64 := mulF (x10F a) (sqN 10 (x10F a))
def x40F (a : List UInt64) : List UInt64 := mulF (x20F a) (sqN 20 (x20F a))
def x50F (a : List UInt64) : List UInt64 := mulF (x10F a) (sqN 10 (x40F a))
def x100F (a : List UInt64) : List UInt64 := mulF (x50F a) (sqN 50 (x50F a))
def x200F (a : List UInt64) : List UInt64 := mulF (x100F a) (sqN 100 (x100F a))
def x250F (a : List UInt64) : List UInt64 := mulF (x50F a) (sqN 50 (x200F a))
def invF (a : List UInt64) : List UInt64 := mulF (sqN 5 (x250F a)) (elevF a)
def eigF (a : List UInt64) : List UInt64 := mulF (sqN 2 (x250F a)) a

theorem run_chain (a : List UInt64) : ∀ K, run base7 255 0 [.arr .u64 5 a] [] K = K (.tup [.arr .u64 5 (x250F a), .arr .u64 5 (elevF a)]) [] := by intro K; kernel_rfl
theorem chain_ok : CtrOk Tryz.prog env 255 (pureN (fe1G fun a => .tup [.arr .u64 5 (x250F a), .arr .u64 5 (elevF a)])) := pureN_of_run (n := 0) base7_ok fun {ρ Z us xs v} hx hg K hK => by
  obtain ⟨l, rfl, hl, rfl⟩ := fe1G_inv hx hg
  exact (run_chain l K).mpr hK
def base8 : List (Nat × Ctr) := (255, pureN (fe1G fun a => .tup [.arr .u64 5 (x250F a), .arr .u64 5 (elevF a)])) :: base7
theorem base8_ok : AllOk base8 := ⟨chain_ok, base7_ok⟩

def sameF (a b : List UInt64) : Bool := eqL .u8 (bytesF a) (bytesF b)
def oddF (a : List UInt64) : Bool := eqT .u8 (andT .u8 ((bytesF a).getD 0 (zeroT .u8)) (rawI .u8 1)) (rawI .u8 1)
theorem run_inv (a : List UInt64) : ∀ K, run base8 241 0 [.arr .u64 5 a] [] K = K (.arr .u64 5 (invF a)) [] := by intro K; kernel_rfl
theorem run_eig (a : List UInt64) : ∀ K, run base8 251 0 [.arr .u64 5 a] [] K = K (.arr .u64 5 (eigF a)) [] := by intro K; kernel_rfl
theorem run_same (a b : List UInt64) : ∀ K, run base8 252 0 [.arr .u64 5 a, .arr .u64 5 b] [] K = K (.bool (sameF a b)) [] := by intro K; kernel_rfl
theorem run_odd (a : List UInt64) : ∀ K, run base8 217 0 [.arr .u64 5 a] [] K = K (.bool (oddF a)) [] := by intro K; kernel_rfl
def smallF (n : UInt64) : List UInt64 := [n, w0, w0, w0, w0]
theorem run_small (n : UInt64) : ∀ K, run base8 211 0 [.int .u64 n] [] K = K (.arr .u64 5 (smallF n)) [] := by intro K; kernel_rfl
def curveB : List UInt8 := [163, 120, 89, 19, 202, 77, 235, 117, 171, 216, 65, 65, 77, 10, 112, 0, 152, 232, 121, 119, 121, 64, 199, 140, 115, 254, 111, 43, 238, 108, 3, 82]
def rootB : List UInt8 := [176, 160, 14, 74, 39, 27, 238, 196, 120, 228, 47, 173, 6, 24, 67, 47, 167, 215, 251, 61, 153, 0, 77, 43, 11, 223, 193, 79, 128, 36, 131, 43]
def dF : List UInt64 := loadF curveB
def rF : List UInt64 := loadF rootB
theorem run_curve : ∀ K, run base8 234 0 [] [] K = K (.arr .u64 5 dF) [] := by intro K; kernel_rfl
theorem run_rootM : ∀ K, run base8 253 0 [] [] K = K (.arr .u64 5 rF) [] := by intro K; kernel_rfl

theorem fe1_ok {l : List (Nat × Ctr)} (hl : AllOk l) {f n : Nat} {F : List UInt64 → AVal} (h : ∀ a K, run l f n [.arr .u64 5 a] [] K = K (F a) []) : CtrOk Tryz.prog env f (pureN (fe1G F)) := pureN_of_run (n := n) hl fun {ρ Z us xs v} hx hg K hK => by
  obtain ⟨a, rfl, _, rfl⟩ := fe1G_inv hx hg
  exact (h a K).mpr hK
theorem fe2_ok {l : List (Nat × Ctr)} (hl : AllOk l) {f n : Nat} {F : List UInt64 → List UInt64 → AVal} (h : ∀ a b K, run l f n [.arr .u64 5 a, .arr .u64 5 b] [] K = K (F a b) []) : CtrOk Tryz.prog env f (pureN (fe2G F)) := pureN_of_run (n := n) hl fun {ρ Z us xs v} hx hg K hK => by
  obtain ⟨a, b, rfl, _, _, rfl⟩ := fe2G_inv hx hg
  exact (h a b K).mpr hK
def conG (v : AVal) : List AVal → Option AVal
  | [] => some v
  | _ :: _ => none
theorem con_ok {l : List (Nat × Ctr)} (hl : AllOk l) {f n : Nat} {v : AVal} (h : ∀ K, run l f n [] [] K = K v []) : CtrOk Tryz.prog env f (pureN (conG v)) := pureN_of_run (n := n) hl fun {ρ Z us xs u} hx hg K hK => by
  unfold conG at hg
  split at hg <;> cases hg
  exact (h K).mpr hK

def base9 : List (Nat × Ctr) := (241, pureN (fe1G fun a => .arr .u64 5 (invF a))) :: (251, pureN (fe1G fun a => .arr .u64 5 (eigF a))) :: (252, pureN (fe2G fun a b => .bool (sameF a b))) :: (217, pureN (fe1G fun a => .bool (oddF a))) ::
  (234, pureN (conG (.arr .u64 5 dF))) :: (253, pureN (conG (.arr .u64 5 rF))) :: base8
theorem base9_ok : AllOk base9 := ⟨fe1_ok base8_ok run_inv, fe1_ok base8_ok run_eig, fe2_ok base8_ok run_same, fe1_ok base8_ok run_odd, con_ok base8_ok run_curve, con_ok base8_ok run_rootM, base8_ok⟩

/-! ### roots -/
def v3F (v : List UInt64) : List UInt64 := mulF (sqF v) v
def rxF (u v : List UInt64) : List UInt64 := mulF (mulF u (v3F v)) (eigF (mulF u (mulF (sqF (v3F v)) v)))
def fitF (u v x : List UInt64) : Bool := sameF (mulF v (sqF x)) u
def feB (x : List UInt64) (b : Bool) : AVal := .tup [.arr .u64 5 x, .bool b]
theorem run_root (u v : List UInt64) : ∀ K, run base9 232 0 [.arr .u64 5 u, .arr .u64 5 v] [] K =
  br (fitF u v (rxF u v)) (K (feB (rxF u v) true) []) (br (fitF u v (mulF (rxF u v) rF)) (K (feB (mulF (rxF u v) rF) true) []) (K (feB (mulF (mulF (rxF u v) rF) rF) false) [])) := by intro K; kernel_rfl

def rootF (u v : List UInt64) : List UInt64 × Bool := match fitF u v (rxF u v) with
  | true => (rxF u v, true)
  | false => match fitF u v (mulF (rxF u v) rF) with
    | true => (mulF (rxF u v) rF, true)
    | false => (mulF (mulF (rxF u v) rF) rF, false)
theorem br_eq {α : Type} {K : α → Prop} {b : Bool} {x y : α} : br b (K x) (K y) = K (match b with | true => x | false => y) := by cases b <;> rfl
theorem root_run (u v : List UInt64) (K : AVal → List (Nat × Blk) → Prop) : run base9 232 0 [.arr .u64 5 u, .arr .u64 5 v] [] K = K (feB (rootF u v).1 (rootF u v).2) [] := by
  rw [run_root]
  unfold rootF
  cases fitF u v (rxF u v) with
  | true => rfl
  | false => cases fitF u v (mulF (rxF u v) rF) <;> rfl
theorem root_ok : CtrOk Tryz.prog env 232 (pureN (fe2G fun u v => feB (rootF u v).1 (rootF u v).2)) := fe2_ok base9_ok root_run

/-! ### points -/
structure Pt where
  x : List UInt64
  y : List UInt64
  z : List UInt64
  t : List UInt64
def Pt.v (p : Pt) : AVal := .pair (.arr .u64 5 p.x) (.pair (.arr .u64 5 p.y) (.pair (.arr .u64 5 p.z) (.pair (.arr .u64 5 p.t) .unit)))
def ptDec : AVal → Option Pt
  | .pair (.arr .u64 i x) (.pair (.arr .u64 j y) (.pair (.arr .u64 k z) (.pair (.arr .u64 m t) .unit))) => match Nat.beq i 5, Nat.beq j 5, Nat.beq k 5, Nat.beq m 5 with
    | true, true, true, true => some ⟨x, y, z, t⟩
    | _, _, _, _ => none
  | _ => none
theorem ptDec_inv {v : AVal} {p : Pt} (h : ptDec v = some p) : v = p.v := by
  unfold ptDec at h
  split at h
  · split at h
    · cases h
      rename_i e1 e2 e3 e4
      rw [beq_eq e1, beq_eq e2, beq_eq e3, beq_eq e4]
      rfl
    · cases h
  · cases h
def ptAdd (p q : Pt) : Pt := fin (mulF p.x q.x) (mulF p.y q.y) (mulF (mulF dF p.t) q.t) (mulF p.z q.z) (mulF (addF p.x p.y) (addF q.x q.y))
where
  fin (a b c d s : List UInt64) : Pt := four (subF (subF s a) b) (subF d c) (addF d c) (addF b a)
  four (e f g h : List UInt64) : Pt := ⟨mulF e f, mulF g h, mulF f g, mulF e h⟩
def ptDbl (p : Pt) : Pt := fin (sqF p.x) (sqF p.y) (addF (sqF p.z) (sqF p.z)) (sqF (addF p.x p.y))
where
  fin (a b c s : List UInt64) : Pt := four (addF a b) (subF a b) c s
  four (h g c s : List UInt64) : Pt := five (subF h s) (addF c g) g h
  five (e f g h : List UInt64) : Pt := ⟨mulF e f, mulF g h, mulF f g, mulF e h⟩
theorem run_ptAdd (p q : Pt) : ∀ K, run base9 203 0 [p.v, q.v] [] K = K (ptAdd p q).v [] := by intro K; kernel_rfl
theorem run_ptDbl (p : Pt) : ∀ K, run base9 214 0 [p.v] [] K = K (ptDbl p).v [] := by intro K; kernel_rfl
end Go.Abs

namespace Go.Abs
open Go.Proofs

def pt1G (f : Pt → AVal) : List AVal → Option AVal
  | [v] => match ptDec v with
    | some p => some (f p)
    | none => none
  | _ => none
def pt2G (f : Pt → Pt → AVal) : List AVal → Option AVal
  | [v, w] => match ptDec v with
    | some p => match ptDec w with
      | some q => some (f p q)
      | none => none
    | none => none
  | _ => none

theorem pt1_ok {l : List (Nat × Ctr)} (hl : AllOk l) {f n : Nat} {F : Pt → AVal} (h : ∀ p K, run l f n [p.v] [] K = K (F p) []) : CtrOk Tryz.prog env f (pureN (pt1G F)) := pureN_of_run (n := n) hl fun {ρ Z us xs v} hx hg K hK => by
  unfold pt1G at hg
  split at hg
  · split at hg
    · cases hg
      rename_i e
      rw [ptDec_inv e]
      exact (h _ K).mpr hK
    · cases hg
  · cases hg
theorem pt2_ok {l : List (Nat × Ctr)} (hl : AllOk l) {f n : Nat} {F : Pt → Pt → AVal} (h : ∀ p q K, run l f n [p.v, q.v] [] K = K (F p q) []) : CtrOk Tryz.prog env f (pureN (pt2G F)) := pureN_of_run (n := n) hl fun {ρ Z us xs v} hx hg K hK => by
  unfold pt2G at hg
  split at hg
  · split at hg
    · split at hg
      · cases hg
        rename_i e _ _ e'
        rw [ptDec_inv e, ptDec_inv e']
        exact (h _ _ K).mpr hK
      · cases hg
    · cases hg
  · cases hg

def zF : List UInt64 := List.replicate 5 (zeroT .u64)
def oneF : List UInt64 := smallF (rawI .u64 1)
def ptId : Pt := ⟨zF, oneF, oneF, zF⟩
def ptZ : Pt := ⟨zF, zF, zF, zF⟩
theorem run_id : ∀ K, run base9 213 1 [] [] K = K ptId.v [] := by intro K; kernel_rfl
def smG : List AVal → Option AVal
  | [.int .u64 n] => some (.arr .u64 5 (smallF n))
  | _ => none
theorem small_ok : CtrOk Tryz.prog env 211 (pureN smG) := pureN_of_run (n := 0) base8_ok fun {ρ Z us xs v} hx hg K hK => by
  unfold smG at hg
  split at hg <;> cases hg
  exact (run_small _ K).mpr hK

def base10 : List (Nat × Ctr) := (203, pureN (pt2G fun p q => (ptAdd p q).v)) :: (214, pureN (pt1G fun p => (ptDbl p).v)) :: (213, pureN (conG ptId.v)) :: (211, pureN smG) :: (232, pureN (fe2G fun u v => feB (rootF u v).1 (rootF u v).2)) :: base9
theorem base10_ok : AllOk base10 := ⟨pt2_ok base9_ok run_ptAdd, pt1_ok base9_ok run_ptDbl, con_ok base9_ok run_id, small_ok, root_ok, base9_ok⟩

/-! ### the loop -/
def tabR : Nat → Pt → Pt → List Pt
  | 0, _, _ => []
  | n + 1, p, q => q :: tabR n p (ptAdd q p)
def ptsV : List Pt → AVal
  | [] => .unit
  | p :: ps => .pair p.v (ptsV ps)
def nthPt : List Pt → Nat → Pt
  | [], _ => ptZ
  | p :: _, 0 => p
  | _ :: ps, n + 1 => nthPt ps n
def headM (p : Pt) (k : List UInt8) (r : Pt) (i : Int) : Hd :=
  (none :: none :: none :: some (.ptr 0 []) :: some (.ptr 1 []) :: some (.ptr 2 []) :: none :: some (.ptr 3 []) :: some (.int .i64 i) :: noneL 42,
    [(0, ⟨.var 90, .var (.arr .u8 32 k)⟩), (1, ⟨.var 369, .var ptZ.v⟩), (2, ⟨.var 397, .var (ptsV (tabR 16 p ptId))⟩), (3, ⟨.var 369, .var r.v⟩)])
/-- One nibble. -/
def nib (k : List UInt8) (i : Int) : UInt8 := andT .u8 (shrT .u8 (k.getD (toI .i64 (quoT .i64 i (rawI .i64 2))).toNat (zeroT .u8)) (toI .i64 (mulT .i64 (rawI .i64 4) (remT .i64 i (rawI .i64 2)))).toNat) (rawI .u8 15)
def dbl4 (r : Pt) : Pt := ptDbl (ptDbl (ptDbl (ptDbl r)))
/-- Back at the head, as this one. -/
def backK (f r : Nat) (h : Hd) : XE → St → Prop := fun e S => match e with
  | .normal => canonD 0 (liveOf f r) S fun x => x = h
  | _ => False

def hq (i : Int) : Int := quoT .i64 i (rawI .i64 2)
def hc (i : Int) : Int := mulT .i64 (rawI .i64 4) (remT .i64 i (rawI .i64 2))
theorem step_mul (p r : Pt) (k : List UInt8) (i : Int) (h : Hd) (fuel : Nat) : evC base10 179 0 0 (fuel + 10) (loopN 179 1) (headSt (headM p k r i)) (backK 179 10 h) =
  br (leT .i64 (rawI .i64 0) i) (chk (!isNeg .i64 (hq i)) (chk (decide (toI .i64 (hq i) < (32 : Nat))) (chk (!isNeg .i64 (hc i))
    (br (ltT .u8 (rawI .u8 0) (nib k i)) (chk (!isNeg .u8 (nib k i)) (chk (decide (toI .u8 (nib k i) < (16 : Nat))) (splitN 16 0 (toI .u8 (nib k i)).toNat fun j => headM p k (ptAdd (dbl4 r) (nthPt (tabR 16 p ptId) j)) (subT .i64 i (rawI .i64 1)) = h)))
      (headM p k (dbl4 r) (subT .i64 i (rawI .i64 1)) = h))))) False := by kernel_rfl

def okI (m : Nat) : Bool := leT .i64 (rawI .i64 0) (m : Int) && (!isNeg .i64 (hq m) && (decide (toI .i64 (hq m) < (32 : Nat)) && (!isNeg .i64 (hc m) && (subT .i64 (m : Int) (rawI .i64 1) == (m : Int) - 1))))
theorem okI_all : allB okI 64 = true := by kernel_rfl

theorem nib_lt (x : UInt8) : (UInt8.toNat (andT .u8 x (rawI .u8 15))) < 16 := by
  have e : (UInt8.toNat (andT .u8 x (rawI .u8 15)) : Int) = IntKind.u8.wrap ((BitVec.ofInt 8 (toI .u8 x) &&& BitVec.ofInt 8 15).toNat : Int) := toI_ofI .u8 _
  have h : (BitVec.ofInt 8 (toI .u8 x) &&& BitVec.ofInt 8 15).toNat ≤ (BitVec.ofInt 8 15).toNat := by
    rw [BitVec.toNat_and]; exact Nat.and_le_right
  have h2 : (BitVec.ofInt 8 15).toNat = 15 := by decide
  have w : ∀ n : Int, IntKind.u8.wrap n = n % 256 := fun n => by simp [IntKind.wrap, IntKind.signed, IntKind.bits]
  rw [w] at e
  omega

def nextM (p : Pt) (k : List UInt8) (r : Pt) (i : Int) : Pt := match ltT .u8 (rawI .u8 0) (nib k i) with
  | true => ptAdd (dbl4 r) (nthPt (tabR 16 p ptId) (UInt8.toNat (nib k i)))
  | false => dbl4 r
def loopM (p : Pt) (k : List UInt8) : Nat → Pt → Pt
  | 0, r => r
  | m + 1, r => loopM p k m (nextM p k r (m : Int))

theorem splitN_of {K : Nat → Prop} : ∀ {n s m : Nat}, s ≤ m → m < s + n → K m → splitN n s m K
  | 0, s, m, h1, h2, h => by omega
  | n + 1, s, m, h1, h2, h => by
    simp only [splitN]
    cases hq : Nat.beq m s with
    | true => rw [← beq_eq hq]; exact h
    | false =>
      have : m ≠ s := fun e => by subst e; simp at hq
      exact splitN_of (by show s + 1 ≤ m; omega) (by show m < s + 1 + n; omega) h

theorem br_mk {p q : Prop} (h : p) : br true p q := h

theorem steps_mul (p : Pt) (k : List UInt8) (fuel : Nat) : ∀ (m : Nat) (r : Pt), m ≤ 64 → Steps 0 (liveOf 179 10) (evC base10 179 0 0 (fuel + 10) (loopN 179 1)) m (headM p k r ((m : Int) - 1)) (headM p k (loopM p k m r) (-1))
  | 0, r, _ => Steps.refl _
  | m + 1, r, hm => by
    have h := allB_spec okI_all m (by omega)
    simp only [okI, Bool.and_eq_true, beq_iff_eq] at h
    obtain ⟨h1, h2, h3, h4, h5⟩ := h
    have e : ((m + 1 : Nat) : Int) - 1 = (m : Int) := by omega
    rw [e]
    refine Steps.step (h1 := headM p k (nextM p k r (m : Int)) ((m : Int) - 1)) ((step_mul p r k (m : Int) _ fuel).mpr ?_) (steps_mul p k fuel m _ (by omega))
    rw [h1]
    refine chk_mk h2 (chk_mk h3 (chk_mk h4 ?_))
    rw [h5]
    unfold nextM
    cases ltT .u8 (rawI .u8 0) (nib k (m : Int)) with
    | false => rfl
    | true =>
      have hn : UInt8.toNat (nib k (m : Int)) < 16 := nib_lt _
      refine br_mk (chk_mk rfl (chk_mk (decide_eq_true (Int.ofNat_lt.2 hn)) ?_))
      exact splitN_of (by omega) (by simp only [toI, Int.toNat_natCast]; omega) (by simp only [toI, Int.toNat_natCast])

def ptMul (p : Pt) (k : List UInt8) : Pt := loopM p k 64 ptId
def jumpM (p : Pt) (k : List UInt8) (q : Pt) : Nat → Option Jump := fun r => match Nat.beq r 10 with
  | true => some ⟨headM p k ptId 63, headM p k q (-1)⟩
  | false => none
theorem run_ptMul (p q : Pt) (k : List UInt8) (fuel : Nat) : ∀ K, runJ base10 (jumpM p k q) 179 0 (fuel + 100) [p.v, .arr .u8 32 k] [] K = (headM p k ptId 63 = headM p k ptId 63 ∧ K q.v []) := by intro K; kernel_rfl
theorem loops179 : loopsOf (bodyF 179) = [(4, loopN 179 0), (10, loopN 179 1), (13, loopN 179 2)] := by kernel_rfl

def mulG2 : List AVal → Option AVal
  | [v, .arr .u8 j k] => match Nat.beq j 32 with
    | true => match ptDec v with
      | some p => some (ptMul p k).v
      | none => none
    | false => none
  | _ => none
theorem ptMul_ok : CtrOk Tryz.prog env 179 (pureN mulG2) := pureN_of_runJ (n := 0) base10_ok fun {ρ Z us xs v} hx hg => by
  unfold mulG2 at hg
  split at hg
  · split at hg
    · split at hg
      · cases hg
        rename_i v j k _ hj _ p hp
        have := beq_eq hj; subst this
        have := ptDec_inv hp; subst this
        refine ⟨jumpM p k (ptMul p k), 190 + 10, ?_, fun K hK => (run_ptMul p (ptMul p k) k 100 K).mpr ⟨rfl, hK⟩⟩
        rw [loops179]
        refine ⟨trivial, ⟨64, by omega, ?_⟩, trivial, trivial⟩
        exact steps_mul p k 190 64 ptId (by omega)
      · cases hg
    · cases hg
  · cases hg
end Go.Abs

namespace Go.Abs
open Go.Proofs

noncomputable def baseS : List (Nat × Ctr) := (30, gateN copyRowQ copyRowF) :: baseC
theorem baseS_ok : AllOk baseS := ⟨copyRow_ok, baseC_ok⟩
def headC0 (l : List SeenD) (d : SeenD) : Hd := (some (.vr .seen 92 seenE d l) :: none :: none :: some .nilsl :: some (.int .i64 (0 : Int)) :: noneL 15, [])
def headC (l : List SeenD) (d : SeenD) (acc : List SeenD) (i : Int) : Hd := (some (.vr .seen 92 seenE d l) :: none :: none :: some (.sw 0) :: some (.int .i64 i) :: noneL 15, [(0, ⟨.row 92, .recs seenC acc⟩)])
theorem step_cs0 (l : List SeenD) (d : SeenD) (h : Hd) (fuel : Nat) : evC baseS 9 0 0 (fuel + 10) (loopN 9 0) (headSt (headC0 l d)) (backK 9 3 h) =
  br (ltT .i64 (0 : Int) (l.length : Int)) (chk (decide ((0 : Int) < ((l.length : Nat) : Int))) (chk (rowQ (l.getD 0 d)) (headC l d [l.getD 0 d] 1 = h))) False := by kernel_rfl
theorem step_cs (l : List SeenD) (d : SeenD) (acc : List SeenD) (i : Int) (h : Hd) (fuel : Nat) : evC baseS 9 0 0 (fuel + 10) (loopN 9 0) (headSt (headC l d acc i)) (backK 9 3 h) =
  br (ltT .i64 i (l.length : Int)) (chk (!isNeg .i64 i) (chk (decide (toI .i64 i < ((l.length : Nat) : Int))) (chk (rowQ (l.getD (toI .i64 i).toNat d)) (chk (roomy (acc.length + 1) 344) (headC l d (acc ++ [l.getD (toI .i64 i).toNat d]) (addT .i64 i (rawI .i64 1)) = h))))) False := by kernel_rfl
/-- May these rows be copied? -/
def rowsQ : List SeenD → Bool
  | [] => true
  | s :: l => andB (rowQ s) (rowsQ l)
theorem rowsQ_get : ∀ {l : List SeenD} {i : Nat} {d : SeenD}, rowsQ l = true → i < l.length → rowQ (l.getD i d) = true
  | s :: l, 0, d, h, _ => (andB_iff.1 h).1
  | s :: l, i + 1, d, h, hi => by
    have := rowsQ_get (i := i) (d := d) (andB_iff.1 h).2 (by simpa using hi)
    simpa using this
  | [], i, d, _, hi => by simp at hi
theorem wrap_small {n : Int} (h0 : 0 ≤ n) (h1 : n < 9223372036854775808) : IntKind.i64.wrap n = n := by
  simp only [IntKind.wrap, IntKind.signed, IntKind.bits]
  simp
  omega
theorem steps_cs (l : List SeenD) (d : SeenD) (fuel : Nat) (hq : rowsQ l = true) (hr : roomy l.length 344 = true) : ∀ (m i : Nat), i + m = l.length → 0 < i →
    Steps 0 (liveOf 9 3) (evC baseS 9 0 0 (fuel + 10) (loopN 9 0)) m (headC l d (l.take i) (i : Int)) (headC l d l (l.length : Int))
  | 0, i, hi, _ => by
    have : i = l.length := by omega
    subst this
    rw [List.take_length]
    exact Steps.refl _
  | m + 1, i, hi, h0 => by
    have hrl : l.length * 345 ≤ 70368744177664 := by simpa [roomy] using hr
    have ht : (l.take i).length = i := by simp; omega
    refine Steps.step (h1 := headC l d (l.take (i + 1)) ((i + 1 : Nat) : Int)) ((step_cs l d (l.take i) (i : Int) _ fuel).mpr ?_) (steps_cs l d fuel hq hr m (i + 1) (by omega) (by omega))
    have e1 : ltT .i64 (i : Int) (l.length : Int) = true := by simp [ltT, toI]; omega
    have e2 : (!isNeg .i64 (i : Int)) = true := by show (!decide ((i : Int) < 0)) = true; simp
    have e3 : decide (toI .i64 (i : Int) < ((l.length : Nat) : Int)) = true := by simp [toI]; omega
    have e4 : (toI .i64 (i : Int)).toNat = i := by simp [toI]
    have e5 : roomy ((l.take i).length + 1) 344 = true := by rw [ht]; simp [roomy]; omega
    have e6 : addT .i64 (i : Int) (rawI .i64 1) = ((i + 1 : Nat) : Int) := by
      show IntKind.i64.wrap ((i : Int) + 1) = _
      rw [wrap_small (by omega) (by omega)]; rfl
    rw [e1, e2, e3, e4, e5, e6, rowsQ_get hq (by omega)]
    have e7 : l.take i ++ [l.getD i d] = l.take (i + 1) := by
      rw [List.take_add_one]; congr 1
      have : i < l.length := by omega
      simp [this]
    rw [e7]
    exact rfl
def jumpC (a b : Hd) : Nat → Option Jump := fun r => match Nat.beq r 3 with
  | true => some ⟨a, b⟩
  | false => none
theorem loops9 : loopsOf (bodyF 9) = [(3, loopN 9 0)] := by kernel_rfl
theorem run_cs0 (d : SeenD) (fuel : Nat) : ∀ K, runJ baseS (jumpC (headC0 [] d) (headC0 [] d)) 9 0 (fuel + 100) [.vr .seen 92 seenE d []] [] K = (headC0 [] d = headC0 [] d ∧ K .nilsl []) := by intro K; kernel_rfl
theorem run_cs (l : List SeenD) (d : SeenD) (fuel : Nat) : ∀ K, runJ baseS (jumpC (headC0 l d) (headC l d l (l.length : Int))) 9 0 (fuel + 100) [.vr .seen 92 seenE d l] [] K = (headC0 l d = headC0 l d ∧ br (ltT .i64 (l.length : Int) (l.length : Int)) (chk (!isNeg .i64 (l.length : Int)) (chk (decide (toI .i64 (l.length : Int) < ((l.length : Nat) : Int))) (chk (rowQ (l.getD (toI .i64 (l.length : Int)).toNat d)) (chk (roomy (l.length + 1) 344) False)))) (K (.sw 0) [(0, ⟨.row 92, .recs seenC l⟩)])) := by intro K; kernel_rfl
def rawS : Ctr := ⟨fun us bs K => match bs with
  | [] => match us with
    | [.vr .seen e enc d l] => chk (Nat.beq e 92) (chk (rowsQ l) (chk (roomy l.length 344) (match l with
      | [] => K .nilsl []
      | x :: xs => K (.sw 0) [(0, ⟨.row 92, .recs seenC (x :: xs)⟩)])))
    | _ => False
  | _ :: _ => False⟩
theorem rawS_det (us : List AVal) (bs : List Blk) : Det fun (K : Out → Prop) => rawS.run us bs fun v h => K ⟨v, h⟩ := by
  unfold rawS
  simp only
  split
  · split
    · refine det_chk (det_chk (det_chk ?_))
      split
      · exact det_pure (⟨.nilsl, []⟩ : Out)
      · exact det_pure (⟨.sw 0, _⟩ : Out)
    · exact det_false
  · exact det_false
theorem rawS_ok : CtrOk Tryz.prog env 9 rawS := ctr_of_runJ baseS_ok (n := 0) rawS_det fun {ρ Z us bs xs K} hx hr => by
  unfold rawS at hr
  simp only at hr
  split at hr
  · split at hr
    · rename_i e enc d l
      obtain ⟨h1, hr1⟩ := chk_inv hr
      obtain ⟨h2, hr2⟩ := chk_inv hr1
      obtain ⟨h3, hr3⟩ := chk_inv hr2
      have := beq_eq h1
      subst this
      have henc : enc = seenE := by
        obtain ⟨x, ys, -, hv, -⟩ := hx
        simp only [RepV, AVal.isAgg, RepC] at hv
        exact hv.1
      subst henc
      cases l with
      | nil =>
        refine ⟨jumpC (headC0 [] d) (headC0 [] d), 0 + 100, ?_, (run_cs0 d 0 K).mpr ⟨rfl, hr3⟩⟩
        rw [loops9]
        exact ⟨⟨0, by omega, Steps.refl _⟩, trivial⟩
      | cons x xs =>
        refine ⟨jumpC (headC0 (x :: xs) d) (headC (x :: xs) d (x :: xs) ((x :: xs).length : Int)), (x :: xs).length + 100, ?_, (run_cs (x :: xs) d (x :: xs).length K).mpr ⟨rfl, ?_⟩⟩
        · rw [loops9]
          refine ⟨⟨xs.length + 1, by simp only [List.length_cons]; omega, ?_⟩, trivial⟩
          refine Steps.step (h1 := headC (x :: xs) d ((x :: xs).take 1) ((1 : Nat) : Int)) ((step_cs0 (x :: xs) d _ ((x :: xs).length + 90)).mpr ?_) (steps_cs (x :: xs) d ((x :: xs).length + 90) h2 h3 xs.length 1 (by simp only [List.length_cons]; omega) (by omega))
          have e1 : ltT .i64 (0 : Int) ((x :: xs).length : Int) = true := decide_eq_true (show (0 : Int) < ((xs.length + 1 : Nat) : Int) by omega)
          have e2 : decide ((0 : Int) < (((x :: xs).length : Nat) : Int)) = true := by simp only [List.length_cons, decide_eq_true_eq]; omega
          rw [e1, e2, rowsQ_get (i := 0) (d := d) h2 (by simp)]
          exact rfl
        · have e1 : ltT .i64 ((x :: xs).length : Int) ((x :: xs).length : Int) = false := by simp [ltT, toI]
          rw [e1]
          exact hr3
    · exact hr.elim
  · exact hr.elim
/-- A contract whose answers may be taken for more. -/
theorem post_ok {P : Program} {env : Env} {f : Nat} {c c' : Ctr} (h : CtrOk P env f c) (hd : ∀ us bs, Det fun (K : Out → Prop) => c'.run us bs fun v h => K ⟨v, h⟩)
    (hi : ∀ us bs K, c'.run us bs K → c.run us bs fun v h => ∃ v', AVal.Le v v' ∧ K v' h) : CtrOk P env f c' :=
  ⟨fun hh hx hk hb hr => (h.run hh hx hk hb (hi _ _ _ hr)).mono fun x w' ⟨v, h2, Z', ρ', ⟨v', hl, hK⟩, hg, hres⟩ =>
    ⟨v', h2, Z', ρ', hK, hg, ⟨hres.val.le hl, hres.heap, hres.old, hres.keep, hres.reg⟩⟩, hd⟩
def copySeenF : List AVal → Option AVal
  | [.vr .seen _ _ _ l] => some (.vr .seen 92 seenE (dfltT .seen) l)
  | _ => none
def copySeenQ : List AVal → Bool
  | [.vr .seen e _ _ l] => andB (Nat.beq e 92) (andB (rowsQ l) (roomy l.length 344))
  | _ => false
theorem copySeen_ok : CtrOk Tryz.prog env 9 (gateN copySeenQ copySeenF) := post_ok (frz_ok env_ok rawS_ok) gateN_det fun us bs K hr => by
  cases bs with
  | cons b bs => exact hr.elim
  | nil =>
    obtain ⟨v, hg, hr'⟩ := ob_inv hr
    obtain ⟨hq, hK⟩ := chk_inv hr'
    clear hr hr'
    unfold copySeenF at hg
    split at hg
    · rename_i e enc d l
      cases hg
      simp only [copySeenQ, andB_iff] at hq
      obtain ⟨q1, q2, q3⟩ := hq
      show chk (Nat.beq e 92) (chk (rowsQ l) (chk (roomy l.length 344) _))
      rw [q1, q2, q3]
      cases l with
      | nil => exact ⟨_, nilsl_vr .seen 92 (dfltT .seen), hK⟩
      | cons x xs => exact ⟨_, AVal.Le.refl _, hK⟩
    · cases hg
end Go.Abs

namespace Go.Abs
open Go.Proofs

noncomputable def baseHA : List (Nat × Ctr) := [(31, pureN isRowF)]
theorem baseHA_ok : AllOk baseHA := ⟨isRow_ok, trivial⟩
def endS (l : List SeenD) : St := ⟨none :: none :: none :: none :: some (vA (accF l)) :: noneL 110, fun _ => none, fun _ => false⟩
def retS : St := ⟨none :: none :: some .nilsl :: some (.int .i64 (261 : Int)) :: noneL 111, fun _ => none, fun _ => false⟩
noncomputable def hk10 (l : List SeenD) : HkG (List Own) := fun S X K => X = [] ∧ canonD 0 (liveOf 10 4) S (fun h => h = headP0 l) ∧ match okRows l with
  | true => K (.exit 0) (endS l) []
  | false => K .ret retS []
def headT (l : List SeenD) : Hd := (none :: none :: none :: none :: some (.sw 1) :: some (.mp 0) :: (noneL 5 ++ (some (vS l) :: some (.int .i64 (l.length : Int)) :: some (.int .i64 (0 : Int)) :: noneL 101)), [(0, ⟨.map 76 3, .map hashC intC []⟩), (1, ⟨.row 81, .recs acctRC []⟩)])
theorem canonT (l : List SeenD) (KH : Hd → Prop) : canonD 0 (liveOf 10 4) (headSt (headT l)) KH = KH (headP l [] [] 0) := by kernel_rfl
theorem regs19 : regsAt 19 (loopN 10 0) = [regN 10 0 19] := by kernel_rfl
theorem loops10 : loopsOf (bodyF 10) = [(4, loopN 10 0)] := by kernel_rfl
theorem td81 : ∃ d, env.td 81 = some d := ⟨_, (by kernel_rfl : env.td 81 = some (.struct [76, 23, 77, 4, 79, 4, 31, 23, 23]))⟩
theorem bytes81 : Nat.ble (env.bytes 81) 344 = true := by kernel_rfl

theorem getL_map' {f : AVal → AVal} : ∀ {l : List (Option AVal)} {t : Nat} {v : AVal}, getL l t = some v → getL (l.map (Option.map f)) t = some (f v)
  | [], t, v, h => by simp [getL] at h
  | some u :: l, 0, v, h => by simp [getL] at h; subst h; rfl
  | none :: l, 0, v, h => by simp [getL] at h
  | _ :: l, t + 1, v, h => by simp only [List.map_cons, getL] at h ⊢; exact getL_map' h

theorem OwnsOk.snoc {n0 : Nat} {X : List Own} {Z : Zone} {ρ : PMap} {H : Heap} {w : World} (h : OwnsOk n0 X Z ρ H w) : OwnsOk n0 (X ++ [own0]) Z ρ H w := by
  have noH : ∀ b o, ¬ own0.has b o := fun b o ⟨_, h1, h2⟩ => by
    have h2 : o < 0 := h2
    omega
  refine ⟨fun x hx => ?_, fun i j x y hx hy hne b o hxb hyb => ?_⟩
  · rw [List.mem_append] at hx
    rcases hx with hx | hx
    · exact h.all x hx
    · simp only [List.mem_singleton] at hx
      subst hx
      exact ⟨Nat.le_refl _, fun i v hv => by simp [own0] at hv, fun b i hb => (noH b i hb).elim, fun b i hb => (noH b i hb).elim, fun b i hb => (noH b i hb).elim, fun b i hb => (noH b i hb).elim⟩
  · have key : ∀ (k : Nat) (z : Own), (X ++ [own0])[k]? = some z → z.has b o → X[k]? = some z := fun k z hk hz => by
      rcases Nat.lt_or_ge k X.length with h1 | h1
      · rwa [List.getElem?_append_left h1] at hk
      · rw [List.getElem?_append_right h1] at hk
        have h2 := (List.getElem?_eq_some_iff.1 hk).1
        simp only [List.length_singleton] at h2
        rw [show k - X.length = 0 by omega] at hk
        cases hk
        exact (noH b o hz).elim
    exact h.dis i j x y (key i x hx hxb) (key j y hy hyb) hne b o hxb hyb

theorem roomy_le {n m b c : Nat} (h : roomy m c = true) (h1 : n ≤ m) (h2 : b ≤ c) : roomy n b = true := by
  simp only [roomy, decide_eq_true_eq] at h ⊢
  exact Nat.le_trans (Nat.mul_le_mul h1 (by omega)) h

theorem br_t {p q : Prop} (h : p) : br true p q := h
theorem canonD_false {nb : Nat} {live : List Nat} {S : St} (h : canonD nb live S fun _ => False) : False := by
  unfold canonD at h
  obtain ⟨-, h⟩ := chk_inv h
  obtain ⟨-, h⟩ := chk_inv h
  obtain ⟨-, h⟩ := chk_inv h
  obtain ⟨-, h⟩ := chk_inv h
  exact h

section
variable {Z0 Z : Zone} {ρ0 ρ : PMap} {H0 : Heap} {w0 w : World} {a : Act} {S : St} {n0 : Nat}

theorem headT_of {l : List SeenD} (hs : Sync env Z0 Z ρ0 H0 w0 0 (headSt (headP0 l)) ρ a w) : ∃ ρ', Sync env Z0 Z ρ0 H0 w0 0 (headSt (headP l [] [] 0)) ρ' a w := by
  have h2 := hs.nilRow (k := 1) (e := 81) (c := .recs acctRC []) (T := headSt (headT l)) rfl (by omega) (by omega) td81 rfl rfl (acctRC_good []) rfl rfl rfl (fun t v' h => ?_) rfl (fun j b' hj hb => ?_)
  · obtain ⟨S3, ρ3, h4, h3⟩ := canon_sound (K := fun S' => S' = headSt (headP l [] [] 0)) (live := liveOf 10 4) h2 (by rw [canon_D, canonT])
    subst h4
    exact ⟨ρ3, h3⟩
  · match t, h with
    | 4, h => cases h; exact ⟨.nilsl, rfl, .nil, by simp [AVal.keys]⟩
    | 5, h => cases h; exact ⟨.mp 0, rfl, .refl _, by simp [AVal.keys]⟩
    | 11, h => cases h; exact ⟨vS l, rfl, .refl _, by simp [AVal.keys, vS]⟩
    | 12, h => cases h; exact ⟨_, rfl, .refl _, by simp [AVal.keys]⟩
    | 13, h => cases h; exact ⟨_, rfl, .refl _, by simp [AVal.keys]⟩
    | 0, h | 1, h | 2, h | 3, h | 6, h | 7, h | 8, h | 9, h | 10, h => cases h
    | t + 14, h => exact (getL_noneL (n := 101) (t := t) h).elim
  · match j, hb with
    | 0, hb => cases hb; exact ⟨_, rfl, rfl, .refl _, by simp [Cont.keys]⟩
    | 1, hb => exact (hj rfl).elim
    | j + 2, hb => cases hb

theorem loop10_sound {l : List SeenD} (hq : rowsQ l = true) (hr : roomy l.length 344 = true) (hw : w0.heap.size = n0) : SoundG Tryz.prog env Z0 ρ0 H0 w0 0 (sideX n0) (.loop (loopN 10 0)) (hk10 l) := by
  intro S g Z ρ a w KK Q hQ hs hj hk
  obtain ⟨rfl, hcan, hcase⟩ := hk
  have hrl : l.length * 345 ≤ 70368744177664 := by simpa [roomy] using hr
  have hC := tabN_ok env_ok mixed (tabL_ok baseHA_ok) (live := liveOf) (fuel := 5000) fnsOf_ok 0
  obtain ⟨S1, ρ1, h1, hs1⟩ := canon_sound (K := fun S' => S' = headSt (headP0 l)) hs (by rw [canon_D]; exact canonD_mono hcan fun h e => by rw [e])
  subst h1
  obtain ⟨ρ2, hs2⟩ := headT_of hs1
  refine wp_loop_n (fun n a w => ∃ i acc X mp Z ρ, i + n = badI l + 1 ∧ i ≤ badI l ∧ InvA (accF (l.take i)) acc X mp ∧ Sync env Z0 Z ρ0 H0 w0 0 (headSt (headP l acc mp (i : Int))) ρ a w ∧ OwnsOk n0 X Z ρ (headSt (headP l acc mp (i : Int))).heap w)
    (fun a w ⟨i, _, _, _, _, _, h1, h2, _⟩ => by omega) (fun n a w ⟨i, acc, X, mp, Z, ρ, hin, hib, hinv, hs, hj⟩ => ?_) (badI l + 1) ⟨0, [], [], [], Z, ρ2, by omega, by omega, ⟨⟨rfl, fun i a x h => by cases h⟩, rfl, rfl⟩, hs2, sideX_nil⟩
  have hbl := badI_le l
  obtain ⟨hsz1, hsz2⟩ := accF_sizes l i (by omega)
  have hla : acc.length ≤ i := by rw [← accD_length hinv.rel, hinv.acc]; exact hsz1
  have hsh : ∀ x, x ∈ X → x.vals.length ≤ i := fun x hx => by
    obtain ⟨j, hj'⟩ := List.mem_iff_getElem?.1 hx
    have hjl := (List.getElem?_eq_some_iff.1 hj').1
    have hja : j < acc.length := by rw [hinv.rel.len]; exact hjl
    have : (accD acc X)[j]? = some (acctD acc[j] x) := List.getElem?_zipWith_eq_some.2 ⟨acc[j], x, by simp [hja], hj', rfl⟩
    rw [hinv.acc] at this
    exact hsz2 _ (List.mem_of_getElem? this)
  have e4 : (toI .i64 (i : Int)).toNat = i := by simp [toI]
  have hrow : rowAt l (i : Int) = l.getD i seenZ := by unfold rowAt; rw [e4]
  have e6 : addT .i64 (i : Int) (rawI .i64 1) = ((i + 1 : Nat) : Int) := by
    show IntKind.i64.wrap ((i : Int) + 1) = _
    rw [wrap_sm (by omega) (by omega)]; rfl
  have hhk : HooksOk Tryz.prog env Z0 ρ0 H0 w0 0 (sideX n0) (hooksA (keyAt 5 2) (nA (rowAt l (i : Int)) mp) (rowAt l (i : Int)) acc X) (loopN 10 0) :=
    hooks_reg (loopN 10 0) (by rw [regs19]; exact ⟨by intro S g Z ρ a w KK Q hQ hs hj hk; exact arm_sound hw (by unfold keyAt; omega) hQ hs hj hk, trivial⟩)
  -- one round, whatever it comes to
  have rnd : ∀ (KH : Hd → List Own → Prop) (KR : KRet) (KE : KEnd), br (ltT .i64 (i : Int) (l.length : Int)) (roundP l acc mp (i : Int) X (rowAt l (i : Int)) KH KR) (KE 0 (some (.sw 0)) (some ⟨.row 81, .recs acctRC acc⟩) 115 X) →
      (∀ e S g Z ρ a w, rndK 10 4 KH KR KE e S g → Sync env Z0 Z ρ0 H0 w0 0 S ρ a w → OwnsOk n0 g Z ρ S.heap w → Exit.then (fun a' w' => ∃ i acc X mp Z ρ, i + n = badI l + 1 ∧ i ≤ badI l ∧ InvA (accF (l.take i)) acc X mp ∧ Sync env Z0 Z ρ0 H0 w0 0 (headSt (headP l acc mp (i : Int))) ρ a' w' ∧ OwnsOk n0 X Z ρ (headSt (headP l acc mp (i : Int))).heap w') Q e.to a w) →
      (loopN 10 0).wp Tryz.prog (Exit.then (fun a' w' => ∃ i acc X mp Z ρ, i + n = badI l + 1 ∧ i ≤ badI l ∧ InvA (accF (l.take i)) acc X mp ∧ Sync env Z0 Z ρ0 H0 w0 0 (headSt (headP l acc mp (i : Int))) ρ a' w' ∧ OwnsOk n0 X Z ρ (headSt (headP l acc mp (i : Int))).heap w') Q) a w := by
    intro KH KR KE hbr hend
    have hstep := step10 l acc mp (i : Int) X 10 KH KR KE
    have e2 : (!isNeg .i64 (i : Int)) = true := by show (!decide ((i : Int) < 0)) = true; simp
    have hev : evG [(31, pureN isRowF)] (hooksA (keyAt 5 2) (nA (rowAt l (i : Int)) mp) (rowAt l (i : Int)) acc X) 10 0 0 20 (loopN 10 0) (headSt (headP l acc mp (i : Int))) X (rndK 10 4 KH KR KE) := by
      refine hstep.mpr ?_
      cases hlt : ltT .i64 (i : Int) (l.length : Int) with
      | true =>
        rw [hlt] at hbr
        have e3 : decide (toI .i64 (i : Int) < ((l.length : Nat) : Int)) = true := hlt
        rw [e2, e3]
        exact hbr
      | false =>
        rw [hlt] at hbr
        exact hbr
    unfold evG at hev
    exact codeG_sound (J := sideX n0) sideX_ok hC env_ok mixed (loopN 10 0) hhk hend hs hj hev
  by_cases hi : i < badI l
  · -- a whole round
    have hil : i < l.length := by omega
    have hok := badI_ok hi
    refine rnd (fun h X' => ∃ acc' mp' X'', h = headP l acc' mp' ((i + 1 : Nat) : Int) ∧ (X'' = X' ∨ X'' = X' ++ [own0]) ∧ InvA (accF (l.take (i + 1))) acc' X'' mp') (fun _ _ _ => False) (fun _ _ _ _ _ => False) ?_ (fun e S' g' Z' ρ' a' w' hK hs' hj' => ?_)
    · have hlt : ltT .i64 (i : Int) (l.length : Int) = true := by simp [ltT, toI]; omega
      rw [hlt, hrow]
      have hstep : accF (l.take (i + 1)) = accStep (accF (l.take i)) (l.getD i seenZ) := by
        rw [List.take_add_one, show l[i]?.toList = [l[i]] by simp [hil], accF_snoc]
        congr 1
        simp [List.getD, hil]
      have hrq : rowQ (l.getD i seenZ) = true := by
        have : ∀ {l : List SeenD} {i : Nat}, rowsQ l = true → i < l.length → rowQ (l.getD i seenZ) = true := rowsQ_get
        exact this hq hil
      simp only [rowQ, andB_iff] at hrq
      refine br_t ?_
      refine round_ok hinv hok hrq.2.2.2 hrq.2.2.1 (roomy_le hr (by omega) (Nat.le_of_ble_eq_true bytes81)) (by omega) (fun x hx => roomy_le hr (by have := hsh x hx; omega) (by omega)) fun acc' X' mp' X'' hi' hX => ?_
      rw [e6]
      exact ⟨acc', mp', X'', rfl, hX, by rw [hstep]; exact hi'⟩
    · cases e with
      | exit id => exact hK.elim
      | ret => exact hK.elim
      | normal =>
        obtain ⟨S3, ρ3, h3, hs3⟩ := canon_sound (K := fun S'' => ∃ acc' mp' X'', S'' = headSt (headP l acc' mp' ((i + 1 : Nat) : Int)) ∧ (X'' = g' ∨ X'' = g' ++ [own0]) ∧ InvA (accF (l.take (i + 1))) acc' X'' mp') hs'.rebase (by
          rw [canon_D]
          refine canonD_mono (show canonD 0 (liveOf 10 4) S' (fun h => ∃ acc' mp' X'', h = headP l acc' mp' ((i + 1 : Nat) : Int) ∧ (X'' = g' ∨ X'' = g' ++ [own0]) ∧ InvA (accF (l.take (i + 1))) acc' X'' mp') from hK) fun h ⟨acc', mp', X'', e1, e2, e3⟩ => ⟨acc', mp', X'', by rw [e1], e2, e3⟩)
        obtain ⟨acc', mp', X'', rfl, hX, hinv'⟩ := h3
        have hj3 := sideX_ok hj' hs3
        refine ⟨i + 1, acc', X'', mp', Z', ρ3, by omega, by omega, hinv', hs'.from hs3, ?_⟩
        rcases hX with rfl | rfl
        · exact hj3
        · exact hj3.snoc
  · -- the last one
    have hib' : i = badI l := by omega
    cases hall : okRows l with
    | true =>
      rw [hall] at hcase
      have hil : i = l.length := by rw [hib', badI_all hall]
      refine rnd (fun _ _ => False) (fun _ _ _ => False) (fun id v b m g => id = 0 ∧ v = some (.sw 0) ∧ b = some ⟨.row 81, .recs acctRC acc⟩ ∧ m = 115 ∧ g = X) ?_ (fun e S' g' Z' ρ' a' w' hK hs' hj' => ?_)
      · have hlt : ltT .i64 (i : Int) (l.length : Int) = false := by simp [ltT, toI]; omega
        rw [hlt]
        exact ⟨rfl, rfl, rfl, rfl, rfl⟩
      · cases e with
        | normal => exact (canonD_false hK).elim
        | ret => exact hK.elim
        | exit id =>
          obtain ⟨rfl, k4, k0, kl, rfl⟩ := hK
          obtain ⟨Z'', hs4⟩ := frzAcc hw hs' k0 hinv.rel hj'
          rw [hinv.acc, hil, List.take_length] at hs4
          refine hQ (.exit 0) (endS l) [] Z'' ρ' a' w' hcase (hs4.drop ?_ (fun t v ht => ?_) (fun k b hb => by cases hb)) sideX_nil
          · simp only [St.frz, List.length_map]; rw [kl]; rfl
          · match t, ht with
            | 4, ht =>
              cases ht
              refine ⟨?_, fun k hk => by simp [AVal.keys, vA] at hk⟩
              exact getL_map' k4
            | 0, ht | 1, ht | 2, ht | 3, ht => cases ht
            | t + 5, ht => exact (getL_noneL (n := 110) (t := t) ht).elim
    | false =>
      rw [hall] at hcase
      obtain ⟨h1, h2⟩ := badI_bad hall
      refine rnd (fun _ _ => False) (fun v2 v3 m => v2 = some .nilsl ∧ v3 = some (.int .i64 (261 : Int)) ∧ m = 115) (fun _ _ _ _ _ => False) ?_ (fun e S' g' Z' ρ' a' w' hK hs' hj' => ?_)
      · have hlt : ltT .i64 (i : Int) (l.length : Int) = true := by simp [ltT, toI]; omega
        rw [hlt, hrow, hib']
        unfold roundP
        rw [h2]
        exact ⟨rfl, rfl, rfl⟩
      · cases e with
        | normal => exact (canonD_false hK).elim
        | exit id => exact hK.elim
        | ret =>
          obtain ⟨k2, k3, kl⟩ := hK
          refine hQ .ret retS [] Z' ρ' a' w' hcase (hs'.drop ?_ (fun t v ht => ?_) (fun k b hb => by cases hb)) sideX_nil
          · rw [kl]; rfl
          · match t, ht with
            | 2, ht => cases ht; exact ⟨k2, fun k hk => by simp [AVal.keys] at hk⟩
            | 3, ht => cases ht; exact ⟨k3, fun k hk => by simp [AVal.keys] at hk⟩
            | 0, ht | 1, ht => cases ht
            | t + 4, ht => exact (getL_noneL (n := 111) (t := t) ht).elim
end
end Go.Abs

namespace Go.Abs
open Go.Proofs

def hooks10 (l : List SeenD) : Hooks (List Own) := ⟨fun r => match Nat.beq r 4 with
  | true => some (hk10 l)
  | false => none, fun _ => none⟩
theorem run10 (l : List SeenD) (fuel : Nat) (K : AVal → List (Nat × Blk) → Prop) : runS baseHA (hooks10 l) 10 0 (fuel + 100) [vS l] [] K = (([] : List Own) = [] ∧ headP0 l = headP0 l ∧ (match okRows l with
  | true => K (.tup [vA (accF l), .int .i64 (0 : Int)]) []
  | false => K (.tup [.nilsl, .int .i64 (261 : Int)]) [])) := by kernel_rfl

def rowsOf : List AVal → Option (List SeenD)
  | [.vr .seen e _ _ l] => match Nat.beq e 92 with
    | true => some l
    | false => none
  | _ => none
def rowsN (us : List AVal) : Option (List AVal) := match rowsOf us with
  | some l => some [vS l]
  | none => none
theorem rowsN_le : ∀ us us', rowsN us = some us' → LeL us us' := fun us us' h => by
  unfold rowsN at h
  split at h
  case h_2 => cases h
  rename_i l hl
  cases h
  unfold rowsOf at hl
  split at hl
  · split at hl <;> cases hl
    rename_i hm
    have := beq_eq hm; subst this
    refine ⟨⟨fun _ h => by simp [AVal.keys, vS] at h, rfl, fun h => ?_, fun {env d t} h => ?_⟩, trivial⟩
    · simp only [vS, RepC] at h ⊢
      obtain ⟨rfl, h⟩ := h
      exact ⟨rfl, h⟩
    · cases d with
      | zero => simp [hasTy] at h
      | succ d =>
        cases htd : env.td t with
        | none => simp [hasTy, htd] at h
        | some td => cases td <;> simp_all [hasTy, hasL, vS] <;> (repeat' split at h) <;> simp_all [hasL]
  · cases hl
def accGate (l : List SeenD) : Bool := andB (rowsQ l) (roomy l.length 344)
def vOk (v : AVal) : AVal := .tup [v, .int .i64 (0 : Int)]
def vErr : AVal := .tup [.nilsl, .int .i64 (261 : Int)]
def acc0C : Ctr := ⟨fun us bs K => match bs with
  | [] => ob0 (rowsOf us) fun l => us = [vS l] ∧ chk (accGate l) (br (okRows l) (K (vOk (vA (accF l))) []) (K vErr []))
  | _ :: _ => False⟩
def accC : Ctr := ⟨fun us bs K => match bs with
  | [] => ob0 (rowsOf us) fun l => chk (accGate l) (br (okRows l) (K (vOk (vA (accF l))) []) (K vErr []))
  | _ :: _ => False⟩
theorem det_and {α : Type 1} {p : Prop} {F : (α → Prop) → Prop} (h : Det F) : Det fun K => p ∧ F K := fun K ⟨hp, hK⟩ => by
  obtain ⟨a, h1, h2⟩ := h K hK
  exact ⟨a, h1, fun K' h' => ⟨hp, h2 K' h'⟩⟩
theorem acc0C_det (us : List AVal) (bs : List Blk) : Det fun (K : Out → Prop) => acc0C.run us bs fun v h => K ⟨v, h⟩ := by
  cases bs with
  | nil => exact det_ob0 fun l => det_and (det_chk (det_br (det_pure (⟨_, []⟩ : Out)) (det_pure (⟨_, []⟩ : Out))))
  | cons b bs => exact det_false
theorem accC_det (us : List AVal) (bs : List Blk) : Det fun (K : Out → Prop) => accC.run us bs fun v h => K ⟨v, h⟩ := by
  cases bs with
  | nil => exact det_ob0 fun l => det_chk (det_br (det_pure (⟨_, []⟩ : Out)) (det_pure (⟨_, []⟩ : Out)))
  | cons b bs => exact det_false
theorem acc0_ok : CtrOk Tryz.prog env 10 acc0C := ctr_of_G baseHA_ok (n := 0) acc0C_det fun {us bs K} hr => by
  cases bs with
  | cons b bs => exact hr.elim
  | nil =>
    obtain ⟨l, hl, hus, hr1⟩ := ob0_inv hr
    obtain ⟨hq, hr2⟩ := chk_inv hr1
    clear hr hr1
    subst hus
    simp only [accGate, andB_iff] at hq
    refine ⟨hooks10 l, 0 + 100, fun _ => rfl, fun {ρ Z w} => ?_, (run10 l 0 K).mpr ⟨rfl, rfl, ?_⟩⟩
    · rw [loops10]
      refine ⟨?_, trivial⟩
      show SoundG Tryz.prog env Z ρ (ofBlks 0 []) w 0 (sideX w.heap.size) (.loop (loopN 10 0)) (hk10 l)
      exact fun hQ hs hj hk => loop10_sound hq.1 hq.2 rfl hQ hs hj hk
    · cases h : okRows l with
      | true => rw [h] at hr2; exact hr2
      | false => rw [h] at hr2; exact hr2
theorem acc_ok : CtrOk Tryz.prog env 10 accC := (pre_ok acc0_ok rowsN_le).of accC_det fun {ρ Z w us bs xs K} hh hx hr => by
  cases bs with
  | cons b bs => exact hr.elim
  | nil =>
    obtain ⟨l, hl, hr⟩ := ob0_inv hr
    show ob (rowsN us) _
    simp only [rowsN, hl]
    exact ⟨rfl, hr⟩
end Go.Abs
