/- A point, so many times. -/
import Derived.Test.YtadiphoihflmiaaGreatDoorZq
import Derived.Test.YtadiphoihflmiaaGreatDoorZn
set_option linter.all false
set_option maxRecDepth 1000000
namespace Go.Abs
open Go.Proofs

def pt1G (f : Pt → AVal) : List AVal → Option AVal
  | [v] => match ptDec v with
    | some p => some (f p)
    | none => none
  | _ => none
def pt2G (f : Pt → Pt → AVal) : List AVal → Option AVal
  | [v, w] => match ptDec v with
    | some p => match ptDec w with
      | some q => some (f p q)
      | none => none
    | none => none
  | _ => none

theorem pt1_ok {l : List (Nat × Ctr)} (hl : AllOk l) {f n : Nat} {F : Pt → AVal} (h : ∀ p K, run l f n [p.v] [] K = K (F p) []) : CtrOk Tryz.prog env f (pureN (pt1G F)) := pureN_of_run (n := n) hl fun {ρ Z us xs v} hx hg K hK => by
  unfold pt1G at hg
  split at hg
  · split at hg
    · cases hg
      rename_i e
      rw [ptDec_inv e]
      exact (h _ K).mpr hK
    · cases hg
  · cases hg
theorem pt2_ok {l : List (Nat × Ctr)} (hl : AllOk l) {f n : Nat} {F : Pt → Pt → AVal} (h : ∀ p q K, run l f n [p.v, q.v] [] K = K (F p q) []) : CtrOk Tryz.prog env f (pureN (pt2G F)) := pureN_of_run (n := n) hl fun {ρ Z us xs v} hx hg K hK => by
  unfold pt2G at hg
  split at hg
  · split at hg
    · split at hg
      · cases hg
        rename_i e _ _ e'
        rw [ptDec_inv e, ptDec_inv e']
        exact (h _ _ K).mpr hK
      · cases hg
    · cases hg
  · cases hg

def zF : List UInt64 := List.replicate 5 (zeroT .u64)
def oneF : List UInt64 := smallF (rawI .u64 1)
def ptId : Pt := ⟨zF, oneF, oneF, zF⟩
def ptZ : Pt := ⟨zF, zF, zF, zF⟩
theorem run_id : ∀ K, run base9 213 1 [] [] K = K ptId.v [] := by intro K; kernel_rfl
def smG : List AVal → Option AVal
  | [.int .u64 n] => some (.arr .u64 5 (smallF n))
  | _ => none
theorem small_ok : CtrOk Tryz.prog env 211 (pureN smG) := pureN_of_run (n := 0) base8_ok fun {ρ Z us xs v} hx hg K hK => by
  unfold smG at hg
  split at hg <;> cases hg
  exact (run_small _ K).mpr hK

def base10 : List (Nat × Ctr) := (203, pureN (pt2G fun p q => (ptAdd p q).v)) :: (214, pureN (pt1G fun p => (ptDbl p).v)) :: (213, pureN (conG ptId.v)) :: (211, pureN smG) :: (232, pureN (fe2G fun u v => feB (rootF u v).1 (rootF u v).2)) :: base9
theorem base10_ok : AllOk base10 := ⟨pt2_ok base9_ok run_ptAdd, pt1_ok base9_ok run_ptDbl, con_ok base9_ok run_id, small_ok, root_ok, base9_ok⟩

/-! ### the loop -/
def tabR : Nat → Pt → Pt → List Pt
  | 0, _, _ => []
  | n + 1, p, q => q :: tabR n p (ptAdd q p)
def ptsV : List Pt → AVal
  | [] => .unit
  | p :: ps => .pair p.v (ptsV ps)
def nthPt : List Pt → Nat → Pt
  | [], _ => ptZ
  | p :: _, 0 => p
  | _ :: ps, n + 1 => nthPt ps n
def headM (p : Pt) (k : List UInt8) (r : Pt) (i : Int) : Hd :=
  (none :: none :: none :: some (.ptr 0 []) :: some (.ptr 1 []) :: some (.ptr 2 []) :: none :: some (.ptr 3 []) :: some (.int .i64 i) :: noneL 42,
    [(0, ⟨.var 90, .var (.arr .u8 32 k)⟩), (1, ⟨.var 369, .var ptZ.v⟩), (2, ⟨.var 397, .var (ptsV (tabR 16 p ptId))⟩), (3, ⟨.var 369, .var r.v⟩)])
/-- One nibble. -/
def nib (k : List UInt8) (i : Int) : UInt8 := andT .u8 (shrT .u8 (k.getD (toI .i64 (quoT .i64 i (rawI .i64 2))).toNat (zeroT .u8)) (toI .i64 (mulT .i64 (rawI .i64 4) (remT .i64 i (rawI .i64 2)))).toNat) (rawI .u8 15)
def dbl4 (r : Pt) : Pt := ptDbl (ptDbl (ptDbl (ptDbl r)))
/-- Back at the head, as this one. -/
def backK (f r : Nat) (h : Hd) : XE → St → Prop := fun e S => match e with
  | .normal => canonD 0 (liveOf f r) S fun x => x = h
  | _ => False

def hq (i : Int) : Int := quoT .i64 i (rawI .i64 2)
def hc (i : Int) : Int := mulT .i64 (rawI .i64 4) (remT .i64 i (rawI .i64 2))
theorem step_mul (p r : Pt) (k : List UInt8) (i : Int) (h : Hd) (fuel : Nat) : evC base10 179 0 0 (fuel + 10) (loopN 179 1) (headSt (headM p k r i)) (backK 179 10 h) =
  br (leT .i64 (rawI .i64 0) i) (chk (!isNeg .i64 (hq i)) (chk (decide (toI .i64 (hq i) < (32 : Nat))) (chk (!isNeg .i64 (hc i))
    (br (ltT .u8 (rawI .u8 0) (nib k i)) (chk (!isNeg .u8 (nib k i)) (chk (decide (toI .u8 (nib k i) < (16 : Nat))) (splitN 16 0 (toI .u8 (nib k i)).toNat fun j => headM p k (ptAdd (dbl4 r) (nthPt (tabR 16 p ptId) j)) (subT .i64 i (rawI .i64 1)) = h)))
      (headM p k (dbl4 r) (subT .i64 i (rawI .i64 1)) = h))))) False := by kernel_rfl

def okI (m : Nat) : Bool := leT .i64 (rawI .i64 0) (m : Int) && (!isNeg .i64 (hq m) && (decide (toI .i64 (hq m) < (32 : Nat)) && (!isNeg .i64 (hc m) && (subT .i64 (m : Int) (rawI .i64 1) == (m : Int) - 1))))
theorem okI_all : allB okI 64 = true := by kernel_rfl

theorem nib_lt (x : UInt8) : (UInt8.toNat (andT .u8 x (rawI .u8 15))) < 16 := by
  have e : (UInt8.toNat (andT .u8 x (rawI .u8 15)) : Int) = IntKind.u8.wrap ((BitVec.ofInt 8 (toI .u8 x) &&& BitVec.ofInt 8 15).toNat : Int) := toI_ofI .u8 _
  have h : (BitVec.ofInt 8 (toI .u8 x) &&& BitVec.ofInt 8 15).toNat ≤ (BitVec.ofInt 8 15).toNat := by
    rw [BitVec.toNat_and]; exact Nat.and_le_right
  have h2 : (BitVec.ofInt 8 15).toNat = 15 := by decide
  have w : ∀ n : Int, IntKind.u8.wrap n = n % 256 := fun n => by simp [IntKind.wrap, IntKind.signed, IntKind.bits]
  rw [w] at e
  omega

def nextM (p : Pt) (k : List UInt8) (r : Pt) (i : Int) : Pt := match ltT .u8 (rawI .u8 0) (nib k i) with
  | true => ptAdd (dbl4 r) (nthPt (tabR 16 p ptId) (UInt8.toNat (nib k i)))
  | false => dbl4 r
def loopM (p : Pt) (k : List UInt8) : Nat → Pt → Pt
  | 0, r => r
  | m + 1, r => loopM p k m (nextM p k r (m : Int))

theorem splitN_of {K : Nat → Prop} : ∀ {n s m : Nat}, s ≤ m → m < s + n → K m → splitN n s m K
  | 0, s, m, h1, h2, h => by omega
  | n + 1, s, m, h1, h2, h => by
    simp only [splitN]
    cases hq : Nat.beq m s with
    | true => rw [← beq_eq hq]; exact h
    | false =>
      have : m ≠ s := fun e => by subst e; simp at hq
      exact splitN_of (by show s + 1 ≤ m; omega) (by show m < s + 1 + n; omega) h

theorem br_mk {p q : Prop} (h : p) : br true p q := h

theorem steps_mul (p : Pt) (k : List UInt8) (fuel : Nat) : ∀ (m : Nat) (r : Pt), m ≤ 64 → Steps 0 (liveOf 179 10) (evC base10 179 0 0 (fuel + 10) (loopN 179 1)) m (headM p k r ((m : Int) - 1)) (headM p k (loopM p k m r) (-1))
  | 0, r, _ => Steps.refl _
  | m + 1, r, hm => by
    have h := allB_spec okI_all m (by omega)
    simp only [okI, Bool.and_eq_true, beq_iff_eq] at h
    obtain ⟨h1, h2, h3, h4, h5⟩ := h
    have e : ((m + 1 : Nat) : Int) - 1 = (m : Int) := by omega
    rw [e]
    refine Steps.step (h1 := headM p k (nextM p k r (m : Int)) ((m : Int) - 1)) ((step_mul p r k (m : Int) _ fuel).mpr ?_) (steps_mul p k fuel m _ (by omega))
    rw [h1]
    refine chk_mk h2 (chk_mk h3 (chk_mk h4 ?_))
    rw [h5]
    unfold nextM
    cases ltT .u8 (rawI .u8 0) (nib k (m : Int)) with
    | false => rfl
    | true =>
      have hn : UInt8.toNat (nib k (m : Int)) < 16 := nib_lt _
      refine br_mk (chk_mk rfl (chk_mk (decide_eq_true (Int.ofNat_lt.2 hn)) ?_))
      exact splitN_of (by omega) (by simp only [toI, Int.toNat_natCast]; omega) (by simp only [toI, Int.toNat_natCast])

def ptMul (p : Pt) (k : List UInt8) : Pt := loopM p k 64 ptId
def jumpM (p : Pt) (k : List UInt8) (q : Pt) : Nat → Option Jump := fun r => match Nat.beq r 10 with
  | true => some ⟨headM p k ptId 63, headM p k q (-1)⟩
  | false => none
theorem run_ptMul (p q : Pt) (k : List UInt8) (fuel : Nat) : ∀ K, runJ base10 (jumpM p k q) 179 0 (fuel + 100) [p.v, .arr .u8 32 k] [] K = (headM p k ptId 63 = headM p k ptId 63 ∧ K q.v []) := by intro K; kernel_rfl
theorem loops179 : loopsOf (bodyF 179) = [(4, loopN 179 0), (10, loopN 179 1), (13, loopN 179 2)] := by kernel_rfl

def mulG2 : List AVal → Option AVal
  | [v, .arr .u8 j k] => match Nat.beq j 32 with
    | true => match ptDec v with
      | some p => some (ptMul p k).v
      | none => none
    | false => none
  | _ => none
theorem ptMul_ok : CtrOk Tryz.prog env 179 (pureN mulG2) := pureN_of_runJ (n := 0) base10_ok fun {ρ Z us xs v} hx hg => by
  unfold mulG2 at hg
  split at hg
  · split at hg
    · split at hg
      · cases hg
        rename_i v j k _ hj _ p hp
        have := beq_eq hj; subst this
        have := ptDec_inv hp; subst this
        refine ⟨jumpM p k (ptMul p k), 190 + 10, ?_, fun K hK => (run_ptMul p (ptMul p k) k 100 K).mpr ⟨rfl, hK⟩⟩
        rw [loops179]
        refine ⟨trivial, ⟨64, by omega, ?_⟩, trivial, trivial⟩
        exact steps_mul p k 190 64 ptId (by omega)
      · cases hg
    · cases hg
  · cases hg
end Go.Abs
