/- Points as bytes. -/
import Derived.Test.YtadiphoihflmiaaGreatDoorZr
import Derived.Test.YtadiphoihflmiaaGreatDoorZs
set_option linter.all false
set_option maxRecDepth 1000000
namespace Go.Abs
open Go.Proofs

theorem run_xy (p : Pt) : ∀ K, run base10 215 0 [p.v] [] K = K (.tup [.arr .u64 5 (mulF p.x (invF p.z)), .arr .u64 5 (mulF p.y (invF p.z))]) [] := by intro K; kernel_rfl
def base11 : List (Nat × Ctr) := (179, pureN mulG2) :: (215, pureN (pt1G fun p => .tup [.arr .u64 5 (mulF p.x (invF p.z)), .arr .u64 5 (mulF p.y (invF p.z))])) :: base10
theorem base11_ok : AllOk base11 := ⟨ptMul_ok, pt1_ok base10_ok run_xy, base10_ok⟩

/-! ### out -/
def signF (b : Bool) (l : List UInt8) : List UInt8 := match b with
  | true => l.set 31 (orT .u8 (l.getD 31 (zeroT .u8)) (rawI .u8 128))
  | false => l
def formF (p : Pt) : List UInt8 := signF (oddF (mulF p.x (invF p.z))) (bytesF (mulF p.y (invF p.z)))
theorem run_form (p : Pt) : ∀ K, run base11 180 0 [p.v] [] K = br (oddF (mulF p.x (invF p.z))) (K (.arr .u8 32 (signF true (bytesF (mulF p.y (invF p.z))))) []) (K (.arr .u8 32 (signF false (bytesF (mulF p.y (invF p.z))))) []) := by intro K; kernel_rfl
theorem form_run (p : Pt) (K : AVal → List (Nat × Blk) → Prop) : run base11 180 0 [p.v] [] K = K (.arr .u8 32 (formF p)) [] := by
  rw [run_form]
  unfold formF
  cases oddF (mulF p.x (invF p.z)) <;> rfl

/-! ### in -/
/-- A root, its two ends apart. -/
def rootCR (rt : List UInt64 → List UInt64 → List UInt64 × Bool) : Ctr := ⟨fun us bs K => match bs with
  | [] => ob (fe2G (fun u v => .tup [feB (rt u v).1 true, .bool (rt u v).2, feB (rt u v).1 false]) us) fun t => match t with
    | .tcons a (.tcons (.bool b) (.tcons c _)) => br b (K a []) (K c [])
    | _ => False
  | _ :: _ => False⟩
def rootC : Ctr := rootCR rootF
theorem rootC_ok : CtrOk Tryz.prog env 232 rootC := by
  refine root_ok.of (fun us bs => ?_) fun {ρ Z w us bs xs K} hh hx hr => ?_
  · cases bs with
    | cons b bs => exact det_false
    | nil =>
      refine det_ob fun t => ?_
      cases t <;> try exact det_false
      rename_i a t
      cases t <;> try exact det_false
      rename_i b t
      cases b <;> try exact det_false
      rename_i b
      cases t <;> try exact det_false
      exact det_br (det_pure (⟨_, []⟩ : Out)) (det_pure (⟨_, []⟩ : Out))
  · cases bs with
    | cons b bs => exact hr.elim
    | nil =>
      obtain ⟨t, ht, hr⟩ := ob_inv hr
      obtain ⟨u, v, rfl, hu, hv, rfl⟩ := fe2G_inv hx ht
      show ob (some (feB (rootF u v).1 (rootF u v).2)) fun v => K v []
      simp only [AVal.tup] at hr
      rcases br_inv hr with ⟨e, hr⟩ | ⟨e, hr⟩ <;> rw [e] <;> exact hr

def base12R (rt : List UInt64 → List UInt64 → List UInt64 × Bool) : List (Nat × Ctr) := (232, rootCR rt) :: (180, pureN (pt1G fun p => .arr .u8 32 (formF p))) :: base11
def base12 : List (Nat × Ctr) := (232, rootC) :: (180, pureN (pt1G fun p => .arr .u8 32 (formF p))) :: base11
theorem base12_ok : AllOk base12 := ⟨rootC_ok, pt1_ok base11_ok form_run, base11_ok⟩

def clrF (e : List UInt8) : List UInt8 := e.set 31 (andT .u8 (e.getD 31 (zeroT .u8)) (rawI .u8 127))
def topF (e : List UInt8) : Bool := eqT .u8 (shrT .u8 (e.getD 31 (zeroT .u8)) 7) (rawI .u8 1)
def ptB (p : Pt) (b : Bool) : AVal := .tup [p.v, .bool b]
def opU (y : List UInt64) : List UInt64 := subF (sqF y) oneF
def opV (y : List UInt64) : List UInt64 := addF (mulF dF (sqF y)) oneF
def mkPt (y x : List UInt64) : Pt := ⟨x, y, oneF, mulF x y⟩
def z32 : List UInt8 := List.replicate 32 (zeroT .u8)
def openX (e : List UInt8) (y x : List UInt64) : List UInt64 := match !(oddF x == topF e) with
  | true => subF zF x
  | false => x
def openF (e : List UInt8) : Pt × Bool := match eqL .u8 (bytesF (loadF (clrF e))) (clrF e) with
  | false => (ptZ, false)
  | true => match rootF (opU (loadF (clrF e))) (opV (loadF (clrF e))) with
    | (x, true) => match topF e && eqL .u8 (bytesF x) z32 with
      | true => (ptZ, false)
      | false => (mkPt (loadF (clrF e)) (openX e (loadF (clrF e)) x), true)
    | (_, false) => (ptZ, false)
def opFin (e : List UInt8) (y x : List UInt64) (K : AVal → List (Nat × Blk) → Prop) : Prop :=
  br (!(oddF x == topF e)) (K (ptB (mkPt y (subF zF x)) true) []) (K (ptB (mkPt y x) true) [])
def opAll (e : List UInt8) (y : List UInt64) (r : List UInt64 × Bool) (K : AVal → List (Nat × Blk) → Prop) : Prop :=
  br (!(eqL .u8 (bytesF y) (clrF e))) (K (ptB ptZ false) []) (br r.2
    (br (topF e) (br (eqL .u8 (bytesF r.1) z32) (K (ptB ptZ false) []) (opFin e y r.1 K)) (opFin e y r.1 K)) (K (ptB ptZ false) []))
theorem run_open (rt : List UInt64 → List UInt64 → List UInt64 × Bool) (e : List UInt8) : ∀ K, run (base12R rt) 199 0 [.arr .u8 32 e] [] K = opAll e (loadF (clrF e)) (rt (opU (loadF (clrF e))) (opV (loadF (clrF e)))) K := by intro K; kernel_rfl

theorem open_run (e : List UInt8) (K : AVal → List (Nat × Blk) → Prop) : run base12 199 0 [.arr .u8 32 e] [] K = K (ptB (openF e).1 (openF e).2) [] := by
  show run (base12R rootF) 199 0 _ [] K = _
  rw [run_open]
  unfold openF opAll
  cases eqL .u8 (bytesF (loadF (clrF e))) (clrF e) with
  | false => rfl
  | true =>
    generalize rootF (opU (loadF (clrF e))) (opV (loadF (clrF e))) = r
    obtain ⟨x, b⟩ := r
    simp only [Bool.not_true, br]
    cases b with
    | false => rfl
    | true =>
      simp only [opFin, openX]
      cases topF e <;> cases eqL .u8 (bytesF x) z32 <;> simp only [Bool.true_and, Bool.false_and] <;> cases !(oddF x == _) <;> rfl
theorem open_ok : CtrOk Tryz.prog env 199 (pureN (b32G fun e => ptB (openF e).1 (openF e).2)) := b32_ok base12_ok fun a _ K hK => (open_run a K).mpr hK
end Go.Abs
