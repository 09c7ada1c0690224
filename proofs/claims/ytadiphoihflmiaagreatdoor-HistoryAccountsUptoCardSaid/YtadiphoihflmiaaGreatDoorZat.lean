/- Contracts that look at values alone; the bare functions of the library. Tables of contracts; a function's own run; the 128-bit product. Loops that are not unrolled: a jump from the head of a loop to its last head. Contracts of functions whose loops are not unrolled. Code with loops that are shown by hand, in the model. -/
import Derived.Test.YtadiphoihflmiaaGreatDoorZas
import Derived.Shelf.Spec.BitsCarry
import Derived.Lib.Mul64
import Derived.Test.YtadiphoihflmiaaGreatDoorZap
set_option linter.all false
set_option maxRecDepth 1000000
namespace Go.Abs
open Go.Proofs

/-! ### blocks as they were -/
def enumB : Nat → List Blk → List (Nat × Blk)
  | _, [] => []
  | i, b :: bs => (i, b) :: enumB (i + 1) bs

theorem lookL_enum : ∀ (bs : List Blk) (i : Nat), lookL (enumB i bs) = ofBlks i bs
  | [], i => by funext j; simp [enumB, lookL, ofBlks]
  | b :: bs, i => by
    funext j
    simp only [enumB, lookL, ofBlks, lookL_enum bs (i + 1)]

/-- A contract that looks at values alone, and leaves all blocks as they are. -/
def pureC (g : List AVal → Option AVal) : Ctr := ⟨fun us bs K => ob (g us) fun v => K v (enumB 0 bs)⟩

theorem pure_det {g : List AVal → Option AVal} (us : List AVal) (bs : List Blk) : Det fun (K : Out → Prop) => (pureC g).run us bs fun v h => K ⟨v, h⟩ :=
  det_ob fun v => det_pure (⟨v, enumB 0 bs⟩ : Out)

section
variable {P : Program} {env : Env}

theorem same_res {ρ : PMap} {Z : Zone} {w : World} {bs : List Blk} {v : AVal} {x : Value} (hh : HeapOk env ρ Z w (ofBlks 0 bs)) (hv : RepV env ρ Z v x) : ResOk env ρ ρ Z bs.length w (ofBlks 0 bs) v (enumB 0 bs) x w := by
  refine ⟨hv, by rw [lookL_enum]; exact hh, fun _ _ => rfl, Keeps.refl _ _, fun k b hb i h1 h2 => .inr ⟨k, b, ?_, rfl, h1, h2⟩⟩
  rw [lookL_enum] at hb; exact hb

/-- A bare function of the library. -/
theorem bare_ok {f : Nat} {g : List AVal → Option AVal} (h : ∀ {ρ : PMap} {Z : Zone} {w : World} {us : List AVal} {xs : Array Value} {v : AVal}, RepVs env ρ Z us xs.toList → g us = some v → ∃ x, (callFunc f xs).run P w = .ok (.value x) w ∧ RepV env ρ Z v x) : CtrOk P env f (pureC g) := by
  refine ⟨fun {ρ Z w us bs xs K} hh hx _ _ hr => ?_, fun us bs => pure_det us bs⟩
  obtain ⟨v, hg, hr⟩ := ob_inv hr
  obtain ⟨x, h1, h2⟩ := h hx hg
  rw [h1]
  exact ⟨v, _, Z, ρ, hr, Grow.refl _ _ _, same_res hh h2⟩

/-- A contract that is as good as another, where it holds. -/
theorem CtrOk.of {f : Nat} {c c' : Ctr} (h : CtrOk P env f c) (hd : ∀ us bs, Det fun (K : Out → Prop) => c'.run us bs fun v h => K ⟨v, h⟩)
    (hi : ∀ {ρ : PMap} {Z : Zone} {w : World} {us : List AVal} {bs : List Blk} {xs : Array Value} {K : AVal → List (Nat × Blk) → Prop}, HeapOk env ρ Z w (ofBlks 0 bs) → RepVs env ρ Z us xs.toList → c'.run us bs K → c.run us bs K) : CtrOk P env f c' :=
  ⟨fun hh hx hk hb hr => h.run hh hx hk hb (hi hh hx hr), hd⟩
end

/-! ### sums with carry -/
def adcS (x y c : UInt64) : UInt64 := UInt64.ofNat (x.toNat + y.toNat + c.toNat)
def adcC (x y c : UInt64) : UInt64 := UInt64.ofNat ((x.toNat + y.toNat + c.toNat) / 18446744073709551616)
def sbbD (x y b : UInt64) : UInt64 := UInt64.ofNat (x.toNat + 18446744073709551616 - y.toNat - b.toNat)
def sbbB (x y b : UInt64) : UInt64 := UInt64.ofNat (if x.toNat < y.toNat + b.toNat then 1 else 0)
def mulH (x y : UInt64) : UInt64 := UInt64.ofNat (x.toNat * y.toNat / 18446744073709551616)
def mulL (x y : UInt64) : UInt64 := UInt64.ofNat (x.toNat * y.toNat)

def addG : List AVal → Option AVal
  | [.int .u64 x, .int .u64 y, .int .u64 c] => match Nat.ble (UInt64.toNat c) 1 with
    | true => some (.tup [.int .u64 (adcS x y c), .int .u64 (adcC x y c)])
    | false => none
  | _ => none
def subG : List AVal → Option AVal
  | [.int .u64 x, .int .u64 y, .int .u64 c] => match Nat.ble (UInt64.toNat c) 1 with
    | true => some (.tup [.int .u64 (sbbD x y c), .int .u64 (sbbB x y c)])
    | false => none
  | _ => none
def mulG : List AVal → Option AVal
  | [.int .u64 x, .int .u64 y] => some (.tup [.int .u64 (mulH x y), .int .u64 (mulL x y)])
  | _ => none

/-! ### the library's bare functions, run -/
noncomputable def fnAt (f : Nat) (h : (Tryz.prog.funcs[f]?).isSome = true) : Func := (Tryz.prog.funcs[f]?).get h
theorem fnAt_eq {f : Nat} (h : (Tryz.prog.funcs[f]?).isSome = true) : Tryz.prog.funcs[f]? = some (fnAt f h) := (Option.some_get h).symm

theorem call_add (x y c : Nat) (hc : c ≤ 1) (w : World) :
    (callFunc 239 #[.int .u64 x, .int .u64 y, .int .u64 c]).run Tryz.prog w = .ok (.value (.tuple #[.int .u64 (((x + y + c) % 18446744073709551616 : Nat) : Int), .int .u64 (((x + y + c) / 18446744073709551616 : Nat) : Int)])) w := by
  rw [run_callFunc_extern (fnAt_eq (f := 239) (by kernel_rfl)) (by kernel_rfl) (by kernel_rfl) (by kernel_rfl) (e := add64Entry) (by kernel_rfl), run_add64 x y c (by omega) (by omega) (by omega) (by omega)]
  simp only [Result.andThen]
  congr 5 <;> omega

theorem call_sub (x y b : Nat) (hb : b ≤ 1) (w : World) :
    (callFunc 188 #[.int .u64 x, .int .u64 y, .int .u64 b]).run Tryz.prog w = .ok (.value (.tuple #[.int .u64 (((x + 18446744073709551616 - y - b) % 18446744073709551616 : Nat) : Int), .int .u64 ((if x < y + b then 1 else 0 : Nat) : Int)])) w := by
  rw [run_callFunc_extern (fnAt_eq (f := 188) (by kernel_rfl)) (by kernel_rfl) (by kernel_rfl) (by kernel_rfl) (e := sub64Entry) (by kernel_rfl), run_sub64 x y b hb]
  rfl

theorem call_typeOf (x : Value) (w : World) : (callFunc 60 #[.iface 455 x]).run Tryz.prog w = .ok (.value (.iface 211 (.agg #[.pointer (some ⟨18, 455, none⟩)]))) w := by kernel_rfl
theorem call_typeOf94 (x : Value) (w : World) : (callFunc 60 #[.iface 94 x]).run Tryz.prog w = .ok (.value (.iface 211 (.agg #[.pointer (some ⟨18, 94, none⟩)]))) w := by kernel_rfl
theorem call_typeOfNil (w : World) : (callFunc 60 #[.nilIface]).run Tryz.prog w = .ok (.value .nilIface) w := by kernel_rfl
theorem call_cmp (w : World) : (callFunc 292 #[.agg #[.pointer (some ⟨18, 455, none⟩)]]).run Tryz.prog w = .ok (.value (.bool true)) w := by kernel_rfl
theorem call_cmp94 (w : World) : (callFunc 292 #[.agg #[.pointer (some ⟨18, 94, none⟩)]]).run Tryz.prog w = .ok (.value (.bool true)) w := by kernel_rfl

theorem rep_int {env : Env} {ρ : PMap} {Z : Zone} {k : IntKind} {x : TT k} {v : Value} (h : RepV env ρ Z (.int k x) v) : v = .int k (toI k x) := by
  simpa [RepV, AVal.isAgg, RepC] using h
theorem rep_int_of {env : Env} {ρ : PMap} {Z : Zone} {k : IntKind} {x : TT k} {n : Int} (h : toI k x = n) : RepV env ρ Z (.int k x) (.int k n) := by
  simp [RepV, AVal.isAgg, RepC, h]
theorem rep_tup2 {env : Env} {ρ : PMap} {Z : Zone} {a b : AVal} {x y : Value} (h1 : RepV env ρ Z a x) (h2 : RepV env ρ Z b y) : RepV env ρ Z (.tup [a, b]) (.tuple #[x, y]) :=
  repV_tupOf (vs := [a, b]) (ys := [x, y]) ⟨_, _, rfl, h1, _, _, rfl, h2, rfl⟩

theorem u64_of {n : Nat} {m : Int} (h : ((n % 18446744073709551616 : Nat) : Int) = m) : toI .u64 (UInt64.ofNat n) = m := by
  rw [← h]; simp [toI]

theorem add_ok : CtrOk Tryz.prog env 239 (pureC addG) := bare_ok fun {ρ Z w us xs v} hx hg => by
  unfold addG at hg
  split at hg <;> try (cases hg)
  rename_i x y c
  split at hg <;> cases hg
  rename_i hc
  have hc := Nat.le_of_ble_eq_true hc
  obtain ⟨x', xs1, e1, h1, y', xs2, rfl, h2, c', xs3, rfl, h3, h4⟩ := hx
  simp only [RepVs] at h4; subst h4
  have := rep_int h1; subst this
  have := rep_int h2; subst this
  have := rep_int h3; subst this
  have e : xs = #[.int .u64 (UInt64.toNat x), .int .u64 (UInt64.toNat y), .int .u64 (UInt64.toNat c)] := by
    apply Array.ext'; rw [e1]; rfl
  rw [e, call_add _ _ _ hc]
  refine ⟨_, rfl, rep_tup2 (rep_int_of (u64_of rfl)) (rep_int_of (u64_of ?_))⟩
  have a := UInt64.toNat_lt x
  have b := UInt64.toNat_lt y
  have : (x.toNat + y.toNat + c.toNat) / 18446744073709551616 < 18446744073709551616 := by omega
  rw [Nat.mod_eq_of_lt this]

theorem sub_ok : CtrOk Tryz.prog env 188 (pureC subG) := bare_ok fun {ρ Z w us xs v} hx hg => by
  unfold subG at hg
  split at hg <;> try (cases hg)
  rename_i x y c
  split at hg <;> cases hg
  rename_i hc
  have hc := Nat.le_of_ble_eq_true hc
  obtain ⟨x', xs1, e1, h1, y', xs2, rfl, h2, c', xs3, rfl, h3, h4⟩ := hx
  simp only [RepVs] at h4; subst h4
  have := rep_int h1; subst this
  have := rep_int h2; subst this
  have := rep_int h3; subst this
  have e : xs = #[.int .u64 (UInt64.toNat x), .int .u64 (UInt64.toNat y), .int .u64 (UInt64.toNat c)] := by
    apply Array.ext'; rw [e1]; rfl
  rw [e, call_sub _ _ _ hc]
  refine ⟨_, rfl, rep_tup2 (rep_int_of (u64_of rfl)) (rep_int_of (u64_of ?_))⟩
  congr 1
  apply Nat.mod_eq_of_lt
  split <;> omega

def typeOfG : List AVal → Option AVal
  | [.iface t _] => match Nat.beq t 455 with
    | true => some (.iface 211 (.pair (.th 455) .unit))
    | false => match Nat.beq t 94 with
      | true => some (.iface 211 (.pair (.th 94) .unit))
      | false => none
  | [.nilIface] => some .nilIface
  | _ => none
def cmpG : List AVal → Option AVal
  | [.pair (.th t) .unit] => match Nat.beq t 455 with
    | true => some (.bool true)
    | false => match Nat.beq t 94 with
      | true => some (.bool true)
      | false => none
  | _ => none

theorem rep_type {ρ : PMap} {Z : Zone} (t : Nat) : RepV env ρ Z (.iface 211 (.pair (.th t) .unit)) (.iface 211 (.agg #[.pointer (some ⟨18, t, none⟩)])) := by
  refine ⟨_, rfl, ?_⟩
  exact ⟨#[.pointer (some ⟨18, t, none⟩)], rfl, [.pointer (some ⟨18, t, none⟩)], [], rfl, rfl, rfl⟩

theorem typeOf_ok : CtrOk Tryz.prog env 60 (pureC typeOfG) := bare_ok fun {ρ Z w us xs v} hx hg => by
  unfold typeOfG at hg
  split at hg
  · rename_i t u
    obtain ⟨x', xs1, e1, h1, h4⟩ := hx
    simp only [RepVs] at h4; subst h4
    obtain ⟨x, h1, _⟩ := h1
    simp at h1; subst h1
    have e : xs = #[.iface t x] := by apply Array.ext'; rw [e1]
    subst e
    split at hg
    · rename_i ht; have := beq_eq ht; subst this; cases hg
      exact ⟨_, call_typeOf x w, rep_type 455⟩
    · split at hg
      · rename_i ht; have := beq_eq ht; subst this; cases hg
        exact ⟨_, call_typeOf94 x w, rep_type 94⟩
      · cases hg
  · cases hg
    obtain ⟨x', xs1, e1, h1, h4⟩ := hx
    simp only [RepVs] at h4; subst h4
    have h1 : x' = .nilIface := by simpa [RepV, AVal.isAgg, RepC] using h1
    subst h1
    have e : xs = #[.nilIface] := by apply Array.ext'; rw [e1]
    subst e
    exact ⟨_, call_typeOfNil w, by simp [RepV, AVal.isAgg, RepC]⟩
  · cases hg

theorem cmp_ok : CtrOk Tryz.prog env 292 (pureC cmpG) := bare_ok fun {ρ Z w us xs v} hx hg => by
  unfold cmpG at hg
  split at hg
  · rename_i t
    obtain ⟨x', xs1, e1, h1, h4⟩ := hx
    simp only [RepVs] at h4; subst h4
    obtain ⟨ar, rfl, c1, c2, h2, h3, h4⟩ := h1
    simp only [RepC] at h3 h4
    subst h3 h4
    have e : xs = #[.agg #[.pointer (some ⟨18, t, none⟩)]] := by
      apply Array.ext'; rw [e1]
      have : ar = #[.pointer (some ⟨18, t, none⟩)] := by apply Array.ext'; rw [h2]; rfl
      rw [this]
    subst e
    split at hg
    · rename_i ht; have := beq_eq ht; subst this; cases hg
      exact ⟨_, call_cmp w, by simp [RepV, AVal.isAgg, RepC]⟩
    · split at hg
      · rename_i ht; have := beq_eq ht; subst this; cases hg
        exact ⟨_, call_cmp94 w, by simp [RepV, AVal.isAgg, RepC]⟩
      · cases hg
  · cases hg
end Go.Abs

namespace Go.Abs
open Go.Proofs

/-! ### tables -/
def tabL : List (Nat × Ctr) → Tab
  | [], _ => none
  | (g, c) :: l, f => match Nat.beq f g with
    | true => some c
    | false => tabL l f

/-- All entries of a table hold. -/
def AllOk : List (Nat × Ctr) → Prop
  | [] => True
  | (f, c) :: l => CtrOk Tryz.prog env f c ∧ AllOk l

theorem tabL_ok : ∀ {l : List (Nat × Ctr)}, AllOk l → ∀ f c, tabL l f = some c → CtrOk Tryz.prog env f c
  | [], _, f, c, h => by cases h
  | (g, d) :: l, hl, f, c, h => by
    simp only [tabL] at h
    cases hq : Nat.beq f g with
    | true => rw [hq] at h; cases h; rw [beq_eq hq]; exact hl.1
    | false => rw [hq] at h; exact tabL_ok hl.2 f c h

/-- A function's own run, its calls n deep by their own runs, or by the table. -/
noncomputable def run (l : List (Nat × Ctr)) (f n : Nat) (us : List AVal) (bs : List Blk) (K : AVal → List (Nat × Blk) → Prop) : Prop := match fnsOf f with
  | some (fn, body) => evalFn env (tabN env (tabL l) fnsOf liveOf 5000 n) (liveOf f) fn body 5000 us bs K
  | none => False

theorem run_ok {l : List (Nat × Ctr)} (hl : AllOk l) (f n : Nat) : CtrOk Tryz.prog env f ⟨run l f n⟩ := by
  cases hf : fnsOf f with
  | none =>
    have e : run l f n = fun _ _ _ => False := by funext us bs K; simp [run, hf]
    rw [e]
    exact ⟨fun _ _ _ _ h => h.elim, fun _ _ => det_false⟩
  | some p =>
    obtain ⟨fn, body⟩ := p
    have e : run l f n = evalFn env (tabN env (tabL l) fnsOf liveOf 5000 n) (liveOf f) fn body 5000 := by funext us bs K; simp [run, hf]
    rw [e]
    obtain ⟨h1, h2, h3⟩ := fnsOf_ok f fn body hf
    exact fn_ctr (tabN_ok env_ok mixed (tabL_ok hl) fnsOf_ok n) env_ok mixed h1 h2 h3

attribute [irreducible] run

/-- A contract by values, out of a run. -/
theorem pure_of_run {l : List (Nat × Ctr)} (hl : AllOk l) {f n : Nat} {g : List AVal → Option AVal}
    (h : ∀ {ρ : PMap} {Z : Zone} {us : List AVal} {xs : List Value} {v : AVal} (bs : List Blk), RepVs env ρ Z us xs → g us = some v → ∀ K, K v (enumB 0 bs) → run l f n us bs K) : CtrOk Tryz.prog env f (pureC g) :=
  (run_ok hl f n).of (fun us bs => pure_det us bs) fun {ρ Z w us bs xs K} hh hx hr => by
    obtain ⟨v, hg, hr⟩ := ob_inv hr
    exact h bs hx hg K hr

/-- A contract of functions that get no blocks. -/
def pureN (g : List AVal → Option AVal) : Ctr := ⟨fun us bs K => match bs with
  | [] => ob (g us) fun v => K v []
  | _ :: _ => False⟩

theorem pureN_det {g : List AVal → Option AVal} (us : List AVal) (bs : List Blk) : Det fun (K : Out → Prop) => (pureN g).run us bs fun v h => K ⟨v, h⟩ := by
  cases bs with
  | nil => exact det_ob fun v => det_pure (⟨v, []⟩ : Out)
  | cons b bs => exact det_false

theorem pureN_of_run {l : List (Nat × Ctr)} (hl : AllOk l) {f n : Nat} {g : List AVal → Option AVal}
    (h : ∀ {ρ : PMap} {Z : Zone} {us : List AVal} {xs : List Value} {v : AVal}, RepVs env ρ Z us xs → g us = some v → ∀ K, K v [] → run l f n us [] K) : CtrOk Tryz.prog env f (pureN g) :=
  (run_ok hl f n).of (fun us bs => pureN_det us bs) fun {ρ Z w us bs xs K} hh hx hr => by
    cases bs with
    | nil =>
      obtain ⟨v, hg, hr⟩ := ob_inv hr
      exact h hx hg K hr
    | cons b bs => exact hr.elim

/-- A contract by values, behind a gate. -/
def gateC (q : List AVal → Bool) (g : List AVal → Option AVal) : Ctr := ⟨fun us bs K => chk (q us) (ob (g us) fun v => K v (enumB 0 bs))⟩

theorem gate_ok {f : Nat} {q : List AVal → Bool} {g g' : List AVal → Option AVal} (h : CtrOk Tryz.prog env f (pureC g)) (hq : ∀ us v, q us = true → g' us = some v → g us = some v) : CtrOk Tryz.prog env f (gateC q g') :=
  h.of (fun us bs => det_chk (pure_det us bs)) fun {ρ Z w us bs xs K} hh hx hr => by
    obtain ⟨e1, hr⟩ := chk_inv hr
    obtain ⟨v, e2, hr⟩ := ob_inv hr
    show ob (g us) _
    rw [hq us v e1 e2]
    exact hr

def carryQ : List AVal → Bool
  | [_, _, .int .u64 c] => Nat.ble (UInt64.toNat c) 1
  | _ => false
def add3 : List AVal → Option AVal
  | [.int .u64 x, .int .u64 y, .int .u64 c] => some (.tup [.int .u64 (adcS x y c), .int .u64 (adcC x y c)])
  | _ => none
def sub3 : List AVal → Option AVal
  | [.int .u64 x, .int .u64 y, .int .u64 c] => some (.tup [.int .u64 (sbbD x y c), .int .u64 (sbbB x y c)])
  | _ => none

theorem add3_ok (us : List AVal) (v : AVal) (h1 : carryQ us = true) (h2 : add3 us = some v) : addG us = some v := by
  unfold add3 at h2
  split at h2 <;> cases h2
  rename_i x y c
  simp only [carryQ] at h1
  simp only [addG, h1]
theorem sub3_ok (us : List AVal) (v : AVal) (h1 : carryQ us = true) (h2 : sub3 us = some v) : subG us = some v := by
  unfold sub3 at h2
  split at h2 <;> cases h2
  rename_i x y c
  simp only [carryQ] at h1
  simp only [subG, h1]

def base0 : List (Nat × Ctr) := [(239, gateC carryQ add3), (188, gateC carryQ sub3), (60, pureC typeOfG), (292, pureC cmpG)]
theorem base0_ok : AllOk base0 := ⟨gate_ok add_ok add3_ok, gate_ok sub_ok sub3_ok, typeOf_ok, cmp_ok, trivial⟩

/-! ### the product of 128 bits -/
def m64w (x y : UInt64) : UInt64 := addT .u64 (mulT .u64 (shrT .u64 x 32) (andT .u64 y (rawI .u64 4294967295))) (shrT .u64 (mulT .u64 (andT .u64 x (rawI .u64 4294967295)) (andT .u64 y (rawI .u64 4294967295))) 32)
def m64v (x y : UInt64) : UInt64 := addT .u64 (andT .u64 (m64w x y) (rawI .u64 4294967295)) (mulT .u64 (andT .u64 x (rawI .u64 4294967295)) (shrT .u64 y 32))
def m64h (x y : UInt64) : UInt64 := addT .u64 (addT .u64 (mulT .u64 (shrT .u64 x 32) (shrT .u64 y 32)) (shrT .u64 (m64w x y) 32)) (shrT .u64 (m64v x y) 32)

theorem run_mul (x y : UInt64) : ∀ K, run base0 254 0 [.int .u64 x, .int .u64 y] [] K = K (.tup [.int .u64 (m64h x y), .int .u64 (mulT .u64 x y)]) [] := by intro K; kernel_rfl

/-! ### words as numbers -/
theorem wrap64 (n : Int) : IntKind.u64.wrap n = n % 18446744073709551616 := by
  simp [IntKind.wrap, IntKind.signed, IntKind.bits]
theorem nat_add (x y : UInt64) : UInt64.toNat (addT .u64 x y) = (x.toNat + y.toNat) % 18446744073709551616 := by
  have := toI_addT .u64 x y
  simp only [toI, wrap64] at this
  omega
theorem nat_sub (x y : UInt64) : UInt64.toNat (subT .u64 x y) = (x.toNat + 18446744073709551616 - y.toNat) % 18446744073709551616 := by
  have := toI_subT .u64 x y
  have h := UInt64.toNat_lt y
  simp only [toI, wrap64] at this
  omega
theorem nat_mul (x y : UInt64) : UInt64.toNat (mulT .u64 x y) = (x.toNat * y.toNat) % 18446744073709551616 := by
  have := toI_mulT .u64 x y
  simp only [toI, wrap64] at this
  rw [← Int.natCast_mul] at this
  omega
theorem nat_shr (x : UInt64) (n : Nat) (hn : n ≤ 64) : UInt64.toNat (shrT .u64 x n) = x.toNat / 2 ^ n := by
  have := toI_shrT .u64 x n
  simp only [toI, IntKind.bits] at this
  rw [Nat.min_eq_left hn] at this
  have h2 : Int.fdiv (UInt64.toNat x : Int) (2 ^ n) = ((x.toNat / 2 ^ n : Nat) : Int) := by
    rw [Int.fdiv_eq_ediv_of_nonneg _ (Int.pow_nonneg (by omega))]; simp
  rw [h2] at this
  omega
theorem nat_shl (x : UInt64) (n : Nat) (hn : n ≤ 64) : UInt64.toNat (shlT .u64 x n) = (x.toNat * 2 ^ n) % 18446744073709551616 := by
  have := toI_shlT .u64 x n
  simp only [toI, IntKind.bits, wrap64] at this
  rw [Nat.min_eq_left hn] at this
  have h2 : (UInt64.toNat x : Int) * 2 ^ n = ((x.toNat * 2 ^ n : Nat) : Int) := by simp
  rw [h2] at this
  omega
theorem nat_and (x y : UInt64) : UInt64.toNat (andT .u64 x y) = x.toNat &&& y.toNat := by
  have e : (UInt64.toNat (andT .u64 x y) : Int) = IntKind.u64.wrap ((BitVec.ofInt 64 (x.toNat : Int) &&& BitVec.ofInt 64 (y.toNat : Int)).toNat : Int) := toI_ofI .u64 _
  rw [wrap64] at e
  have h1 : BitVec.ofInt 64 (x.toNat : Int) = x.toBitVec := by
    apply BitVec.eq_of_toNat_eq; simp
  have h2 : BitVec.ofInt 64 (y.toNat : Int) = y.toBitVec := by
    apply BitVec.eq_of_toNat_eq; simp
  rw [h1, h2] at e
  have h3 : (x.toBitVec &&& y.toBitVec).toNat = x.toNat &&& y.toNat := by simp
  rw [h3] at e
  have h4 : x.toNat &&& y.toNat ≤ x.toNat := Nat.and_le_left
  have := UInt64.toNat_lt x
  omega
theorem nat_or (x y : UInt64) : UInt64.toNat (orT .u64 x y) = x.toNat ||| y.toNat := by
  have e : (UInt64.toNat (orT .u64 x y) : Int) = IntKind.u64.wrap ((BitVec.ofInt 64 (x.toNat : Int) ||| BitVec.ofInt 64 (y.toNat : Int)).toNat : Int) := toI_ofI .u64 _
  rw [wrap64] at e
  have h1 : BitVec.ofInt 64 (x.toNat : Int) = x.toBitVec := by
    apply BitVec.eq_of_toNat_eq; simp
  have h2 : BitVec.ofInt 64 (y.toNat : Int) = y.toBitVec := by
    apply BitVec.eq_of_toNat_eq; simp
  rw [h1, h2] at e
  have h3 : (x.toBitVec ||| y.toBitVec).toNat = x.toNat ||| y.toNat := by simp
  rw [h3] at e
  have h4 : x.toNat ||| y.toNat < 2 ^ 64 := Nat.or_lt_two_pow (UInt64.toNat_lt x) (UInt64.toNat_lt y)
  omega
theorem nat_raw (n : Nat) : UInt64.toNat (rawI .u64 (n : Int)) = n % 18446744073709551616 := by
  simp only [rawI]
  rw [UInt64.toNat_ofNat']
  omega
theorem nat_mask (x : UInt64) : UInt64.toNat (andT .u64 x (rawI .u64 4294967295)) = x.toNat % 4294967296 := by
  rw [nat_and]
  show x.toNat &&& UInt64.toNat (rawI .u64 ((4294967295 : Nat) : Int)) = _
  rw [nat_raw]
  exact Nat.and_two_pow_sub_one_eq_mod _ 32

theorem m64h_eq (x y : UInt64) : m64h x y = mulH x y := by
  obtain ⟨bd, bt, bw, hhi⟩ := Lib.mul64_hi x.toNat y.toNat (UInt64.toNat_lt x) (UInt64.toNat_lt y)
  have hx := UInt64.toNat_lt x
  have hy := UInt64.toNat_lt y
  have ba := Lib.half_mul_le (a := x.toNat / 4294967296) (b := y.toNat / 4294967296) (by omega) (by omega)
  have bb := Lib.half_mul_le (a := x.toNat / 4294967296) (b := y.toNat % 4294967296) (by omega) (by omega)
  have bc := Lib.half_mul_le (a := x.toNat % 4294967296) (b := y.toNat / 4294967296) (by omega) (by omega)
  apply UInt64.toNat_inj.1
  simp only [m64h, m64v, m64w, mulH, nat_add, nat_mul, nat_shr _ 32 (by omega), nat_mask, Nat.reducePow, UInt64.toNat_ofNat']
  rw [Nat.mod_eq_of_lt bd, Nat.mod_eq_of_lt (a := x.toNat / 4294967296 * (y.toNat % 4294967296)) (by omega), Nat.mod_eq_of_lt bt, Nat.mod_eq_of_lt (a := x.toNat % 4294967296 * (y.toNat / 4294967296)) (by omega), Nat.mod_eq_of_lt bw,
    Nat.mod_eq_of_lt (a := x.toNat / 4294967296 * (y.toNat / 4294967296)) (by omega)]
  rw [Nat.mod_eq_of_lt (a := x.toNat / 4294967296 * (y.toNat / 4294967296) + _) (by omega), hhi]

theorem mulL_eq (x y : UInt64) : mulT .u64 x y = mulL x y := by
  apply UInt64.toNat_inj.1
  rw [nat_mul, mulL, UInt64.toNat_ofNat']

theorem mul_ok : CtrOk Tryz.prog env 254 (pureN mulG) := pureN_of_run (n := 0) base0_ok fun {ρ Z us xs v} hx hg K hK => by
  unfold mulG at hg
  split at hg <;> cases hg
  rename_i x y
  rw [run_mul, m64h_eq, mulL_eq]
  exact hK

def base1 : List (Nat × Ctr) := (254, pureN mulG) :: base0
theorem base1_ok : AllOk base1 := ⟨mul_ok, base0_ok⟩
end Go.Abs

namespace Go.Abs

abbrev Hd := List (Option AVal) × List (Nat × Blk)
/-- From this head to that one. -/
structure Jump : Type 1 where
  a : Hd
  b : Hd

/-- The state at the head of a loop, as data. -/
def canonD (nb : Nat) (live : List Nat) (S : St) (K : Hd → Prop) : Prop :=
  let t := keepT live 0 S.tmps
  let ks := reach S.heap 512 (keysAt S.heap (upTo 0 nb) ++ keysO t) (upTo 0 nb)
  chk (nodupN ks) (chk (subN (keysO t) ks) (chk (subN (keysAt S.heap ks) ks) (chk (Nat.ble ks.length 256)
    (K (renameO (fun k => idxN k ks) t, listOf S.heap (fun k => idxN k ks) 0 ks)))))

def headSt (h : Hd) : St := ⟨h.1, lookL h.2, fun _ => false⟩

theorem canon_D {nb : Nat} {live : List Nat} {S : St} {K : St → Prop} : canon nb live S K = canonD nb live S fun h => K (headSt h) := rfl

theorem canonD_mono {nb : Nat} {live : List Nat} {S : St} {K K' : Hd → Prop} (h : canonD nb live S K) (hK : ∀ x, K x → K' x) : canonD nb live S K' := by
  unfold canonD at h ⊢
  simp only at h ⊢
  obtain ⟨h1, h⟩ := chk_inv h
  obtain ⟨h2, h⟩ := chk_inv h
  obtain ⟨h3, h⟩ := chk_inv h
  obtain ⟨h4, h⟩ := chk_inv h
  rw [h1, h2, h3, h4]
  exact hK _ h

/-- The last round: it does not come back. -/
def lastK (K : XE → St → Prop) : XE → St → Prop := fun e S => match e with
  | .normal => False
  | .exit id => K (.exit id) S
  | .ret => K .ret S

def evalJump (nb : Nat) (live : List Nat) (j : Jump) (body : St → (XE → St → Prop) → Prop) (S : St) (K : XE → St → Prop) : Prop :=
  canonD nb live S fun h => h = j.a ∧ body (headSt j.b) (lastK K)

def evalCodeJ (env : Env) (C : Tab) (nb : Nat) (live : Nat → List Nat) (jumps : Nat → Option Jump) (fuel : Nat) : Code → St → (XE → St → Prop) → Prop
  | .skip, S, K => K .normal S
  | .region id ops draw, S, K => match draw with
    | true => chk (Region.lexB .any ops) (evalDraw env C id ops.toList ops.toList 0 [] S (K .normal))
    | false => evalOps env C id ops.toList ops.toList 0 S (K .normal)
  | .seq a b, S, K => evalCodeJ env C nb live jumps fuel a S fun e S' => match e with
    | .normal => evalCodeJ env C nb live jumps fuel b S' K
    | .exit id => K (.exit id) S'
    | .ret => K .ret S'
  | .cond c a b, S, K => ob (opVal S.tmps c) fun v => match v with
    | .bool t => br t (evalCodeJ env C nb live jumps fuel a S K) (evalCodeJ env C nb live jumps fuel b S K)
    | _ => False
  | .block id c, S, K => evalCodeJ env C nb live jumps fuel c S fun e S' => match e with
    | .normal => K .normal S'
    | .exit i => match Nat.beq i id with
      | true => K .normal S'
      | false => K (.exit i) S'
    | .ret => K .ret S'
  | .loop c, S, K => match firstRegion c with
    | some r => match jumps r with
      | some j => evalJump nb (live r) j (fun S K => evalCodeJ env C nb live jumps fuel c S K) S K
      | none => evalLoop nb (live r) (fun S K => evalCodeJ env C nb live jumps fuel c S K) fuel S K
    | none => evalLoop nb [] (fun S K => evalCodeJ env C nb live jumps fuel c S K) fuel S K
  | .exit id, S, K => K (.exit id) S
  | .ret, S, K => K .ret S
  | _, _, _ => False

/-- Rounds of a loop, head to head. -/
inductive Steps (nb : Nat) (live : List Nat) (body : St → (XE → St → Prop) → Prop) : Nat → Hd → Hd → Prop where
  | refl (h : Hd) : Steps nb live body 0 h h
  | step {n : Nat} {h h1 h2 : Hd} : body (headSt h) (fun e S => match e with
      | .normal => canonD nb live S fun x => x = h1
      | _ => False) → Steps nb live body n h1 h2 → Steps nb live body (n + 1) h h2

def JumpOk (nb : Nat) (live : List Nat) (body : St → (XE → St → Prop) → Prop) (fuel : Nat) (j : Jump) : Prop := ∃ n, n < fuel ∧ Steps nb live body n j.a j.b

def JumpsOk (env : Env) (C : Tab) (nb : Nat) (live : Nat → List Nat) (jumps : Nat → Option Jump) (fuel : Nat) : Code → Prop
  | .seq a b => JumpsOk env C nb live jumps fuel a ∧ JumpsOk env C nb live jumps fuel b
  | .cond _ a b => JumpsOk env C nb live jumps fuel a ∧ JumpsOk env C nb live jumps fuel b
  | .block _ c => JumpsOk env C nb live jumps fuel c
  | .loop c => JumpsOk env C nb live jumps fuel c ∧ match firstRegion c with
    | some r => match jumps r with
      | some j => JumpOk nb (live r) (fun S K => evalCode env C nb live fuel c S K) fuel j
      | none => True
    | none => True
  | _ => True

section
variable {P : Program} {env : Env} {C : Tab} {nb : Nat}

def MonoB (body : St → (XE → St → Prop) → Prop) : Prop := ∀ S K K', body S K → (∀ e s, K e s → K' e s) → body S K'

theorem mono_evalCode (hC : ∀ f c, C f = some c → CtrOk P env f c) {live : Nat → List Nat} {fuel : Nat} (c : Code) : MonoB (evalCode env C nb live fuel c) := fun S K K' h hK => by
  obtain ⟨o, h1, h2⟩ := det_evalCode (nb := nb) (live := live) (fuel := fuel) hC c S (fun o => K o.e o.s) h
  exact h2 (fun o => K' o.e o.s) (hK _ _ h1)

/-- The loop from its head on. -/
def fromHead (nb : Nat) (live : List Nat) (body : St → (XE → St → Prop) → Prop) (n : Nat) (h : Hd) (K : XE → St → Prop) : Prop :=
  body (headSt h) fun e S' => match e with
    | .normal => evalLoop nb live body n S' K
    | .exit id => K (.exit id) S'
    | .ret => K .ret S'

theorem evalLoop_head {live : List Nat} {body : St → (XE → St → Prop) → Prop} {n : Nat} {S : St} {K : XE → St → Prop} : evalLoop nb live body (n + 1) S K = canonD nb live S fun h => fromHead nb live body n h K := rfl

theorem steps_head {live : List Nat} {body : St → (XE → St → Prop) → Prop} (hm : MonoB body) {K : XE → St → Prop} {m n : Nat} {h h' : Hd} (hs : Steps nb live body n h h') : fromHead nb live body m h' K → fromHead nb live body (m + n) h K := by
  induction hs with
  | refl h => exact id
  | @step n h h1 h2 hb hs ih =>
    intro hl
    refine hm _ _ _ hb fun e s he => ?_
    cases e with
    | normal =>
      show evalLoop nb live body (m + n + 1) s K
      rw [evalLoop_head]
      exact canonD_mono he fun x hx => by subst hx; exact ih hl
    | exit id => exact he.elim
    | ret => exact he.elim

theorem jump_sound {live : List Nat} {body body' : St → (XE → St → Prop) → Prop} (hm : MonoB body) (hb : ∀ S K, body' S K → body S K) {fuel : Nat} {j : Jump} (hj : JumpOk nb live body fuel j) {S : St} {K : XE → St → Prop} (h : evalJump nb live j body' S K) : evalLoop nb live body fuel S K := by
  obtain ⟨n, hn, hs⟩ := hj
  obtain ⟨f, rfl⟩ : ∃ f, fuel = f + n + 1 := ⟨fuel - n - 1, by omega⟩
  rw [evalLoop_head]
  refine canonD_mono h fun x hx => ?_
  obtain ⟨rfl, hx⟩ := hx
  refine steps_head hm hs ?_
  refine hm _ _ _ (hb _ _ hx) fun e s he => ?_
  cases e with
  | normal => exact he.elim
  | exit id => exact he
  | ret => exact he

theorem evalLoop_sound {live : List Nat} {body body' : St → (XE → St → Prop) → Prop} (hm : MonoB body) (hb : ∀ S K, body' S K → body S K) : ∀ {n : Nat} {S : St} {K : XE → St → Prop}, evalLoop nb live body' n S K → evalLoop nb live body n S K
  | 0, S, K, h => h
  | n + 1, S, K, h => by
    rw [evalLoop_head] at h ⊢
    refine canonD_mono h fun x hx => ?_
    refine hm _ _ _ (hb _ _ hx) fun e s he => ?_
    cases e with
    | normal => exact evalLoop_sound hm hb he
    | exit id => exact he
    | ret => exact he

theorem codeJ_sound (hC : ∀ f c, C f = some c → CtrOk P env f c) {live : Nat → List Nat} {jumps : Nat → Option Jump} {fuel : Nat} : ∀ (c : Code), JumpsOk env C nb live jumps fuel c → ∀ S K, evalCodeJ env C nb live jumps fuel c S K → evalCode env C nb live fuel c S K := by
  intro c
  induction c with
  | seq a b iha ihb =>
    intro hj S K h
    refine mono_evalCode hC a _ _ _ (iha hj.1 _ _ h) fun e s he => ?_
    cases e with
    | normal => exact ihb hj.2 _ _ he
    | exit id => exact he
    | ret => exact he
  | cond c a b iha ihb =>
    intro hj S K h
    obtain ⟨v, h1, h⟩ := ob_inv h
    simp only [evalCode, h1, ob]
    cases v <;> try exact h.elim
    rename_i t
    cases t with
    | true => exact iha hj.1 _ _ h
    | false => exact ihb hj.2 _ _ h
  | block id a ih =>
    intro hj S K h
    exact mono_evalCode hC a _ _ _ (ih hj _ _ h) fun e s he => he
  | loop a ih =>
    intro hj S K h
    simp only [evalCodeJ] at h
    simp only [evalCode]
    have hb : ∀ S K, evalCodeJ env C nb live jumps fuel a S K → evalCode env C nb live fuel a S K := ih hj.1
    have hm : MonoB fun S K => evalCode env C nb live fuel a S K := mono_evalCode hC a
    have h2 := hj.2
    cases hr : firstRegion a with
    | none =>
      rw [hr] at h
      exact evalLoop_sound hm hb h
    | some r =>
      rw [hr] at h h2
      simp only at h h2 ⊢
      cases hq : jumps r with
      | none =>
        rw [hq] at h
        exact evalLoop_sound hm hb h
      | some j =>
        rw [hq] at h h2
        exact jump_sound hm hb h2 h
  | skip => intro hj S K h; exact h
  | region id ops draw => intro hj S K h; exact h
  | exit id => intro hj S K h; exact h
  | ret => intro hj S K h; exact h
  | _ => intro hj S K h; exact h.elim

/-- A function's own evaluation, with jumps. -/
def evalFnJ (env : Env) (C : Tab) (live : Nat → List Nat) (jumps : Nat → Option Jump) (fn : Func) (body : Code) (fuel : Nat) (args : List AVal) (bs : List Blk) (K : AVal → List (Nat × Blk) → Prop) : Prop :=
  chk (Nat.ble bs.length 256)
  (evalCodeJ env C bs.length live jumps fuel body ⟨someL args (fn.ntmps - args.length), ofBlks 0 bs, fun _ => false⟩ fun e S => match e with
    | .exit _ => False
    | _ => ob (resVals env S fn.results.toList) fun vs => finish bs.length S.heap (oneOf vs) K)

theorem fnJ_sound (hC : ∀ f c, C f = some c → CtrOk P env f c) {live : Nat → List Nat} {jumps : Nat → Option Jump} {fn : Func} {body : Code} {fuel : Nat} {args : List AVal} {bs : List Blk} {K : AVal → List (Nat × Blk) → Prop}
    (hj : JumpsOk env C bs.length live jumps fuel body) (h : evalFnJ env C live jumps fn body fuel args bs K) : evalFn env C live fn body fuel args bs K := by
  obtain ⟨h1, h⟩ := chk_inv h
  unfold evalFn
  rw [h1]
  exact codeJ_sound hC body hj _ _ h
end
end Go.Abs

namespace Go.Abs
open Go.Proofs

/-- All loops of a code, by their first regions. -/
def loopsOf : Code → List (Nat × Code)
  | .seq a b => loopsOf a ++ loopsOf b
  | .cond _ a b => loopsOf a ++ loopsOf b
  | .block _ a => loopsOf a
  | .loop a => match firstRegion a with
    | some r => (r, a) :: loopsOf a
    | none => loopsOf a
  | _ => []

noncomputable def bodyF (f : Nat) : Code := match fnsOf f with
  | some (_, b) => b
  | none => .skip
def nthC : List (Nat × Code) → Nat → Code
  | [], _ => .skip
  | p :: _, 0 => p.2
  | _ :: ps, n + 1 => nthC ps n
/-- The body of a function's loop. -/
noncomputable def loopN (f i : Nat) : Code := nthC (loopsOf (bodyF f)) i

noncomputable def tabF (l : List (Nat × Ctr)) (n : Nat) : Tab := tabN env (tabL l) fnsOf liveOf 5000 n
/-- One evaluation of a part of a function. -/
noncomputable def evC (l : List (Nat × Ctr)) (f n nb fuel : Nat) (c : Code) (S : St) (K : XE → St → Prop) : Prop := evalCode env (tabF l n) nb (liveOf f) fuel c S K
noncomputable def runJ (l : List (Nat × Ctr)) (jumps : Nat → Option Jump) (f n fuel : Nat) (us : List AVal) (bs : List Blk) (K : AVal → List (Nat × Blk) → Prop) : Prop := match fnsOf f with
  | some (fn, body) => evalFnJ env (tabF l n) (liveOf f) jumps fn body fuel us bs K
  | none => False

/-- A jump that is right for a loop of a function. -/
def LoopOk (l : List (Nat × Ctr)) (f n nb fuel : Nat) (jumps : Nat → Option Jump) (p : Nat × Code) : Prop := match jumps p.1 with
  | some j => JumpOk nb (liveOf f p.1) (evC l f n nb fuel p.2) fuel j
  | none => True
def AllL {α : Type} (Q : α → Prop) : List α → Prop
  | [] => True
  | x :: xs => Q x ∧ AllL Q xs
theorem allL_app {α : Type} {Q : α → Prop} : ∀ {a b : List α}, AllL Q (a ++ b) → AllL Q a ∧ AllL Q b
  | [], b, h => ⟨trivial, h⟩
  | x :: a, b, h => ⟨⟨h.1, (allL_app h.2).1⟩, (allL_app h.2).2⟩

theorem jumps_of {l : List (Nat × Ctr)} {f n nb fuel : Nat} {jumps : Nat → Option Jump} : ∀ (c : Code), AllL (LoopOk l f n nb fuel jumps) (loopsOf c) → JumpsOk env (tabF l n) nb (liveOf f) jumps fuel c := by
  intro c
  induction c with
  | seq a b iha ihb => intro h; exact ⟨iha (allL_app h).1, ihb (allL_app h).2⟩
  | cond c a b iha ihb => intro h; exact ⟨iha (allL_app h).1, ihb (allL_app h).2⟩
  | block id a ih => intro h; exact ih h
  | loop a ih =>
    intro h
    simp only [loopsOf] at h
    simp only [JumpsOk]
    cases hr : firstRegion a with
    | none => rw [hr] at h; exact ⟨ih h, trivial⟩
    | some r =>
      rw [hr] at h
      obtain ⟨h1, h2⟩ := h
      refine ⟨ih h2, ?_⟩
      simp only [LoopOk] at h1
      simp only
      cases hq : jumps r with
      | none => trivial
      | some j => rw [hq] at h1; exact h1
  | _ => intro h; trivial

theorem ctr_of_runJ {l : List (Nat × Ctr)} (hl : AllOk l) {f n : Nat} {c : Ctr} (hd : ∀ us bs, Det fun (K : Out → Prop) => c.run us bs fun v h => K ⟨v, h⟩)
    (h : ∀ {ρ : PMap} {Z : Zone} {us : List AVal} {bs : List Blk} {xs : List Value} {K : AVal → List (Nat × Blk) → Prop}, RepVs env ρ Z us xs → c.run us bs K →
      ∃ jumps fuel, AllL (LoopOk l f n bs.length fuel jumps) (loopsOf (bodyF f)) ∧ runJ l jumps f n fuel us bs K) : CtrOk Tryz.prog env f c := by
  refine ⟨fun {ρ Z w us bs xs K} hh hx hk hb hr => ?_, hd⟩
  obtain ⟨jumps, fuel, hj, hr⟩ := h hx hr
  have hC := tabN_ok env_ok mixed (tabL_ok hl) (live := liveOf) (fuel := 5000) fnsOf_ok n
  unfold runJ at hr
  unfold bodyF at hj
  cases hf : fnsOf f with
  | none => rw [hf] at hr; exact hr.elim
  | some p =>
    obtain ⟨fn, body⟩ := p
    rw [hf] at hr hj
    obtain ⟨h1, h2, h3⟩ := fnsOf_ok f fn body hf
    exact (fn_ctr hC env_ok mixed h1 h2 h3 (live := liveOf f) (fuel := fuel)).run hh hx hk hb (fnJ_sound hC (jumps_of body hj) hr)

attribute [irreducible] runJ evC loopN bodyF

theorem pureN_of_runJ {l : List (Nat × Ctr)} (hl : AllOk l) {f n : Nat} {g : List AVal → Option AVal}
    (h : ∀ {ρ : PMap} {Z : Zone} {us : List AVal} {xs : List Value} {v : AVal}, RepVs env ρ Z us xs → g us = some v → ∃ jumps fuel, AllL (LoopOk l f n 0 fuel jumps) (loopsOf (bodyF f)) ∧ ∀ K, K v [] → runJ l jumps f n fuel us [] K) : CtrOk Tryz.prog env f (pureN g) :=
  ctr_of_runJ hl (fun us bs => pureN_det us bs) fun {ρ Z us bs xs K} hx hr => by
    cases bs with
    | nil =>
      obtain ⟨v, hg, hr⟩ := ob_inv hr
      obtain ⟨j, fu, h1, h2⟩ := h hx hg
      exact ⟨j, fu, h1, h2 K hr⟩
    | cons b bs => exact hr.elim
end Go.Abs

namespace Go.Abs

/-- How it goes on at a part that is shown by hand; with what is known beside the state. -/
abbrev Hk := St → (XE → St → Prop) → Prop
abbrev HkG (γ : Type) := St → γ → (XE → St → γ → Prop) → Prop
structure Hooks (γ : Type) : Type 1 where
  loop : Nat → Option (HkG γ)
  reg : Nat → Option (HkG γ)

def evalLoopS {γ : Type} (nb : Nat) (live : List Nat) (body : HkG γ) : Nat → HkG γ
  | 0, _, _, _ => False
  | n + 1, S, g, K => canon nb live S fun S => body S g fun e S' g' => match e with
    | .normal => evalLoopS nb live body n S' g' K
    | .exit id => K (.exit id) S' g'
    | .ret => K .ret S' g'

def evalCodeS {γ : Type} (env : Env) (C : Tab) (nb : Nat) (live : Nat → List Nat) (hooks : Hooks γ) (fuel : Nat) : Code → HkG γ
  | .skip, S, g, K => K .normal S g
  | .region id ops draw, S, g, K => match hooks.reg id with
    | some hk => hk S g K
    | none => match draw with
      | true => chk (Region.lexB .any ops) (evalDraw env C id ops.toList ops.toList 0 [] S fun S => K .normal S g)
      | false => evalOps env C id ops.toList ops.toList 0 S fun S => K .normal S g
  | .seq a b, S, g, K => evalCodeS env C nb live hooks fuel a S g fun e S' g' => match e with
    | .normal => evalCodeS env C nb live hooks fuel b S' g' K
    | .exit id => K (.exit id) S' g'
    | .ret => K .ret S' g'
  | .cond c a b, S, g, K => ob (opVal S.tmps c) fun v => match v with
    | .bool t => br t (evalCodeS env C nb live hooks fuel a S g K) (evalCodeS env C nb live hooks fuel b S g K)
    | _ => False
  | .block id c, S, g, K => evalCodeS env C nb live hooks fuel c S g fun e S' g' => match e with
    | .normal => K .normal S' g'
    | .exit i => match Nat.beq i id with
      | true => K .normal S' g'
      | false => K (.exit i) S' g'
    | .ret => K .ret S' g'
  | .loop c, S, g, K => match firstRegion c with
    | some r => match hooks.loop r with
      | some hk => hk S g K
      | none => evalLoopS nb (live r) (fun S g K => evalCodeS env C nb live hooks fuel c S g K) fuel S g K
    | none => evalLoopS nb [] (fun S g K => evalCodeS env C nb live hooks fuel c S g K) fuel S g K
  | .exit id, S, g, K => K (.exit id) S g
  | .ret, S, g, K => K .ret S g
  | _, _, _, _ => False

section
variable {P : Program} {env : Env} {C : Tab} {ρ ρ0 : PMap} {Z0 Z : Zone} {nb : Nat} {H H0 : Heap} {a : Act} {w w0 : World} {S : St}

theorem Sync.rebase (hs : Sync env Z0 Z ρ0 H0 w0 nb S ρ a w) : Sync env Z Z ρ S.heap w nb S ρ a w :=
  ⟨hs.pre, Keeps.refl _ _, fun k b hb i h1 h2 => .inr ⟨k, b, hb, rfl, h1, h2⟩, fun _ _ => rfl, hs.nb, hs.defers, Grow.refl _ _ _⟩

theorem Sync.from (h1 : Sync env Z0 Z ρ0 H0 w0 nb S ρ a w) {S' : St} {Z' : Zone} {ρ' : PMap} {a' : Act} {w' : World} (h2 : Sync env Z Z' ρ S.heap w nb S' ρ' a' w') : Sync env Z0 Z' ρ0 H0 w0 nb S' ρ' a' w' := by
  have hin : ∀ b i, inReg ρ S.heap b i → w0.heap.size ≤ b ∨ inReg ρ0 H0 b i := fun b i ⟨k, B, g1, g2, g3, g4⟩ => by
    subst g2; exact h1.reg k B g1 i g3 g4
  refine ⟨h2.pre, h1.keep.then h2.keep fun x i hx hr => ?_, fun k b hb i g1 g2 => ?_, fun k hk => (h2.old k hk).trans (h1.old k hk), h1.nb, h2.defers, h1.grow.trans h2.grow fun b o hr => ?_⟩
  · rcases hin x i hr with h | h
    · omega
    · exact h
  · rcases h2.reg k b hb i g1 g2 with h | h
    · exact .inl (Nat.le_trans h1.keep.size h)
    · exact hin _ _ h
  · rcases hr with h | h
    · exact .inl (Nat.le_trans h1.keep.size h)
    · exact hin _ _ h


/-- What is known beside a state: as long as the evaluator goes on, it stays. -/
abbrev Side (γ : Type) := γ → Zone → PMap → Heap → World → Prop
def SideOk {γ : Type} (env : Env) (nb : Nat) (J : Side γ) : Prop := ∀ {g : γ} {Z Z' : Zone} {ρ ρ' : PMap} {H : Heap} {S' : St} {a' : Act} {w w' : World}, J g Z ρ H w → Sync env Z Z' ρ H w nb S' ρ' a' w' → J g Z' ρ' S'.heap w'

/-- A code and what stands for it. -/
def SoundG {γ : Type} (P : Program) (env : Env) (Z0 : Zone) (ρ0 : PMap) (H0 : Heap) (w0 : World) (nb : Nat) (J : Side γ) (c : Code) (ev : HkG γ) : Prop :=
  ∀ {S : St} {g : γ} {Z : Zone} {ρ : PMap} {a : Act} {w : World} {KK : XE → St → γ → Prop} {Q : Exit → Act → World → Prop},
    (∀ e S g Z ρ a w, KK e S g → Sync env Z0 Z ρ0 H0 w0 nb S ρ a w → J g Z ρ S.heap w → Q e.to a w) → Sync env Z0 Z ρ0 H0 w0 nb S ρ a w → J g Z ρ S.heap w → ev S g KK → c.wp P Q a w
def SoundAt (P : Program) (env : Env) (Z0 : Zone) (ρ0 : PMap) (H0 : Heap) (w0 : World) (nb : Nat) (c : Code) (ev : Hk) : Prop :=
  ∀ {S : St} {Z : Zone} {ρ : PMap} {a : Act} {w : World} {KK : XE → St → Prop} {Q : Exit → Act → World → Prop},
    (∀ e S Z ρ a w, KK e S → Sync env Z0 Z ρ0 H0 w0 nb S ρ a w → Q e.to a w) → Sync env Z0 Z ρ0 H0 w0 nb S ρ a w → ev S KK → c.wp P Q a w

def HooksOk {γ : Type} (P : Program) (env : Env) (Z0 : Zone) (ρ0 : PMap) (H0 : Heap) (w0 : World) (nb : Nat) (J : Side γ) (hooks : Hooks γ) : Code → Prop
  | .seq a b => HooksOk P env Z0 ρ0 H0 w0 nb J hooks a ∧ HooksOk P env Z0 ρ0 H0 w0 nb J hooks b
  | .cond _ a b => HooksOk P env Z0 ρ0 H0 w0 nb J hooks a ∧ HooksOk P env Z0 ρ0 H0 w0 nb J hooks b
  | .block _ c => HooksOk P env Z0 ρ0 H0 w0 nb J hooks c
  | .loop c => match firstRegion c with
    | some r => match hooks.loop r with
      | some hk => SoundG P env Z0 ρ0 H0 w0 nb J (.loop c) hk
      | none => HooksOk P env Z0 ρ0 H0 w0 nb J hooks c
    | none => HooksOk P env Z0 ρ0 H0 w0 nb J hooks c
  | .region id ops draw => match hooks.reg id with
    | some hk => SoundG P env Z0 ρ0 H0 w0 nb J (.region id ops draw) hk
    | none => True
  | _ => True

theorem codeG_sound {γ : Type} {J : Side γ} (hJ : SideOk env nb J) (hC : ∀ f c, C f = some c → CtrOk P env f c) (he : EnvOk P env) (hm : P.follows .mixedOrders = true) {live : Nat → List Nat} {hooks : Hooks γ} {fuel : Nat} : ∀ (c : Code), HooksOk P env Z0 ρ0 H0 w0 nb J hooks c →
    SoundG P env Z0 ρ0 H0 w0 nb J c (evalCodeS env C nb live hooks fuel c) := by
  intro c
  have loop : ∀ (c : Code) (lv : List Nat) {S : St} {g : γ} {Z : Zone} {ρ : PMap} {a : Act} {w : World} {KK : XE → St → γ → Prop} {Q : Exit → Act → World → Prop},
      SoundG P env Z0 ρ0 H0 w0 nb J c (evalCodeS env C nb live hooks fuel c) → (∀ e S g Z ρ a w, KK e S g → Sync env Z0 Z ρ0 H0 w0 nb S ρ a w → J g Z ρ S.heap w → Q e.to a w) → Sync env Z0 Z ρ0 H0 w0 nb S ρ a w → J g Z ρ S.heap w →
      evalLoopS nb lv (fun S g K => evalCodeS env C nb live hooks fuel c S g K) fuel S g KK → (Code.loop c).wp P Q a w := by
    intro c lv S g Z ρ a w KK Q ih hQ hs hj h
    refine wp_loop_n (fun n a w => ∃ S g Z ρ, Sync env Z0 Z ρ0 H0 w0 nb S ρ a w ∧ J g Z ρ S.heap w ∧ evalLoopS nb lv (fun S g K => evalCodeS env C nb live hooks fuel c S g K) n S g KK) (fun a w ⟨_, _, _, _, _, _, h⟩ => h) (fun n a w ⟨S, g, Z, ρ, hs, hj, h⟩ => ?_) fuel ⟨S, g, Z, ρ, hs, hj, h⟩
    obtain ⟨S', ρ', hK, hs'⟩ := canon_sound hs.rebase h
    refine ih (fun e S g Z ρ a w hK hs hj => ?_) (hs.from hs') (hJ hj hs') hK
    cases e with
    | normal => exact ⟨S, g, Z, ρ, hs, hj, hK⟩
    | exit id => exact hQ (.exit id) S g Z ρ a w hK hs hj
    | ret => exact hQ .ret S g Z ρ a w hK hs hj
  induction c with
  | skip => intro _ S g Z ρ a w KK Q hQ hs hj h; exact wp_skip (hQ .normal S g Z ρ a w h hs hj)
  | region id ops draw =>
    intro hk S g Z ρ a w KK Q hQ hs hj h
    simp only [evalCodeS] at h
    simp only [HooksOk] at hk
    cases hr : hooks.reg id with
    | some f =>
      rw [hr] at h hk
      exact hk hQ hs hj h
    | none =>
      rw [hr] at h
      cases draw with
      | true =>
        obtain ⟨hB, h⟩ := chk_inv h
        exact draw_sound hC he hm (fun S' Z' ρ' a' w' hK hs' => hQ .normal S' g Z' ρ' a' w' hK (hs.from hs') (hJ hj hs')) hB hs.rebase h
      | false => exact region_sound hC he (fun S' Z' ρ' a' w' hK hs' => hQ .normal S' g Z' ρ' a' w' hK (hs.from hs') (hJ hj hs')) hs.rebase h
  | seq x y ihx ihy =>
    intro hk S g Z ρ a w KK Q hQ hs hj h
    refine wp_seq (ihx hk.1 (fun e S g Z ρ a w hK hs hj => ?_) hs hj h)
    cases e with
    | normal => exact ihy hk.2 hQ hs hj hK
    | exit id => exact hQ (.exit id) S g Z ρ a w hK hs hj
    | ret => exact hQ .ret S g Z ρ a w hK hs hj
  | cond c x y ihx ihy =>
    intro hk S g Z ρ a w KK Q hQ hs hj h
    obtain ⟨v, hv, h⟩ := ob_inv h
    obtain ⟨g1, _⟩ := hs.pre.opVal hv
    cases v <;> try exact h.elim
    rename_i t
    rw [repV_bool] at g1
    rcases br_inv h with ⟨rfl, h⟩ | ⟨rfl, h⟩
    · exact wp_cond_true g1 (ihx hk.1 hQ hs hj h)
    · exact wp_cond_false g1 (ihy hk.2 hQ hs hj h)
  | block id c ih =>
    intro hk S g Z ρ a w KK Q hQ hs hj h
    refine wp_block (ih hk (fun e S g Z ρ a w hK hs hj => ?_) hs hj h)
    cases e with
    | normal => exact hQ .normal S g Z ρ a w hK hs hj
    | exit i =>
      simp only at hK
      simp only [XE.to, Exit.inBlock]
      cases hb : Nat.beq i id with
      | true => rw [hb] at hK; rw [if_pos (beq_eq hb)]; exact hQ .normal S g Z ρ a w hK hs hj
      | false => rw [hb] at hK; rw [if_neg (Nat.ne_of_beq_eq_false hb)]; exact hQ (.exit i) S g Z ρ a w hK hs hj
    | ret => exact hQ .ret S g Z ρ a w hK hs hj
  | loop c ih =>
    intro hk S g Z ρ a w KK Q hQ hs hj h
    simp only [evalCodeS] at h
    simp only [HooksOk] at hk
    cases hr : firstRegion c with
    | none =>
      rw [hr] at h hk
      exact loop c _ (ih hk) hQ hs hj h
    | some r =>
      rw [hr] at h hk
      simp only at h hk
      cases hq : hooks.loop r with
      | none =>
        rw [hq] at h hk
        exact loop c _ (ih hk) hQ hs hj h
      | some f =>
        rw [hq] at h hk
        exact hk hQ hs hj h
  | exit id => intro _ S g Z ρ a w KK Q hQ hs hj h; exact wp_exit (hQ (.exit id) S g Z ρ a w h hs hj)
  | ret => intro _ S g Z ρ a w KK Q hQ hs hj h; exact wp_ret (hQ .ret S g Z ρ a w h hs hj)
  | _ => intro _ S g Z ρ a w KK Q hQ hs hj h; exact h.elim

/-- With nothing known beside it at the beginning. -/
theorem SoundG.at {γ : Type} {J : Side γ} {c : Code} {ev : HkG γ} (h : SoundG P env Z0 ρ0 H0 w0 nb J c ev) {g0 : γ} (h0 : ∀ Z ρ H w, J g0 Z ρ H w) : SoundAt P env Z0 ρ0 H0 w0 nb c fun S K => ev S g0 fun e S _ => K e S :=
  fun hQ hs hev => h (fun e S g Z ρ a w hK hs _ => hQ e S Z ρ a w hK hs) hs (h0 _ _ _ _) hev

/-- A function's own run, with loops shown by hand. -/
def evalFnH (ev : Nat → Hk) (fn : Func) (env : Env) (args : List AVal) (bs : List Blk) (K : AVal → List (Nat × Blk) → Prop) : Prop :=
  chk (Nat.ble bs.length 256)
  (ev bs.length ⟨someL args (fn.ntmps - args.length), ofBlks 0 bs, fun _ => false⟩ fun e S => match e with
    | .exit _ => False
    | _ => ob (resVals env S fn.results.toList) fun vs => finish bs.length S.heap (oneOf vs) K)

theorem fnH_run (he : EnvOk P env) {f : Nat} {fn : Func} {body : Code} {ev : Nat → Hk} (hf : P.funcs[f]? = some fn) (hb : fn.body = some body)
    (hc : ∀ args w, (callFunc f args).run P w = .ok (.enter f args) w) {ρ : PMap} {Z : Zone} {w : World} {us : List AVal} {bs : List Blk} {xs : Array Value} {K : AVal → List (Nat × Blk) → Prop}
    (hev : SoundAt P env Z ρ (ofBlks 0 bs) w bs.length body (ev bs.length)) (hh : HeapOk env ρ Z w (ofBlks 0 bs)) (hx : RepVs env ρ Z us xs.toList) (hk : ∀ k, k ∈ keysL us → k < bs.length)
    (hkH : ∀ i b, ofBlks 0 bs i = some b → ∀ k, k ∈ b.c.keys → k < bs.length) (h : evalFnH ev fn env us bs K) :
    CallPost P (fun x w' => ∃ v h2 Z' ρ', K v h2 ∧ Grow (inReg ρ (ofBlks 0 bs)) w Z Z' ∧ ResOk env ρ ρ' Z' bs.length w (ofBlks 0 bs) v h2 x w') ((callFunc f xs).run P w) := by
  rw [hc]
  show Calls P f xs w _
  obtain ⟨hn, h⟩ := chk_inv h
  have hn := Nat.le_of_ble_eq_true hn
  refine calls_of_wp hf hb ?_
  have hl := hx.length
  have hs : Sync env Z Z ρ (ofBlks 0 bs) w bs.length ⟨someL us (fn.ntmps - us.length), ofBlks 0 bs, fun _ => false⟩ ρ { tmps := xs ++ Array.replicate (fn.ntmps - xs.size) undef, defers := [] } w := by
    refine ⟨⟨?_, fun t v ht => ?_, hh, fun k b hb => ?_⟩, Keeps.refl _ _, fun k b hb i h1 h2 => .inr ⟨k, b, hb, rfl, h1, h2⟩, fun _ _ => rfl, hn, rfl, Grow.refl _ _ _⟩
    · rw [length_someL]
      simp at hl ⊢
      omega
    · obtain ⟨y, g1, g2, g3⟩ := getL_someL hx ht
      have hy : (xs ++ Array.replicate (fn.ntmps - xs.size) undef).getD t undef = y := by
        have hlt : t < xs.size := by
          have := (List.getElem?_eq_some_iff.1 g1).1
          simpa using this
        have g1' : xs[t]? = some y := by simpa using g1
        rw [Array.getD_eq_getD_getElem?, Array.getElem?_append_left hlt, g1']
        rfl
      exact ⟨by rw [hy]; exact g2, fun k hm => .inl (by have := hk k (g3 k hm); omega)⟩
    · have hlt : k < bs.length := by
        have := (ofBlks_spec.1 hb).2
        have := (List.getElem?_eq_some_iff.1 this).1
        omega
      exact ⟨.inl (by omega), fun k' hk' => .inl (by have := hkH k b hb k' hk'; omega)⟩
  have done : ∀ S Z' ρ' a w', ob (resVals env S fn.results.toList) (fun vs => finish bs.length S.heap (oneOf vs) K) → Sync env Z Z' ρ (ofBlks 0 bs) w bs.length S ρ' a w' →
      a.defers = [] ∧ ∃ v, (results fn a.tmps).run P w' = .ok v w' ∧ ∃ x, Ending.returned v = .returned x ∧ ∃ v' h2 Z'' ρ'', K v' h2 ∧ Grow (inReg ρ (ofBlks 0 bs)) w Z Z'' ∧ ResOk env ρ ρ'' Z'' bs.length w (ofBlks 0 bs) v' h2 x w' := by
    intro S Z' ρ' a w' hr hs
    obtain ⟨vs, hvs, hr⟩ := ob_inv hr
    obtain ⟨y, h1, h2, h3⟩ := results_sound he hs hvs
    refine ⟨hs.defers, y, h1, y, rfl, ?_⟩
    unfold finish at hr
    simp only at hr
    obtain ⟨l, hl⟩ := reach_prefix (h := S.heap) (n := 512) (ks := keysAt S.heap (upTo 0 bs.length) ++ (oneOf vs).keys) (seen := upTo 0 bs.length)
    generalize hks : reach S.heap 512 (keysAt S.heap (upTo 0 bs.length) ++ (oneOf vs).keys) (upTo 0 bs.length) = ks at hr hl
    clear hks
    obtain ⟨k1, hr⟩ := chk_inv hr
    obtain ⟨k2, hr⟩ := chk_inv hr
    obtain ⟨k3, hr⟩ := chk_inv hr
    have hnd := nodupN_iff.1 k1
    have hsub := subN_iff.1 k2
    have hsubH := subN_iff.1 k3
    refine ⟨_, _, Z', fun i => ρ' (nthN ks i), hr, hs.grow, ?_, hs.pre.heap.renum hnd hsubH, fun k hk => ?_, hs.keep, fun i B hB => reg_renum hs.reg hB⟩
    · exact h2.rename fun k hm => by
        show ρ' (nthN ks (idxN k ks)) = ρ' k
        rw [(nth_idx (hsub k hm)).1]
    · show ρ' (nthN ks k) = ρ k
      rw [hl, nthN_append (by simpa [upTo_range] using hk), nthN_upTo hk, Nat.zero_add]
      exact hs.old k hk
  refine hev (fun e S Z' ρ' a w' hr hs => ?_) hs h
  cases e with
  | normal => exact done S Z' ρ' a w' hr hs
  | exit id => exact hr.elim
  | ret => exact done S Z' ρ' a w' hr hs
end
end Go.Abs
