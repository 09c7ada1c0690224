/- Contracts that look at values alone; the bare functions of the library. Tables of contracts; a function's own run; the 128-bit product. Contracts of functions whose loops are not unrolled. -/
import Derived.Test.YtadiphoihflmiaaGreatDoorZm
import Derived.Shelf.Spec.BitsCarry
import Derived.Lib.Mul64
import Derived.Test.YtadiphoihflmiaaGreatDoorZj
set_option linter.all false
set_option maxRecDepth 1000000
namespace Go.Abs
open Go.Proofs

/-! ### blocks as they were -/
def enumB : Nat → List Blk → List (Nat × Blk)
  | _, [] => []
  | i, b :: bs => (i, b) :: enumB (i + 1) bs

theorem lookL_enum : ∀ (bs : List Blk) (i : Nat), lookL (enumB i bs) = ofBlks i bs
  | [], i => by funext j; simp [enumB, lookL, ofBlks]
  | b :: bs, i => by
    funext j
    simp only [enumB, lookL, ofBlks, lookL_enum bs (i + 1)]

/-- A contract that looks at values alone, and leaves all blocks as they are. -/
def pureC (g : List AVal → Option AVal) : Ctr := ⟨fun us bs K => ob (g us) fun v => K v (enumB 0 bs)⟩

theorem pure_det {g : List AVal → Option AVal} (us : List AVal) (bs : List Blk) : Det fun (K : Out → Prop) => (pureC g).run us bs fun v h => K ⟨v, h⟩ :=
  det_ob fun v => det_pure (⟨v, enumB 0 bs⟩ : Out)

section
variable {P : Program} {env : Env}

theorem same_res {ρ : PMap} {Z : Zone} {w : World} {bs : List Blk} {v : AVal} {x : Value} (hh : HeapOk env ρ Z w (ofBlks 0 bs)) (hv : RepV env ρ Z v x) : ResOk env ρ ρ Z bs.length w (ofBlks 0 bs) v (enumB 0 bs) x w := by
  refine ⟨hv, by rw [lookL_enum]; exact hh, fun _ _ => rfl, Keeps.refl _ _, fun k b hb i h1 h2 => .inr ⟨k, b, ?_, rfl, h1, h2⟩⟩
  rw [lookL_enum] at hb; exact hb

/-- A bare function of the library. -/
theorem bare_ok {f : Nat} {g : List AVal → Option AVal} (h : ∀ {ρ : PMap} {Z : Zone} {w : World} {us : List AVal} {xs : Array Value} {v : AVal}, RepVs env ρ Z us xs.toList → g us = some v → ∃ x, (callFunc f xs).run P w = .ok (.value x) w ∧ RepV env ρ Z v x) : CtrOk P env f (pureC g) := by
  refine ⟨fun {ρ Z w us bs xs K} hh hx _ _ hr => ?_, fun us bs => pure_det us bs⟩
  obtain ⟨v, hg, hr⟩ := ob_inv hr
  obtain ⟨x, h1, h2⟩ := h hx hg
  rw [h1]
  exact ⟨v, _, ρ, hr, same_res hh h2⟩

/-- A contract that is as good as another, where it holds. -/
theorem CtrOk.of {f : Nat} {c c' : Ctr} (h : CtrOk P env f c) (hd : ∀ us bs, Det fun (K : Out → Prop) => c'.run us bs fun v h => K ⟨v, h⟩)
    (hi : ∀ {ρ : PMap} {Z : Zone} {w : World} {us : List AVal} {bs : List Blk} {xs : Array Value} {K : AVal → List (Nat × Blk) → Prop}, HeapOk env ρ Z w (ofBlks 0 bs) → RepVs env ρ Z us xs.toList → c'.run us bs K → c.run us bs K) : CtrOk P env f c' :=
  ⟨fun hh hx hk hb hr => h.run hh hx hk hb (hi hh hx hr), hd⟩
end

/-! ### sums with carry -/
def adcS (x y c : UInt64) : UInt64 := UInt64.ofNat (x.toNat + y.toNat + c.toNat)
def adcC (x y c : UInt64) : UInt64 := UInt64.ofNat ((x.toNat + y.toNat + c.toNat) / 18446744073709551616)
def sbbD (x y b : UInt64) : UInt64 := UInt64.ofNat (x.toNat + 18446744073709551616 - y.toNat - b.toNat)
def sbbB (x y b : UInt64) : UInt64 := UInt64.ofNat (if x.toNat < y.toNat + b.toNat then 1 else 0)
def mulH (x y : UInt64) : UInt64 := UInt64.ofNat (x.toNat * y.toNat / 18446744073709551616)
def mulL (x y : UInt64) : UInt64 := UInt64.ofNat (x.toNat * y.toNat)

def addG : List AVal → Option AVal
  | [.int .u64 x, .int .u64 y, .int .u64 c] => match Nat.ble (UInt64.toNat c) 1 with
    | true => some (.tup [.int .u64 (adcS x y c), .int .u64 (adcC x y c)])
    | false => none
  | _ => none
def subG : List AVal → Option AVal
  | [.int .u64 x, .int .u64 y, .int .u64 c] => match Nat.ble (UInt64.toNat c) 1 with
    | true => some (.tup [.int .u64 (sbbD x y c), .int .u64 (sbbB x y c)])
    | false => none
  | _ => none
def mulG : List AVal → Option AVal
  | [.int .u64 x, .int .u64 y] => some (.tup [.int .u64 (mulH x y), .int .u64 (mulL x y)])
  | _ => none

/-! ### the library's bare functions, run -/
noncomputable def fnAt (f : Nat) (h : (Tryz.prog.funcs[f]?).isSome = true) : Func := (Tryz.prog.funcs[f]?).get h
theorem fnAt_eq {f : Nat} (h : (Tryz.prog.funcs[f]?).isSome = true) : Tryz.prog.funcs[f]? = some (fnAt f h) := (Option.some_get h).symm

theorem call_add (x y c : Nat) (hc : c ≤ 1) (w : World) :
    (callFunc 239 #[.int .u64 x, .int .u64 y, .int .u64 c]).run Tryz.prog w = .ok (.value (.tuple #[.int .u64 (((x + y + c) % 18446744073709551616 : Nat) : Int), .int .u64 (((x + y + c) / 18446744073709551616 : Nat) : Int)])) w := by
  rw [run_callFunc_extern (fnAt_eq (f := 239) (by kernel_rfl)) (by kernel_rfl) (by kernel_rfl) (by kernel_rfl) (e := add64Entry) (by kernel_rfl), run_add64 x y c (by omega) (by omega) (by omega) (by omega)]
  simp only [Result.andThen]
  congr 5 <;> omega

theorem call_sub (x y b : Nat) (hb : b ≤ 1) (w : World) :
    (callFunc 188 #[.int .u64 x, .int .u64 y, .int .u64 b]).run Tryz.prog w = .ok (.value (.tuple #[.int .u64 (((x + 18446744073709551616 - y - b) % 18446744073709551616 : Nat) : Int), .int .u64 ((if x < y + b then 1 else 0 : Nat) : Int)])) w := by
  rw [run_callFunc_extern (fnAt_eq (f := 188) (by kernel_rfl)) (by kernel_rfl) (by kernel_rfl) (by kernel_rfl) (e := sub64Entry) (by kernel_rfl), run_sub64 x y b hb]
  rfl

theorem call_typeOf (x : Value) (w : World) : (callFunc 60 #[.iface 455 x]).run Tryz.prog w = .ok (.value (.iface 211 (.agg #[.pointer (some ⟨18, 455, none⟩)]))) w := by kernel_rfl
theorem call_typeOf94 (x : Value) (w : World) : (callFunc 60 #[.iface 94 x]).run Tryz.prog w = .ok (.value (.iface 211 (.agg #[.pointer (some ⟨18, 94, none⟩)]))) w := by kernel_rfl
theorem call_typeOfNil (w : World) : (callFunc 60 #[.nilIface]).run Tryz.prog w = .ok (.value .nilIface) w := by kernel_rfl
theorem call_cmp (w : World) : (callFunc 292 #[.agg #[.pointer (some ⟨18, 455, none⟩)]]).run Tryz.prog w = .ok (.value (.bool true)) w := by kernel_rfl
theorem call_cmp94 (w : World) : (callFunc 292 #[.agg #[.pointer (some ⟨18, 94, none⟩)]]).run Tryz.prog w = .ok (.value (.bool true)) w := by kernel_rfl

theorem rep_int {env : Env} {ρ : PMap} {Z : Zone} {k : IntKind} {x : TT k} {v : Value} (h : RepV env ρ Z (.int k x) v) : v = .int k (toI k x) := by
  simpa [RepV, AVal.isAgg, RepC] using h
theorem rep_int_of {env : Env} {ρ : PMap} {Z : Zone} {k : IntKind} {x : TT k} {n : Int} (h : toI k x = n) : RepV env ρ Z (.int k x) (.int k n) := by
  simp [RepV, AVal.isAgg, RepC, h]
theorem rep_tup2 {env : Env} {ρ : PMap} {Z : Zone} {a b : AVal} {x y : Value} (h1 : RepV env ρ Z a x) (h2 : RepV env ρ Z b y) : RepV env ρ Z (.tup [a, b]) (.tuple #[x, y]) :=
  repV_tupOf (vs := [a, b]) (ys := [x, y]) ⟨_, _, rfl, h1, _, _, rfl, h2, rfl⟩

theorem u64_of {n : Nat} {m : Int} (h : ((n % 18446744073709551616 : Nat) : Int) = m) : toI .u64 (UInt64.ofNat n) = m := by
  rw [← h]; simp [toI]

theorem add_ok : CtrOk Tryz.prog env 239 (pureC addG) := bare_ok fun {ρ Z w us xs v} hx hg => by
  unfold addG at hg
  split at hg <;> try (cases hg)
  rename_i x y c
  split at hg <;> cases hg
  rename_i hc
  have hc := Nat.le_of_ble_eq_true hc
  obtain ⟨x', xs1, e1, h1, y', xs2, rfl, h2, c', xs3, rfl, h3, h4⟩ := hx
  simp only [RepVs] at h4; subst h4
  have := rep_int h1; subst this
  have := rep_int h2; subst this
  have := rep_int h3; subst this
  have e : xs = #[.int .u64 (UInt64.toNat x), .int .u64 (UInt64.toNat y), .int .u64 (UInt64.toNat c)] := by
    apply Array.ext'; rw [e1]; rfl
  rw [e, call_add _ _ _ hc]
  refine ⟨_, rfl, rep_tup2 (rep_int_of (u64_of rfl)) (rep_int_of (u64_of ?_))⟩
  have a := UInt64.toNat_lt x
  have b := UInt64.toNat_lt y
  have : (x.toNat + y.toNat + c.toNat) / 18446744073709551616 < 18446744073709551616 := by omega
  rw [Nat.mod_eq_of_lt this]

theorem sub_ok : CtrOk Tryz.prog env 188 (pureC subG) := bare_ok fun {ρ Z w us xs v} hx hg => by
  unfold subG at hg
  split at hg <;> try (cases hg)
  rename_i x y c
  split at hg <;> cases hg
  rename_i hc
  have hc := Nat.le_of_ble_eq_true hc
  obtain ⟨x', xs1, e1, h1, y', xs2, rfl, h2, c', xs3, rfl, h3, h4⟩ := hx
  simp only [RepVs] at h4; subst h4
  have := rep_int h1; subst this
  have := rep_int h2; subst this
  have := rep_int h3; subst this
  have e : xs = #[.int .u64 (UInt64.toNat x), .int .u64 (UInt64.toNat y), .int .u64 (UInt64.toNat c)] := by
    apply Array.ext'; rw [e1]; rfl
  rw [e, call_sub _ _ _ hc]
  refine ⟨_, rfl, rep_tup2 (rep_int_of (u64_of rfl)) (rep_int_of (u64_of ?_))⟩
  congr 1
  apply Nat.mod_eq_of_lt
  split <;> omega

def typeOfG : List AVal → Option AVal
  | [.iface t _] => match Nat.beq t 455 with
    | true => some (.iface 211 (.pair (.th 455) .unit))
    | false => match Nat.beq t 94 with
      | true => some (.iface 211 (.pair (.th 94) .unit))
      | false => none
  | [.nilIface] => some .nilIface
  | _ => none
def cmpG : List AVal → Option AVal
  | [.pair (.th t) .unit] => match Nat.beq t 455 with
    | true => some (.bool true)
    | false => match Nat.beq t 94 with
      | true => some (.bool true)
      | false => none
  | _ => none

theorem rep_type {ρ : PMap} {Z : Zone} (t : Nat) : RepV env ρ Z (.iface 211 (.pair (.th t) .unit)) (.iface 211 (.agg #[.pointer (some ⟨18, t, none⟩)])) := by
  refine ⟨_, rfl, ?_⟩
  exact ⟨#[.pointer (some ⟨18, t, none⟩)], rfl, [.pointer (some ⟨18, t, none⟩)], [], rfl, rfl, rfl⟩

theorem typeOf_ok : CtrOk Tryz.prog env 60 (pureC typeOfG) := bare_ok fun {ρ Z w us xs v} hx hg => by
  unfold typeOfG at hg
  split at hg
  · rename_i t u
    obtain ⟨x', xs1, e1, h1, h4⟩ := hx
    simp only [RepVs] at h4; subst h4
    obtain ⟨x, h1, _⟩ := h1
    simp at h1; subst h1
    have e : xs = #[.iface t x] := by apply Array.ext'; rw [e1]
    subst e
    split at hg
    · rename_i ht; have := beq_eq ht; subst this; cases hg
      exact ⟨_, call_typeOf x w, rep_type 455⟩
    · split at hg
      · rename_i ht; have := beq_eq ht; subst this; cases hg
        exact ⟨_, call_typeOf94 x w, rep_type 94⟩
      · cases hg
  · cases hg
    obtain ⟨x', xs1, e1, h1, h4⟩ := hx
    simp only [RepVs] at h4; subst h4
    have h1 : x' = .nilIface := by simpa [RepV, AVal.isAgg, RepC] using h1
    subst h1
    have e : xs = #[.nilIface] := by apply Array.ext'; rw [e1]
    subst e
    exact ⟨_, call_typeOfNil w, by simp [RepV, AVal.isAgg, RepC]⟩
  · cases hg

theorem cmp_ok : CtrOk Tryz.prog env 292 (pureC cmpG) := bare_ok fun {ρ Z w us xs v} hx hg => by
  unfold cmpG at hg
  split at hg
  · rename_i t
    obtain ⟨x', xs1, e1, h1, h4⟩ := hx
    simp only [RepVs] at h4; subst h4
    obtain ⟨ar, rfl, c1, c2, h2, h3, h4⟩ := h1
    simp only [RepC] at h3 h4
    subst h3 h4
    have e : xs = #[.agg #[.pointer (some ⟨18, t, none⟩)]] := by
      apply Array.ext'; rw [e1]
      have : ar = #[.pointer (some ⟨18, t, none⟩)] := by apply Array.ext'; rw [h2]; rfl
      rw [this]
    subst e
    split at hg
    · rename_i ht; have := beq_eq ht; subst this; cases hg
      exact ⟨_, call_cmp w, by simp [RepV, AVal.isAgg, RepC]⟩
    · split at hg
      · rename_i ht; have := beq_eq ht; subst this; cases hg
        exact ⟨_, call_cmp94 w, by simp [RepV, AVal.isAgg, RepC]⟩
      · cases hg
  · cases hg
end Go.Abs

namespace Go.Abs
open Go.Proofs

/-! ### tables -/
def tabL : List (Nat × Ctr) → Tab
  | [], _ => none
  | (g, c) :: l, f => match Nat.beq f g with
    | true => some c
    | false => tabL l f

/-- All entries of a table hold. -/
def AllOk : List (Nat × Ctr) → Prop
  | [] => True
  | (f, c) :: l => CtrOk Tryz.prog env f c ∧ AllOk l

theorem tabL_ok : ∀ {l : List (Nat × Ctr)}, AllOk l → ∀ f c, tabL l f = some c → CtrOk Tryz.prog env f c
  | [], _, f, c, h => by cases h
  | (g, d) :: l, hl, f, c, h => by
    simp only [tabL] at h
    cases hq : Nat.beq f g with
    | true => rw [hq] at h; cases h; rw [beq_eq hq]; exact hl.1
    | false => rw [hq] at h; exact tabL_ok hl.2 f c h

/-- A function's own run, its calls n deep by their own runs, or by the table. -/
noncomputable def run (l : List (Nat × Ctr)) (f n : Nat) (us : List AVal) (bs : List Blk) (K : AVal → List (Nat × Blk) → Prop) : Prop := match fnsOf f with
  | some (fn, body) => evalFn env (tabN env (tabL l) fnsOf liveOf 5000 n) (liveOf f) fn body 5000 us bs K
  | none => False

theorem run_ok {l : List (Nat × Ctr)} (hl : AllOk l) (f n : Nat) : CtrOk Tryz.prog env f ⟨run l f n⟩ := by
  cases hf : fnsOf f with
  | none =>
    have e : run l f n = fun _ _ _ => False := by funext us bs K; simp [run, hf]
    rw [e]
    exact ⟨fun _ _ _ _ h => h.elim, fun _ _ => det_false⟩
  | some p =>
    obtain ⟨fn, body⟩ := p
    have e : run l f n = evalFn env (tabN env (tabL l) fnsOf liveOf 5000 n) (liveOf f) fn body 5000 := by funext us bs K; simp [run, hf]
    rw [e]
    obtain ⟨h1, h2, h3⟩ := fnsOf_ok f fn body hf
    exact fn_ctr (tabN_ok env_ok mixed (tabL_ok hl) fnsOf_ok n) env_ok mixed h1 h2 h3

attribute [irreducible] run

/-- A contract by values, out of a run. -/
theorem pure_of_run {l : List (Nat × Ctr)} (hl : AllOk l) {f n : Nat} {g : List AVal → Option AVal}
    (h : ∀ {ρ : PMap} {Z : Zone} {us : List AVal} {xs : List Value} {v : AVal} (bs : List Blk), RepVs env ρ Z us xs → g us = some v → ∀ K, K v (enumB 0 bs) → run l f n us bs K) : CtrOk Tryz.prog env f (pureC g) :=
  (run_ok hl f n).of (fun us bs => pure_det us bs) fun {ρ Z w us bs xs K} hh hx hr => by
    obtain ⟨v, hg, hr⟩ := ob_inv hr
    exact h bs hx hg K hr

/-- A contract of functions that get no blocks. -/
def pureN (g : List AVal → Option AVal) : Ctr := ⟨fun us bs K => match bs with
  | [] => ob (g us) fun v => K v []
  | _ :: _ => False⟩

theorem pureN_det {g : List AVal → Option AVal} (us : List AVal) (bs : List Blk) : Det fun (K : Out → Prop) => (pureN g).run us bs fun v h => K ⟨v, h⟩ := by
  cases bs with
  | nil => exact det_ob fun v => det_pure (⟨v, []⟩ : Out)
  | cons b bs => exact det_false

theorem pureN_of_run {l : List (Nat × Ctr)} (hl : AllOk l) {f n : Nat} {g : List AVal → Option AVal}
    (h : ∀ {ρ : PMap} {Z : Zone} {us : List AVal} {xs : List Value} {v : AVal}, RepVs env ρ Z us xs → g us = some v → ∀ K, K v [] → run l f n us [] K) : CtrOk Tryz.prog env f (pureN g) :=
  (run_ok hl f n).of (fun us bs => pureN_det us bs) fun {ρ Z w us bs xs K} hh hx hr => by
    cases bs with
    | nil =>
      obtain ⟨v, hg, hr⟩ := ob_inv hr
      exact h hx hg K hr
    | cons b bs => exact hr.elim

/-- A contract by values, behind a gate. -/
def gateC (q : List AVal → Bool) (g : List AVal → Option AVal) : Ctr := ⟨fun us bs K => chk (q us) (ob (g us) fun v => K v (enumB 0 bs))⟩

theorem gate_ok {f : Nat} {q : List AVal → Bool} {g g' : List AVal → Option AVal} (h : CtrOk Tryz.prog env f (pureC g)) (hq : ∀ us v, q us = true → g' us = some v → g us = some v) : CtrOk Tryz.prog env f (gateC q g') :=
  h.of (fun us bs => det_chk (pure_det us bs)) fun {ρ Z w us bs xs K} hh hx hr => by
    obtain ⟨e1, hr⟩ := chk_inv hr
    obtain ⟨v, e2, hr⟩ := ob_inv hr
    show ob (g us) _
    rw [hq us v e1 e2]
    exact hr

def carryQ : List AVal → Bool
  | [_, _, .int .u64 c] => Nat.ble (UInt64.toNat c) 1
  | _ => false
def add3 : List AVal → Option AVal
  | [.int .u64 x, .int .u64 y, .int .u64 c] => some (.tup [.int .u64 (adcS x y c), .int .u64 (adcC x y c)])
  | _ => none
def sub3 : List AVal → Option AVal
  | [.int .u64 x, .int .u64 y, .int .u64 c] => some (.tup [.int .u64 (sbbD x y c), .int .u64 (sbbB x y c)])
  | _ => none

theorem add3_ok (us : List AVal) (v : AVal) (h1 : carryQ us = true) (h2 : add3 us = some v) : addG us = some v := by
  unfold add3 at h2
  split at h2 <;> cases h2
  rename_i x y c
  simp only [carryQ] at h1
  simp only [addG, h1]
theorem sub3_ok (us : List AVal) (v : AVal) (h1 : carryQ us = true) (h2 : sub3 us = some v) : subG us = some v := by
  unfold sub3 at h2
  split at h2 <;> cases h2
  rename_i x y c
  simp only [carryQ] at h1
  simp only [subG, h1]

def base0 : List (Nat × Ctr) := [(239, gateC carryQ add3), (188, gateC carryQ sub3), (60, pureC typeOfG), (292, pureC cmpG)]
theorem base0_ok : AllOk base0 := ⟨gate_ok add_ok add3_ok, gate_ok sub_ok sub3_ok, typeOf_ok, cmp_ok, trivial⟩

/-! ### the product of 128 bits -/
def m64w (x y : UInt64) : UInt64 := addT .u64 (mulT .u64 (shrT .u64 x 32) (andT .u64 y (rawI .u64 4294967295))) (shrT .u64 (mulT .u64 (andT .u64 x (rawI .u64 4294967295)) (andT .u64 y (rawI .u64 4294967295))) 32)
def m64v (x y : UInt64) : UInt64 := addT .u64 (andT .u64 (m64w x y) (rawI .u64 4294967295)) (mulT .u64 (andT .u64 x (rawI .u64 4294967295)) (shrT .u64 y 32))
def m64h (x y : UInt64) : UInt64 := addT .u64 (addT .u64 (mulT .u64 (shrT .u64 x 32) (shrT .u64 y 32)) (shrT .u64 (m64w x y) 32)) (shrT .u64 (m64v x y) 32)

theorem run_mul (x y : UInt64) : ∀ K, run base0 254 0 [.int .u64 x, .int .u64 y] [] K = K (.tup [.int .u64 (m64h x y), .int .u64 (mulT .u64 x y)]) [] := by intro K; kernel_rfl

/-! ### words as numbers -/
theorem wrap64 (n : Int) : IntKind.u64.wrap n = n % 18446744073709551616 := by
  simp [IntKind.wrap, IntKind.signed, IntKind.bits]
theorem nat_add (x y : UInt64) : UInt64.toNat (addT .u64 x y) = (x.toNat + y.toNat) % 18446744073709551616 := by
  have := toI_addT .u64 x y
  simp only [toI, wrap64] at this
  omega
theorem nat_sub (x y : UInt64) : UInt64.toNat (subT .u64 x y) = (x.toNat + 18446744073709551616 - y.toNat) % 18446744073709551616 := by
  have := toI_subT .u64 x y
  have h := UInt64.toNat_lt y
  simp only [toI, wrap64] at this
  omega
theorem nat_mul (x y : UInt64) : UInt64.toNat (mulT .u64 x y) = (x.toNat * y.toNat) % 18446744073709551616 := by
  have := toI_mulT .u64 x y
  simp only [toI, wrap64] at this
  rw [← Int.natCast_mul] at this
  omega
theorem nat_shr (x : UInt64) (n : Nat) (hn : n ≤ 64) : UInt64.toNat (shrT .u64 x n) = x.toNat / 2 ^ n := by
  have := toI_shrT .u64 x n
  simp only [toI, IntKind.bits] at this
  rw [Nat.min_eq_left hn] at this
  have h2 : Int.fdiv (UInt64.toNat x : Int) (2 ^ n) = ((x.toNat / 2 ^ n : Nat) : Int) := by
    rw [Int.fdiv_eq_ediv_of_nonneg _ (Int.pow_nonneg (by omega))]; simp
  rw [h2] at this
  omega
theorem nat_shl (x : UInt64) (n : Nat) (hn : n ≤ 64) : UInt64.toNat (shlT .u64 x n) = (x.toNat * 2 ^ n) % 18446744073709551616 := by
  have := toI_shlT .u64 x n
  simp only [toI, IntKind.bits, wrap64] at this
  rw [Nat.min_eq_left hn] at this
  have h2 : (UInt64.toNat x : Int) * 2 ^ n = ((x.toNat * 2 ^ n : Nat) : Int) := by simp
  rw [h2] at this
  omega
theorem nat_and (x y : UInt64) : UInt64.toNat (andT .u64 x y) = x.toNat &&& y.toNat := by
  have e : (UInt64.toNat (andT .u64 x y) : Int) = IntKind.u64.wrap ((BitVec.ofInt 64 (x.toNat : Int) &&& BitVec.ofInt 64 (y.toNat : Int)).toNat : Int) := toI_ofI .u64 _
  rw [wrap64] at e
  have h1 : BitVec.ofInt 64 (x.toNat : Int) = x.toBitVec := by
    apply BitVec.eq_of_toNat_eq; simp
  have h2 : BitVec.ofInt 64 (y.toNat : Int) = y.toBitVec := by
    apply BitVec.eq_of_toNat_eq; simp
  rw [h1, h2] at e
  have h3 : (x.toBitVec &&& y.toBitVec).toNat = x.toNat &&& y.toNat := by simp
  rw [h3] at e
  have h4 : x.toNat &&& y.toNat ≤ x.toNat := Nat.and_le_left
  have := UInt64.toNat_lt x
  omega
theorem nat_or (x y : UInt64) : UInt64.toNat (orT .u64 x y) = x.toNat ||| y.toNat := by
  have e : (UInt64.toNat (orT .u64 x y) : Int) = IntKind.u64.wrap ((BitVec.ofInt 64 (x.toNat : Int) ||| BitVec.ofInt 64 (y.toNat : Int)).toNat : Int) := toI_ofI .u64 _
  rw [wrap64] at e
  have h1 : BitVec.ofInt 64 (x.toNat : Int) = x.toBitVec := by
    apply BitVec.eq_of_toNat_eq; simp
  have h2 : BitVec.ofInt 64 (y.toNat : Int) = y.toBitVec := by
    apply BitVec.eq_of_toNat_eq; simp
  rw [h1, h2] at e
  have h3 : (x.toBitVec ||| y.toBitVec).toNat = x.toNat ||| y.toNat := by simp
  rw [h3] at e
  have h4 : x.toNat ||| y.toNat < 2 ^ 64 := Nat.or_lt_two_pow (UInt64.toNat_lt x) (UInt64.toNat_lt y)
  omega
theorem nat_raw (n : Nat) : UInt64.toNat (rawI .u64 (n : Int)) = n % 18446744073709551616 := by
  simp only [rawI]
  rw [UInt64.toNat_ofNat']
  omega
theorem nat_mask (x : UInt64) : UInt64.toNat (andT .u64 x (rawI .u64 4294967295)) = x.toNat % 4294967296 := by
  rw [nat_and]
  show x.toNat &&& UInt64.toNat (rawI .u64 ((4294967295 : Nat) : Int)) = _
  rw [nat_raw]
  exact Nat.and_two_pow_sub_one_eq_mod _ 32

theorem m64h_eq (x y : UInt64) : m64h x y = mulH x y := by
  obtain ⟨bd, bt, bw, hhi⟩ := Lib.mul64_hi x.toNat y.toNat (UInt64.toNat_lt x) (UInt64.toNat_lt y)
  have hx := UInt64.toNat_lt x
  have hy := UInt64.toNat_lt y
  have ba := Lib.half_mul_le (a := x.toNat / 4294967296) (b := y.toNat / 4294967296) (by omega) (by omega)
  have bb := Lib.half_mul_le (a := x.toNat / 4294967296) (b := y.toNat % 4294967296) (by omega) (by omega)
  have bc := Lib.half_mul_le (a := x.toNat % 4294967296) (b := y.toNat / 4294967296) (by omega) (by omega)
  apply UInt64.toNat_inj.1
  simp only [m64h, m64v, m64w, mulH, nat_add, nat_mul, nat_shr _ 32 (by omega), nat_mask, Nat.reducePow, UInt64.toNat_ofNat']
  rw [Nat.mod_eq_of_lt bd, Nat.mod_eq_of_lt (a := x.toNat / 4294967296 * (y.toNat % 4294967296)) (by omega), Nat.mod_eq_of_lt bt, Nat.mod_eq_of_lt (a := x.toNat % 4294967296 * (y.toNat / 4294967296)) (by omega), Nat.mod_eq_of_lt bw,
    Nat.mod_eq_of_lt (a := x.toNat / 4294967296 * (y.toNat / 4294967296)) (by omega)]
  rw [Nat.mod_eq_of_lt (a := x.toNat / 4294967296 * (y.toNat / 4294967296) + _) (by omega), hhi]

theorem mulL_eq (x y : UInt64) : mulT .u64 x y = mulL x y := by
  apply UInt64.toNat_inj.1
  rw [nat_mul, mulL, UInt64.toNat_ofNat']

theorem mul_ok : CtrOk Tryz.prog env 254 (pureN mulG) := pureN_of_run (n := 0) base0_ok fun {ρ Z us xs v} hx hg K hK => by
  unfold mulG at hg
  split at hg <;> cases hg
  rename_i x y
  rw [run_mul, m64h_eq, mulL_eq]
  exact hK

def base1 : List (Nat × Ctr) := (254, pureN mulG) :: base0
theorem base1_ok : AllOk base1 := ⟨mul_ok, base0_ok⟩
end Go.Abs

namespace Go.Abs
open Go.Proofs

/-- All loops of a code, by their first regions. -/
def loopsOf : Code → List (Nat × Code)
  | .seq a b => loopsOf a ++ loopsOf b
  | .cond _ a b => loopsOf a ++ loopsOf b
  | .block _ a => loopsOf a
  | .loop a => match firstRegion a with
    | some r => (r, a) :: loopsOf a
    | none => loopsOf a
  | _ => []

noncomputable def bodyF (f : Nat) : Code := match fnsOf f with
  | some (_, b) => b
  | none => .skip
def nthC : List (Nat × Code) → Nat → Code
  | [], _ => .skip
  | p :: _, 0 => p.2
  | _ :: ps, n + 1 => nthC ps n
/-- The body of a function's loop. -/
noncomputable def loopN (f i : Nat) : Code := nthC (loopsOf (bodyF f)) i

noncomputable def tabF (l : List (Nat × Ctr)) (n : Nat) : Tab := tabN env (tabL l) fnsOf liveOf 5000 n
/-- One evaluation of a part of a function. -/
noncomputable def evC (l : List (Nat × Ctr)) (f n nb fuel : Nat) (c : Code) (S : St) (K : XE → St → Prop) : Prop := evalCode env (tabF l n) nb (liveOf f) fuel c S K
noncomputable def runJ (l : List (Nat × Ctr)) (jumps : Nat → Option Jump) (f n fuel : Nat) (us : List AVal) (bs : List Blk) (K : AVal → List (Nat × Blk) → Prop) : Prop := match fnsOf f with
  | some (fn, body) => evalFnJ env (tabF l n) (liveOf f) jumps fn body fuel us bs K
  | none => False

/-- A jump that is right for a loop of a function. -/
def LoopOk (l : List (Nat × Ctr)) (f n nb fuel : Nat) (jumps : Nat → Option Jump) (p : Nat × Code) : Prop := match jumps p.1 with
  | some j => JumpOk nb (liveOf f p.1) (evC l f n nb fuel p.2) fuel j
  | none => True
def AllL {α : Type} (Q : α → Prop) : List α → Prop
  | [] => True
  | x :: xs => Q x ∧ AllL Q xs
theorem allL_app {α : Type} {Q : α → Prop} : ∀ {a b : List α}, AllL Q (a ++ b) → AllL Q a ∧ AllL Q b
  | [], b, h => ⟨trivial, h⟩
  | x :: a, b, h => ⟨⟨h.1, (allL_app h.2).1⟩, (allL_app h.2).2⟩

theorem jumps_of {l : List (Nat × Ctr)} {f n nb fuel : Nat} {jumps : Nat → Option Jump} : ∀ (c : Code), AllL (LoopOk l f n nb fuel jumps) (loopsOf c) → JumpsOk env (tabF l n) nb (liveOf f) jumps fuel c := by
  intro c
  induction c with
  | seq a b iha ihb => intro h; exact ⟨iha (allL_app h).1, ihb (allL_app h).2⟩
  | cond c a b iha ihb => intro h; exact ⟨iha (allL_app h).1, ihb (allL_app h).2⟩
  | block id a ih => intro h; exact ih h
  | loop a ih =>
    intro h
    simp only [loopsOf] at h
    simp only [JumpsOk]
    cases hr : firstRegion a with
    | none => rw [hr] at h; exact ⟨ih h, trivial⟩
    | some r =>
      rw [hr] at h
      obtain ⟨h1, h2⟩ := h
      refine ⟨ih h2, ?_⟩
      simp only [LoopOk] at h1
      simp only
      cases hq : jumps r with
      | none => trivial
      | some j => rw [hq] at h1; exact h1
  | _ => intro h; trivial

theorem ctr_of_runJ {l : List (Nat × Ctr)} (hl : AllOk l) {f n : Nat} {c : Ctr} (hd : ∀ us bs, Det fun (K : Out → Prop) => c.run us bs fun v h => K ⟨v, h⟩)
    (h : ∀ {ρ : PMap} {Z : Zone} {us : List AVal} {bs : List Blk} {xs : List Value} {K : AVal → List (Nat × Blk) → Prop}, RepVs env ρ Z us xs → c.run us bs K →
      ∃ jumps fuel, AllL (LoopOk l f n bs.length fuel jumps) (loopsOf (bodyF f)) ∧ runJ l jumps f n fuel us bs K) : CtrOk Tryz.prog env f c := by
  refine ⟨fun {ρ Z w us bs xs K} hh hx hk hb hr => ?_, hd⟩
  obtain ⟨jumps, fuel, hj, hr⟩ := h hx hr
  have hC := tabN_ok env_ok mixed (tabL_ok hl) (live := liveOf) (fuel := 5000) fnsOf_ok n
  unfold runJ at hr
  unfold bodyF at hj
  cases hf : fnsOf f with
  | none => rw [hf] at hr; exact hr.elim
  | some p =>
    obtain ⟨fn, body⟩ := p
    rw [hf] at hr hj
    obtain ⟨h1, h2, h3⟩ := fnsOf_ok f fn body hf
    exact (fn_ctr hC env_ok mixed h1 h2 h3 (live := liveOf f) (fuel := fuel)).run hh hx hk hb (fnJ_sound hC (jumps_of body hj) hr)

attribute [irreducible] runJ evC

theorem pureN_of_runJ {l : List (Nat × Ctr)} (hl : AllOk l) {f n : Nat} {g : List AVal → Option AVal}
    (h : ∀ {ρ : PMap} {Z : Zone} {us : List AVal} {xs : List Value} {v : AVal}, RepVs env ρ Z us xs → g us = some v → ∃ jumps fuel, AllL (LoopOk l f n 0 fuel jumps) (loopsOf (bodyF f)) ∧ ∀ K, K v [] → runJ l jumps f n fuel us [] K) : CtrOk Tryz.prog env f (pureN g) :=
  ctr_of_runJ hl (fun us bs => pureN_det us bs) fun {ρ Z us bs xs K} hx hr => by
    cases bs with
    | nil =>
      obtain ⟨v, hg, hr⟩ := ob_inv hr
      obtain ⟨j, fu, h1, h2⟩ := h hx hg
      exact ⟨j, fu, h1, h2 K hr⟩
    | cons b bs => exact hr.elim
end Go.Abs
