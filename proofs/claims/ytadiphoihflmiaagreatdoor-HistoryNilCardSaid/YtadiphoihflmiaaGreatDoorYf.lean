/- The law rimelaw26.HistoryNil (it has no inputs) returns true, without a panic, and leaves everything as it was. Conditions: the package-level variables that the row lists begin as the program's text lays them (the tied card); the call has the memory of the model. -/
import Derived.Test.YtadiphoihflmiaaGreatDoorYc
import Derived.Test.YtadiphoihflmiaaGreatDoorYd
import Derived.Test.YtadiphoihflmiaaGreatDoorYe
import Derived.Test.YtadiphoihflmiaaGreatDoorRows
import Derived.Test.YtadiphoihflmiaaGreatDoorCards
import Derived.Test.YtadiphoihflmiaaGreatDoorTie
import Derived.WalkKit
import Derived.ProofKit
import Derived.OpenShut
import Derived.ChangeSame
import Derived.ChangeVars
import Derived.JoinedOf
import Derived.LaidHandle
import Derived.Stop.Joined
import Derived.Deep.DeepLaidRun
import Derived.SevenTiedAt
set_option linter.all false
namespace Go.Proofs.YtadiphoihflmiaaGreatDoor
open Go.ChangeShapes Go.WideShapes Go.RowKit Go.Abs

theorem own : ownKnob Tryz.prog.godebug = none := by kernel_rfl

/-! ### the walk -/
set_option maxRecDepth 1000000 in
theorem fns6 : (fnsOf 6).isSome = true := by kernel_rfl
set_option maxRecDepth 1000000 in
theorem walk {W : World} {ps : List MemPlace} {az : List (Nat × Nat)} (h : Sents W ps sentL az) (hnd : az.Nodup) (hE : W.cell? ⟨14, 0, none⟩ = some (.iface 211 (.agg #[.pointer (some ⟨18, 96, none⟩)]))) :
    Calls Tryz.prog 6 #[] W fun e w' => e = .returned (.bool true) ∧ Keeps (fun _ _ => False) W w' := by
  have hent : (callFunc 6 #[]).run Tryz.prog W = .ok (.enter 6 #[]) W := by
    cases hf : fnsOf 6 with
    | none => have := fns6; rw [hf] at this; cases this
    | some p => exact (fnsOf_ok 6 p.1 p.2 hf).2.2 #[] W
  have := nil_ok.run (ρ := fun _ => ⟨0, 0, 0, .var 0, 0⟩) (Z := zoneOf W az) (w := W) (us := []) (bs := []) (xs := #[]) (K := fun v h => v = .bool true) (heap_of h hnd (fun _ => hE) _) rfl (fun k hk => by cases hk) (fun i b hb => by cases hb) rfl
  rw [hent] at this
  refine Calls.mono this fun e w' ⟨x, he, v, h2, ρ', hv, hr⟩ => ?_
  subst hv
  have hx := hr.val
  rw [repV_bool] at hx
  refine ⟨by rw [he, hx], hr.keep.mono fun b i _ ⟨k, B, hB, _⟩ => by cases hB⟩

/-! ### one world that meets the condition -/
noncomputable def low : Nat := (World.holding Tryz.prog default ⟨#[], #[], []⟩).heap.size
def textObj (id : Nat) : Obj := .cells #[.string ⟨(textN texts id).toArray⟩] 479 (0, 0)
def tabCells (d : DataW Unit) : Array Value := match d with
  | .agg l => (l.map fun x => match x with
    | .lit (.int k n) => Value.int k n
    | _ => .nilIface).toArray
  | _ => #[]
noncomputable def laidCells (id : Nat) : Array Value := match id with
  | 14 => #[.iface 211 (.agg #[.pointer (some ⟨18, 96, none⟩)])]
  | 15 => tabCells Rows.laid_internal_strconv_uint64pow10
  | 16 => tabCells Rows.laid_math_bits_deBruijn32tab
  | 17 => tabCells Rows.laid_math_bits_deBruijn64tab
  | n => #[.iface 455 (.pointer (some ⟨low + n, 0, none⟩))]
noncomputable def layObj (id : Nat) (o : Obj) : Obj := match o with
  | .cells _ t frozen => .cells (laidCells id) t frozen
  | o => o
noncomputable def laidWorld (os : Os) : World :=
  let w0 := World.holding Tryz.prog os ⟨((List.range 14).map textObj).toArray, #[], []⟩
  { w0 with heap := (List.range 18).foldl (fun h id => h.modify id (layObj id)) w0.heap }
theorem laidWorld_met (os : Os) (args : Array Value) : laidMetH Tryz.prog Rows.historyNilRow.laid ((laidWorld os).forCall (fun _ _ => 0) ⟨#[], args, []⟩).memory :=
  laidMetH_of_parts (laidMet_of_run3 8 (by kernel_rfl) (by kernel_rfl) (by kernel_rfl)) (by kernel_rfl)

theorem keptBut_of {W w' : World} (h : Keeps (fun _ _ => False) W w') {may : MemPlace → Prop} : W.keptBut w' may := by
  refine ⟨h.os, h.output, fun i hi => ?_⟩
  obtain ⟨o, ho⟩ : ∃ o, W.heap[i]? = some o := ⟨W.heap[i], by simp [hi]⟩
  obtain ⟨o', h1, h2⟩ := h.obj i o ho
  rw [ho, h1]
  cases o <;> cases o' <;> simp only [ObjKeeps] at h2 ⊢ <;> first | exact congrArg some h2 | exact ⟨h2.2.1, h2.2.2.1, h2.1, fun j _ => h2.2.2.2 j (fun hf => hf)⟩ | exact .inr (h2 (fun hf => hf)) | cases h2

theorem et_named : Tryz.prog.globalNamed "errors.errorType" = some 14 := by kernel_rfl
theorem rt_named : (Tryz.prog.cutTypes.find? (·.1 == "internal/reflectlite.rtype")).map (·.2) = some 211 := by kernel_rfl
theorem one_row : ((List.range 497).filter fun t => Tryz.prog.rowNamed t [101, 114, 114, 111, 114]) = [96] := by kernel_rfl
theorem types_size : Tryz.prog.types.size = 497 := by kernel_rfl

/-- What the condition gives: errors.errorType's one cell. -/
theorem handle_of_laid {W : World} (h : laidMetH Tryz.prog Rows.historyNilRow.laid W) : W.cell? ⟨14, 0, none⟩ = some (.iface 211 (.agg #[.pointer (some ⟨18, 96, none⟩)])) := by
  have h' : laidMet Tryz.prog (Rows.historyNilRow.laid.filter fun x => x.2.handleName?.isNone) W ∧ handlesMet Tryz.prog [("errors.errorType", Rows.laid_errors_errorType)] W := h
  obtain ⟨name, u, ty, e1, e2, e3, e4, e5⟩ := h'.2 _ (List.mem_singleton.2 rfl)
  have en : name = [101, 114, 114, 111, 114] := (Option.some.inj e1).symm
  subst en
  obtain rfl := Option.some.inj (rt_named.symm.trans e2)
  have hm : ty ∈ (List.range 497).filter fun t => Tryz.prog.rowNamed t [101, 114, 114, 111, 114] := List.mem_filter.2 ⟨List.mem_range.2 (by rw [← types_size]; exact e3), e4⟩
  rw [one_row] at hm
  obtain rfl := List.mem_singleton.1 hm
  have hh : typeHandle Tryz.prog 96 = .pointer (some ⟨18, 96, none⟩) := by kernel_rfl
  rw [hh] at e5
  simpa using World.var?_cell et_named e5 0
theorem named_all : ∀ x, x ∈ sentL → Tryz.prog.globalNamed x.1 = some x.2.1 ∧ (Tryz.prog.globals[x.2.1]?).map (·.type) = some 96 := by
  have : sentL.all (fun x => decide (Tryz.prog.globalNamed x.1 = some x.2.1) && decide ((Tryz.prog.globals[x.2.1]?).map (·.type) = some 96)) = true := by kernel_rfl
  intro x hx
  have := List.all_eq_true.1 this x hx
  simp only [Bool.and_eq_true, decide_eq_true_eq] at this
  exact this
theorem sents_of_laid {W : World} (h : laidMetH Tryz.prog Rows.historyNilRow.laid W) : ∃ ps az, Sents W ps sentL az ∧ az.Nodup := by
  have h' : laidMet Tryz.prog (("math/bits.deBruijn32tab", Rows.laid_math_bits_deBruijn32tab) :: ("math/bits.deBruijn64tab", Rows.laid_math_bits_deBruijn64tab) :: ("internal/strconv.uint64pow10", Rows.laid_internal_strconv_uint64pow10) :: sentL.map sentD) W ∧ handlesMet Tryz.prog [("errors.errorType", Rows.laid_errors_errorType)] W := h
  obtain ⟨ps, h1, h2, h3⟩ := h'.1.tail.tail.tail
  obtain ⟨az, h4, h5⟩ := sents_of sentL ps named_all h1 h2 h3
  exact ⟨ps, az, h4, h5⟩

set_option maxRecDepth 100000 in
theorem lifted (os : Os) (started : os.Started) (H : Type) (enc : TypeId × Value → H) :
    ReturnsInHanded {} Tryz.checked os 6 .any (fun w args => (Rows.historyNilSpec.pre enc Tryz.prog Tryz.f6 [] false w args ∧ laidMetH Tryz.prog Rows.historyNilRow.laid w) ∧ sizedMet enc Tryz.prog Tryz.f6 (OpenSpec.ofChange Rows.historyNilSpec) false w args)
      (Rows.historyNilSpec.post enc Tryz.prog Tryz.f6 false true false false) := by
  refine returnsInHanded_of_change_and (C := Tryz.checked) (X := fun w _ => laidMetH Tryz.prog Rows.historyNilRow.laid w) (fun _ _ _ hh h => h.of_heap hh) own started (by kernel_rfl) Tryz.func6
    (ChangeSpec.witness_at (enc := enc) (C := Tryz.checked) (os := os) (X := fun w _ => laidMetH Tryz.prog Rows.historyNilRow.laid w) false (laidWorld os) #[] 8 rfl (by kernel_rfl) (by kernel_rfl) (by kernel_rfl) (by kernel_rfl) (by kernel_rfl) (laidWorld_met os _)) ?_
  intro W base args ds gs before hval0 hW _ _ hL _
  have hW' := hW
  obtain ⟨p, q, hA0, hV, rfl, hfz, hnd⟩ := hW
  have hA : DataW.TrodAll enc Tryz.prog W 0 (fun _ => true) true Tryz.f6.params.toList args.toList ds p := hA0
  rw [Tryz.params6] at hA
  obtain ⟨rfl, rfl, rfl⟩ := trodAll_none hA
  obtain ⟨rfl, rfl⟩ := trodVars_none hV
  clear hA0 hval0
  simp only [List.append_nil] at hW'
  have hE := handle_of_laid hL
  obtain ⟨ps, az, h1, h2⟩ := sents_of_laid hL
  refine (walk h1 h2 hE).mono fun e W' ⟨he, hg⟩ => ?_
  subst he
  refine ⟨_, rfl, _, _, _, [], [], [], hW', ?_, ?_, ?_, keptBut_of hg, fun h => by cases h⟩
  · exact trodAll_mk1 (shut_bool Tryz.underlying4 true)
  · exact rfl
  · exact rfl

theorem f_holds : Rows.HistoryNilSaid :=
  OpenClaim.holds_of_wide 6 Tryz.f6 rfl rfl rfl rfl rfl rfl rfl ⟨rfl, rfl, rfl, rfl, rfl⟩ rfl rfl rfl rfl rfl (by kernel_rfl) Tryz.func6 nilFacts
    (of_decide_eq_true (by kernel_rfl)) (by unfold Func.isWrapper; rw [if_neg (of_decide_eq_false (by kernel_rfl))]; exact ⟨rfl, rfl⟩)
    (fun os started H enc _ => lifted os started H enc)

theorem only6 (f : FuncId) (fn : Func) (hf : Tryz.prog.funcNamed "rime/rimelaw26.HistoryNil" = some f) (hfn : Tryz.prog.funcs[f]? = some fn) : f = 6 ∧ fn = Tryz.f6 := by
  obtain rfl : f = 6 := Option.some.inj ((show Tryz.prog.funcNamed "rime/rimelaw26.HistoryNil" = some 6 by kernel_rfl).symm.trans hf) |>.symm
  exact ⟨rfl, (Option.some.inj (Tryz.func6.symm.trans hfn)).symm⟩
theorem card_holds : Rows.HistoryNilCardSaid :=
  Claim7.holds_tied_plain_at .later [] [.data, .data, .data, .handle, .sentinel, .sentinel, .sentinel, .sentinel, .sentinel, .sentinel, .sentinel, .sentinel, .sentinel, .sentinel, .sentinel, .sentinel, .sentinel, .sentinel] true (true, "4c4aaffe43a608576131a590060a64d31b10b3256eac1893d75e7df654314008") true
    f_holds (fun _ h => by cases h) (by kernel_rfl) (fun _ h => by cases h) historyNil_row_tie rfl ⟨rfl, rfl⟩ (by kernel_rfl) rfl
    (fun f fn hf hfn => by
      obtain ⟨rfl, rfl⟩ := only6 f fn hf hfn
      exact ⟨by kernel_rfl, fun j t ht => by
        rw [Tryz.params6] at ht
        simp at ht⟩)
    (by kernel_rfl)
end Go.Proofs.YtadiphoihflmiaaGreatDoor
