/- The law rimelaw26.HistoryAccounts returns true, without a panic, and leaves everything as it was, whatever rows it is handed, of bulk at most 1048576. Conditions: the package-level variables that the row lists begin as the program's text lays them (the tied card); the call has the memory of the model. -/
import Derived.Test.YtadiphoihflmiaaGreatDoorZbd
import Derived.Test.YtadiphoihflmiaaGreatDoorZbe
import Derived.Test.YtadiphoihflmiaaGreatDoorRows
import Derived.Test.YtadiphoihflmiaaGreatDoorCards
import Derived.Test.YtadiphoihflmiaaGreatDoorTie
import Derived.WalkKit
import Derived.ProofKit
import Derived.OpenShut
import Derived.Carry
import Derived.Deep.DeepHandedRow
import Derived.LaidHandle
import Derived.Deep.DeepLaidRun
import Derived.SevenTiedAt
set_option linter.all false
namespace Go.Proofs.YtadiphoihflmiaaGreatDoor
open Go.ChangeShapes Go.WideShapes Go.RowKit Go.Abs

theorem own : ownKnob Tryz.prog.godebug = none := by kernel_rfl

/-! ### the walk -/
set_option maxRecDepth 1000000 in
theorem fns4 : (fnsOf 4).isSome = true := by kernel_rfl
def ptr0 : PMap := fun _ => ⟨0, 0, 0, .var 0, 0⟩
theorem lawRun {l : List SeenD} {K : AVal → List (Nat × Blk) → Prop} (hg : accGate l = true) (hK : K (.bool true) []) : (rowsC lawF).run [vS l] [] K := by
  have h : lawF l K := by unfold lawF; rw [hg]; exact hK
  have e : rowsOf [vS l] = some l := rfl
  unfold rowsC
  simp only [e]
  exact h
set_option maxRecDepth 1000000 in
theorem walk {W : World} {ps : List MemPlace} {az : List (Nat × Nat)} {x : Value} {l : List SeenD} (h : Sents W ps sentL az) (hnd : az.Nodup) (hx : RepC env ptr0 (zoneOf W az) (vS l) [x]) (hg : accGate l = true) :
    Calls Tryz.prog 4 #[x] W fun e w' => e = .returned (.bool true) ∧ Keeps (fun _ _ => False) W w' := by
  have hent : (callFunc 4 #[x]).run Tryz.prog W = .ok (.enter 4 #[x]) W := by
    cases hf : fnsOf 4 with
    | none => have := fns4; rw [hf] at this; cases this
    | some p => exact (fnsOf_ok 4 p.1 p.2 hf).2.2 #[x] W
  have hv : RepVs env ptr0 (zoneOf W az) [vS l] (#[x] : Array Value).toList := ⟨x, [], rfl, hx, rfl⟩
  have := law_ok.run (ρ := ptr0) (Z := zoneOf W az) (w := W) (us := [vS l]) (bs := []) (xs := #[x]) (K := fun v h => v = .bool true) (heap_of h hnd (fun h => nomatch h) _) hv (fun k hk => by simp [keysL, AVal.keys, vS] at hk) (fun i b hb => by cases hb) (lawRun hg rfl)
  rw [hent] at this
  refine Calls.mono this fun e w' ⟨x, he, v, h2, Z', ρ', hv, hgr, hr⟩ => ?_
  subst hv
  have hx := hr.val
  rw [repV_bool] at hx
  refine ⟨by rw [he, hx], hr.keep.mono fun b i _ ⟨k, B, hB, _⟩ => by cases hB⟩

/-! ### one world that meets the condition -/
noncomputable def low : Nat := (World.holding Tryz.prog default ⟨#[], #[], []⟩).heap.size
def textObj (id : Nat) : Obj := .cells #[.string ⟨(textN texts id).toArray⟩] 479 (0, 0)
noncomputable def layObj (id : Nat) (o : Obj) : Obj := match o with
  | .cells _ t frozen => .cells #[.iface 455 (.pointer (some ⟨low + id, 0, none⟩))] t frozen
  | o => o
noncomputable def laidWorld (os : Os) : World :=
  let w0 := World.holding Tryz.prog os ⟨((List.range 14).map textObj).toArray, #[], []⟩
  { w0 with heap := (List.range 14).foldl (fun h id => h.modify id (layObj id)) w0.heap }
def noRows : Value := .slice none 0 0
theorem laidWorld_met (os : Os) : laidMetH Tryz.prog Rows.historyAccountsUptoRow.laid ((laidWorld os).forCall (fun _ _ => 0) ⟨#[], #[noRows], []⟩).memory :=
  laidMetH_of_parts (laidMet_of_run3 8 (by kernel_rfl) (by kernel_rfl) (by kernel_rfl)) (by kernel_rfl)
theorem reads (os : Os) {H : Type} (enc : TypeId × Value → H) : DataW.whole enc Tryz.prog ((laidWorld os).forCall (fun _ _ => 0) ⟨#[], #[noRows], []⟩).memory Tryz.f4.params.toList (Rows.OpenSpec.upto Rows.historyAccountsSpec).vars false #[noRows].toList 8 = some ([.nil], [], []) := by kernel_rfl

theorem keptBut_of {W w' : World} (h : Keeps (fun _ _ => False) W w') {may : MemPlace → Prop} : W.keptBut w' may := h.below.frame may

theorem named_all : ∀ x, x ∈ sentL → Tryz.prog.globalNamed x.1 = some x.2.1 ∧ (Tryz.prog.globals[x.2.1]?).map (·.type) = some 96 := by
  have : sentL.all (fun x => decide (Tryz.prog.globalNamed x.1 = some x.2.1) && decide ((Tryz.prog.globals[x.2.1]?).map (·.type) = some 96)) = true := by kernel_rfl
  intro x hx
  have := List.all_eq_true.1 this x hx
  simp only [Bool.and_eq_true, decide_eq_true_eq] at this
  exact this
theorem sents_of_laid {W : World} (h : laidMetH Tryz.prog Rows.historyAccountsUptoRow.laid W) : ∃ ps az, Sents W ps sentL az ∧ az.Nodup := by
  have h' : laidMet Tryz.prog (sentL.map sentD) W := h
  obtain ⟨ps, h1, h2, h3⟩ := h'
  obtain ⟨az, h4, h5⟩ := sents_of sentL ps named_all h1 h2 h3
  exact ⟨ps, az, h4, h5⟩

theorem laidOut : laidOutB Tryz.prog = true := accFact1
theorem readable27 : Tryz.prog.readableRec 27 = true := by kernel_rfl
theorem types27 : 27 < Tryz.prog.types.size := of_decide_eq_true (by kernel_rfl)

set_option maxRecDepth 1000000 in
theorem contract (H : Type) (enc : TypeId × Value → H) (W : World) (base : Nat) (args : Array Value) (ds gs : List (DataW H)) (before : List MemPlace)
    (hval : ∀ (j : Nat) t v, Tryz.f4.params[j]? = some t → args[j]? = some v → Value.okWide Tryz.prog W .any base t v)
    (hW : DataW.Whole enc Tryz.prog Tryz.f4.params.toList Rows.historyAccountsSpec.vars false W args.toList ds gs before)
    (hb : Rows.uptoBulkAll (ds ++ gs) ≤ 1048576) (hL : laidMetH Tryz.prog Rows.historyAccountsUptoRow.laid W) :
    Calls Tryz.prog 4 args W fun e W' => ∃ v, e = .returned v ∧ Rows.historyAccountsSpec.post enc Tryz.prog Tryz.f4 false true false false W args v W' := by
  have hlt := hW.lt
  have hW' := hW
  obtain ⟨p, q, hA0, hV, rfl, hfz, hnd⟩ := hW
  have hA : DataW.TrodAll enc Tryz.prog W 0 (fun _ => true) true Tryz.f4.params.toList args.toList ds p := hA0
  rw [Tryz.params4] at hA hval
  obtain ⟨v0, d0, rfl, rfl, h0⟩ := trodAll_one hA
  obtain ⟨rfl, rfl⟩ := trodVars_none hV
  obtain ⟨a, len, cap, rfl⟩ := okWide_slice Tryz.underlying27 (hval 0 27 v0 rfl rfl)
  clear hA0 hA
  simp only [List.append_nil] at hW' hlt
  simp only [List.append_nil, Rows.uptoBulkAll, Nat.add_zero] at hb
  obtain ⟨ps, az, hs, hnd2⟩ := sents_of_laid hL
  obtain ⟨fuel, ht⟩ := id h0
  obtain ⟨l, hl, hn, hm⟩ := rd_rows (ρ := ptr0) (Z := zoneOf W az) (fun b o v h => h) ht
  refine (walk hs hnd2 hl (gate_of hb hn hm)).mono fun e W' ⟨he, hg⟩ => ?_
  subst he
  refine ⟨_, rfl, _, _, _, [], p, [], hW', ?_, ?_, ?_, keptBut_of hg, fun h => by cases h⟩
  · exact trodAll_mk1 (shut_bool Tryz.underlying4 true)
  · exact trodAll_mk1 (Below.trod laidOut readable27 types27 h0 hg.below hlt)
  · exact rfl

set_option maxRecDepth 100000 in
theorem liftedUpto (os : Os) (started : os.Started) (H : Type) (enc : TypeId × Value → H) (F : Stop.Interp) :
    ReturnsInHanded {} Tryz.checked os 4 .any ((Rows.OpenSpec.upto Rows.historyAccountsSpec).preRow enc Tryz.prog Tryz.f4 Rows.historyAccountsUptoRow.domain false Rows.historyAccountsUptoRow.laid) (((Rows.OpenSpec.upto Rows.historyAccountsSpec).at F).post enc Tryz.prog Tryz.f4 false true false false) := by
  refine returnsInHanded_of_row (C := Tryz.checked) (s := Rows.OpenSpec.upto Rows.historyAccountsSpec) own started (by kernel_rfl) Tryz.func4
    (witness_row_at (enc := enc) (C := Tryz.checked) false (laidWorld os) #[noRows] rfl (by kernel_rfl) (by kernel_rfl) (by kernel_rfl)
      (OpenSpec.preRow_of_cond 8 (reads os enc) (by kernel_rfl) (fun k hk => by cases hk; kernel_rfl) (by kernel_rfl) (laidWorld_met os))) ?_
  intro W base args ds gs before hval hW _ hcond _ hL _ _
  exact contract H enc W base args ds gs before hval hW (of_decide_eq_true (hcond _ rfl)) hL

theorem saidUpto : Rows.HistoryAccountsUptoSaid :=
  OpenClaim.holds_of_cond 4 Tryz.f4 rfl rfl rfl rfl rfl rfl rfl ⟨rfl, rfl, rfl, rfl, rfl⟩ rfl rfl rfl rfl rfl (by kernel_rfl) Tryz.func4 accFacts
    (of_decide_eq_true (by kernel_rfl)) (by unfold Func.isWrapper; rw [if_neg (of_decide_eq_false (by kernel_rfl))]; exact ⟨rfl, rfl⟩)
    (fun os started H enc _ F => by rw [OpenClaim.pre_eq_preRow]; exact liftedUpto os started H enc F)

theorem only4 (f : FuncId) (fn : Func) (hf : Tryz.prog.funcNamed "rime/rimelaw26.HistoryAccounts" = some f) (hfn : Tryz.prog.funcs[f]? = some fn) : f = 4 ∧ fn = Tryz.f4 := by
  obtain rfl : f = 4 := Option.some.inj ((show Tryz.prog.funcNamed "rime/rimelaw26.HistoryAccounts" = some 4 by kernel_rfl).symm.trans hf) |>.symm
  exact ⟨rfl, (Option.some.inj (Tryz.func4.symm.trans hfn)).symm⟩
theorem cardUpto_holds : Rows.HistoryAccountsUptoCardSaid :=
  Claim7.holds_tied_plain_at .later [] [.sentinel, .sentinel, .sentinel, .sentinel, .sentinel, .sentinel, .sentinel, .sentinel, .sentinel, .sentinel, .sentinel, .sentinel, .sentinel, .sentinel] true (true, "4c4aaffe43a608576131a590060a64d31b10b3256eac1893d75e7df654314008") true
    saidUpto (fun _ h => by cases h) (by kernel_rfl) (fun _ h => by cases h) historyAccountsUpto_row_tie rfl ⟨rfl, rfl⟩ (by kernel_rfl) rfl
    (fun f fn hf hfn => by
      obtain ⟨rfl, rfl⟩ := only4 f fn hf hfn
      exact ⟨by kernel_rfl, fun j t ht => by
        rw [Tryz.params4] at ht
        obtain rfl : t = 27 := by simpa using Array.mem_of_getElem? ht
        exact (show Tryz.prog.wantsStandIn 27 = false by kernel_rfl)⟩)
    (by kernel_rfl)
end Go.Proofs.YtadiphoihflmiaaGreatDoor
