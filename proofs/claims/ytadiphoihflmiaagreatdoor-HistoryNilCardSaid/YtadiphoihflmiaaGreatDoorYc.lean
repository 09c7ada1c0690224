/- HistoryNil, run. -/
import Derived.Test.YtadiphoihflmiaaGreatDoorYa
import Derived.Test.YtadiphoihflmiaaGreatDoorYb
set_option linter.all false
set_option maxRecDepth 1000000
namespace Go.Abs
open Go.Proofs

/-- A reason's number. -/
def knVar (id : Nat) (n : Int) : Known := ⟨[.iface 455 (.gp id)], [], .int .i64 n, []⟩
theorem va0 : ∀ K, runG base0 22 20 (knVar 1001 1).us (knVar 1001 1).bs K = K (knVar 1001 1).v (knVar 1001 1).h := by intro K; kernel_rfl
theorem va1 : ∀ K, runG base0 22 20 (knVar 1002 2).us (knVar 1002 2).bs K = K (knVar 1002 2).v (knVar 1002 2).h := by intro K; kernel_rfl
theorem va2 : ∀ K, runG base0 22 20 (knVar 1003 3).us (knVar 1003 3).bs K = K (knVar 1003 3).v (knVar 1003 3).h := by intro K; kernel_rfl
theorem va3 : ∀ K, runG base0 22 20 (knVar 1004 4).us (knVar 1004 4).bs K = K (knVar 1004 4).v (knVar 1004 4).h := by intro K; kernel_rfl
theorem va4 : ∀ K, runG base0 22 20 (knVar 1005 5).us (knVar 1005 5).bs K = K (knVar 1005 5).v (knVar 1005 5).h := by intro K; kernel_rfl
theorem va5 : ∀ K, runG base0 22 20 (knVar 1006 6).us (knVar 1006 6).bs K = K (knVar 1006 6).v (knVar 1006 6).h := by intro K; kernel_rfl
theorem va6 : ∀ K, runG base0 22 20 (knVar 1007 7).us (knVar 1007 7).bs K = K (knVar 1007 7).v (knVar 1007 7).h := by intro K; kernel_rfl
theorem va7 : ∀ K, runG base0 22 20 (knVar 1008 8).us (knVar 1008 8).bs K = K (knVar 1008 8).v (knVar 1008 8).h := by intro K; kernel_rfl
theorem va8 : ∀ K, runG base0 22 20 (knVar 1000 9).us (knVar 1000 9).bs K = K (knVar 1000 9).v (knVar 1000 9).h := by intro K; kernel_rfl
theorem va9 : ∀ K, runG base0 22 20 (knVar 1009 10).us (knVar 1009 10).bs K = K (knVar 1009 10).v (knVar 1009 10).h := by intro K; kernel_rfl
theorem va10 : ∀ K, runG base0 22 20 (knVar 1010 11).us (knVar 1010 11).bs K = K (knVar 1010 11).v (knVar 1010 11).h := by intro K; kernel_rfl
theorem va11 : ∀ K, runG base0 22 20 (knVar 1011 12).us (knVar 1011 12).bs K = K (knVar 1011 12).v (knVar 1011 12).h := by intro K; kernel_rfl
theorem va12 : ∀ K, runG base0 22 20 (knVar 1012 13).us (knVar 1012 13).bs K = K (knVar 1012 13).v (knVar 1012 13).h := by intro K; kernel_rfl
theorem va13 : ∀ K, runG base0 22 20 (knVar 1013 14).us (knVar 1013 14).bs K = K (knVar 1013 14).v (knVar 1013 14).h := by intro K; kernel_rfl
def knVars : List Known := [knVar 1001 1, knVar 1002 2, knVar 1003 3, knVar 1004 4, knVar 1005 5, knVar 1006 6, knVar 1007 7, knVar 1008 8, knVar 1000 9, knVar 1009 10, knVar 1010 11, knVar 1011 12, knVar 1012 13, knVar 1013 14]
theorem var_ok : CtrOk Tryz.prog env 22 (knC knVars) := kn_ok base0_ok ⟨va0, va1, va2, va3, va4, va5, va6, va7, va8, va9, va10, va11, va12, va13, trivial⟩
noncomputable def baseNil : List (Nat × Ctr) := (22, knC knVars) :: (7, pureN (conG (.bool true))) :: (26, asC) :: baseW
theorem baseNil_ok : AllOk baseNil := ⟨var_ok, works_ok, as_ok, baseW_ok⟩
theorem runG_nil : ∀ K, runG baseNil 6 20 [] [] K = K (.bool true) [] := by intro K; kernel_rfl
theorem nil_ok : CtrOk Tryz.prog env 6 (pureN (conG (.bool true))) := con_ok baseNil_ok fun K => by rw [← runG_eq]; exact runG_nil K
end Go.Abs
