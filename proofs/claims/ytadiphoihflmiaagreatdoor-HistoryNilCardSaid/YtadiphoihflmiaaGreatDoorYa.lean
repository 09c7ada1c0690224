/- works(): closed runs of the judge, and what they come to. -/
import Derived.Test.YtadiphoihflmiaaGreatDoorZz
set_option linter.all false
set_option maxRecDepth 1000000
namespace Go.Abs
open Go.Proofs

def i0 : AVal := .int .i64 (0 : Int)
def noJ : AVal := .pair i0 (.pair i0 (.pair i0 (.pair i0 (.pair i0 (.pair (.int .i64 (-1 : Int)) .unit)))))
def brokenB (row : Int) (why : Nat) : Blk := ⟨.var 98, .var (.pair (.int .i64 row) (.pair (.iface 455 (.gp why)) .unit))⟩
noncomputable def rowsB (l : List AVal) : List Blk := setupB ++ [⟨.row 92, .vals l⟩]
noncomputable def kn8 : Known := ⟨[setupV, .nilsl], setupB, .tup [noJ, i0], enumB 0 setupB⟩
noncomputable def kn27 (l : List AVal) (row : Int) (why : Nat) : Known := ⟨[setupV, .sw 3], rowsB l, .iface 94 (.ptr 4 []), enumB 0 (rowsB l ++ [brokenB row why])⟩
theorem kn8_run : ∀ K, runG baseA 8 20 kn8.us kn8.bs K = K kn8.v kn8.h := by intro K; kernel_rfl
theorem kn27a_run : ∀ K, runG baseA 27 20 (kn27 [seenV 8 0] 0 1008).us (kn27 [seenV 8 0] 0 1008).bs K = K (kn27 [seenV 8 0] 0 1008).v (kn27 [seenV 8 0] 0 1008).h := by intro K; kernel_rfl
theorem kn27b_run : ∀ K, runG baseA 27 20 (kn27 [seenV 10 1, seenV 10 1] 1 1012).us (kn27 [seenV 10 1, seenV 10 1] 1 1012).bs K = K (kn27 [seenV 10 1, seenV 10 1] 1 1012).v (kn27 [seenV 10 1, seenV 10 1] 1 1012).h := by intro K; kernel_rfl
noncomputable def kns27 : List Known := [kn27 [seenV 8 0] 0 1008, kn27 [seenV 10 1, seenV 10 1] 1 1012]
theorem k8_ok : CtrOk Tryz.prog env 8 (knC [kn8]) := kn_ok baseA_ok ⟨kn8_run, trivial⟩
theorem k27_ok : CtrOk Tryz.prog env 27 (knC kns27) := kn_ok baseA_ok ⟨kn27a_run, kn27b_run, trivial⟩
noncomputable def baseW : List (Nat × Ctr) := (8, knC [kn8]) :: (27, knC kns27) :: base0
theorem baseW_ok : AllOk baseW := ⟨k8_ok, k27_ok, base0_ok⟩
theorem runG_works : ∀ K, runG baseW 7 20 [] [] K = K (.bool true) [] := by intro K; kernel_rfl
theorem run_works (K : AVal → List (Nat × Blk) → Prop) : run baseW 7 20 [] [] K = K (.bool true) [] := by rw [← runG_eq]; exact runG_works K
theorem works_ok : CtrOk Tryz.prog env 7 (pureN (conG (.bool true))) := con_ok baseW_ok run_works
end Go.Abs
