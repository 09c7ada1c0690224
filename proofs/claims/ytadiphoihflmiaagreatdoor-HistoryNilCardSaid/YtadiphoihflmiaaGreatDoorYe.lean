/- The closed facts of the row of HistoryNil, the great ones one by one. -/
import Derived.Test.YtadiphoihflmiaaGreatDoorRows
import Derived.JoinedOf
import Derived.KernelRfl
set_option linter.all false
namespace Go.Proofs.YtadiphoihflmiaaGreatDoor
open Go.ChangeShapes Go.WideShapes
theorem nilFact1 : laidOutB Tryz.pinned.checked.prog = true := by kernel_rfl
theorem nilFact2 : mapsRowed Tryz.pinned.checked.prog = true := by kernel_rfl
theorem nilFact3 : (Rows.historyNilRow.inPlace == Tryz.pinned.checked.prog.inPlace 6) = true := by kernel_rfl
theorem nilFact4 : (Rows.historyNilRow.unfollowed == Tryz.pinned.checked.prog.unfollowed 6) = true := by kernel_rfl
theorem nilFact5 : (Rows.historyNilRow.recurses == Tryz.pinned.checked.prog.recurses 6) = true := by kernel_rfl
theorem nilFact6 : (Rows.historyNilRow.named == Tryz.pinned.checked.prog.varsNamed 6) = true := by kernel_rfl
theorem nilFacts : joinedFacts Tryz.pinned.checked.prog 6 Tryz.f6 Rows.historyNilSpec Rows.historyNilRow = true := by
  unfold joinedFacts
  rw [nilFact1, nilFact2, nilFact3, nilFact4, nilFact5, nilFact6]
  kernel_rfl
end Go.Proofs.YtadiphoihflmiaaGreatDoor
