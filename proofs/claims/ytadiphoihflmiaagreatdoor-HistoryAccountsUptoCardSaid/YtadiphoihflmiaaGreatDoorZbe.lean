/- The closed facts of the row of HistoryAccounts, the great ones one by one. -/
import Derived.Test.YtadiphoihflmiaaGreatDoorRows
import Derived.JoinedOf
import Derived.KernelRfl
set_option linter.all false
namespace Go.Proofs.YtadiphoihflmiaaGreatDoor
open Go.ChangeShapes Go.WideShapes
theorem accFact1 : laidOutB Tryz.pinned.checked.prog = true := by kernel_rfl
theorem accFact2 : mapsRowed Tryz.pinned.checked.prog = true := by kernel_rfl
theorem accFact3 : (Rows.historyAccountsUptoRow.inPlace == Tryz.pinned.checked.prog.inPlace 4) = true := by kernel_rfl
theorem accFact4 : (Rows.historyAccountsUptoRow.unfollowed == Tryz.pinned.checked.prog.unfollowed 4) = true := by kernel_rfl
theorem accFact5 : (Rows.historyAccountsUptoRow.recurses == Tryz.pinned.checked.prog.recurses 4) = true := by kernel_rfl
theorem accFact6 : (Rows.historyAccountsUptoRow.named == Tryz.pinned.checked.prog.varsNamed 4) = true := by kernel_rfl
theorem accFacts : joinedFacts Tryz.pinned.checked.prog 4 Tryz.f4 (Rows.OpenSpec.upto Rows.historyAccountsSpec).bare Rows.historyAccountsUptoRow = true := by
  unfold joinedFacts
  rw [accFact1, accFact2, accFact3, accFact4, accFact5, accFact6]
  kernel_rfl
end Go.Proofs.YtadiphoihflmiaaGreatDoor
