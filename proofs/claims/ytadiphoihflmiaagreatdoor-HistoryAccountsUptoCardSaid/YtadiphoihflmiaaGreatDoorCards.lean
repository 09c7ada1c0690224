/-
  DERIVED. GIVEN WITH THE SEED: THE CARDS: each row of YtadiphoihflmiaaGreatDoorRows.lean that lists a variable, with what it lists TIED to the program's text (the seventh form; the later family's looks); each row that meets fmt, with fmt's text TOLD by the authors' own Lean function (tested against real Go, not proved from fmt's source: count such statements apart). THE CARD IS WHAT COUNTS. Prove the row's statement (the work); the ties are given (YtadiphoihflmiaaGreatDoorTie.lean); close each card by the builder's one call (the guide's Derived/Test/ToyasCard.lean, 'card_holds'). Laid BY PROGRAM, IN A SANDBOX (cutbox-door.mjs). By AI agents, Wed Nov 11 2026. No macro, syntax, notation, axiom, sorry.
-/
import Derived.Test.YtadiphoihflmiaaGreatDoorRows
import GoSem.ClaimSeven
namespace Go.Proofs.YtadiphoihflmiaaGreatDoor
namespace Rows

/-- THE TIED CARD OF 'rimelaw26.HistoryBegins'. -/
def historyBeginsCard : Claim7 := { stood := { row := historyBeginsRow, standIns := [], harness := (true, "4c4aaffe43a608576131a590060a64d31b10b3256eac1893d75e7df654314008"), looks := true }, kinds := [], alts := [], laidByText := true, laidKinds := [.sentinel, .sentinel, .sentinel, .sentinel, .sentinel, .sentinel, .sentinel, .sentinel, .sentinel, .sentinel, .sentinel, .sentinel, .sentinel, .sentinel], laidTests := true, laidLooks := .later }
def HistoryBeginsCardSaid : Prop := Claim7.holds Tryz.pinned (.plain (OpenSpec.ofChange historyBeginsSpec)) historyBeginsCard

/-- THE TIED CARD OF 'rimelaw26.HistoryAccounts'. -/
def historyAccountsCard : Claim7 := { stood := { row := historyAccountsRow, standIns := [], harness := (true, "4c4aaffe43a608576131a590060a64d31b10b3256eac1893d75e7df654314008"), looks := true }, kinds := [], alts := [], laidByText := true, laidKinds := [.sentinel, .sentinel, .sentinel, .sentinel, .sentinel, .sentinel, .sentinel, .sentinel, .sentinel, .sentinel, .sentinel, .sentinel, .sentinel, .sentinel], laidTests := true, laidLooks := .later }
def HistoryAccountsCardSaid : Prop := Claim7.holds Tryz.pinned (.plain (OpenSpec.ofChange historyAccountsSpec)) historyAccountsCard

/-- THE TIED CARD OF 'rimelaw26.HistoryOwn'. -/
def historyOwnCard : Claim7 := { stood := { row := historyOwnRow, standIns := [], harness := (true, "4c4aaffe43a608576131a590060a64d31b10b3256eac1893d75e7df654314008"), looks := true }, kinds := [], alts := [], laidByText := true, laidKinds := [.sentinel, .sentinel, .sentinel, .sentinel, .sentinel, .sentinel, .sentinel, .sentinel, .sentinel, .sentinel, .sentinel, .sentinel, .sentinel, .sentinel], laidTests := true, laidLooks := .later }
def HistoryOwnCardSaid : Prop := Claim7.holds Tryz.pinned (.plain (OpenSpec.ofChange historyOwnSpec)) historyOwnCard

/-- THE TIED CARD OF 'rimelaw26.HistoryNil'. -/
def historyNilCard : Claim7 := { stood := { row := historyNilRow, standIns := [], harness := (true, "4c4aaffe43a608576131a590060a64d31b10b3256eac1893d75e7df654314008"), looks := true }, kinds := [], alts := [], laidByText := true, laidKinds := [.data, .data, .data, .handle, .sentinel, .sentinel, .sentinel, .sentinel, .sentinel, .sentinel, .sentinel, .sentinel, .sentinel, .sentinel, .sentinel, .sentinel, .sentinel, .sentinel], laidTests := true, laidLooks := .later }
def HistoryNilCardSaid : Prop := Claim7.holds Tryz.pinned (.plain (OpenSpec.ofChange historyNilSpec)) historyNilCard

/-- THE SECOND FORM's CARD OF 'rimelaw26.HistoryBegins'. -/
def historyBeginsUptoCard : Claim7 := { stood := { row := historyBeginsUptoRow, standIns := [], harness := (true, "4c4aaffe43a608576131a590060a64d31b10b3256eac1893d75e7df654314008"), looks := true }, kinds := [], alts := [], laidByText := true, laidKinds := [.sentinel, .sentinel, .sentinel, .sentinel, .sentinel, .sentinel, .sentinel, .sentinel, .sentinel, .sentinel, .sentinel, .sentinel, .sentinel, .sentinel], laidTests := true, laidLooks := .later }
def HistoryBeginsUptoCardSaid : Prop := Claim7.holds Tryz.pinned (.plain (OpenSpec.upto historyBeginsSpec)) historyBeginsUptoCard

/-- THE SECOND FORM's CARD OF 'rimelaw26.HistoryAccounts'. -/
def historyAccountsUptoCard : Claim7 := { stood := { row := historyAccountsUptoRow, standIns := [], harness := (true, "4c4aaffe43a608576131a590060a64d31b10b3256eac1893d75e7df654314008"), looks := true }, kinds := [], alts := [], laidByText := true, laidKinds := [.sentinel, .sentinel, .sentinel, .sentinel, .sentinel, .sentinel, .sentinel, .sentinel, .sentinel, .sentinel, .sentinel, .sentinel, .sentinel, .sentinel], laidTests := true, laidLooks := .later }
def HistoryAccountsUptoCardSaid : Prop := Claim7.holds Tryz.pinned (.plain (OpenSpec.upto historyAccountsSpec)) historyAccountsUptoCard

/-- THE SECOND FORM's CARD OF 'rimelaw26.HistoryOwn'. -/
def historyOwnUptoCard : Claim7 := { stood := { row := historyOwnUptoRow, standIns := [], harness := (true, "4c4aaffe43a608576131a590060a64d31b10b3256eac1893d75e7df654314008"), looks := true }, kinds := [], alts := [], laidByText := true, laidKinds := [.sentinel, .sentinel, .sentinel, .sentinel, .sentinel, .sentinel, .sentinel, .sentinel, .sentinel, .sentinel, .sentinel, .sentinel, .sentinel, .sentinel], laidTests := true, laidLooks := .later }
def HistoryOwnUptoCardSaid : Prop := Claim7.holds Tryz.pinned (.plain (OpenSpec.upto historyOwnSpec)) historyOwnUptoCard

/-- THE SECOND FORM's CARD OF 'rimelaw26.HistoryNil'. -/
def historyNilUptoCard : Claim7 := { stood := { row := historyNilUptoRow, standIns := [], harness := (true, "4c4aaffe43a608576131a590060a64d31b10b3256eac1893d75e7df654314008"), looks := true }, kinds := [], alts := [], laidByText := true, laidKinds := [.data, .data, .data, .handle, .sentinel, .sentinel, .sentinel, .sentinel, .sentinel, .sentinel, .sentinel, .sentinel, .sentinel, .sentinel, .sentinel, .sentinel, .sentinel, .sentinel], laidTests := true, laidLooks := .later }
def HistoryNilUptoCardSaid : Prop := Claim7.holds Tryz.pinned (.plain (OpenSpec.upto historyNilSpec)) historyNilUptoCard
end Rows
end Go.Proofs.YtadiphoihflmiaaGreatDoor
