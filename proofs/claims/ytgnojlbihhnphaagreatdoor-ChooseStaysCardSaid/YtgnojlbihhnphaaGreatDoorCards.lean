/-
  DERIVED. GIVEN WITH THE SEED: THE CARDS: each row of YtgnojlbihhnphaaGreatDoorRows.lean that lists a variable, with what it lists TIED to the program's text (the seventh form; the later family's looks); each row that meets fmt, with fmt's text TOLD by the authors' own Lean function (tested against real Go, not proved from fmt's source: count such statements apart). THE CARD IS WHAT COUNTS. Prove the row's statement (the work); the ties are given (YtgnojlbihhnphaaGreatDoorTie.lean); close each card by the builder's one call (the guide's Derived/Test/ToyasCard.lean, 'card_holds'). Laid BY PROGRAM, IN A SANDBOX (cutbox-door.mjs). By AI agents, Wed Nov 11 2026. No macro, syntax, notation, axiom, sorry.
-/
import Derived.Test.YtgnojlbihhnphaaGreatDoorRows
import GoSem.ClaimSeven
namespace Go.Proofs.YtgnojlbihhnphaaGreatDoor
namespace Rows

/-- THE TIED CARD OF 'cellarerlaw11.AltsPuts'. -/
def altsPutsCard : Claim7 := { stood := { row := altsPutsRow, standIns := [], harness := (true, "504d1079e63f9568d699ae5c8abd13f255e9d877b0564964f5e4900660014dc8"), looks := false }, kinds := [], alts := [], laidByText := true, laidKinds := [.data, .pinned], laidTests := true, laidLooks := .later }
def AltsPutsCardSaid : Prop := Claim7.holds Tryz.pinned (.plain (OpenSpec.ofChange altsPutsSpec)) altsPutsCard

/-- THE TIED CARD OF 'cellarerlaw17.ChooseTargets'. -/
def chooseTargetsCard : Claim7 := { stood := { row := chooseTargetsRow, standIns := [], harness := (true, "504d1079e63f9568d699ae5c8abd13f255e9d877b0564964f5e4900660014dc8"), looks := false }, kinds := [], alts := [], laidByText := true, laidKinds := [.data, .pinned], laidTests := true, laidLooks := .later }
def ChooseTargetsCardSaid : Prop := Claim7.holds Tryz.pinned (.plain (OpenSpec.ofChange chooseTargetsSpec)) chooseTargetsCard

/-- THE TIED CARD OF 'cellarerlaw17.ChooseRight'. -/
def chooseRightCard : Claim7 := { stood := { row := chooseRightRow, standIns := [], harness := (true, "504d1079e63f9568d699ae5c8abd13f255e9d877b0564964f5e4900660014dc8"), looks := false }, kinds := [], alts := [], laidByText := true, laidKinds := [.data, .pinned], laidTests := true, laidLooks := .later }
def ChooseRightCardSaid : Prop := Claim7.holds Tryz.pinned (.plain (OpenSpec.ofChange chooseRightSpec)) chooseRightCard

/-- THE TIED CARD OF 'cellarerlaw17.ChooseStays'. -/
def chooseStaysCard : Claim7 := { stood := { row := chooseStaysRow, standIns := [], harness := (true, "504d1079e63f9568d699ae5c8abd13f255e9d877b0564964f5e4900660014dc8"), looks := false }, kinds := [], alts := [], laidByText := true, laidKinds := [.data, .pinned], laidTests := true, laidLooks := .later }
def ChooseStaysCardSaid : Prop := Claim7.holds Tryz.pinned (.plain (OpenSpec.ofChange chooseStaysSpec)) chooseStaysCard

/-- THE SECOND FORM's CARD OF 'cellarerlaw11.AltsPuts'. -/
def altsPutsUptoCard : Claim7 := { stood := { row := altsPutsUptoRow, standIns := [], harness := (true, "504d1079e63f9568d699ae5c8abd13f255e9d877b0564964f5e4900660014dc8"), looks := false }, kinds := [], alts := [], laidByText := true, laidKinds := [.data, .pinned], laidTests := true, laidLooks := .later }
def AltsPutsUptoCardSaid : Prop := Claim7.holds Tryz.pinned (.plain (OpenSpec.upto altsPutsSpec)) altsPutsUptoCard

/-- THE SECOND FORM's CARD OF 'cellarerlaw17.ChooseTargets'. -/
def chooseTargetsUptoCard : Claim7 := { stood := { row := chooseTargetsUptoRow, standIns := [], harness := (true, "504d1079e63f9568d699ae5c8abd13f255e9d877b0564964f5e4900660014dc8"), looks := false }, kinds := [], alts := [], laidByText := true, laidKinds := [.data, .pinned], laidTests := true, laidLooks := .later }
def ChooseTargetsUptoCardSaid : Prop := Claim7.holds Tryz.pinned (.plain (OpenSpec.upto chooseTargetsSpec)) chooseTargetsUptoCard

/-- THE SECOND FORM's CARD OF 'cellarerlaw17.ChooseRight'. -/
def chooseRightUptoCard : Claim7 := { stood := { row := chooseRightUptoRow, standIns := [], harness := (true, "504d1079e63f9568d699ae5c8abd13f255e9d877b0564964f5e4900660014dc8"), looks := false }, kinds := [], alts := [], laidByText := true, laidKinds := [.data, .pinned], laidTests := true, laidLooks := .later }
def ChooseRightUptoCardSaid : Prop := Claim7.holds Tryz.pinned (.plain (OpenSpec.upto chooseRightSpec)) chooseRightUptoCard

/-- THE SECOND FORM's CARD OF 'cellarerlaw17.ChooseStays'. -/
def chooseStaysUptoCard : Claim7 := { stood := { row := chooseStaysUptoRow, standIns := [], harness := (true, "504d1079e63f9568d699ae5c8abd13f255e9d877b0564964f5e4900660014dc8"), looks := false }, kinds := [], alts := [], laidByText := true, laidKinds := [.data, .pinned], laidTests := true, laidLooks := .later }
def ChooseStaysUptoCardSaid : Prop := Claim7.holds Tryz.pinned (.plain (OpenSpec.upto chooseStaysSpec)) chooseStaysUptoCard
end Rows
end Go.Proofs.YtgnojlbihhnphaaGreatDoor
