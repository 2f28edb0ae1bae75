/-
  DERIVED. GIVEN WITH THE SEED: THE CARDS: each row of YtbiajjcolfhioaaDoorRows.lean that lists a variable, with what it lists TIED to the program's text (the seventh form; the later family's looks); each row that meets fmt, with fmt's text TOLD by the authors' own Lean function (tested against real Go, not proved from fmt's source: count such statements apart). THE CARD IS WHAT COUNTS. Prove the row's statement (the work); the ties are given (YtbiajjcolfhioaaDoorTie.lean); close each card by the builder's one call (the guide's Derived/Test/ToyasCard.lean, 'card_holds'). Laid BY PROGRAM, IN A SANDBOX (cutbox-door.mjs). By AI agents, Wed Nov 11 2026. No macro, syntax, notation, axiom, sorry.
-/
import Derived.Test.YtbiajjcolfhioaaDoorRows
import GoSem.ClaimSeven
namespace Go.Proofs.YtbiajjcolfhioaaDoor
namespace Rows

/-- THE TIED CARD OF 'cellarerlaw30.ChoiceParses'. -/
def choiceParsesCard : Claim7 := { stood := { row := choiceParsesRow, standIns := [], harness := (true, "32b3392f39b25723ba5be14e1c52d394679365a52054ad9425115b3ff48fb63f"), looks := false }, kinds := [], alts := [], laidByText := true, laidKinds := [.data, .pinned], laidTests := true, laidLooks := .later }
def ChoiceParsesCardSaid : Prop := Claim7.holds Tryd.pinned (.plain (OpenSpec.ofChange choiceParsesSpec)) choiceParsesCard

/-- THE TIED CARD OF 'cellarerlaw30.ChoicePrints'. -/
def choicePrintsCard : Claim7 := { stood := { row := choicePrintsRow, standIns := [], harness := (true, "32b3392f39b25723ba5be14e1c52d394679365a52054ad9425115b3ff48fb63f"), looks := false }, kinds := [], alts := [], laidByText := true, laidKinds := [.data, .pinned], laidTests := true, laidLooks := .later }
def ChoicePrintsCardSaid : Prop := Claim7.holds Tryd.pinned (.plain (OpenSpec.ofChange choicePrintsSpec)) choicePrintsCard

/-- THE TIED CARD OF 'cellarerlaw30.ChoiceDisplays'. -/
def choiceDisplaysCard : Claim7 := { stood := { row := choiceDisplaysRow, standIns := [], harness := (true, "32b3392f39b25723ba5be14e1c52d394679365a52054ad9425115b3ff48fb63f"), looks := false }, kinds := [], alts := [], laidByText := true, laidKinds := [.data, .pinned], laidTests := true, laidLooks := .later }
def ChoiceDisplaysCardSaid : Prop := Claim7.holds Tryd.pinned (.plain (OpenSpec.ofChange choiceDisplaysSpec)) choiceDisplaysCard

/-- THE TIED CARD OF 'cellarerlaw11.AltsBest'. -/
def altsBestCard : Claim7 := { stood := { row := altsBestRow, standIns := [], harness := (true, "32b3392f39b25723ba5be14e1c52d394679365a52054ad9425115b3ff48fb63f"), looks := false }, kinds := [], alts := [], laidByText := true, laidKinds := [.data, .pinned], laidTests := true, laidLooks := .later }
def AltsBestCardSaid : Prop := Claim7.holds Tryd.pinned (.plain (OpenSpec.ofChange altsBestSpec)) altsBestCard

/-- THE TIED CARD OF 'cellarerlaw11.AltsChecks'. -/
def altsChecksCard : Claim7 := { stood := { row := altsChecksRow, standIns := [], harness := (true, "32b3392f39b25723ba5be14e1c52d394679365a52054ad9425115b3ff48fb63f"), looks := false }, kinds := [], alts := [], laidByText := true, laidKinds := [.data, .pinned], laidTests := true, laidLooks := .later }
def AltsChecksCardSaid : Prop := Claim7.holds Tryd.pinned (.plain (OpenSpec.ofChange altsChecksSpec)) altsChecksCard

/-- THE SECOND FORM's CARD OF 'cellarerlaw30.ChoiceParses'. -/
def choiceParsesUptoCard : Claim7 := { stood := { row := choiceParsesUptoRow, standIns := [], harness := (true, "32b3392f39b25723ba5be14e1c52d394679365a52054ad9425115b3ff48fb63f"), looks := false }, kinds := [], alts := [], laidByText := true, laidKinds := [.data, .pinned], laidTests := true, laidLooks := .later }
def ChoiceParsesUptoCardSaid : Prop := Claim7.holds Tryd.pinned (.plain (OpenSpec.upto choiceParsesSpec)) choiceParsesUptoCard

/-- THE SECOND FORM's CARD OF 'cellarerlaw30.ChoicePrints'. -/
def choicePrintsUptoCard : Claim7 := { stood := { row := choicePrintsUptoRow, standIns := [], harness := (true, "32b3392f39b25723ba5be14e1c52d394679365a52054ad9425115b3ff48fb63f"), looks := false }, kinds := [], alts := [], laidByText := true, laidKinds := [.data, .pinned], laidTests := true, laidLooks := .later }
def ChoicePrintsUptoCardSaid : Prop := Claim7.holds Tryd.pinned (.plain (OpenSpec.upto choicePrintsSpec)) choicePrintsUptoCard

/-- THE SECOND FORM's CARD OF 'cellarerlaw30.ChoiceDisplays'. -/
def choiceDisplaysUptoCard : Claim7 := { stood := { row := choiceDisplaysUptoRow, standIns := [], harness := (true, "32b3392f39b25723ba5be14e1c52d394679365a52054ad9425115b3ff48fb63f"), looks := false }, kinds := [], alts := [], laidByText := true, laidKinds := [.data, .pinned], laidTests := true, laidLooks := .later }
def ChoiceDisplaysUptoCardSaid : Prop := Claim7.holds Tryd.pinned (.plain (OpenSpec.upto choiceDisplaysSpec)) choiceDisplaysUptoCard

/-- THE SECOND FORM's CARD OF 'cellarerlaw11.AltsBest'. -/
def altsBestUptoCard : Claim7 := { stood := { row := altsBestUptoRow, standIns := [], harness := (true, "32b3392f39b25723ba5be14e1c52d394679365a52054ad9425115b3ff48fb63f"), looks := false }, kinds := [], alts := [], laidByText := true, laidKinds := [.data, .pinned], laidTests := true, laidLooks := .later }
def AltsBestUptoCardSaid : Prop := Claim7.holds Tryd.pinned (.plain (OpenSpec.upto altsBestSpec)) altsBestUptoCard

/-- THE SECOND FORM's CARD OF 'cellarerlaw11.AltsChecks'. -/
def altsChecksUptoCard : Claim7 := { stood := { row := altsChecksUptoRow, standIns := [], harness := (true, "32b3392f39b25723ba5be14e1c52d394679365a52054ad9425115b3ff48fb63f"), looks := false }, kinds := [], alts := [], laidByText := true, laidKinds := [.data, .pinned], laidTests := true, laidLooks := .later }
def AltsChecksUptoCardSaid : Prop := Claim7.holds Tryd.pinned (.plain (OpenSpec.upto altsChecksSpec)) altsChecksUptoCard
end Rows
end Go.Proofs.YtbiajjcolfhioaaDoor
