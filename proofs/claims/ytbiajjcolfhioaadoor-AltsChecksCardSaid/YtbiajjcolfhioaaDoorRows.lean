/-
  NARROWER THAN 'FOR EVERY INPUT', by the rows' own cells (each row's printed sentence says how): ChoiceParses: laid · ChoicePrints: laid · ChoiceDisplays: laid · AltsBest: laid · AltsChecks: laid.
  DERIVED. THE GIVEN ROWS OF THIS SEAT. 5 by the template 'for every input the law returns true; each argument reads behind the call as it read before'; 0 by the template 'total and deterministic' (their statements: YtbiajjcolfhioaaDoorTotals.lean).
  GIVEN WITH THE SEED: the statements are not yours to turn. If you find one false, say at which input.
  Laid BY PROGRAM, IN A SANDBOX (cutbox-rows.mjs): the forced cells as the released guide's own fill.sh prints them over the translation ee055e99dec73ee8… (all of the seat's roots in one cut). By AI agents, Wed Nov 11 2026. No macro, syntax, notation, axiom, sorry.
-/
import Derived.Test.YtbiajjcolfhioaaDoorChecked
import GoSem.PinnedTables
import GoSem.Claim
import GoSem.ClaimJoined
import GoSem.ClaimMapViews
import Derived.JoinedTies
import Derived.KernelRfl
namespace Go.Proofs.YtbiajjcolfhioaaDoor
/- THE CELL 'sum', in the pinned program and in every row, IS THE sha256 OF THE DUMP (.gsa) THAT YtbiajjcolfhioaaDoorProg.lean LOADS. Nothing in Lean hashes anything: it is a label: what it is worth is what the hold of that sum in a sandbox is worth. -/
noncomputable def Tryd.pinned : Pinned := { name := "ytbiajjcolfhioaadoor", sum := "ee055e99dec73ee80283ed0a68445638b65812b38f9c628e3914e57718fecdc4", checked := Tryd.checked }
namespace Rows
def none {H : Type} : Left H := { results := [], args := [] }

/- WHAT THE LISTED PACKAGE-LEVEL VARIABLES READ AS WHEN THE CALL BEGINS. Each datum BY PROGRAM (the guide's laid-datum.mjs) off the statement by which the dump's own 'gosem.cut.vars' lays the variable. In a bare row this is a premise. The card (YtbiajjcolfhioaaDoorCards.lean) ties it to the program's text. -/
def laid_unicode_utf8_acceptRanges {H : Type} : DataW H := .agg [.agg [.lit (.int .u8 128), .lit (.int .u8 191)], .agg [.lit (.int .u8 160), .lit (.int .u8 191)], .agg [.lit (.int .u8 128), .lit (.int .u8 159)], .agg [.lit (.int .u8 144), .lit (.int .u8 191)], .agg [.lit (.int .u8 128), .lit (.int .u8 143)], .agg [.lit (.int .u8 0), .lit (.int .u8 0)], .agg [.lit (.int .u8 0), .lit (.int .u8 0)], .agg [.lit (.int .u8 0), .lit (.int .u8 0)], .agg [.lit (.int .u8 0), .lit (.int .u8 0)], .agg [.lit (.int .u8 0), .lit (.int .u8 0)], .agg [.lit (.int .u8 0), .lit (.int .u8 0)], .agg [.lit (.int .u8 0), .lit (.int .u8 0)], .agg [.lit (.int .u8 0), .lit (.int .u8 0)], .agg [.lit (.int .u8 0), .lit (.int .u8 0)], .agg [.lit (.int .u8 0), .lit (.int .u8 0)], .agg [.lit (.int .u8 0), .lit (.int .u8 0)]]
/-- One of Go's own tables, pinned by name: the form's constant. -/
def laid_unicode_utf8_first : DataW Unit := Go.Pinned.utf8First

/-- 'cellarerlaw30.ChoiceParses': WHATEVER THE INPUT: true; the input reads as it did. -/
def choiceParsesSpec : ChangeSpec := { name := "choiceParses", fn := fun _ => fun
  | [d] => { results := [.lit (.bool true)], args := [d] }
  | _ => none }
def choiceParsesRow : OpenClaim := { program := "ytbiajjcolfhioaadoor", sum := "ee055e99dec73ee80283ed0a68445638b65812b38f9c628e3914e57718fecdc4", func := "cellarer/cellarerlaw30.ChoiceParses", spec := "choiceParses", inPlace := ["internal/bytealg.CountString", "internal/bytealg.IndexByteString", "internal/bytealg.IndexString", "internal/abi.NoEscape", "internal/bytealg.MakeNoZero"], unfollowed := true, recurses := true, named := ["unicode/utf8.first", "unicode/utf8.acceptRanges", "internal/bytealg.MaxLen"], plainKeys := false, apart := false, laid := [("unicode/utf8.acceptRanges", laid_unicode_utf8_acceptRanges), ("unicode/utf8.first", laid_unicode_utf8_first)] }
def ChoiceParsesSaid : Prop := choiceParsesRow.holds Tryd.pinned (OpenSpec.ofChange choiceParsesSpec)

/-- ITS FALSE NEIGHBOUR: 'it returns false'. Refute it at one input. -/
def choiceParsesWrong : ChangeSpec := { name := "choiceParses", fn := fun _ => fun
  | [d] => { results := [.lit (.bool false)], args := [d] }
  | _ => none }
def ChoiceParsesWrongFalsely : Prop := choiceParsesRow.holds Tryd.pinned (OpenSpec.ofChange choiceParsesWrong)

/-- 'cellarerlaw30.ChoicePrints': WHATEVER THE INPUT: true; the input reads as it did. -/
def choicePrintsSpec : ChangeSpec := { name := "choicePrints", fn := fun _ => fun
  | [d1, d2] => { results := [.lit (.bool true)], args := [d1, d2] }
  | _ => none }
def choicePrintsRow : OpenClaim := { program := "ytbiajjcolfhioaadoor", sum := "ee055e99dec73ee80283ed0a68445638b65812b38f9c628e3914e57718fecdc4", func := "cellarer/cellarerlaw30.ChoicePrints", spec := "choicePrints", inPlace := ["internal/bytealg.CountString", "internal/bytealg.IndexByteString", "internal/bytealg.IndexString", "internal/abi.NoEscape", "internal/bytealg.MakeNoZero"], unfollowed := true, recurses := true, named := ["unicode/utf8.first", "unicode/utf8.acceptRanges", "internal/bytealg.MaxLen"], plainKeys := false, apart := false, laid := [("unicode/utf8.acceptRanges", laid_unicode_utf8_acceptRanges), ("unicode/utf8.first", laid_unicode_utf8_first)] }
def ChoicePrintsSaid : Prop := choicePrintsRow.holds Tryd.pinned (OpenSpec.ofChange choicePrintsSpec)

/-- ITS FALSE NEIGHBOUR: 'it returns false'. Refute it at one input. -/
def choicePrintsWrong : ChangeSpec := { name := "choicePrints", fn := fun _ => fun
  | [d1, d2] => { results := [.lit (.bool false)], args := [d1, d2] }
  | _ => none }
def ChoicePrintsWrongFalsely : Prop := choicePrintsRow.holds Tryd.pinned (OpenSpec.ofChange choicePrintsWrong)

/-- 'cellarerlaw30.ChoiceDisplays': WHATEVER THE INPUT: true; the input reads as it did. -/
def choiceDisplaysSpec : ChangeSpec := { name := "choiceDisplays", fn := fun _ => fun
  | [d] => { results := [.lit (.bool true)], args := [d] }
  | _ => none }
def choiceDisplaysRow : OpenClaim := { program := "ytbiajjcolfhioaadoor", sum := "ee055e99dec73ee80283ed0a68445638b65812b38f9c628e3914e57718fecdc4", func := "cellarer/cellarerlaw30.ChoiceDisplays", spec := "choiceDisplays", inPlace := ["internal/bytealg.CountString", "internal/bytealg.IndexByteString", "internal/bytealg.IndexString", "internal/abi.NoEscape", "internal/bytealg.MakeNoZero"], unfollowed := true, recurses := true, named := ["unicode/utf8.first", "unicode/utf8.acceptRanges", "internal/bytealg.MaxLen"], plainKeys := false, apart := false, laid := [("unicode/utf8.acceptRanges", laid_unicode_utf8_acceptRanges), ("unicode/utf8.first", laid_unicode_utf8_first)] }
def ChoiceDisplaysSaid : Prop := choiceDisplaysRow.holds Tryd.pinned (OpenSpec.ofChange choiceDisplaysSpec)

/-- ITS FALSE NEIGHBOUR: 'it returns false'. Refute it at one input. -/
def choiceDisplaysWrong : ChangeSpec := { name := "choiceDisplays", fn := fun _ => fun
  | [d] => { results := [.lit (.bool false)], args := [d] }
  | _ => none }
def ChoiceDisplaysWrongFalsely : Prop := choiceDisplaysRow.holds Tryd.pinned (OpenSpec.ofChange choiceDisplaysWrong)

/-- 'cellarerlaw11.AltsBest': WHATEVER THE INPUT: true; the input reads as it did. -/
def altsBestSpec : ChangeSpec := { name := "altsBest", fn := fun _ => fun
  | [d] => { results := [.lit (.bool true)], args := [d] }
  | _ => none }
def altsBestRow : OpenClaim := { program := "ytbiajjcolfhioaadoor", sum := "ee055e99dec73ee80283ed0a68445638b65812b38f9c628e3914e57718fecdc4", func := "cellarer/cellarerlaw11.AltsBest", spec := "altsBest", inPlace := ["internal/bytealg.CountString", "internal/bytealg.IndexByteString", "internal/bytealg.IndexString", "internal/abi.NoEscape", "internal/bytealg.MakeNoZero"], unfollowed := true, recurses := true, named := ["unicode/utf8.first", "unicode/utf8.acceptRanges", "internal/bytealg.MaxLen"], plainKeys := false, apart := false, laid := [("unicode/utf8.acceptRanges", laid_unicode_utf8_acceptRanges), ("unicode/utf8.first", laid_unicode_utf8_first)] }
def AltsBestSaid : Prop := altsBestRow.holds Tryd.pinned (OpenSpec.ofChange altsBestSpec)

/-- ITS FALSE NEIGHBOUR: 'it returns false'. Refute it at one input. -/
def altsBestWrong : ChangeSpec := { name := "altsBest", fn := fun _ => fun
  | [d] => { results := [.lit (.bool false)], args := [d] }
  | _ => none }
def AltsBestWrongFalsely : Prop := altsBestRow.holds Tryd.pinned (OpenSpec.ofChange altsBestWrong)

/-- 'cellarerlaw11.AltsChecks': WHATEVER THE INPUT: true; the input reads as it did. -/
def altsChecksSpec : ChangeSpec := { name := "altsChecks", fn := fun _ => fun
  | [d] => { results := [.lit (.bool true)], args := [d] }
  | _ => none }
def altsChecksRow : OpenClaim := { program := "ytbiajjcolfhioaadoor", sum := "ee055e99dec73ee80283ed0a68445638b65812b38f9c628e3914e57718fecdc4", func := "cellarer/cellarerlaw11.AltsChecks", spec := "altsChecks", inPlace := ["internal/bytealg.CountString", "internal/bytealg.IndexByteString", "internal/bytealg.IndexString", "internal/abi.NoEscape", "internal/bytealg.MakeNoZero"], unfollowed := true, recurses := true, named := ["unicode/utf8.first", "unicode/utf8.acceptRanges", "internal/bytealg.MaxLen"], plainKeys := false, apart := false, laid := [("unicode/utf8.acceptRanges", laid_unicode_utf8_acceptRanges), ("unicode/utf8.first", laid_unicode_utf8_first)] }
def AltsChecksSaid : Prop := altsChecksRow.holds Tryd.pinned (OpenSpec.ofChange altsChecksSpec)

/-- ITS FALSE NEIGHBOUR: 'it returns false'. Refute it at one input. -/
def altsChecksWrong : ChangeSpec := { name := "altsChecks", fn := fun _ => fun
  | [d] => { results := [.lit (.bool false)], args := [d] }
  | _ => none }
def AltsChecksWrongFalsely : Prop := altsChecksRow.holds Tryd.pinned (OpenSpec.ofChange altsChecksWrong)

/- THE SECOND FORM. 'bulk': how many values and letters a reading holds, each counted each time it is reached (what is shared counts as often as it is met; a slice's spare places count too). A statement '..UptoSaid' is the law's where the arguments, and the package variables that the reading takes, are together of bulk at most 1048576: NARROWER than '..Said'. Prove '..Said' where nothing that the law and all that it calls make is longer than what came in: it says more and counts as full. Else prove '..UptoSaid'. A law counts once. -/
mutual
def uptoBulk {H : Type} : DataW H → Nat
  | .lit (.string bytes) => bytes.length + 1
  | .lit _ => 1
  | .nil => 1
  | .ptr d => uptoBulk d + 1
  | .slice elems spare => uptoBulkAll elems + uptoBulkAll spare + 1
  | .agg parts => uptoBulkAll parts + 1
  | .iface _ d => uptoBulk d + 1
  | .map entries => uptoBulkEntries entries + 1
  | .held _ => 1
def uptoBulkAll {H : Type} : List (DataW H) → Nat
  | [] => 0
  | d :: r => uptoBulk d + uptoBulkAll r
def uptoBulkEntries {H : Type} : List (Lit × DataW H) → Nat
  | [] => 0
  | x :: r => uptoBulkEntry x + uptoBulkEntries r
def uptoBulkEntry {H : Type} : Lit × DataW H → Nat
  | (.string bytes, d) => bytes.length + uptoBulk d + 1
  | (_, d) => uptoBulk d + 1
 end
def uptoSmall : (H : Type) → List (DataW H) → Bool := fun _ ds => decide (uptoBulkAll ds ≤ 1048576)
def OpenSpec.upto (s : _root_.Go.ChangeSpec) : _root_.Go.OpenSpec := { _root_.Go.OpenSpec.ofChange s with cond := some uptoSmall }

/-- 'cellarerlaw30.ChoiceParses', WHERE WHAT IT READS IS OF BULK AT MOST 1048576: true; the input reads as it did. -/
def choiceParsesUptoRow : OpenClaim := { program := "ytbiajjcolfhioaadoor", sum := "ee055e99dec73ee80283ed0a68445638b65812b38f9c628e3914e57718fecdc4", func := "cellarer/cellarerlaw30.ChoiceParses", spec := "choiceParses", inPlace := ["internal/bytealg.CountString", "internal/bytealg.IndexByteString", "internal/bytealg.IndexString", "internal/abi.NoEscape", "internal/bytealg.MakeNoZero"], unfollowed := true, recurses := true, named := ["unicode/utf8.first", "unicode/utf8.acceptRanges", "internal/bytealg.MaxLen"], plainKeys := false, apart := false, laid := [("unicode/utf8.acceptRanges", laid_unicode_utf8_acceptRanges), ("unicode/utf8.first", laid_unicode_utf8_first)], narrowed := true }
def ChoiceParsesUptoSaid : Prop := choiceParsesUptoRow.holds Tryd.pinned (OpenSpec.upto choiceParsesSpec)

/-- 'cellarerlaw30.ChoicePrints', WHERE WHAT IT READS IS OF BULK AT MOST 1048576: true; the input reads as it did. -/
def choicePrintsUptoRow : OpenClaim := { program := "ytbiajjcolfhioaadoor", sum := "ee055e99dec73ee80283ed0a68445638b65812b38f9c628e3914e57718fecdc4", func := "cellarer/cellarerlaw30.ChoicePrints", spec := "choicePrints", inPlace := ["internal/bytealg.CountString", "internal/bytealg.IndexByteString", "internal/bytealg.IndexString", "internal/abi.NoEscape", "internal/bytealg.MakeNoZero"], unfollowed := true, recurses := true, named := ["unicode/utf8.first", "unicode/utf8.acceptRanges", "internal/bytealg.MaxLen"], plainKeys := false, apart := false, laid := [("unicode/utf8.acceptRanges", laid_unicode_utf8_acceptRanges), ("unicode/utf8.first", laid_unicode_utf8_first)], narrowed := true }
def ChoicePrintsUptoSaid : Prop := choicePrintsUptoRow.holds Tryd.pinned (OpenSpec.upto choicePrintsSpec)

/-- 'cellarerlaw30.ChoiceDisplays', WHERE WHAT IT READS IS OF BULK AT MOST 1048576: true; the input reads as it did. -/
def choiceDisplaysUptoRow : OpenClaim := { program := "ytbiajjcolfhioaadoor", sum := "ee055e99dec73ee80283ed0a68445638b65812b38f9c628e3914e57718fecdc4", func := "cellarer/cellarerlaw30.ChoiceDisplays", spec := "choiceDisplays", inPlace := ["internal/bytealg.CountString", "internal/bytealg.IndexByteString", "internal/bytealg.IndexString", "internal/abi.NoEscape", "internal/bytealg.MakeNoZero"], unfollowed := true, recurses := true, named := ["unicode/utf8.first", "unicode/utf8.acceptRanges", "internal/bytealg.MaxLen"], plainKeys := false, apart := false, laid := [("unicode/utf8.acceptRanges", laid_unicode_utf8_acceptRanges), ("unicode/utf8.first", laid_unicode_utf8_first)], narrowed := true }
def ChoiceDisplaysUptoSaid : Prop := choiceDisplaysUptoRow.holds Tryd.pinned (OpenSpec.upto choiceDisplaysSpec)

/-- 'cellarerlaw11.AltsBest', WHERE WHAT IT READS IS OF BULK AT MOST 1048576: true; the input reads as it did. -/
def altsBestUptoRow : OpenClaim := { program := "ytbiajjcolfhioaadoor", sum := "ee055e99dec73ee80283ed0a68445638b65812b38f9c628e3914e57718fecdc4", func := "cellarer/cellarerlaw11.AltsBest", spec := "altsBest", inPlace := ["internal/bytealg.CountString", "internal/bytealg.IndexByteString", "internal/bytealg.IndexString", "internal/abi.NoEscape", "internal/bytealg.MakeNoZero"], unfollowed := true, recurses := true, named := ["unicode/utf8.first", "unicode/utf8.acceptRanges", "internal/bytealg.MaxLen"], plainKeys := false, apart := false, laid := [("unicode/utf8.acceptRanges", laid_unicode_utf8_acceptRanges), ("unicode/utf8.first", laid_unicode_utf8_first)], narrowed := true }
def AltsBestUptoSaid : Prop := altsBestUptoRow.holds Tryd.pinned (OpenSpec.upto altsBestSpec)

/-- 'cellarerlaw11.AltsChecks', WHERE WHAT IT READS IS OF BULK AT MOST 1048576: true; the input reads as it did. -/
def altsChecksUptoRow : OpenClaim := { program := "ytbiajjcolfhioaadoor", sum := "ee055e99dec73ee80283ed0a68445638b65812b38f9c628e3914e57718fecdc4", func := "cellarer/cellarerlaw11.AltsChecks", spec := "altsChecks", inPlace := ["internal/bytealg.CountString", "internal/bytealg.IndexByteString", "internal/bytealg.IndexString", "internal/abi.NoEscape", "internal/bytealg.MakeNoZero"], unfollowed := true, recurses := true, named := ["unicode/utf8.first", "unicode/utf8.acceptRanges", "internal/bytealg.MaxLen"], plainKeys := false, apart := false, laid := [("unicode/utf8.acceptRanges", laid_unicode_utf8_acceptRanges), ("unicode/utf8.first", laid_unicode_utf8_first)], narrowed := true }
def AltsChecksUptoSaid : Prop := altsChecksUptoRow.holds Tryd.pinned (OpenSpec.upto altsChecksSpec)

end Rows
end Go.Proofs.YtbiajjcolfhioaaDoor
