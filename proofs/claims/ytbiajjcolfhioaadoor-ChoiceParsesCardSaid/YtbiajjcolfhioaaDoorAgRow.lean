/- AGo, part 23: from a call that is told abstractly to the row's own words. -/
import Derived.Test.YtbiajjcolfhioaaDoorAgAl
import Derived.ProofKit
import Derived.OpenShut
import Derived.Carry
import Derived.ChangeMaps5
import Derived.Deep.DeepHandedRow
import Derived.Deep.DeepLaidRun
import Derived.Lib.LaidU8
import Derived.SevenTiedAt
set_option linter.all false
namespace Go.Ag
open Go Go.RowKit

/-- All that is there when the call begins never turns. -/
def memOf (W : World) : Mem := fun b o => W.cell? ⟨b, o, none⟩
theorem ACalls.row {P : Program} {G : Nat → Option (List V)} {f : FuncId} {args : List D} {vs : Array Value} {K : D → List Ob → Prop} {W : World} (h : ACalls P G f args [] K) (hG : ∀ g cs, G g = some cs → RelRow (memOf W) g 0 cs) (hv : RelL (memOf W) (fun _ => none) args vs.toList) :
    Calls P f vs W fun e W' => ∃ v d M' μ' H', e = .returned v ∧ Below W.heap.size W W' ∧ Rel M' μ' d v ∧ K d H' := by
  have hR : R ⟨P, G, W, memOf W, fun _ => none, []⟩ (memOf W) (fun _ => none) [] W :=
    ⟨Below.refl _ _, fun _ _ _ h => h, hG, fun _ _ h => (by cases h), fun _ _ _ h => (by simp at h), fun _ _ _ _ _ _ _ h => (by simp at h), fun _ h => (by simp at h)⟩
  have := h.2 ⟨P, G, W, memOf W, fun _ => none, []⟩ rfl rfl (memOf W) (fun _ => none) W vs.toList hR hv
  rw [show vs.toList.toArray = vs by simp] at this
  refine this.mono ?_
  rintro e W' ⟨v, d, M', μ', H', h1, _, _, h4, h5, h6⟩
  exact ⟨v, d, M', μ', H', h1, h4.below, h5, h6⟩
end Go.Ag
