/- PlacesMoved answers true for every slice of whole numbers, and leaves it as it was: no condition. -/
import Derived.Test.YtnlepbdahjmeoaaW4
section
set_option linter.unusedVariables false
set_option linter.unusedSimpArgs false
namespace Go.Proofs.Ytnlepbdahjmeoaa
open Go Go.Am Go.Proofs Go.S1 Go.S1N
set_option maxRecDepth 100000
set_option linter.unusedVariables false

theorem placesMoved_over : Rows.placesMovedRow.holds Try.pinned (OpenSpec.ofChange Rows.placesMovedSpec) := by
  obtain ⟨c, hc, _⟩ := Option.map_eq_some_iff.1 l3
  exact OpenClaim.holds_of_wide 3 Try.f3 rfl rfl rfl rfl rfl rfl rfl ⟨rfl, rfl, rfl, rfl, rfl⟩ rfl rfl rfl rfl rfl (by kernel_rfl) Try.func3 (by kernel_rfl)
    (of_decide_eq_true (by kernel_rfl)) (by unfold Func.isWrapper; first | (rw [if_pos (by decide +kernel)]; kernel_rfl) | (rw [if_neg (by decide +kernel)]; exact ⟨rfl, rfl⟩))
    (fun os started H enc _ => placesMoved_lifted (fun hr hl => law_calls Try.func3 hc nm3 placesMoved_ok hr hl) os started H enc)

/-- PlacesMoved, for every input. -/
theorem placesMoved_holds : Rows.PlacesMovedSaid := placesMoved_over
end Go.Proofs.Ytnlepbdahjmeoaa
end
