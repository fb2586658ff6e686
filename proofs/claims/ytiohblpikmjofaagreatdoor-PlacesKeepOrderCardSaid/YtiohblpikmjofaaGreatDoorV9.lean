/- Part 9 of a proof: texts of this work, put together. -/
import Derived.Test.YtiohblpikmjofaaGreatDoorV8
import Derived.JoinedOf
section
set_option linter.unusedVariables false
set_option linter.unusedSimpArgs false
namespace Go.S1N
open Go Go.Proofs Go.Proofs.YtiohblpikmjofaaGreatDoor
set_option maxRecDepth 100000
theorem row6_b : (Rows.placesKeepOrderRow.unfollowed == Tryz.prog.unfollowed 6) = true := by rw [row6_u]; rfl
theorem row6_c : (Rows.placesKeepOrderRow.recurses == Tryz.prog.recurses 6) = true := by unfold Program.recurses; rw [row6_u]; rfl
theorem row6_closed : joinedFacts Tryz.prog 6 Tryz.f6 Rows.placesKeepOrderSpec Rows.placesKeepOrderRow = true := by
  unfold joinedFacts
  rw [row6_a, row6_b, row6_c, row6_d, p_laid, p_maps]
  kernel_rfl
end Go.S1N
end
