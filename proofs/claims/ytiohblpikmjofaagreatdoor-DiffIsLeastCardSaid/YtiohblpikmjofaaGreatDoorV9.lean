/- Part 9 of a proof: texts of this work, put together. -/
import Derived.Test.YtiohblpikmjofaaGreatDoorV8
import Derived.JoinedOf
set_option linter.unusedVariables false
set_option linter.unusedSimpArgs false
section
namespace Go.S1N
open Go Go.Proofs Go.Proofs.YtiohblpikmjofaaGreatDoor
set_option maxRecDepth 100000
theorem row8_b : (Rows.diffIsLeastRow.unfollowed == Tryz.prog.unfollowed 8) = true := by rw [row8_u]; rfl
theorem row8_c : (Rows.diffIsLeastRow.recurses == Tryz.prog.recurses 8) = true := by unfold Program.recurses; rw [row8_u]; rfl
theorem row8_closed : joinedFacts Tryz.prog 8 Tryz.f8 Rows.diffIsLeastSpec Rows.diffIsLeastRow = true := by
  unfold joinedFacts
  rw [row8_a, row8_b, row8_c, row8_d, p_laid, p_maps]
  kernel_rfl
end Go.S1N
end
