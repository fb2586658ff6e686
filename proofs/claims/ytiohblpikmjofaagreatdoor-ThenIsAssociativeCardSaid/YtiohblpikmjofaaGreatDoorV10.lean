/- Part 10 of a proof: texts of this work, put together. -/
import Derived.Test.YtiohblpikmjofaaGreatDoorV9
import Derived.JoinedOf
section
set_option linter.unusedVariables false
set_option linter.unusedSimpArgs false
namespace Go.S1N
open Go Go.Proofs Go.Proofs.YtiohblpikmjofaaGreatDoor
set_option maxRecDepth 100000
theorem row4_b : (Rows.thenIsAssociativeRow.unfollowed == Tryz.prog.unfollowed 4) = true := by rw [row4_u]; rfl
theorem row4_c : (Rows.thenIsAssociativeRow.recurses == Tryz.prog.recurses 4) = true := by unfold Program.recurses; rw [row4_u]; rfl
theorem row4_closed : joinedFacts Tryz.prog 4 Tryz.f4 Rows.thenIsAssociativeSpec Rows.thenIsAssociativeRow = true := by
  unfold joinedFacts
  rw [row4_a, row4_b, row4_c, row4_d, p_laid, p_maps]
  kernel_rfl
end Go.S1N
end
