/- Part 9 of a proof: texts of this work, put together. -/
import Derived.Test.YtinoecojbflpfaaGreatDoorV8
import Derived.JoinedOf
set_option linter.unusedVariables false
set_option linter.unusedSimpArgs false
section
namespace Go.S1N
open Go Go.Proofs Go.Proofs.YtinoecojbflpfaaGreatDoor
set_option maxRecDepth 100000
theorem row3_b : (Rows.textsDifferRow.unfollowed == Tryz.prog.unfollowed 3) = true := by rw [row3_u]; rfl
theorem row3_c : (Rows.textsDifferRow.recurses == Tryz.prog.recurses 3) = true := by unfold Program.recurses; rw [row3_u]; rfl
theorem row3_closed : joinedFacts Tryz.prog 3 Tryz.f3 Rows.textsDifferSpec Rows.textsDifferRow = true := by
  unfold joinedFacts
  rw [row3_a, row3_b, row3_c, row3_d, p_laid, p_maps]
  kernel_rfl
end Go.S1N
end
