/- Part 10 of a proof: texts of this work, put together. -/
import Derived.Test.YtiohblpikmjofaaGreatDoorV9
import Derived.JoinedOf
set_option linter.unusedVariables false
set_option linter.unusedSimpArgs false
section
namespace Go.S1N
open Go Go.Proofs Go.Proofs.YtiohblpikmjofaaGreatDoor
set_option maxRecDepth 100000
theorem row7_b : (Rows.bothOrdersMeetRow.unfollowed == Tryz.prog.unfollowed 7) = true := by rw [row7_u]; rfl
theorem row7_c : (Rows.bothOrdersMeetRow.recurses == Tryz.prog.recurses 7) = true := by unfold Program.recurses; rw [row7_u]; rfl
theorem row7_closed : joinedFacts Tryz.prog 7 Tryz.f7 Rows.bothOrdersMeetSpec Rows.bothOrdersMeetRow = true := by
  unfold joinedFacts
  rw [row7_a, row7_b, row7_c, row7_d, p_laid, p_maps]
  kernel_rfl
end Go.S1N
end
