/- Part 6 of a proof: texts of this work, put together. -/
import Derived.Test.YtiohblpikmjofaaGreatDoorV5
import Derived.JoinedOf
set_option linter.unusedVariables false
set_option linter.unusedSimpArgs false
section
namespace Go.S1N
open Go Go.Proofs Go.Proofs.YtiohblpikmjofaaGreatDoor
set_option maxRecDepth 100000
theorem row8_d : (Rows.diffIsLeastRow.named == Tryz.prog.varsNamed 8) = true := by unfold Program.varsNamed; rw [clos8]; kernel_rfl
end Go.S1N
end
