/- Part 5 of a proof: texts of this work, put together. -/
import Derived.Test.YtiohblpikmjofaaGreatDoorV4
import Derived.JoinedOf
section
set_option linter.unusedVariables false
set_option linter.unusedSimpArgs false
namespace Go.S1N
open Go Go.Proofs Go.Proofs.YtiohblpikmjofaaGreatDoor
set_option maxRecDepth 100000
theorem row6_a : (Rows.placesKeepOrderRow.inPlace == Tryz.prog.inPlace 6) = true := by unfold Program.inPlace; rw [clos6]; kernel_rfl
end Go.S1N
end
