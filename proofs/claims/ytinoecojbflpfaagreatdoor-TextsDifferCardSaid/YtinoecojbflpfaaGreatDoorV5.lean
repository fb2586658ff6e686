/- Part 5 of a proof: texts of this work, put together. -/
import Derived.Test.YtinoecojbflpfaaGreatDoorV4
import Derived.JoinedOf
set_option linter.unusedVariables false
set_option linter.unusedSimpArgs false
section
namespace Go.S1N
open Go Go.Proofs Go.Proofs.YtinoecojbflpfaaGreatDoor
set_option maxRecDepth 100000
theorem row3_a : (Rows.textsDifferRow.inPlace == Tryz.prog.inPlace 3) = true := by unfold Program.inPlace; rw [clos3]; kernel_rfl
end Go.S1N
end
