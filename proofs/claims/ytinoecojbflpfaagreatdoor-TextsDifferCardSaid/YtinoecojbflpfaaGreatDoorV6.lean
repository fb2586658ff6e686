/- Part 6 of a proof: texts of this work, put together. -/
import Derived.Test.YtinoecojbflpfaaGreatDoorV5
import Derived.JoinedOf
set_option linter.unusedVariables false
set_option linter.unusedSimpArgs false
section
namespace Go.S1N
open Go Go.Proofs Go.Proofs.YtinoecojbflpfaaGreatDoor
set_option maxRecDepth 100000
theorem row3_d : (Rows.textsDifferRow.named == Tryz.prog.varsNamed 3) = true := by unfold Program.varsNamed; rw [clos3]; kernel_rfl
end Go.S1N
end
