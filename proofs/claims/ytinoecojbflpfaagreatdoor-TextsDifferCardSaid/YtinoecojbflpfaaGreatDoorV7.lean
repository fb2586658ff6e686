/- Part 7 of a proof: texts of this work, put together. -/
import Derived.Test.YtinoecojbflpfaaGreatDoorV6
import Derived.JoinedOf
set_option linter.unusedVariables false
set_option linter.unusedSimpArgs false
section
namespace Go.S1N
open Go Go.Proofs Go.Proofs.YtinoecojbflpfaaGreatDoor
set_option maxRecDepth 100000
theorem p_laid : laidOutB Tryz.prog = true := by kernel_rfl
end Go.S1N
end
