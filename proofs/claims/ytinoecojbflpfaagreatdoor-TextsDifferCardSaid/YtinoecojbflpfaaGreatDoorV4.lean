/- Part 4 of a proof: texts of this work, put together. -/
import Derived.Test.YtinoecojbflpfaaGreatDoorV3
import Derived.JoinedOf
set_option linter.unusedVariables false
set_option linter.unusedSimpArgs false
section
namespace Go.S1N
open Go Go.Proofs Go.Proofs.YtinoecojbflpfaaGreatDoor
set_option maxRecDepth 100000
theorem clos3 : Tryz.prog.closure 3 = [3, 9, 33, 75, 135, 39, 10, 11, 13, 18, 50, 76, 89, 12, 77, 136, 78, 137, 183, 79, 14, 80, 81, 138, 184, 82, 83, 84, 139, 15, 85, 87, 140, 90, 142, 187, 221, 222, 246, 245, 247, 223, 224, 248, 249, 263, 213, 141, 185, 186, 86, 88, 16, 91, 143, 17, 19, 20, 92, 94, 146, 194, 229, 230, 231, 250, 93, 144, 188, 225, 232, 189, 145, 190, 226, 191, 193, 192, 227, 228, 21, 95, 147, 195, 96, 148, 149, 196, 197, 23, 97, 150, 22, 24, 98, 151, 198, 233, 152] := (closure_fast _ _).trans (by kernel_rfl)
theorem row3_u : Tryz.prog.unfollowed 3 = true := by unfold Program.unfollowed; rw [clos3]; kernel_rfl
end Go.S1N
end
