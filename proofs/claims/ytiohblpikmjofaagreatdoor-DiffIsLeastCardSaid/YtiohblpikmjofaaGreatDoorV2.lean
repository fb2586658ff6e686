/- Part 2 of a proof: texts of this work, put together. -/
import Derived.Test.YtiohblpikmjofaaGreatDoorV1
set_option linter.unusedVariables false
set_option linter.unusedSimpArgs false
section
namespace Go.S1N
open Go Go.Am Go.Proofs Go.S1
set_option maxRecDepth 1000000
theorem t_ready : (funT tab (fun _ => {}) ov 600 40 15 [] .empty).map Prod.fst = some (.bool true) := by kernel_rfl
theorem ready_ok (s : AHeap) : ACall Tryz.prog 15 [] s fun v t => v = .bool true ∧ t = s := by
  obtain ⟨⟨v, t⟩, h1, h2⟩ := Option.map_eq_some_iff.1 t_ready
  refine ACall.closed ((funT_ok tab_ok mixed ov_ok 600 40 _ [] .empty v t h1).mono ?_) s
  rintro v' t' ⟨rfl, _⟩
  exact h2
end Go.S1N
end
