/- ConeOfTurns: the program's walk. -/
import Derived.Test.YtchkcjpahlimjaaTurnM
import Derived.Test.YtchkcjpahlimjaaVec2
import Derived.Test.YtchkcjpahlimjaaMkC
namespace Go.Proofs.Ytchkcjpahlimjaa
open Go.RowKit
set_option linter.unusedVariables false
set_option linter.unusedSimpArgs false

/-- the answer: a cone and whether there is one -/
def turnV (l : List Int) : (List Int × List Int) × Bool := if turnOk l then (([1, 0], tnB l l.length), true) else (([], []), false)
theorem turnV_no {l : List Int} (h : turnOk l = false) : turnV l = (([], []), false) := by unfold turnV; rw [h]; rfl
theorem turnV_yes {l : List Int} (h : turnOk l = true) : turnV l = (([1, 0], tnB l l.length), true) := by unfold turnV; rw [h]; rfl
theorem IS.at2 {w : World} {lo hi : Nat} {v : Value} {x y : Int} (h : IS w lo hi v [x, y]) : ∃ b off cap, v = .slice (some ⟨b, off, none⟩) 2 cap ∧ lo ≤ b ∧ b < hi ∧ w.cell? ⟨b, off, none⟩ = some (.int .i64 x) ∧ w.cell? ⟨b, off + 1, none⟩ = some (.int .i64 y) := by
  rcases h.cases with ⟨e, -⟩ | ⟨-, -, b, off, cap, rfl, -, -, h1, h2, h3⟩
  · cases e
  · refine ⟨b, off, cap, rfl, h1, h2, ?_, ?_⟩
    · have := h3.cell (i := 0) (by simp); rwa [Nat.add_zero] at this
    · exact h3.cell (i := 1) (by simp)

end Go.Proofs.Ytchkcjpahlimjaa
