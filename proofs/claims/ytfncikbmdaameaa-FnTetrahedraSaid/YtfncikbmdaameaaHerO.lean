/- HermiteOf: the program's walk. -/
import Derived.Test.YtfncikbmdaameaaHerA
namespace Go.Proofs.Ytfncikbmdaameaa
open Go.RowKit
set_option linter.unusedVariables false
set_option linter.unusedSimpArgs false

def hofV (M : List (List Int)) : List (List Int) × Bool := if detO M = 0 then ([], false) else if matB (herM M) then (herM M, true) else ([], false)
theorem hofV_no {M : List (List Int)} (h : detO M = 0) : hofV M = ([], false) := by unfold hofV; rw [if_pos h]
theorem hofV_no2 {M : List (List Int)} (h : ¬ detO M = 0) (h2 : matB (herM M) = false) : hofV M = ([], false) := by unfold hofV; rw [if_neg h, h2]; rfl
theorem hofV_yes {M : List (List Int)} (h : ¬ detO M = 0) (h2 : matB (herM M) = true) : hofV M = (herM M, true) := by unfold hofV; rw [if_neg h, h2]; rfl
end Go.Proofs.Ytfncikbmdaameaa
