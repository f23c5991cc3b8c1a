/- The start of Hermite's form: a matrix whose determinant is not nought. -/
import Derived.Test.YtehhoplenloocaaHerI
import Derived.Test.YtehhoplenloocaaMat2
namespace Go.Proofs.Ytehhoplenloocaa
open Go.RowKit
set_option linter.unusedVariables false

theorem sqB_sq {n : Nat} {M : List (List Int)} (h : SqB n M) : Sq n M := ⟨h.len, fun i hi => (h.row i hi).1⟩
theorem dN_det {M : List (List Int)} (h : SqB M.length M) (h1 : 1 ≤ M.length) (h3 : M.length ≤ 3) : dN M = detM M := by
  unfold detM
  rcases (show M.length = 1 ∨ M.length = 2 ∨ M.length = 3 by omega) with e | e | e
  · rw [e] at h ⊢
    rw [detF_one h]
    obtain ⟨a, rfl⟩ := (sqB_sq h).one
    rfl
  · rw [e] at h ⊢
    rw [detF_two h]
    obtain ⟨a, b, c, d, rfl⟩ := (sqB_sq h).two
    rfl
  · rw [e] at h ⊢
    rw [detF_three h]
    obtain ⟨a, b, c, d, e, f, g, i, j, rfl⟩ := (sqB_sq h).three
    simp only [dN, det3, dd, List.getD_cons_zero, List.getD_cons_succ]
    try grind
theorem hi_start {M : List (List Int)} (hm : matB M = true) (hd : ¬ detO M = 0) : HI M.length 0 M := by
  have hs := matB_sq hm
  have hl := matB_len hm
  rw [detO_yes hm] at hd
  have hb := detM_bd hm
  refine ⟨sqB_sq hs, fun i j => ?_, fun c hc => by omega, fun t ht => ?_⟩
  · unfold atM
    by_cases hi : i < M.length
    · by_cases hj : j < (M.getD i []).length
      · have := allIn_at (hs.row i hi).2 j hj; omega
      · rw [List.getD_eq_getElem?_getD, List.getElem?_eq_none (by omega)]; simp
    · rw [show M.getD i [] = [] by rw [List.getD_eq_getElem?_getD, List.getElem?_eq_none (by omega)]; rfl]; simp
  · rw [dN_det hs hl.1 hl.2] at ht
    omega
end Go.Proofs.Ytehhoplenloocaa
