/- Matrices: IsMatrix, DetOf, IsUnimodular: the walks. -/
import Derived.Test.YtfncikbmdaameaaTetS
import Derived.Test.YtfncikbmdaameaaB4
import Derived.Test.YtfncikbmdaameaaB2
namespace Go.Proofs.Ytfncikbmdaameaa
open Go.RowKit
set_option linter.unusedVariables false
set_option linter.unusedSimpArgs false

def matRow (n : Nat) (r : List Int) : Bool := decide (r.length = n) && allIn r (-100) 100
def matK (m : List (List Int)) (k : Nat) : Bool := (List.range k).all fun j => matRow m.length (m.getD j [])
def matB (m : List (List Int)) : Bool := inB m.length 1 3 && matK m m.length
theorem matK_step (m : List (List Int)) (k : Nat) : matK m (k + 1) = (matK m k && matRow m.length (m.getD k [])) := by
  unfold matK; rw [List.range_succ, List.all_append]; simp
theorem matK_no {m : List (List Int)} {k : Nat} (hk : k < m.length) (h : matRow m.length (m.getD k []) = false) : matB m = false := by
  have : matK m m.length = false := by unfold matK; rw [List.all_eq_false]; exact ⟨k, List.mem_range.2 hk, by rw [h]; decide⟩
  unfold matB; rw [this]; simp
theorem matB_yes {m : List (List Int)} (h : matK m m.length = true) : matB m = inB m.length 1 3 := by unfold matB; rw [h]; simp
theorem matB_len {m : List (List Int)} (h : matB m = true) : 1 ≤ m.length ∧ m.length ≤ 3 := by
  unfold matB at h; simp only [Bool.and_eq_true, inB_iff] at h; omega
theorem matB_row {m : List (List Int)} (h : matB m = true) {k : Nat} (hk : k < m.length) : (m.getD k []).length = m.length ∧ allIn (m.getD k []) (-100) 100 = true := by
  unfold matB at h; simp only [Bool.and_eq_true] at h
  have := List.all_eq_true.1 h.2 k (List.mem_range.2 hk)
  unfold matRow at this; simp only [Bool.and_eq_true, decide_eq_true_eq] at this
  exact this
theorem allIn_up {l : List Int} {a b c d : Int} (h : allIn l a b = true) (h1 : c ≤ a) (h2 : b ≤ d) : allIn l c d = true := by
  unfold allIn at *
  rw [List.all_eq_true] at *
  intro x hx
  have := inB_iff.1 (h x hx)
  exact inB_iff.2 ⟨by omega, by omega⟩
theorem matB_sq {m : List (List Int)} (h : matB m = true) : SqB m.length m := ⟨rfl, fun i hi => ⟨(matB_row h hi).1, allIn_up (matB_row h hi).2 (by omega) (by omega)⟩⟩
/-- the determinant -/
def detM (m : List (List Int)) : Int := detF m.length m
def detO (m : List (List Int)) : Int := if matB m then detM m else 0
theorem detO_no {m : List (List Int)} (h : matB m = false) : detO m = 0 := by unfold detO; rw [h]; rfl
theorem detO_yes {m : List (List Int)} (h : matB m = true) : detO m = detM m := by unfold detO; rw [h]; rfl
theorem detM_bd {m : List (List Int)} (h : matB m = true) : -6000000000000000 ≤ detM m ∧ detM m ≤ 6000000000000000 := by
  have h1 := detF_bd _ _ (matB_sq h)
  have h2 := matB_len h
  unfold detM
  have h3 : detB m.length ≤ 6000000000000000 := by
    rcases (show m.length = 1 ∨ m.length = 2 ∨ m.length = 3 by omega) with e | e | e <;> rw [e] <;> decide
  omega
theorem detO_bd (m : List (List Int)) : -6000000000000000 ≤ detO m ∧ detO m ≤ 6000000000000000 := by
  cases h : matB m
  · rw [detO_no h]; omega
  · rw [detO_yes h]; exact detM_bd h
def uniB (m : List (List Int)) : Bool := decide (max (detO m) (-(detO m)) = 1)

end Go.Proofs.Ytfncikbmdaameaa
