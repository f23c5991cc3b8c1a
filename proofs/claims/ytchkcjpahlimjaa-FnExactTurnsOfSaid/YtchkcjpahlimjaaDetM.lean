/- Determinants by minors, and by the formulas: the plain law. -/
import Derived.Test.YtchkcjpahlimjaaMinor
namespace Go.Proofs.Ytchkcjpahlimjaa
set_option linter.unusedVariables false
set_option linter.unusedSimpArgs false

def sgnN (k : Nat) : Int := if k % 2 = 0 then 1 else -1
def detSum (d : List (List Int) → Int) (m : List (List Int)) : Nat → Int
  | 0 => 0
  | k + 1 => detSum d m k + sgnN k * (m.getD 0 []).getD k 0 * d (minorL m 0 k)
def detF : Nat → List (List Int) → Int
  | 0, _ => 1
  | n + 1, m => detSum (detF n) m (n + 1)
/-- a square matrix with small entries -/
structure SqB (n : Nat) (m : List (List Int)) : Prop where
  len : m.length = n
  row : ∀ i, i < n → (m.getD i []).length = n ∧ allIn (m.getD i []) (-100000) 100000 = true
theorem minorK_zero (m : List (List Int)) (j : Nat) : ∀ k, minorK m 0 j k = ((m.take k).drop 1).map (cutAt · j) ∨ m.length < k
  | 0 => .inl (by simp [minorK])
  | k + 1 => by
    rcases Nat.lt_or_ge m.length (k + 1) with h | h
    · exact .inr h
    · left
      rcases minorK_zero m j k with e | e
      · rw [minorK]
        by_cases hk : k = 0
        · subst hk
          rw [if_pos rfl]
          simp only [minorK]
          rw [List.drop_eq_nil_of_le (by rw [List.length_take]; omega)]; rfl
        · rw [if_neg hk, e, ← take_snocL m k (by omega), List.drop_append_of_le_length (by rw [List.length_take]; omega), List.map_append]
          rfl
      · omega
theorem minorL_zero (m : List (List Int)) (j : Nat) : minorL m 0 j = (m.drop 1).map (cutAt · j) := by
  rcases minorK_zero m j m.length with e | e
  · rw [minorL, e, List.take_length]
  · exact absurd e (Nat.lt_irrefl _)
theorem cutAt_len {r : List Int} {j : Nat} (h : j < r.length) : (cutAt r j).length = r.length - 1 := by
  unfold cutAt; rw [List.length_append, List.length_take, List.length_drop]; omega
theorem allIn_sub {r s : List Int} {lo hi : Int} (h : allIn r lo hi = true) (hs : ∀ x ∈ s, x ∈ r) : allIn s lo hi = true := by
  unfold allIn at *; rw [List.all_eq_true] at *; exact fun x hx => h x (hs x hx)
theorem cutAt_in {r : List Int} {j : Nat} {lo hi : Int} (h : allIn r lo hi = true) : allIn (cutAt r j) lo hi = true := by
  refine allIn_sub h fun x hx => ?_
  unfold cutAt at hx
  rcases List.mem_append.1 hx with h | h
  · exact List.mem_of_mem_take h
  · exact List.mem_of_mem_drop h
theorem SqB.minor {n : Nat} {m : List (List Int)} (h : SqB (n + 1) m) {j : Nat} (hj : j < n + 1) : SqB n (minorL m 0 j) := by
  rw [minorL_zero]
  refine ⟨by rw [List.length_map, List.length_drop, h.len]; omega, fun i hi => ?_⟩
  have e : ((m.drop 1).map (cutAt · j)).getD i [] = cutAt (m.getD (1 + i) []) j := by
    rw [List.getD_eq_getElem?_getD, List.getElem?_map, List.getElem?_drop, List.getD_eq_getElem?_getD]
    rw [List.getElem?_eq_getElem (show 1 + i < m.length by rw [h.len]; omega)]; rfl
  obtain ⟨h1, h2⟩ := h.row (1 + i) (by omega)
  rw [e]
  exact ⟨by rw [cutAt_len (by omega), h1]; omega, cutAt_in h2⟩
def detB : Nat → Int
  | 0 => 1
  | n + 1 => ((n : Int) + 1) * 100000 * detB n
theorem mul_abs {a b A B : Int} (h1 : -A ≤ a) (h2 : a ≤ A) (h3 : -B ≤ b) (h4 : b ≤ B) (hA : 0 ≤ A) (hB : 0 ≤ B) : -(A * B) ≤ a * b ∧ a * b ≤ A * B := by
  rcases Int.le_total 0 b with h | h
  · exact mul_bd2 (a := a) (b := b) (M := A) (N := B) h1 h2 h h4 hA
  · have := mul_bd2 (a := a) (b := -b) (M := A) (N := B) h1 h2 (by omega) (by omega) hA
    rw [Int.mul_neg] at this; omega
theorem sgn_mul (k : Nat) (x : Int) (h : -100000 ≤ x ∧ x ≤ 100000) : -100000 ≤ sgnN k * x ∧ sgnN k * x ≤ 100000 := by
  unfold sgnN; split <;> omega
theorem detB_pos : ∀ n, 0 ≤ detB n
  | 0 => by decide
  | n + 1 => by rw [detB]; exact Int.mul_nonneg (by omega) (detB_pos n)
theorem detF_bd : ∀ n m, SqB n m → -(detB n) ≤ detF n m ∧ detF n m ≤ detB n
  | 0, m, _ => by simp [detF, detB]
  | n + 1, m, h => by
    have key : ∀ k, k ≤ n + 1 → -((k : Int) * (100000 * detB n)) ≤ detSum (detF n) m k ∧ detSum (detF n) m k ≤ (k : Int) * (100000 * detB n) := by
      intro k
      induction k with
      | zero => intro _; simp [detSum]
      | succ k ih =>
        intro hk
        have h1 := ih (by omega)
        have h2 := detF_bd n _ (h.minor (j := k) (by omega))
        have h3 := allIn_at (h.row 0 (by omega)).2 k (by rw [(h.row 0 (by omega)).1]; omega)
        have h4 := sgn_mul k _ h3
        have h5 := mul_abs h4.1 h4.2 h2.1 h2.2 (by omega) (detB_pos n)
        have h6 : ((k + 1 : Nat) : Int) * (100000 * detB n) = (k : Int) * (100000 * detB n) + 100000 * detB n := by
          rw [Int.natCast_add, Int.add_mul]; simp
        rw [detSum, h6]
        generalize 100000 * detB n = A at *
        omega
    have := key (n + 1) (Nat.le_refl _)
    rw [detF, detB]
    have e : ((n : Int) + 1) * 100000 * detB n = ((n + 1 : Nat) : Int) * (100000 * detB n) := by rw [Int.mul_assoc]; rfl
    rw [e]; exact this
theorem detSum_bd {n : Nat} {m : List (List Int)} (h : SqB (n + 1) m) (hn : n ≤ 2) : ∀ k, k ≤ n + 1 → -6000000000000000 ≤ detSum (detF n) m k ∧ detSum (detF n) m k ≤ 6000000000000000 := by
  intro k
  have hD : detB n ≤ 20000000000 := by
    rcases (show n = 0 ∨ n = 1 ∨ n = 2 by omega) with rfl | rfl | rfl <;> decide
  have hD0 := detB_pos n
  have key : ∀ k, k ≤ n + 1 → -((k : Int) * 2000000000000000) ≤ detSum (detF n) m k ∧ detSum (detF n) m k ≤ (k : Int) * 2000000000000000 := by
    intro k
    induction k with
    | zero => intro _; simp [detSum]
    | succ k ih =>
      intro hk
      have h1 := ih (by omega)
      have h2 := detF_bd n _ (h.minor (j := k) (by omega))
      have h3 := allIn_at (h.row 0 (by omega)).2 k (by rw [(h.row 0 (by omega)).1]; omega)
      have h4 := sgn_mul k _ h3
      have h5 := mul_abs (A := 100000) (B := 20000000000) (b := detF n (minorL m 0 k)) h4.1 h4.2 (by omega) (by omega) (by omega) (by omega)
      rw [detSum]
      omega
  intro hk
  have := key k hk
  omega
end Go.Proofs.Ytchkcjpahlimjaa
