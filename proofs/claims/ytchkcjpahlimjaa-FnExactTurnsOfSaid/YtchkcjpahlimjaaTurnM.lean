/- Cones out of turns: the plain law. -/
import Derived.Test.YtchkcjpahlimjaaConeN
namespace Go.Proofs.Ytchkcjpahlimjaa
set_option linter.unusedVariables false
set_option linter.unusedSimpArgs false

/-- the last two vectors behind k turns: x0 x1 the one before, y0 y1 the last one -/
def tnK (l : List Int) : Nat → Int × Int × Int × Int
  | 0 => (1, 0, 0, 1)
  | k + 1 => let s := tnK l k; (s.2.2.1, s.2.2.2, l.getD k 0 * s.2.2.1 - s.1, l.getD k 0 * s.2.2.2 - s.2.1)
def tnB (l : List Int) (k : Nat) : List Int := [(tnK l k).2.2.1, (tnK l k).2.2.2]
def turnOk (l : List Int) : Bool := inB l.length 1 10 && allIn l 2 30 && coneB [1, 0] (tnB l l.length)
theorem tn_mono (l : List Int) (h : ∀ k, k < l.length → 2 ≤ l.getD k 0) : ∀ k, k ≤ l.length → (tnK l k).2.2.1 < (tnK l k).1 ∧ (tnK l k).2.1 < (tnK l k).2.2.2 ∧ (tnK l k).2.2.1 ≤ 0 ∧ 0 < (tnK l k).2.2.2
  | 0, _ => by simp [tnK]
  | k + 1, hk => by
    obtain ⟨h1, h2, h3, h4⟩ := tn_mono l h k (by omega)
    have hn := h k (by omega)
    simp only [tnK]
    generalize l.getD k 0 = n at *
    generalize (tnK l k).1 = a at *
    generalize (tnK l k).2.1 = b at *
    generalize (tnK l k).2.2.1 = c at *
    generalize (tnK l k).2.2.2 = d at *
    have e1 : n * c ≤ 2 * c := by
      have := Int.mul_le_mul_of_nonpos_right hn h3; omega
    have e2 : 2 * d ≤ n * d := Int.mul_le_mul_of_nonneg_right hn (by omega)
    omega
theorem tn_grow (l : List Int) (h : ∀ k, k < l.length → 2 ≤ l.getD k 0) (j : Nat) : ∀ k, j ≤ k → k ≤ l.length → (tnK l k).2.2.1 ≤ (tnK l j).2.2.1 ∧ (tnK l j).2.2.2 ≤ (tnK l k).2.2.2
  | 0, hj, _ => by have : j = 0 := by omega
                   subst this; omega
  | k + 1, hj, hk => by
    by_cases e : j = k + 1
    · subst e; omega
    · have h1 := tn_grow l h j k (by omega) (by omega)
      have h2 := tn_mono l h (k + 1) hk
      have e1 : (tnK l (k + 1)).1 = (tnK l k).2.2.1 := rfl
      have e2 : (tnK l (k + 1)).2.1 = (tnK l k).2.2.2 := rfl
      omega
def bd31 : Nat → Int
  | 0 => 1
  | k + 1 => 31 * bd31 k
theorem bd31_le : ∀ k, k ≤ 10 → 1 ≤ bd31 k ∧ bd31 k ≤ 819628286980801 := by decide
theorem tn_bd (l : List Int) (h : ∀ k, k < l.length → 2 ≤ l.getD k 0 ∧ l.getD k 0 ≤ 30) : ∀ k, k ≤ l.length → (-(bd31 k) ≤ (tnK l k).1 ∧ (tnK l k).1 ≤ bd31 k) ∧ (-(bd31 k) ≤ (tnK l k).2.1 ∧ (tnK l k).2.1 ≤ bd31 k) ∧ (-(bd31 k) ≤ (tnK l k).2.2.1 ∧ (tnK l k).2.2.1 ≤ bd31 k) ∧ (-(bd31 k) ≤ (tnK l k).2.2.2 ∧ (tnK l k).2.2.2 ≤ bd31 k)
  | 0, _ => by simp [tnK, bd31]
  | k + 1, hk => by
    obtain ⟨h1, h2, h3, h4⟩ := tn_bd l h k (by omega)
    have hn := h k (by omega)
    simp only [tnK, bd31]
    generalize l.getD k 0 = n at *
    generalize (tnK l k).1 = a at *
    generalize (tnK l k).2.1 = b at *
    generalize (tnK l k).2.2.1 = c at *
    generalize (tnK l k).2.2.2 = d at *
    generalize bd31 k = B at *
    have key : ∀ x : Int, -B ≤ x → x ≤ B → -(30 * B) ≤ n * x ∧ n * x ≤ 30 * B := by
      intro x hx hx'
      have g1 : n * x ≤ n * B := Int.mul_le_mul_of_nonneg_left hx' (by omega)
      have g2 : n * B ≤ 30 * B := Int.mul_le_mul_of_nonneg_right hn.2 (by omega)
      have g3 : n * (-B) ≤ n * x := Int.mul_le_mul_of_nonneg_left hx (by omega)
      rw [Int.mul_neg] at g3
      omega
    have k1 := key c h3.1 h3.2
    have k2 := key d h4.1 h4.2
    omega
theorem tn_big {l : List Int} (h : ∀ k, k < l.length → 2 ≤ l.getD k 0) {j : Nat} (hj : j ≤ l.length) (hb : allIn (tnB l j) (-30) 30 = false) : turnOk l = false := by
  have hc : coneB [1, 0] (tnB l l.length) = false := by
    have g := tn_grow l h j l.length hj (Nat.le_refl _)
    have m1 := tn_mono l h j hj
    have m2 := tn_mono l h l.length (Nat.le_refl _)
    have : allIn (tnB l l.length) (-30) 30 = false := by
      unfold tnB at hb ⊢
      generalize (tnK l j).2.2.1 = c at *
      generalize (tnK l j).2.2.2 = d at *
      generalize (tnK l l.length).2.2.1 = e at *
      generalize (tnK l l.length).2.2.2 = f at *
      rw [← Bool.not_eq_true] at hb ⊢
      simp [allIn, inB] at hb ⊢
      omega
    unfold coneB ptB
    rw [this]; simp
  unfold turnOk; rw [hc]; simp
end Go.Proofs.Ytchkcjpahlimjaa
