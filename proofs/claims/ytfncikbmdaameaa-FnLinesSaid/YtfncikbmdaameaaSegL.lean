/- The pieces of a segment's counts: the plain law. -/
import Derived.Test.YtfncikbmdaameaaSegP
namespace Go.Proofs.Ytfncikbmdaameaa
set_option linter.unusedVariables false
set_option linter.unusedSimpArgs false

theorem gcdI_dvd_left (a b : Int) : gcdI a b ∣ a := by unfold gcdI; exact Int.gcd_dvd_left ..
theorem gcdI_dvd_right (a b : Int) : gcdI a b ∣ b := by unfold gcdI; exact Int.gcd_dvd_right ..
theorem per_parts {a b c d : Int} (h : segB a b c d = true) : 1 ≤ perI a b c d ∧ perI a b c d ≤ 144 ∧ b ∣ a * perI a b c d ∧ d ∣ c * perI a b c d := by
  obtain ⟨b1, b2, d1, d2, -⟩ := segB_bd h
  unfold perI
  have g1 := gcdI_pos_right a b b1
  have g1' := gcdI_le_right a b b1
  have g2 := gcdI_pos_right c d d1
  have g2' := gcdI_le_right c d d1
  have q1 := quo_bd b1 g1 g1'
  have q2 := quo_bd d1 g2 g2'
  obtain ⟨x1, hx1⟩ := gcdI_dvd_left a b
  obtain ⟨y1, hy1⟩ := gcdI_dvd_right a b
  obtain ⟨x2, hx2⟩ := gcdI_dvd_left c d
  obtain ⟨y2, hy2⟩ := gcdI_dvd_right c d
  generalize gcdI a b = g at *
  generalize gcdI c d = k at *
  have e1 : b / g = y1 := by rw [hy1]; exact Int.mul_ediv_cancel_left _ (by omega)
  have e2 : d / k = y2 := by rw [hy2]; exact Int.mul_ediv_cancel_left _ (by omega)
  rw [e1] at q1 ⊢
  rw [e2] at q2 ⊢
  have g3 := gcdI_pos_right y1 y2 q2.1
  have g3' : gcdI y1 y2 ≤ y1 := gcdI_le_left y1 y2 q1.1
  have q3 := quo_bd q1.1 g3 g3'
  obtain ⟨x3, hx3⟩ := gcdI_dvd_left y1 y2
  obtain ⟨y3, hy3⟩ := gcdI_dvd_right y1 y2
  generalize gcdI y1 y2 = m at *
  have e3 : y1 / m = x3 := by
    conv => lhs; rw [hx3]
    exact Int.mul_ediv_cancel_left _ (by omega)
  rw [e3] at q3 ⊢
  refine ⟨?_, ?_, ⟨x1 * y3, ?_⟩, ⟨x2 * x3, ?_⟩⟩
  · have := Int.mul_le_mul q3.1 q2.1 (by omega) (by omega); omega
  · have := Int.mul_le_mul (show x3 ≤ 12 by omega) (show y2 ≤ 12 by omega) (by omega) (by omega); omega
  · rw [hx1, hy1, hy3]
    conv => rhs; rw [hx3]
    grind
  · rw [hx2, hy2]; grind
/-- the step of the counts -/
def stpI (a b c d : Int) : Int := c * perI a b c d / d - a * perI a b c d / b
theorem cnt_step {a b c d : Int} (h : segB a b c d = true) (r k : Int) : cntI a b c d (r + k * perI a b c d) = cntI a b c d r + k * stpI a b c d := by
  obtain ⟨b1, b2, d1, d2, -⟩ := segB_bd h
  obtain ⟨-, -, ⟨p, hp⟩, ⟨q, hq⟩⟩ := per_parts h
  unfold cntI stpI
  generalize perI a b c d = n at *
  rw [hp, hq, Int.mul_ediv_cancel_left _ (by omega), Int.mul_ediv_cancel_left _ (by omega)]
  rw [show c * (r + k * n) = c * r + d * (k * q) by grind, show -a * (r + k * n) = -a * r + b * (-(k * p)) by grind]
  rw [Int.add_mul_ediv_left _ _ (by omega), Int.add_mul_ediv_left _ _ (by omega)]
  grind
theorem cnt_inner {a b c d : Int} (h : segB a b c d = true) (hne : a * d ≠ c * b) (r : Int) (hr : r < perI a b c d) : max 0 (-((-c) * (perI a b c d - r) / d) - 1 - (a * (perI a b c d - r) / b)) = stpI a b c d - cntI a b c d r := by
  obtain ⟨b1, b2, d1, d2, -⟩ := segB_bd h
  obtain ⟨-, -, ⟨p, hp⟩, ⟨q, hq⟩⟩ := per_parts h
  have hlt : a * d < c * b := by
    unfold segB at h
    simp only [Bool.and_eq_true, decide_eq_true_eq] at h
    omega
  unfold cntI stpI
  generalize perI a b c d = n at *
  have h0 : 0 ≤ -((-c) * (n - r) / d) - 1 - (a * (n - r) / b) := by
    have x1 := Int.mul_ediv_add_emod ((-c) * (n - r)) d
    have x2 := Int.emod_nonneg ((-c) * (n - r)) (show d ≠ 0 by omega)
    have y1 := Int.mul_ediv_add_emod (a * (n - r)) b
    have y2 := Int.emod_nonneg (a * (n - r)) (show b ≠ 0 by omega)
    generalize (-c) * (n - r) / d = X at *
    generalize a * (n - r) / b = Y at *
    generalize (-c) * (n - r) % d = X' at *
    generalize a * (n - r) % b = Y' at *
    -- d X ≤ -c t, b Y ≤ a t, a d < c b
    have z : (a * d - c * b) * (n - r) < 0 := Int.mul_neg_of_neg_of_pos (by omega) (by omega)
    have u1 : 0 ≤ b * X' := Int.mul_nonneg (by omega) x2
    have u2 : 0 ≤ d * Y' := Int.mul_nonneg (by omega) y2
    have x1' : X' = -c * (n - r) - d * X := by omega
    have y1' : Y' = a * (n - r) - b * Y := by omega
    have z2e : (b * d) * (X + Y) = (a * d - c * b) * (n - r) - b * X' - d * Y' := by rw [x1', y1']; grind
    have z2 : (b * d) * (X + Y) < 0 := by rw [z2e]; omega
    have z3 : X + Y < 0 := by
      refine Classical.byContradiction fun g => ?_
      have := Int.mul_nonneg (Int.mul_nonneg (show 0 ≤ b by omega) (show 0 ≤ d by omega)) (show 0 ≤ X + Y by omega)
      omega
    omega
  rw [Int.max_eq_right h0]
  have e1 : (-c) * (n - r) = c * r + d * (-q) := by grind
  have e2 : a * (n - r) = -a * r + b * p := by grind
  rw [hp, hq, Int.mul_ediv_cancel_left _ (by omega), Int.mul_ediv_cancel_left _ (by omega), e1, e2, Int.add_mul_ediv_left _ _ (by omega), Int.add_mul_ediv_left _ _ (by omega)]
  omega
/-- the pieces -/
def pcK (a b c d : Int) (k : Nat) : List (List Int) := (List.range k).map fun (r : Nat) => [cntI a b c d (r : Int), stpI a b c d]
def pcL (a b c d : Int) : List (List Int) := pcK a b c d (segPeriod a b c d).toNat
theorem pcK_step (a b c d : Int) (k : Nat) : pcK a b c d (k + 1) = pcK a b c d k ++ [[cntI a b c d k, stpI a b c d]] := by
  unfold pcK; rw [List.range_succ, List.map_append]; rfl
theorem pcK_len (a b c d : Int) (k : Nat) : (pcK a b c d k).length = k := by simp [pcK]
theorem pcL_len (a b c d : Int) : (pcL a b c d).length = (segPeriod a b c d).toNat := pcK_len _ _ _ _ _
theorem pcL_at {a b c d : Int} {r : Nat} (h : (r : Int) < segPeriod a b c d) : (pcL a b c d).getD r [] = [cntI a b c d r, stpI a b c d] := by
  unfold pcL pcK
  rw [List.getD_eq_getElem?_getD, List.getElem?_map, List.getElem?_range (by omega)]; rfl
theorem per_bd (a b c d : Int) : 0 ≤ segPeriod a b c d ∧ segPeriod a b c d ≤ 144 := by
  unfold segPeriod
  split
  · rename_i h; have := per_parts h; omega
  · omega
theorem stp_bd {a b c d : Int} (h : segB a b c d = true) : -288000 ≤ stpI a b c d ∧ stpI a b c d ≤ 288000 := by
  obtain ⟨b1, b2, d1, d2, a1, a2, c1, c2⟩ := segB_bd h
  obtain ⟨n1, n2, -⟩ := per_parts h
  unfold stpI
  generalize perI a b c d = n at *
  have m1 := mul_bd (a := c) (b := n) (M := 1000) (N := 144) (by omega) c2 (by omega) n2 (by omega)
  have m2 := mul_bd (a := a) (b := n) (M := 1000) (N := 144) (by omega) a2 (by omega) n2 (by omega)
  have q1 := div_bd (x := c * n) (d := d) 144000 (by omega) (by omega) d1
  have q2 := div_bd (x := a * n) (d := b) 144000 (by omega) (by omega) b1
  omega
theorem cnt_bd {a b c d t : Int} (h : segB a b c d = true) (t0 : 0 ≤ t) (t1 : t ≤ 1000) : -2000001 ≤ cntI a b c d t ∧ cntI a b c d t ≤ 2000001 := by
  obtain ⟨b1, b2, d1, d2, a1, a2, c1, c2⟩ := segB_bd h
  unfold cntI
  have m1 := mul_bd (a := c) (b := t) (M := 1000) (N := 1000) (by omega) c2 t0 t1 (by omega)
  have m2 := mul_bd (a := -a) (b := t) (M := 1000) (N := 1000) (by omega) (by omega) t0 t1 (by omega)
  have q1 := div_bd (x := c * t) (d := d) 1000000 (by omega) (by omega) d1
  have q2 := div_bd (x := -a * t) (d := b) 1000000 (by omega) (by omega) b1
  omega
end Go.Proofs.Ytfncikbmdaameaa
