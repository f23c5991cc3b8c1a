/- Plain facts on whole numbers: quotients rounded down, common divisors. No program in sight. -/
namespace Go.Proofs.Ytchkcjpahlimjaa

theorem quo_floor (a b : Int) (hb : 1 ≤ b) : (if a.tmod b < 0 then a.tdiv b - 1 else a.tdiv b) = a / b := by
  have h1 := Int.tdiv_eq_ediv (a := a) (b := b)
  have h2 := Int.tmod_eq_emod (a := a) (b := b)
  have h3 := Int.emod_nonneg a (show b ≠ 0 by omega)
  have h4 := Int.emod_lt_of_pos a (show 0 < b by omega)
  have hs : b.sign = 1 := Int.sign_eq_one_of_pos (by omega)
  by_cases hc : 0 ≤ a ∨ b ∣ a
  · rw [if_pos hc] at h1 h2; rw [h1, h2]; split <;> omega
  · rw [if_neg hc] at h1 h2; rw [h1, h2, hs]; split <;> omega

theorem quo_neg {a b : Int} (hb : 1 ≤ b) (h : a.tmod b < 0) : a.tdiv b - 1 = a / b := by
  have := quo_floor a b hb; rw [if_pos h] at this; exact this
theorem quo_pos {a b : Int} (hb : 1 ≤ b) (h : 0 ≤ a.tmod b) : a.tdiv b = a / b := by
  have := quo_floor a b hb; rw [if_neg (by omega)] at this; exact this

theorem tdiv_low (a b : Int) (ha : -9223372036854775808 < a) (ha' : a ≤ 9223372036854775807) (hb : 1 ≤ b) : -9223372036854775807 ≤ a.tdiv b ∧ a.tdiv b ≤ 9223372036854775807 := by
  rcases Int.le_total 0 a with h | h
  · rw [Int.tdiv_eq_ediv_of_nonneg h]
    have h1 := Int.ediv_nonneg h (show 0 ≤ b by omega)
    have h2 := Int.ediv_le_self b h
    omega
  · have e : a.tdiv b = -((-a).tdiv b) := by rw [Int.neg_tdiv]; omega
    rw [e, Int.tdiv_eq_ediv_of_nonneg (show 0 ≤ -a by omega)]
    have h1 := Int.ediv_nonneg (show 0 ≤ -a by omega) (show 0 ≤ b by omega)
    have h2 := Int.ediv_le_self b (show 0 ≤ -a by omega)
    omega

theorem ediv_low (a b : Int) (ha : -9223372036854775808 < a) (ha' : a ≤ 9223372036854775807) (hb : 1 ≤ b) : -9223372036854775807 ≤ a / b ∧ a / b ≤ 9223372036854775807 := by
  have h2 : a / b ≤ 9223372036854775807 := Int.le_trans (Int.ediv_le_ediv (by omega) ha') (Int.ediv_le_self b (by omega))
  have h1 : -9223372036854775807 ≤ a / b := by
    rw [Int.le_ediv_iff_mul_le (by omega)]
    have : 9223372036854775807 * 1 ≤ 9223372036854775807 * b := Int.mul_le_mul_of_nonneg_left hb (by omega)
    omega
  exact ⟨h1, h2⟩

/-- n lies between lo and hi -/
def inB (n lo hi : Int) : Bool := decide (lo ≤ n) && decide (n ≤ hi)
theorem inB_iff {n lo hi : Int} : inB n lo hi = true ↔ lo ≤ n ∧ n ≤ hi := by simp [inB]
theorem inB_not {n lo hi : Int} : inB n lo hi = false ↔ n < lo ∨ hi < n := by
  rw [← Bool.not_eq_true, inB_iff]; omega

theorem and2_false {p q : Bool} (h : ¬(p = true ∧ q = true)) : p = false ∨ (p = true ∧ q = false) := by
  cases p <;> cases q <;> simp_all
theorem and3_false {p q r : Bool} (h : ¬(p = true ∧ q = true ∧ r = true)) : p = false ∨ (p = true ∧ q = false) ∨ (p = true ∧ q = true ∧ r = false) := by
  cases p <;> cases q <;> cases r <;> simp_all
theorem and4_false {p q r s : Bool} (h : ¬(p = true ∧ q = true ∧ r = true ∧ s = true)) : p = false ∨ (p = true ∧ q = false) ∨ (p = true ∧ q = true ∧ r = false) ∨ (p = true ∧ q = true ∧ r = true ∧ s = false) := by
  cases p <;> cases q <;> cases r <;> cases s <;> simp_all

def gcdI (a b : Int) : Int := (Int.gcd a b : Int)
theorem gcdI_nonneg (a b : Int) : 0 ≤ gcdI a b := by unfold gcdI; omega
theorem gcdI_zero (a : Int) : gcdI a 0 = max a (-a) := by
  unfold gcdI; rw [Int.gcd_zero_right]; omega
theorem gcdI_step (a b : Int) : gcdI b (a.tmod b) = gcdI a b := by
  unfold gcdI
  have h : Int.gcd b (a.tmod b) = Int.gcd a b := by
    unfold Int.gcd
    rw [Int.natAbs_tmod, Nat.gcd_comm a.natAbs, Nat.gcd_rec b.natAbs a.natAbs, Nat.gcd_comm]
  rw [h]
theorem gcdI_stepE (a b : Int) (ha : 0 ≤ a) : gcdI b (a % b) = gcdI a b := by
  rw [← Int.tmod_eq_emod_of_nonneg ha]; exact gcdI_step a b
theorem gcdI_max (a b : Int) : gcdI (max a (-a)) (max b (-b)) = gcdI a b := by
  unfold gcdI
  have h : ∀ x : Int, (max x (-x)).natAbs = x.natAbs := by intro x; omega
  unfold Int.gcd; rw [h, h]
theorem gcdI_comm (a b : Int) : gcdI a b = gcdI b a := by unfold gcdI; rw [Int.gcd_comm]
theorem gcdI_le_right (a b : Int) (hb : 1 ≤ b) : gcdI a b ≤ b := by
  unfold gcdI
  have := Nat.le_of_dvd (show 0 < b.natAbs by omega) (Nat.gcd_dvd_right a.natAbs b.natAbs)
  have e : Int.gcd a b = Nat.gcd a.natAbs b.natAbs := rfl
  rw [e]; omega
theorem gcdI_pos_right (a b : Int) (hb : 1 ≤ b) : 1 ≤ gcdI a b := by
  unfold gcdI
  have := Nat.gcd_pos_of_pos_right a.natAbs (show 0 < b.natAbs by omega)
  have e : Int.gcd a b = Nat.gcd a.natAbs b.natAbs := rfl
  rw [e]; omega
theorem tmod_natAbs (a b : Int) (hb : b ≠ 0) : (a.tmod b).natAbs < b.natAbs := by
  rw [Int.natAbs_tmod]; exact Nat.mod_lt _ (by omega)
theorem tmod_bd (a b : Int) (hb : b ≠ 0) : -(b.natAbs : Int) < a.tmod b ∧ a.tmod b < (b.natAbs : Int) := by
  have := tmod_natAbs a b hb
  generalize a.tmod b = r at *
  omega
theorem max_bd (a : Int) (ha : -9223372036854775808 < a) (ha' : a ≤ 9223372036854775807) : 0 ≤ max a (-a) ∧ max a (-a) ≤ 9223372036854775807 := by omega
theorem div_bd2 {x d : Int} (M : Int) (hx : -M ≤ x) (hx' : x ≤ M) (hd : 1 ≤ d) : -M ≤ x / d ∧ x / d ≤ M := by
  have h2 : x / d ≤ M := by
    rcases Int.lt_or_le x 0 with h | h
    · have := Int.ediv_neg_of_neg_of_pos h (show 0 < d by omega); omega
    · exact Int.le_trans (Int.ediv_le_self d h) hx'
  have h1 : -M ≤ x / d := by
    rw [Int.le_ediv_iff_mul_le (by omega)]
    have : M * 1 ≤ M * d := Int.mul_le_mul_of_nonneg_left hd (by omega)
    have e : -M * d = -(M * d) := Int.neg_mul _ _
    omega
  exact ⟨h1, h2⟩
theorem mul_bd2 {a b M N : Int} (ha : -M ≤ a) (ha' : a ≤ M) (hb : 0 ≤ b) (hb' : b ≤ N) (hM : 0 ≤ M) : -(M * N) ≤ a * b ∧ a * b ≤ M * N := by
  have h1 : a * b ≤ M * b := Int.mul_le_mul_of_nonneg_right ha' hb
  have h2 : M * b ≤ M * N := Int.mul_le_mul_of_nonneg_left hb' hM
  have h3 : (-M) * b ≤ a * b := Int.mul_le_mul_of_nonneg_right ha hb
  have h4 : (-M) * b = -(M * b) := Int.neg_mul _ _
  omega
theorem abs_max (n : Int) : max n (-n) = (n.natAbs : Int) := by omega
end Go.Proofs.Ytchkcjpahlimjaa
