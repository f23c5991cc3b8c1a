/- Sums of quotients: splitting, the mirror step. No program in sight. -/
namespace Go.Proofs.Ytfncikbmdaameaa

/-- the sum of the quotients (a i + b) / m for i below n -/
def fs (m a b : Int) : Nat → Int
  | 0 => 0
  | n + 1 => fs m a b n + (a * n + b) / m

theorem fs_nonneg {m a b : Int} (hm : 1 ≤ m) (ha : 0 ≤ a) (hb : 0 ≤ b) : ∀ n, 0 ≤ fs m a b n
  | 0 => by simp [fs]
  | n + 1 => by
    have h1 := fs_nonneg hm ha hb n
    have h2 : 0 ≤ a * n + b := by have := Int.mul_nonneg ha (show (0 : Int) ≤ n by omega); omega
    have h3 := Int.ediv_nonneg h2 (show 0 ≤ m by omega)
    unfold fs; omega

theorem fs_le {m a b : Int} (hm : 1 ≤ m) (ha : 0 ≤ a) (hb : 0 ≤ b) (N : Nat) : ∀ n, n ≤ N → fs m a b n ≤ n * (a * N + b)
  | 0, _ => by simp [fs]
  | n + 1, h => by
    have h1 := fs_le hm ha hb N n (by omega)
    have h2 : 0 ≤ a * n + b := by have := Int.mul_nonneg ha (show (0 : Int) ≤ n by omega); omega
    have h3 := Int.ediv_le_self m h2
    have h4 : a * n ≤ a * N := Int.mul_le_mul_of_nonneg_left (by omega) ha
    have e : ((n + 1 : Nat) : Int) * (a * N + b) = n * (a * N + b) + (a * N + b) := by
      rw [show ((n + 1 : Nat) : Int) = (n : Int) + 1 from by omega, Int.add_mul, Int.one_mul]
    rw [e]; unfold fs; omega

/-- half of (n - 1) n -/
def tri (n : Nat) : Int := ((n : Int) - 1) * n / 2
theorem tri_even : ∀ n : Nat, ∃ k : Int, ((n : Int) - 1) * n = 2 * k
  | 0 => ⟨0, by simp⟩
  | n + 1 => by
    obtain ⟨k, hk⟩ := tri_even n
    refine ⟨k + n, ?_⟩
    have e : ((n + 1 : Nat) : Int) - 1 = n := by omega
    have e2 : ((n + 1 : Nat) : Int) = (n : Int) + 1 := by omega
    rw [e, e2, Int.mul_add, Int.mul_one]
    rw [Int.sub_mul, Int.one_mul] at hk
    omega
theorem tri_succ (n : Nat) : tri (n + 1) = tri n + n := by
  unfold tri
  obtain ⟨k, hk⟩ := tri_even n
  have e : ((n + 1 : Nat) : Int) - 1 = n := by omega
  have e2 : ((n + 1 : Nat) : Int) = (n : Int) + 1 := by omega
  rw [e, e2, Int.mul_add, Int.mul_one]
  have hk' := hk
  rw [Int.sub_mul, Int.one_mul] at hk'
  rw [hk]; omega
theorem tri_nonneg : ∀ n, 0 ≤ tri n
  | 0 => by simp [tri]
  | n + 1 => by have := tri_nonneg n; rw [tri_succ]; omega

theorem quo_split (m a b : Int) (n : Int) (hm : 1 ≤ m) : (a * n + b) / m = (a / m) * n + b / m + (a % m * n + b % m) / m := by
  have h1 := Int.mul_ediv_add_emod a m
  have h2 := Int.mul_ediv_add_emod b m
  have e : a * n + b = (a % m * n + b % m) + m * (a / m * n + b / m) := by
    have e1 : a * n = m * (a / m * n) + a % m * n := by
      rw [← Int.mul_assoc, ← Int.add_mul, h1]
    rw [Int.mul_add]; omega
  rw [e, Int.add_mul_ediv_left _ _ (by omega : m ≠ 0)]; omega

theorem fs_split (m a b : Int) (hm : 1 ≤ m) : ∀ n, fs m a b n = tri n * (a / m) + n * (b / m) + fs m (a % m) (b % m) n
  | 0 => by simp [fs, tri]
  | n + 1 => by
    have h := fs_split m a b hm n
    unfold fs
    rw [h, quo_split m a b n hm, tri_succ, Int.add_mul]
    have e2 : ((n + 1 : Nat) : Int) = (n : Int) + 1 := by omega
    rw [e2, Int.add_mul, Int.one_mul, Int.mul_comm (a / m) n]
    omega

theorem fs_zero (m b : Int) (hb : 0 ≤ b) (hbm : b < m) : ∀ n, fs m 0 b n = 0
  | 0 => rfl
  | n + 1 => by
    unfold fs; rw [fs_zero m b hb hbm n]; simp; exact Int.ediv_eq_zero_of_lt hb hbm

/-- a shift of b by a multiple of m -/
theorem fs_shift (m a b : Int) (hm : 1 ≤ m) : ∀ n, fs m a (b + m) n = fs m a b n + n
  | 0 => by simp [fs]
  | n + 1 => by
    unfold fs
    rw [fs_shift m a b hm n]
    have : (a * n + (b + m)) / m = (a * n + b) / m + 1 := by
      rw [show a * n + (b + m) = (a * n + b) + m * 1 from by rw [Int.mul_one]; omega, Int.add_mul_ediv_left _ _ (by omega : m ≠ 0)]
    omega
/-- the first one apart -/
theorem fs_first (m a b : Int) : ∀ n, fs m a b (n + 1) = b / m + fs m a (b + a) n
  | 0 => by simp [fs]
  | n + 1 => by
    have h := fs_first m a b n
    rw [show fs m a b (n + 1 + 1) = fs m a b (n + 1) + (a * ((n + 1 : Nat) : Int) + b) / m from rfl, h]
    rw [show fs m a (b + a) (n + 1) = fs m a (b + a) n + (a * n + (b + a)) / m from rfl]
    have e : a * ((n + 1 : Nat) : Int) + b = a * n + (b + a) := by
      rw [show ((n + 1 : Nat) : Int) = (n : Int) + 1 from by omega, Int.mul_add, Int.mul_one]; omega
    rw [e]; omega

/-- the mirror step -/
theorem fs_mirror (m a b : Int) (ha : 1 ≤ a) (ham : a < m) (hb : 0 ≤ b) (hbm : b < m) : ∀ n : Nat, fs m a b n = fs a m ((a * n + b) % m) ((a * n + b) / m).toNat
  | 0 => by
    have e : a * ((0 : Nat) : Int) + b = b := by simp
    rw [e, Int.ediv_eq_zero_of_lt hb hbm]; rfl
  | n + 1 => by
    have h := fs_mirror m a b ha ham hb hbm n
    rw [show fs m a b (n + 1) = fs m a b n + (a * (n : Int) + b) / m from rfl, h]
    have hn0 : 0 ≤ a * (n : Int) + b := by have := Int.mul_nonneg (show 0 ≤ a by omega) (show (0 : Int) ≤ n by omega); omega
    have e : a * ((n + 1 : Nat) : Int) + b = (a * n + b) + a := by
      rw [show ((n + 1 : Nat) : Int) = (n : Int) + 1 from by omega, Int.mul_add, Int.mul_one]; omega
    rw [e]
    generalize a * (n : Int) + b = t at *
    have hq := Int.mul_ediv_add_emod t m
    have hr := Int.emod_nonneg t (show m ≠ 0 by omega)
    have hr' := Int.emod_lt_of_pos t (show 0 < m by omega)
    have hq0 := Int.ediv_nonneg hn0 (show 0 ≤ m by omega)
    generalize t / m = q at *
    generalize t % m = r at *
    obtain ⟨Q, rfl⟩ : ∃ Q : Nat, q = Q := ⟨q.toNat, by omega⟩
    by_cases hc : r + a < m
    · have e1 : (t + a) / m = Q := by
        rw [show t + a = (r + a) + m * (Q : Int) from by omega, Int.add_mul_ediv_left _ _ (by omega : m ≠ 0), Int.ediv_eq_zero_of_lt (by omega) hc]; omega
      have e2 : (t + a) % m = r + a := by
        rw [show t + a = (r + a) + m * (Q : Int) from by omega, Int.add_mul_emod_self_left, Int.emod_eq_of_lt (by omega) hc]
      rw [e1, e2, Int.toNat_natCast, fs_shift a m r ha]
    · have e1 : (t + a) / m = ((Q + 1 : Nat) : Int) := by
        rw [show t + a = (r + a - m) + m * ((Q : Int) + 1) from by rw [Int.mul_add, Int.mul_one]; omega, Int.add_mul_ediv_left _ _ (by omega : m ≠ 0), Int.ediv_eq_zero_of_lt (by omega) (by omega)]; omega
      have e2 : (t + a) % m = r + a - m := by
        rw [show t + a = (r + a - m) + m * ((Q : Int) + 1) from by rw [Int.mul_add, Int.mul_one]; omega, Int.add_mul_emod_self_left, Int.emod_eq_of_lt (by omega) (by omega)]
      rw [e1, e2, Int.toNat_natCast, Int.toNat_natCast, fs_first, show r + a - m + m = r + a from by omega, fs_shift a m r ha]
      have : (r + a - m) / a = 0 := Int.ediv_eq_zero_of_lt (by omega) (by omega)
      rw [this]; omega
end Go.Proofs.Ytfncikbmdaameaa
