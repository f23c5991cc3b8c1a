/- Dedekind's reciprocity: the plain law. -/
import Derived.Test.YtfncikbmdaameaaTri
import Derived.Test.YtfncikbmdaameaaSaw
namespace Go.Proofs.Ytfncikbmdaameaa
set_option linter.unusedVariables false
set_option linter.unusedSimpArgs false

theorem sumN_mul (c : Int) (f : Nat → Int) : ∀ n, sumN (fun i => c * f i) n = c * sumN f n
  | 0 => by simp [sumN]
  | n + 1 => by rw [sumN, sumN, sumN_mul c f n, Int.mul_add]
theorem sumN_le {f g : Nat → Int} : ∀ n, (∀ i, i < n → f i ≤ g i) → sumN f n ≤ sumN g n
  | 0, _ => by simp [sumN]
  | n + 1, h => by
    have a := sumN_le n fun i hi => h i (by omega)
    have b := h n (by omega)
    rw [sumN, sumN]; omega
theorem sumN_const (c : Int) : ∀ n : Nat, sumN (fun _ => c) n = n * c
  | 0 => by simp [sumN]
  | n + 1 => by rw [sumN, sumN_const c n]; push_cast; rw [Int.add_mul]; omega
theorem sumN_first (f : Nat → Int) : ∀ n, sumN f (n + 1) = f 0 + sumN (fun i => f (i + 1)) n
  | 0 => by simp [sumN]
  | n + 1 => by rw [sumN, sumN_first f n, sumN]; omega
theorem sumN_single {g : Nat → Int} {K j : Nat} (hj : j < K) (h : ∀ i, i < K → i ≠ j → g i = 0) : sumN g K = g j := by
  induction K with
  | zero => omega
  | succ K ih =>
    rw [sumN]
    by_cases e : j = K
    · subst e
      have : sumN g j = 0 := by
        rw [sumN_congr g (fun _ => 0) j fun i hi => h i (by omega) (by omega), sumN_zero]
      omega
    · rw [ih (by omega) fun i hi hne => h i (by omega) hne, h K (by omega) (fun g => e g.symm)]; omega
/-- full where the sum is -/
theorem sumN_tight {c : Nat → Int} : ∀ n : Nat, (∀ i, i < n → c i ≤ 1) → sumN c n = n → ∀ i, i < n → c i = 1
  | 0, _, _, i, hi => absurd hi (Nat.not_lt_zero _)
  | n + 1, h, hs, i, hi => by
    have a := sumN_le (g := fun _ => 1) n fun i hi => h i (by omega)
    rw [sumN_const] at a
    have b := h n (by omega)
    rw [sumN] at hs
    push_cast at hs
    by_cases e : i = n
    · subst e; omega
    · exact sumN_tight n (fun i hi => h i (by omega)) (by omega) i (by omega)
theorem sumN_perm (s : Nat → Nat) (K : Nat) (hs : ∀ i, i < K → s i < K) (hi : ∀ i j, i < K → j < K → s i = s j → i = j) (f : Nat → Int) : sumN (fun i => f (s i)) K = sumN f K := by
  have hc1 : ∀ j, j < K → sumN (fun i => if s i = j then 1 else 0) K ≤ 1 := by
    intro j _
    by_cases h : ∃ i, i < K ∧ s i = j
    · obtain ⟨i, hi1, hi2⟩ := h
      rw [sumN_single hi1 fun i' h' hne => if_neg fun e => hne (hi i' i h' hi1 (e.trans hi2.symm))]
      split <;> omega
    · rw [sumN_congr _ (fun _ => 0) K fun i hi' => if_neg fun e => h ⟨i, hi', e⟩, sumN_zero]; omega
  have hsum : sumN (fun j => sumN (fun i => if s i = j then 1 else 0) K) K = K := by
    rw [sumN_swap (fun j i => if s i = j then (1 : Int) else 0) K K]
    rw [sumN_congr _ (fun _ => 1) K fun i hi' => by
      rw [sumN_single (hs i hi') fun j _ hne => if_neg fun e => hne e.symm]; exact if_pos rfl]
    rw [sumN_const]; omega
  have hone := sumN_tight K hc1 hsum
  have e1 : sumN (fun i => f (s i)) K = sumN (fun i => sumN (fun j => if s i = j then f j else 0) K) K :=
    sumN_congr _ _ K fun i hi' => by
      rw [sumN_single (hs i hi') fun j _ hne => if_neg fun e => hne e.symm]; exact (if_pos rfl).symm
  rw [e1, sumN_swap (fun i j => if s i = j then f j else 0) K K]
  refine sumN_congr _ _ K fun j hj => ?_
  have : sumN (fun i => if s i = j then f j else 0) K = f j * sumN (fun i => if s i = j then 1 else 0) K := by
    rw [← sumN_mul]; exact sumN_congr _ _ K fun i _ => by split <;> simp
  rw [this, hone j hj, Int.mul_one]

theorem sum_one (K : Nat) : 2 * sumN (fun i => (i : Int)) K = (K : Int) * (K - 1) := by
  induction K with
  | zero => simp [sumN]
  | succ K ih => rw [sumN, Int.mul_add, ih]; push_cast; grind
theorem sum_two (K : Nat) : 6 * sumN (fun i => (i : Int) * i) K = ((K : Int) - 1) * K * (2 * K - 1) := by
  induction K with
  | zero => simp [sumN]
  | succ K ih => rw [sumN, Int.mul_add, ih]; push_cast; grind
theorem sum_odd (q : Nat) : sumN (fun j => 2 * (j : Int) + 1) q = (q : Int) * q := by
  induction q with
  | zero => simp [sumN]
  | succ q ih => rw [sumN, ih]; push_cast; grind

/-- the sum of i times the quotient -/
def aS (h k : Nat) : Int := sumN (fun i => (i : Int) * (h * i / k : Nat)) k
def qS (h k : Nat) : Int := sumN (fun i => ((h * i / k : Nat) : Int)) k
def qqS (h k : Nat) : Int := sumN (fun i => ((h * i / k : Nat) : Int) * (h * i / k : Nat)) k
theorem res_inj {h k : Nat} (hk : 1 ≤ k) (hg : Nat.gcd h k = 1) : ∀ i j, i < k → j < k → h * i % k = h * j % k → i = j := by
  have key : ∀ i j, i ≤ j → j < k → h * i % k = h * j % k → i = j := by
    intro i j hij hj e
    have hd : k ∣ h * (j - i) := by
      rw [Nat.mul_sub]
      exact Nat.dvd_of_mod_eq_zero (Nat.sub_mod_eq_zero_of_mod_eq e.symm)
    have hc : Nat.Coprime k h := by rw [Nat.Coprime, Nat.gcd_comm]; exact hg
    have hd2 := hc.dvd_of_dvd_mul_left hd
    have := Nat.eq_zero_of_dvd_of_lt hd2 (by omega)
    omega
  intro i j hi hj e
  rcases Nat.le_total i j with h | h
  · exact key i j h hj e
  · exact (key j i h hi e.symm).symm
theorem res_sum {h k : Nat} (hk : 1 ≤ k) (hg : Nat.gcd h k = 1) (f : Nat → Int) : sumN (fun i => f (h * i % k)) k = sumN f k :=
  sumN_perm (fun i => h * i % k) k (fun i _ => Nat.mod_lt _ (by omega)) (res_inj hk hg) f
theorem res_eq (h k i : Nat) : ((h * i % k : Nat) : Int) = h * i - k * (h * i / k : Nat) := by
  have := Nat.div_add_mod (h * i) k
  have e : ((k * (h * i / k) + h * i % k : Nat) : Int) = ((h * i : Nat) : Int) := by rw [this]
  push_cast at e ⊢; omega
theorem q_sum {h k : Nat} (hk : 1 ≤ k) (hg : Nat.gcd h k = 1) : 2 * qS h k = ((h : Int) - 1) * (k - 1) := by
  have e := res_sum hk hg (fun i => (i : Int))
  rw [sumN_congr _ (fun i => (h : Int) * (i : Int) + (-(k : Int)) * (h * i / k : Nat)) k fun i _ => by rw [res_eq, Int.neg_mul]; omega] at e
  rw [sumN_add, sumN_mul, sumN_mul] at e
  have s := sum_one k
  unfold qS
  generalize sumN (fun i => (i : Int)) k = X at *
  generalize sumN (fun i => ((h * i / k : Nat) : Int)) k = Q at *
  have e2 : (k : Int) * (2 * Q) = k * (((h : Int) - 1) * (k - 1)) := by grind
  exact Int.eq_of_mul_eq_mul_left (by omega) e2
theorem qq_res {h k : Nat} (hk : 1 ≤ k) (hg : Nat.gcd h k = 1) : 12 * ((h : Int) * aS h k) = ((h : Int) * h - 1) * ((k - 1) * (2 * k - 1)) + 6 * (k * qqS h k) := by
  have e := res_sum hk hg (fun i => (i : Int) * i)
  rw [sumN_congr _ (fun i => (h : Int) * h * ((i : Int) * i) + ((-(2 * (h : Int) * k)) * ((i : Int) * (h * i / k : Nat)) + (k : Int) * k * (((h * i / k : Nat) : Int) * (h * i / k : Nat)))) k fun i _ => by rw [res_eq]; grind] at e
  rw [sumN_add, sumN_add, sumN_mul, sumN_mul, sumN_mul] at e
  have s := sum_two k
  unfold aS qqS
  generalize sumN (fun i => (i : Int) * i) k = X at *
  generalize sumN (fun i => (i : Int) * (h * i / k : Nat)) k = Y at *
  generalize sumN (fun i => ((h * i / k : Nat) : Int) * (h * i / k : Nat)) k = Z at *
  have e2 : (k : Int) * (12 * ((h : Int) * Y)) = k * (((h : Int) * h - 1) * ((k - 1) * (2 * k - 1)) + 6 * (k * Z)) := by grind
  exact Int.eq_of_mul_eq_mul_left (by omega) e2
/-- how many i give a quotient above j -/
theorem q_count {h k : Nat} (hh : 1 ≤ h) (hk : 1 ≤ k) (hg : Nat.gcd h k = 1) (j : Nat) (hj : j + 1 < h) : sumN (fun i => if j + 1 ≤ h * i / k then (1 : Int) else 0) k = (k : Int) - 1 - (k * (j + 1) / h : Nat) := by
  have hnd : ¬ h ∣ k * (j + 1) := by
    intro hd
    have hc : Nat.Coprime h k := hg
    have := Nat.le_of_dvd (by omega) (hc.dvd_of_dvd_mul_left hd)
    omega
  have hlt : k * (j + 1) / h < k := by
    rw [Nat.div_lt_iff_lt_mul (by omega)]
    exact Nat.mul_lt_mul_of_pos_left hj (by omega)
  have hcond : ∀ i, j + 1 ≤ h * i / k ↔ k * (j + 1) / h < i := by
    intro i
    rw [Nat.le_div_iff_mul_le (by omega), Nat.div_lt_iff_lt_mul (by omega)]
    have : (j + 1) * k ≠ h * i := fun e => hnd ⟨i, by rw [Nat.mul_comm, e]⟩
    rw [Nat.mul_comm (j + 1) k, Nat.mul_comm i h] at *
    omega
  rw [sumN_congr _ (fun i => if k * (j + 1) / h < i then (1 : Int) else 0) k fun i _ => by simp [hcond]]
  generalize k * (j + 1) / h = m at *
  have key : ∀ n : Nat, m < n → sumN (fun i => if m < i then (1 : Int) else 0) n = (n : Int) - 1 - m := by
    intro n hn
    induction n with
    | zero => omega
    | succ n ih =>
      rw [sumN]
      by_cases e : m < n
      · rw [ih e, if_pos e]; push_cast; omega
      · have : n = m := by omega
        subst this
        rw [if_neg e, sumN_congr _ (fun _ => 0) n fun i hi => if_neg (by omega), sumN_zero]; push_cast; omega
  exact key k hlt
theorem qq_flip {h k : Nat} (hh : 1 ≤ h) (hk : 1 ≤ k) (hg : Nat.gcd h k = 1) : qqS h k = ((k : Int) - 1) * ((h - 1) * (h - 1)) - 2 * aS k h + qS k h := by
  have hq : ∀ i, i < k → h * i / k < h := fun i hi => by
    rw [Nat.div_lt_iff_lt_mul (by omega)]; exact Nat.mul_lt_mul_of_pos_left hi (by omega)
  have e1 : qqS h k = sumN (fun i => sumN (fun j => (2 * (j : Int) + 1) * (if j + 1 ≤ h * i / k then (1 : Int) else 0)) (h - 1)) k := by
    unfold qqS
    refine sumN_congr _ _ k fun i hi => ?_
    have := hq i hi
    rw [← sum_odd]
    generalize h * i / k = q at *
    rw [sumN_tail (fun j => (2 * (j : Int) + 1) * (if j + 1 ≤ q then (1 : Int) else 0)) q (h - 1) (by omega) fun j hj => by rw [if_neg (by omega), Int.mul_zero]]
    exact sumN_congr _ _ q fun j hj => by rw [if_pos (by omega), Int.mul_one]
  rw [e1, sumN_swap (fun i j => (2 * (j : Int) + 1) * (if j + 1 ≤ h * i / k then (1 : Int) else 0)) (h - 1) k]
  rw [sumN_congr _ (fun j => (2 * (j : Int) + 1) * ((k : Int) - 1 - (k * (j + 1) / h : Nat))) (h - 1) fun j hj => by
    rw [sumN_mul, q_count hh hk hg j (by omega)]]
  have ha : aS k h = sumN (fun j => ((j : Int) + 1) * (k * (j + 1) / h : Nat)) (h - 1) := by
    obtain ⟨m, rfl⟩ : ∃ m, h = m + 1 := ⟨h - 1, by omega⟩
    unfold aS; rw [sumN_first]; simp
  have hs : qS k h = sumN (fun j => ((k * (j + 1) / h : Nat) : Int)) (h - 1) := by
    obtain ⟨m, rfl⟩ : ∃ m, h = m + 1 := ⟨h - 1, by omega⟩
    unfold qS; rw [sumN_first]; simp
  rw [ha, hs]
  rw [sumN_congr _ (fun j => ((k : Int) - 1) * (2 * (j : Int) + 1) + ((-2) * (((j : Int) + 1) * (k * (j + 1) / h : Nat)) + ((k * (j + 1) / h : Nat) : Int))) (h - 1) fun j _ => by grind]
  rw [sumN_add, sumN_add, sumN_mul, sumN_mul, sum_odd]
  have : ((h - 1 : Nat) : Int) = (h : Int) - 1 := by omega
  rw [this]; omega
theorem aS_pair {h k : Nat} (hh : 1 ≤ h) (hk : 1 ≤ k) (hg : Nat.gcd h k = 1) :
    12 * ((h : Int) * aS h k + k * aS k h) = ((h : Int) * h - 1) * ((k - 1) * (2 * k - 1)) + 6 * (k * ((k - 1) * ((h - 1) * (h - 1)))) + 3 * (k * (((h : Int) - 1) * (k - 1))) := by
  have a := qq_res hk hg
  have b := qq_flip hh hk hg
  have c := q_sum (h := k) (k := h) hh (by rw [Nat.gcd_comm]; exact hg)
  generalize aS h k = X at *
  generalize aS k h = Y at *
  generalize qqS h k = Z at *
  generalize qS k h = W at *
  subst b
  have c2 : (k : Int) * (6 * W) = 3 * (k * (((h : Int) - 1) * (k - 1))) := by grind
  grind
theorem sw_sumN (h k : Int) : ∀ n, sw h k n = sumN (fun i => (2 * ((i : Int) + 1) - k) * (2 * (h * ((i : Int) + 1) % k) - k)) n
  | 0 => rfl
  | n + 1 => by rw [sw, sumN, sw_sumN h k n]
theorem saw_closed {h k : Nat} (hh : 1 ≤ h) (hk : 1 ≤ k) (hg : Nat.gcd h k = 1) : 3 * sw h k (k - 1) = k * (2 * h * (((k : Int) - 1) * (2 * k - 1)) - 12 * aS h k - 3 * (k * (k - 1))) := by
  obtain ⟨m, rfl⟩ : ∃ m, k = m + 1 := ⟨k - 1, by omega⟩
  have e0 : sumN (fun i => (2 * (i : Int) - (m + 1 : Nat)) * (2 * ((h * i % (m + 1) : Nat) : Int) - (m + 1 : Nat))) (m + 1) = ((m + 1 : Nat) : Int) * (m + 1 : Nat) + sw h (m + 1 : Nat) m := by
    rw [sumN_first, sw_sumN]
    rw [sumN_congr (fun i => (2 * ((i + 1 : Nat) : Int) - (m + 1 : Nat)) * (2 * ((h * (i + 1) % (m + 1) : Nat) : Int) - (m + 1 : Nat))) (fun i => (2 * ((i : Int) + 1) - (m + 1 : Nat)) * (2 * ((h : Int) * ((i : Int) + 1) % (m + 1 : Nat)) - (m + 1 : Nat))) m fun i _ => by push_cast; rfl]
    congr 1
  rw [Nat.add_sub_cancel]
  have e1 := res_sum hk hg (fun i => (i : Int))
  have s1 := sum_one (m + 1)
  have s2 := sum_two (m + 1)
  rw [sumN_congr _ (fun i => (4 * (h : Int)) * ((i : Int) * i) + ((-(4 * ((m + 1 : Nat) : Int))) * ((i : Int) * (h * i / (m + 1) : Nat)) + ((-(2 * ((m + 1 : Nat) : Int))) * (i : Int) + ((-(2 * ((m + 1 : Nat) : Int))) * ((h * i % (m + 1) : Nat) : Int) + ((m + 1 : Nat) : Int) * (m + 1 : Nat))))) (m + 1) fun i _ => by
    have := res_eq h (m + 1) i
    generalize ((h * i % (m + 1) : Nat) : Int) = r at *
    generalize ((h * i / (m + 1) : Nat) : Int) = q at *
    generalize ((m + 1 : Nat) : Int) = k at *
    grind] at e0
  rw [sumN_add, sumN_add, sumN_add, sumN_add, sumN_mul, sumN_mul, sumN_mul, sumN_mul, sumN_const] at e0
  unfold aS
  generalize sumN (fun i => (i : Int) * i) (m + 1) = X at *
  generalize sumN (fun i => (i : Int) * (h * i / (m + 1) : Nat)) (m + 1) = Y at *
  generalize sumN (fun i => ((h * i % (m + 1) : Nat) : Int)) (m + 1) = Z at *
  generalize sumN (fun i => (i : Int)) (m + 1) = W at *
  generalize ((m + 1 : Nat) : Int) = k at *
  generalize sw h k m = S at *
  generalize (h : Int) = H at *
  grind
theorem saw_closedI {h k : Nat} (hh : 1 ≤ h) (hk : 1 ≤ k) (hg : Nat.gcd h k = 1) : sawI h k = 2 * h * (((k : Int) - 1) * (2 * k - 1)) - 12 * aS h k - 3 * (k * (k - 1)) := by
  unfold sawI
  rw [show ((k : Int) - 1).toNat = k - 1 by omega, saw_closed hh hk hg]
  exact Int.mul_tdiv_cancel_left _ (by omega)
/-- the law of reciprocity -/
theorem saw_mirror {h k : Int} (hs : sawOkB h k = true) : h * sawI h k + k * sawI k h = h * h + k * k + 1 - 3 * h * k := by
  obtain ⟨h1, h1', k1, k1'⟩ := sawOk_bd hs
  obtain ⟨H, rfl⟩ : ∃ H : Nat, h = H := ⟨h.toNat, by omega⟩
  obtain ⟨K, rfl⟩ : ∃ K : Nat, k = K := ⟨k.toNat, by omega⟩
  have hg : Nat.gcd H K = 1 := by
    simp only [sawOkB, Bool.and_eq_true, beq_iff_eq] at hs
    have := hs.2
    unfold gcdI at this
    have e : Int.gcd (H : Int) (K : Int) = Nat.gcd H K := rfl
    rw [e] at this; omega
  rw [saw_closedI (by omega) (by omega) hg, saw_closedI (by omega) (by omega) (by rw [Nat.gcd_comm]; exact hg)]
  have := aS_pair (show 1 ≤ H by omega) (show 1 ≤ K by omega) hg
  generalize aS H K = X at *
  generalize aS K H = Y at *
  grind
end Go.Proofs.Ytfncikbmdaameaa
