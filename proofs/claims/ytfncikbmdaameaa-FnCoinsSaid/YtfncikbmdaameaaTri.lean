/- Counting the whole points of a triangle by columns and by rows. No program in sight. -/
import Derived.Test.YtfncikbmdaameaaSums
namespace Go.Proofs.Ytfncikbmdaameaa

theorem fs_reverse (m a b : Int) : ∀ n : Nat, fs m a b n = fs m (-a) (a * ((n : Int) - 1) + b) n
  | 0 => rfl
  | n + 1 => by
    have h := fs_reverse m a b n
    have e1 : ((n + 1 : Nat) : Int) - 1 = n := by omega
    rw [e1, show fs m a b (n + 1) = fs m a b n + (a * (n : Int) + b) / m from rfl, h, fs_first m (-a)]
    have e2 : a * ((n : Int) - 1) + b = a * n + b + -a := by rw [Int.mul_sub, Int.mul_one]; omega
    rw [e2]; omega

def sumN (f : Nat → Int) : Nat → Int
  | 0 => 0
  | n + 1 => sumN f n + f n
theorem sumN_congr (f g : Nat → Int) : ∀ n, (∀ i, i < n → f i = g i) → sumN f n = sumN g n
  | 0, _ => rfl
  | n + 1, h => by unfold sumN; rw [sumN_congr f g n (fun i hi => h i (by omega)), h n (by omega)]
theorem sumN_add (f g : Nat → Int) : ∀ n, sumN (fun i => f i + g i) n = sumN f n + sumN g n
  | 0 => rfl
  | n + 1 => by unfold sumN; rw [sumN_add f g n]; omega
theorem sumN_zero : ∀ n, sumN (fun _ => 0) n = 0
  | 0 => rfl
  | n + 1 => by unfold sumN; rw [sumN_zero n]; rfl
theorem sumN_swap (g : Nat → Nat → Int) (N : Nat) : ∀ M, sumN (fun x => sumN (fun y => g x y) N) M = sumN (fun y => sumN (fun x => g x y) M) N
  | 0 => by
    show (0 : Int) = sumN (fun y => 0) N
    rw [sumN_zero]
  | M + 1 => by
    show sumN (fun x => sumN (fun y => g x y) N) M + sumN (fun y => g M y) N = sumN (fun y => sumN (fun x => g x y) M + g M y) N
    rw [sumN_swap g N M, sumN_add (fun y => sumN (fun x => g x y) M) (fun y => g M y)]
theorem sumN_tail (f : Nat → Int) (L : Nat) : ∀ N, L ≤ N → (∀ i, L ≤ i → f i = 0) → sumN f N = sumN f L
  | 0, h, _ => by rw [Nat.le_zero.1 h]
  | N + 1, h, hz => by
    by_cases e : L = N + 1
    · rw [e]
    · unfold sumN; rw [sumN_tail f L N (by omega) hz, hz N (by omega)]; cases L <;> simp [sumN]
theorem sumN_count (k : Int) : ∀ N : Nat, k < N → sumN (fun y => if (y : Int) ≤ k then 1 else 0) N = if k < 0 then 0 else k + 1 := by
  have h0 : ∀ N : Nat, sumN (fun y => if (y : Int) ≤ k then 1 else 0) N = if k < 0 then 0 else min (k + 1) N := by
    intro N
    induction N with
    | zero => unfold sumN; split <;> omega
    | succ N ih => unfold sumN; rw [ih]; split <;> split <;> omega
  intro N hN
  rw [h0 N]; split <;> omega

theorem fs_sumN (m a b : Int) : ∀ n : Nat, fs m a b n = sumN (fun i => (a * i + b) / m) n
  | 0 => rfl
  | n + 1 => by unfold fs sumN; rw [fs_sumN m a b n]

/-- the points of the triangle, column by column -/
def colsT (a b : Int) (n : Nat) : Int := sumN (fun x => sumN (fun y => if a * x + b * y ≤ n then 1 else 0) (n + 1)) (n + 1)
theorem colsT_comm (a b : Int) (n : Nat) : colsT a b n = colsT b a n := by
  unfold colsT
  rw [sumN_swap]
  refine sumN_congr _ _ _ fun y _ => sumN_congr _ _ _ fun x _ => ?_
  rw [Int.add_comm]
theorem fs_cols (a b : Int) (n : Nat) (ha : 1 ≤ a) (hb : 1 ≤ b) : fs b (-a) n ((n : Int) / a).toNat.succ + ((n : Int) / a + 1) = colsT a b n := by
  have hq := Int.ediv_nonneg (show (0 : Int) ≤ n by omega) (show 0 ≤ a by omega)
  have hqn := Int.ediv_le_self a (show (0 : Int) ≤ n by omega)
  have hmul := Int.mul_ediv_add_emod (n : Int) a
  have hr := Int.emod_nonneg (n : Int) (show a ≠ 0 by omega)
  have hr' := Int.emod_lt_of_pos (n : Int) (show 0 < a by omega)
  obtain ⟨L, hL⟩ : ∃ L : Nat, (n : Int) / a = L := ⟨((n : Int) / a).toNat, by omega⟩
  rw [hL] at hmul hqn ⊢
  rw [Int.toNat_natCast, fs_sumN]
  have hrow : ∀ x : Nat, sumN (fun y => if a * x + b * y ≤ n then (1 : Int) else 0) (n + 1) = if (n - a * x : Int) / b < 0 then 0 else (n - a * x : Int) / b + 1 := by
    intro x
    rw [← sumN_count ((n - a * x : Int) / b) (n + 1)]
    · refine sumN_congr _ _ _ fun y _ => ?_
      have : ((y : Int) ≤ (n - a * x : Int) / b) ↔ (a * x + b * y ≤ n) := by
        rw [Int.le_ediv_iff_mul_le (show 0 < b by omega), Int.mul_comm]; omega
      simp [this]
    · have h0 : 0 ≤ a * (x : Int) := Int.mul_nonneg (by omega) (by omega)
      rcases Int.lt_or_le (n - a * x : Int) 0 with h | h
      · have := Int.ediv_neg_of_neg_of_pos h (show 0 < b by omega); omega
      · have := Int.ediv_le_self b h; omega
  unfold colsT
  rw [sumN_congr _ _ _ (fun x _ => hrow x)]
  rw [sumN_tail _ (L + 1) (n + 1) (by omega)]
  · have hpos : ∀ x : Nat, x < L + 1 → ¬ ((n - a * x : Int) / b < 0) := by
      intro x hx h
      have h1 : a * (x : Int) ≤ a * L := Int.mul_le_mul_of_nonneg_left (by omega) (by omega)
      have h2 := Int.ediv_nonneg (show (0 : Int) ≤ n - a * x by omega) (show 0 ≤ b by omega)
      omega
    rw [sumN_congr (fun x : Nat => if (n - a * x : Int) / b < 0 then 0 else (n - a * x : Int) / b + 1) (fun x : Nat => (-a * x + n) / b + 1) (L + 1)]
    · rw [sumN_add (fun x : Nat => (-a * x + n) / b) (fun _ => 1)]
      have h1 : ∀ N : Nat, sumN (fun _ => (1 : Int)) N = N := by
        intro N; induction N with
        | zero => rfl
        | succ N ih => unfold sumN; rw [ih]; omega
      rw [h1]; rfl
    · intro x hx
      have := hpos x hx
      show (if _ then _ else _) = _
      rw [if_neg this]
      have e : (n - a * x : Int) = -a * x + n := by rw [Int.neg_mul]; omega
      rw [e]
  · intro x hx
    show (if _ then _ else _) = _
    rw [if_pos]
    refine Int.ediv_neg_of_neg_of_pos ?_ (show 0 < b by omega)
    have h1 : a * ((L : Int) + 1) ≤ a * x := Int.mul_le_mul_of_nonneg_left (by omega) (by omega)
    rw [Int.mul_add, Int.mul_one] at h1; omega

/-- by rows with the sums of quotients as by columns -/
theorem tri_rows (a b : Int) (n : Nat) (ha : 1 ≤ a) (hb : 1 ≤ b) :
    fs a (-b) n ((n : Int) / b).toNat.succ + ((n : Int) / b + 1) = fs b a (n - a * ((n : Int) / a)) ((n : Int) / a).toNat.succ + ((n : Int) / a + 1) := by
  rw [fs_cols b a n hb ha, colsT_comm, ← fs_cols a b n ha hb]
  have hq := Int.ediv_nonneg (show (0 : Int) ≤ n by omega) (show 0 ≤ a by omega)
  rw [fs_reverse b a]
  have e : a * ((((n : Int) / a).toNat.succ : Nat) - 1 : Int) + (n - a * ((n : Int) / a)) = n := by
    have e1 : ((((n : Int) / a).toNat.succ : Nat) - 1 : Int) = (n : Int) / a := by omega
    rw [e1]; omega
  rw [e]
end Go.Proofs.Ytfncikbmdaameaa
