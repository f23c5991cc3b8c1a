/- Sums of saws: the walks. -/
import Derived.Test.YtfncikbmdaameaaB1
namespace Go.Proofs.Ytfncikbmdaameaa
open Go.RowKit
set_option linter.unusedVariables false
set_option linter.unusedSimpArgs false

/-- the sum of the products from 1 to j, j counted down from a number n of rounds -/
def sw (h k : Int) : Nat → Int
  | 0 => 0
  | n + 1 => sw h k n + (2 * ((n : Int) + 1) - k) * (2 * (h * ((n : Int) + 1) % k) - k)
theorem mul_bd3 {a b M N : Int} (ha : -M ≤ a) (ha' : a ≤ M) (hb : -N ≤ b) (hb' : b ≤ N) (hM : 0 ≤ M) (hN : 0 ≤ N) : -(M * N) ≤ a * b ∧ a * b ≤ M * N := by
  rcases Int.le_total 0 b with h | h
  · exact mul_bd2 ha ha' h hb' hM
  · have := mul_bd2 (a := a) (b := -b) ha ha' (by omega) (show -b ≤ N by omega) hM
    rw [Int.mul_neg] at this; omega
theorem sw_term {h k : Int} {n : Nat} (h1 : 1 ≤ h) (h1' : h ≤ 1000) (k1 : 1 ≤ k) (k1' : k ≤ 1000) (hn : (n : Int) + 1 ≤ k) :
    0 ≤ h * ((n : Int) + 1) ∧ h * ((n : Int) + 1) ≤ 1000000 ∧ 0 ≤ h * ((n : Int) + 1) % k ∧ h * ((n : Int) + 1) % k < k ∧
    -1000000 ≤ (2 * ((n : Int) + 1) - k) * (2 * (h * ((n : Int) + 1) % k) - k) ∧ (2 * ((n : Int) + 1) - k) * (2 * (h * ((n : Int) + 1) % k) - k) ≤ 1000000 := by
  have a1 : 0 ≤ h * ((n : Int) + 1) := Int.mul_nonneg (by omega) (by omega)
  have a2 : h * ((n : Int) + 1) ≤ 1000 * 1000 := Int.mul_le_mul (by omega) (by omega) (by omega) (by omega)
  have a3 := Int.emod_nonneg (h * ((n : Int) + 1)) (show k ≠ 0 by omega)
  have a4 := Int.emod_lt_of_pos (h * ((n : Int) + 1)) (show 0 < k by omega)
  have a5 := mul_bd3 (a := 2 * ((n : Int) + 1) - k) (b := 2 * (h * ((n : Int) + 1) % k) - k) (M := 1000) (N := 1000) (by omega) (by omega) (by omega) (by omega) (by omega) (by omega)
  exact ⟨a1, by omega, a3, a4, by omega, by omega⟩
theorem sw_bd {h k : Int} (h1 : 1 ≤ h) (h1' : h ≤ 1000) (k1 : 1 ≤ k) (k1' : k ≤ 1000) : ∀ n : Nat, (n : Int) ≤ k → -(1000000 * (n : Int)) ≤ sw h k n ∧ sw h k n ≤ 1000000 * (n : Int)
  | 0, _ => by simp [sw]
  | n + 1, hn => by
    have a := sw_bd h1 h1' k1 k1' n (by omega)
    have b := sw_term (n := n) h1 h1' k1 k1' (by omega)
    unfold sw; omega

def sawI (h k : Int) : Int := (3 * sw h k (k - 1).toNat).tdiv k
def sawOkB (h k : Int) : Bool := inB h 1 1000 && inB k 1 1000 && (gcdI h k == 1)
def sawS (h k : Int) : Int := if sawOkB h k then sawI h k else 0
theorem sawOk_bd {h k : Int} (hs : sawOkB h k = true) : 1 ≤ h ∧ h ≤ 1000 ∧ 1 ≤ k ∧ k ≤ 1000 := by
  simp only [sawOkB, Bool.and_eq_true, inB_iff] at hs; omega
theorem sawOk_comm (h k : Int) : sawOkB h k = sawOkB k h := by
  unfold sawOkB; rw [gcdI_comm h k, Bool.and_comm (inB h 1 1000)]
theorem tdiv_bdS {x k M : Int} (hx : -M ≤ x) (hx' : x ≤ M) (hk : 1 ≤ k) (hM : 0 ≤ M) : -M ≤ x.tdiv k ∧ x.tdiv k ≤ M := by
  rcases Int.le_total 0 x with h | h
  · rw [Int.tdiv_eq_ediv_of_nonneg h]
    have h1 := Int.ediv_nonneg h (show 0 ≤ k by omega)
    have h2 := Int.ediv_le_self k h
    omega
  · have e : x.tdiv k = -((-x).tdiv k) := by rw [Int.neg_tdiv]; omega
    rw [e, Int.tdiv_eq_ediv_of_nonneg (show 0 ≤ -x by omega)]
    have h1 := Int.ediv_nonneg (show 0 ≤ -x by omega) (show 0 ≤ k by omega)
    have h2 := Int.ediv_le_self k (show 0 ≤ -x by omega)
    omega
theorem sawI_bd {h k : Int} (hs : sawOkB h k = true) : -3000000000 ≤ sawI h k ∧ sawI h k ≤ 3000000000 := by
  obtain ⟨h1, h1', k1, k1'⟩ := sawOk_bd hs
  have b := sw_bd h1 h1' k1 k1' (k - 1).toNat (by omega)
  exact tdiv_bdS (by omega) (by omega) k1 (by omega)

set_option maxHeartbeats 1000000 in
theorem sawOk_any (h k : Int) (w : World) :
    Calls Try.prog 128 #[.int .i64 h, .int .i64 k] w fun e w' => e = .returned (.bool (sawOkB h k)) ∧ ∃ d, w' = w.drewN d := by
  by_cases hin : inB h 1 1000 = true ∧ inB k 1 1000 = true
  · obtain ⟨i1, i2⟩ := hin
    have hv : sawOkB h k = (gcdI h k == 1) := by simp [sawOkB, i1, i2]
    obtain ⟨h1, h1'⟩ := inB_iff.1 i1
    obtain ⟨h2, h2'⟩ := inB_iff.1 i2
    rw [hv]; clear hv
    go_enter Try.func128, Try.ntmps128
    go_wp2_with (first | (go_at_call 119; (with_reducible refine (within_any _ _ _ _).mono ?_); rintro e w' ⟨rfl, rfl⟩) | (go_at_call 118; (with_reducible refine (divisor_any _ _ _ (by omega) (by omega) (by omega) (by omega)).mono ?_); rintro e w' ⟨rfl, d, rfl⟩))
    go_ret
    exact ⟨rfl, _, rfl⟩
  · have hv : sawOkB h k = false := by
      rcases and2_false hin with i1 | ⟨i1, i2⟩ <;> simp [sawOkB, *]
    rw [hv]
    rcases and2_false hin with i1 | ⟨i1, i2⟩
    all_goals
      clear hin hv
      go_enter Try.func128, Try.ntmps128
      go_wp2_with (go_at_call 119; (with_reducible refine (within_any _ _ _ _).mono ?_); rintro e w' ⟨rfl, rfl⟩)
      go_ret
      exact ⟨rfl, 0, rfl⟩

set_option maxHeartbeats 1000000 in
theorem l16Pair_any (h k : Int) (w : World) :
    Calls Try.prog 130 #[.int .i64 h, .int .i64 k] w fun e w' => e = .returned (.bool (sawOkB h k)) ∧ w = w' := by
  by_cases hin : inB h 1 1000 = true ∧ inB k 1 1000 = true
  · obtain ⟨i1, i2⟩ := hin
    have hv : sawOkB h k = (gcdI h k == 1) := by simp [sawOkB, i1, i2]
    obtain ⟨h1, h1'⟩ := inB_iff.1 i1
    obtain ⟨h2, h2'⟩ := inB_iff.1 i2
    rw [hv]; clear hv
    go_enter Try.func130, Try.ntmps130
    go_wp2_with (first | (go_at_call 122; (with_reducible refine (l1In_any _ _ _ _).mono ?_); rintro e w' ⟨rfl, rfl⟩) | (go_at_call 125; (with_reducible refine (l2Gcd_any _ _ _ (by omega) (by omega) (by omega) (by omega)).mono ?_); rintro e w' ⟨rfl, rfl⟩))
    go_ret
    exact ⟨rfl, rfl⟩
  · have hv : sawOkB h k = false := by
      rcases and2_false hin with i1 | ⟨i1, i2⟩ <;> simp [sawOkB, *]
    rw [hv]
    rcases and2_false hin with i1 | ⟨i1, i2⟩
    all_goals
      clear hin hv
      go_enter Try.func130, Try.ntmps130
      go_wp2_with (go_at_call 122; (with_reducible refine (l1In_any _ _ _ _).mono ?_); rintro e w' ⟨rfl, rfl⟩)
      go_ret
      exact ⟨rfl, rfl⟩

set_option maxHeartbeats 1000000 in
theorem l16Saw_any (h k : Int) (w : World) (hs : sawOkB h k = true) :
    Calls Try.prog 131 #[.int .i64 h, .int .i64 k] w fun e w' => e = .returned (.int .i64 (sawI h k)) ∧ w = w' := by
  obtain ⟨h1, h1', k1, k1'⟩ := sawOk_bd hs
  clear hs
  go_enter Try.func131, Try.ntmps131
  go_wp2
  go_loop [5, 6] (fun s i => ∃ n : Nat, (n : Int) + 1 ≤ k ∧ i = .int .i64 ((n : Int) + 1) ∧ s = .int .i64 (sw h k n)) (fun _ i => (k - intOf i).toNat)
  case atStart => exact ⟨0, by omega, rfl, rfl⟩
  case round =>
    obtain ⟨n, hn, rfl, rfl⟩ := hrel
    have bd := sw_bd h1 h1' k1 k1' n (by omega)
    have tb := sw_term h1 h1' k1 k1' hn
    by_cases hlt : (n : Int) + 1 < k
    · go_wp2
      go_round
      case rel => exact ⟨n + 1, by omega, by go_num, rfl⟩
      case measure => simp [intOf]; omega
    · have hk : (k - 1).toNat = n := by omega
      have HK := Lib.hid hk; clear hk
      go_wp2
      go_ret
      refine ⟨ret_int ?_, rfl⟩
      unfold sawI; rw [HK.out]

set_option maxHeartbeats 1000000 in
theorem implSawSum_any (h k : Int) (w : World) :
    Calls Try.prog 39 #[.int .i64 h, .int .i64 k] w fun e w' => e = .returned (.int .i64 (sawS h k)) ∧ ∃ d, w' = w.drewN d := by
  by_cases hs : sawOkB h k = true
  · have hv : sawS h k = sawI h k := by simp [sawS, hs]
    rw [hv]; clear hv
    obtain ⟨h1, h1', k1, k1'⟩ := sawOk_bd hs
    go_enter Try.func39, Try.ntmps39
    go_wp2_with (go_at_call 128; (with_reducible refine (sawOk_any _ _ _).mono ?_); rintro e w' ⟨rfl, d, rfl⟩)
    clear hs
    go_loop [5, 6] (fun s i => ∃ n : Nat, (n : Int) + 1 ≤ k ∧ i = .int .i64 ((n : Int) + 1) ∧ s = .int .i64 (sw h k n)) (fun _ i => (k - intOf i).toNat)
    case atStart => exact ⟨0, by omega, rfl, rfl⟩
    case round =>
      obtain ⟨n, hn, rfl, rfl⟩ := hrel
      have bd := sw_bd h1 h1' k1 k1' n (by omega)
      have tb := sw_term h1 h1' k1 k1' hn
      by_cases hlt : (n : Int) + 1 < k
      · go_wp2
        go_round
        case rel => exact ⟨n + 1, by omega, by go_num, rfl⟩
        case measure => simp [intOf]; omega
      · have hk : (k - 1).toNat = n := by omega
        have HK := Lib.hid hk; clear hk
        go_wp2
        go_ret
        refine ⟨ret_int ?_, _, rfl⟩
        unfold sawI; rw [HK.out]
  · have hv : sawS h k = 0 := by simp [sawS, hs]
    rw [hv]; clear hv
    go_enter Try.func39, Try.ntmps39
    go_wp2_with (go_at_call 128; (with_reducible refine (sawOk_any _ _ _).mono ?_); rintro e w' ⟨rfl, d, rfl⟩)
    go_ret
    exact ⟨rfl, _, rfl⟩

set_option maxHeartbeats 1000000 in
theorem specSawSum_any (h k : Int) (w : World) :
    Calls Try.prog 42 #[.int .i64 h, .int .i64 k] w fun e w' => e = .returned (.int .i64 (sawS h k)) ∧ w = w' := by
  by_cases hs : sawOkB h k = true
  · have hv : sawS h k = sawI h k := by simp [sawS, hs]
    rw [hv]; clear hv
    have HS := fun w => l16Saw_any h k w hs
    go_enter Try.func42, Try.ntmps42
    go_wp2_with (first | (go_at_call 130; (with_reducible refine (l16Pair_any _ _ _).mono ?_); rintro e w' ⟨rfl, rfl⟩) | (go_at_call 131; (with_reducible refine (HS _).mono ?_); rintro e w' ⟨rfl, rfl⟩))
    go_ret
    exact ⟨rfl, rfl⟩
  · have hv : sawS h k = 0 := by simp [sawS, hs]
    rw [hv]; clear hv
    go_enter Try.func42, Try.ntmps42
    go_wp2_with (go_at_call 130; (with_reducible refine (l16Pair_any _ _ _).mono ?_); rintro e w' ⟨rfl, rfl⟩)
    go_ret
    exact ⟨rfl, rfl⟩

end Go.Proofs.Ytfncikbmdaameaa
