/- Two coins: the walks of both functions and of the law. -/
import Derived.Test.YtfncikbmdaameaaTwo
namespace Go.Proofs.Ytfncikbmdaameaa
open Go.RowKit
set_option linter.unusedVariables false
set_option linter.unusedSimpArgs false

set_option maxHeartbeats 1000000 in
theorem specTwoCoins_any (a b n : Int) (x : Nat) (w : World) (hx : twoB a b n = true → x ≤ 30 ∧ First a b n x) :
    Calls Try.prog 56 #[.int .i64 a, .int .i64 b, .int .i64 n] w fun e w' => e = .returned (.int .i64 (twoV a b n x)) ∧ ∃ d, w' = w.drewN d := by
  rcases two_cases a b n with ⟨i1, i2, i3, i4⟩ | ⟨hf, hc⟩
  · obtain ⟨hx30, hz, hmin⟩ := hx (by simp [twoB, i1, i2, i3, i4])
    have hv : twoV a b n x = if n < a * x then 0 else (n - a * x) / (a * b) + 1 := by simp [twoV, twoB, i1, i2, i3, i4]
    rw [hv]; clear hv hx
    obtain ⟨h1, h1'⟩ := inB_iff.1 i1
    obtain ⟨h2, h2'⟩ := inB_iff.1 i2
    obtain ⟨h3, h3'⟩ := inB_iff.1 i4
    have HZ := Lib.hid hz; clear hz
    have HM := Lib.hid hmin; clear hmin
    go_enter Try.func56, Try.ntmps56
    go_wp2_with (first | (go_at_call 122; (with_reducible refine (l1In_any _ _ _ _).mono ?_); rintro e w' ⟨rfl, rfl⟩) | (go_at_call 125; (with_reducible refine (l2Gcd_any _ _ _ (by omega) (by omega) (by omega) (by omega)).mono ?_); rintro e w' ⟨rfl, rfl⟩))
    go_loop [7] (fun s => ∃ k : Nat, k ≤ x ∧ s = .int .i64 k) (fun s => x - (intOf s).toNat)
    case atStart => exact ⟨0, by omega, rfl⟩
    case round =>
      obtain ⟨k, hk, rfl⟩ := hrel
      have bd := two_bd (x := k) h1 h1' h2 h2' h3 h3' (by omega)
      by_cases he : k = x
      · subst he
        have z0 : ((n - a * (k : Int)).tmod b != 0) = false := by rw [HZ.out]; rfl
        by_cases hlt : n < a * k
        · go_wp2
          go_ret
          exact ⟨ret_int (by first | rfl | rw [if_pos hlt]), by first | exact ⟨0, rfl⟩ | exact ⟨_, rfl⟩⟩
        · have hq0 := Int.ediv_nonneg (show 0 ≤ n - a * (k : Int) by omega) (show 0 ≤ a * b by omega)
          have hq := Int.ediv_le_self (a * b) (show 0 ≤ n - a * (k : Int) by omega)
          have z1 : ((n - a * (k : Int)) % b != 0) = false := by rw [← Int.tmod_eq_emod_of_nonneg (by omega)]; exact z0
          go_wp2
          go_ret
          exact ⟨ret_int (by first | rfl | rw [if_neg (by omega)]), by first | exact ⟨0, rfl⟩ | exact ⟨_, rfl⟩⟩
      · have z0 : ((n - a * (k : Int)).tmod b != 0) = true := by rw [bne_iff_ne]; exact HM.out k (by omega)
        by_cases hlt : n < a * k
        · go_wp2
          go_round
          case rel => exact ⟨k + 1, by omega, by go_num⟩
          case measure => simp [intOf]; omega
        · have z1 : ((n - a * (k : Int)) % b != 0) = true := by rw [← Int.tmod_eq_emod_of_nonneg (by omega)]; exact z0
          go_wp2
          go_round
          case rel => exact ⟨k + 1, by omega, by go_num⟩
          case measure => simp [intOf]; omega
  · have hv : twoV a b n x = -1 := by simp [twoV, hf]
    rw [hv]; clear hv hx hf
    rcases hc with i1 | ⟨i1, i2⟩ | ⟨i1, i2, i3⟩ | ⟨i1, i2, i3, i4⟩
    · go_enter Try.func56, Try.ntmps56
      go_wp2_with (go_at_call 122; (with_reducible refine (l1In_any _ _ _ _).mono ?_); rintro e w' ⟨rfl, rfl⟩)
      go_ret
      exact ⟨rfl, 0, rfl⟩
    · go_enter Try.func56, Try.ntmps56
      go_wp2_with (go_at_call 122; (with_reducible refine (l1In_any _ _ _ _).mono ?_); rintro e w' ⟨rfl, rfl⟩)
      go_ret
      exact ⟨rfl, 0, rfl⟩
    all_goals
      obtain ⟨h1, h1'⟩ := inB_iff.1 i1
      obtain ⟨h2, h2'⟩ := inB_iff.1 i2
      go_enter Try.func56, Try.ntmps56
      go_wp2_with (first | (go_at_call 122; (with_reducible refine (l1In_any _ _ _ _).mono ?_); rintro e w' ⟨rfl, rfl⟩) | (go_at_call 125; (with_reducible refine (l2Gcd_any _ _ _ (by omega) (by omega) (by omega) (by omega)).mono ?_); rintro e w' ⟨rfl, rfl⟩))
      go_ret
      first | exact ⟨rfl, 0, rfl⟩ | exact ⟨rfl, _, rfl⟩

set_option maxHeartbeats 1000000 in
theorem implTwoCoins_any (a b n : Int) (x : Nat) (w : World) (hx : twoB a b n = true → x ≤ 30 ∧ First a b n x) :
    Calls Try.prog 52 #[.int .i64 a, .int .i64 b, .int .i64 n] w fun e w' => e = .returned (.int .i64 (twoV a b n x)) ∧ ∃ d, w' = w.drewN d := by
  rcases two_cases a b n with ⟨i1, i2, i3, i4⟩ | ⟨hf, hc⟩
  · obtain ⟨hx30, hz, hmin⟩ := hx (by simp [twoB, i1, i2, i3, i4])
    have hv : twoV a b n x = if n < a * x then 0 else (n - a * x) / (a * b) + 1 := by simp [twoV, twoB, i1, i2, i3, i4]
    rw [hv]; clear hv hx
    obtain ⟨h1, h1'⟩ := inB_iff.1 i1
    obtain ⟨h2, h2'⟩ := inB_iff.1 i2
    obtain ⟨h3, h3'⟩ := inB_iff.1 i4
    have HZ := Lib.hid hz; clear hz
    have HM := Lib.hid hmin; clear hmin
    go_enter Try.func52, Try.ntmps52
    go_wp2_with (first | (go_at_call 119; (with_reducible refine (within_any _ _ _ _).mono ?_); rintro e w' ⟨rfl, rfl⟩) | (go_at_call 118; (with_reducible refine (divisor_any _ _ _ (by omega) (by omega) (by omega) (by omega)).mono ?_); rintro e w' ⟨rfl, d, rfl⟩))
    go_loop [7] (fun s => ∃ k : Nat, k ≤ x ∧ s = .int .i64 k) (fun s => x - (intOf s).toNat)
    case atStart => exact ⟨0, by omega, rfl⟩
    case round =>
      obtain ⟨k, hk, rfl⟩ := hrel
      have bd := two_bd (x := k) h1 h1' h2 h2' h3 h3' (by omega)
      by_cases he : k = x
      · subst he
        have z0 : ((n - a * (k : Int)).tmod b != 0) = false := by rw [HZ.out]; rfl
        by_cases hlt : n < a * k
        · go_wp2
          go_ret
          exact ⟨ret_int (by first | rfl | rw [if_pos hlt]), by first | exact ⟨0, rfl⟩ | exact ⟨_, rfl⟩⟩
        · have hq0 := Int.ediv_nonneg (show 0 ≤ n - a * (k : Int) by omega) (show 0 ≤ a * b by omega)
          have hq := Int.ediv_le_self (a * b) (show 0 ≤ n - a * (k : Int) by omega)
          have z1 : ((n - a * (k : Int)) % b != 0) = false := by rw [← Int.tmod_eq_emod_of_nonneg (by omega)]; exact z0
          go_wp2
          go_ret
          exact ⟨ret_int (by first | rfl | rw [if_neg (by omega)]), by first | exact ⟨0, rfl⟩ | exact ⟨_, rfl⟩⟩
      · have z0 : ((n - a * (k : Int)).tmod b != 0) = true := by rw [bne_iff_ne]; exact HM.out k (by omega)
        by_cases hlt : n < a * k
        · go_wp2
          go_round
          case rel => exact ⟨k + 1, by omega, by go_num⟩
          case measure => simp [intOf]; omega
        · have z1 : ((n - a * (k : Int)) % b != 0) = true := by rw [← Int.tmod_eq_emod_of_nonneg (by omega)]; exact z0
          go_wp2
          go_round
          case rel => exact ⟨k + 1, by omega, by go_num⟩
          case measure => simp [intOf]; omega
  · have hv : twoV a b n x = -1 := by simp [twoV, hf]
    rw [hv]; clear hv hx hf
    rcases hc with i1 | ⟨i1, i2⟩ | ⟨i1, i2, i3⟩ | ⟨i1, i2, i3, i4⟩
    · go_enter Try.func52, Try.ntmps52
      go_wp2_with (go_at_call 119; (with_reducible refine (within_any _ _ _ _).mono ?_); rintro e w' ⟨rfl, rfl⟩)
      go_ret
      exact ⟨rfl, 0, rfl⟩
    · go_enter Try.func52, Try.ntmps52
      go_wp2_with (go_at_call 119; (with_reducible refine (within_any _ _ _ _).mono ?_); rintro e w' ⟨rfl, rfl⟩)
      go_ret
      exact ⟨rfl, 0, rfl⟩
    all_goals
      obtain ⟨h1, h1'⟩ := inB_iff.1 i1
      obtain ⟨h2, h2'⟩ := inB_iff.1 i2
      go_enter Try.func52, Try.ntmps52
      go_wp2_with (first | (go_at_call 119; (with_reducible refine (within_any _ _ _ _).mono ?_); rintro e w' ⟨rfl, rfl⟩) | (go_at_call 118; (with_reducible refine (divisor_any _ _ _ (by omega) (by omega) (by omega) (by omega)).mono ?_); rintro e w' ⟨rfl, d, rfl⟩))
      go_ret
      first | exact ⟨rfl, 0, rfl⟩ | exact ⟨rfl, _, rfl⟩

end Go.Proofs.Ytfncikbmdaameaa
