/- Powers modulo 10007: the walks. -/
import Derived.Test.YtibninlggdpnkaaPow
import Derived.Test.YtibninlggdpnkaaNum
namespace Go.Proofs.Ytibninlggdpnkaa
open Go.RowKit
set_option linter.unusedVariables false
set_option linter.unusedSimpArgs false

theorem loop_bd {x y : Nat} (hx : x < 10007) (hy : y < 10007) : 0 ≤ (x : Int) * y ∧ (x : Int) * y ≤ 100140049 := by
  have := Nat.mul_le_mul (Nat.le_of_lt hx) (Nat.le_of_lt hy)
  have e : (x : Int) * y = ((x * y : Nat) : Int) := by simp
  rw [e]; omega

set_option maxHeartbeats 1000000 in
theorem l11Power_any (a n : Nat) (w : World) (ha : a < 10007) (hn : n ≤ 9000000) :
    Calls Try.prog 81 #[.int .i64 a, .int .i64 n] w fun e w' => e = .returned (.int .i64 (pmN a n)) ∧ w = w' := by
  go_enter Try.func81, Try.ntmps81
  go_wp2
  go_loop [0, 1, 5] (fun x k o => ∃ (X K O : Nat), x = .int .i64 X ∧ k = .int .i64 K ∧ o = .int .i64 O ∧ X < 10007 ∧ K ≤ 9000000 ∧ O < 10007 ∧ O * pmN X K % 10007 = pmN a n)
    (fun _ k _ => (intOf k).toNat)
  case atStart => exact ⟨a, n, 1, rfl, rfl, rfl, ha, hn, by omega, by rw [Nat.one_mul]; exact Nat.mod_eq_of_lt (pmN_lt _ _)⟩
  case round =>
    obtain ⟨X, K, O, rfl, rfl, rfl, h1, h2, h3, hg⟩ := hrel
    have HG := Lib.hid hg; clear hg
    have b1 := loop_bd h3 h1
    have b2 := loop_bd h1 h1
    by_cases hk : K = 0
    · subst hk
      go_wp2
      go_ret
      refine ⟨ret_int ?_, rfl⟩
      have := HG.out
      unfold pmN at this ⊢
      rw [Nat.pow_zero, Nat.mod_eq_of_lt (show 1 < 10007 by omega), Nat.mul_one, Nat.mod_eq_of_lt h3] at this
      exact congrArg Int.ofNat this
    · by_cases hodd : K % 2 = 1
      · have ho : ((K : Int) % 2 == 1) = true := by rw [beq_iff_eq]; omega
        go_wp2
        go_round
        case rel => exact ⟨X * X % 10007, K / 2, O * X % 10007, by go_num, by go_num, by go_num, Nat.mod_lt _ (by omega), by omega, Nat.mod_lt _ (by omega), by rw [pm_odd _ _ _ hodd]; exact HG.out⟩
        case measure => simp [intOf]; omega
      · have ho : ((K : Int) % 2 == 1) = false := by rw [beq_eq_false_iff_ne]; omega
        go_wp2
        go_round
        case rel => exact ⟨X * X % 10007, K / 2, O, by go_num, by go_num, rfl, Nat.mod_lt _ (by omega), by omega, h3, by rw [pm_even _ _ _ (by omega)]; exact HG.out⟩
        case measure => simp [intOf]; omega

theorem l11Power_inv (a : Nat) (w : World) (ha : a < 10007) :
    Calls Try.prog 81 #[.int .i64 a, .int .i64 10005] w fun e w' => e = .returned (.int .i64 (pmN a 10005)) ∧ w = w' :=
  l11Power_any a 10005 w ha (by omega)

set_option maxHeartbeats 1000000 in
theorem specPowerMod_any (a n : Int) (w : World) :
    Calls Try.prog 87 #[.int .i64 a, .int .i64 n] w fun e w' => e = .returned (.int .i64 (powP a n)) ∧ w = w' := by
  by_cases h1 : inB a 1 10006 = true
  · by_cases h2 : inB n (-1000000) 1000000 = true
    · obtain ⟨ha, ha'⟩ := inB_iff.1 h1
      obtain ⟨hn, hn'⟩ := inB_iff.1 h2
      have hv : powP a n = (pmN a.toNat (n % 10006).toNat : Int) := by simp [powP, h1, h2]
      obtain ⟨A, rfl⟩ : ∃ A : Nat, a = A := ⟨a.toNat, by omega⟩
      rw [hv]; clear hv
      by_cases hs : n < 0
      · have hf := powP_neg A n ha ha' hs
        obtain ⟨M, rfl⟩ : ∃ M : Nat, n = -(M : Int) := ⟨(-n).toNat, by omega⟩
        rw [← hf]; clear hf
        rw [show (-(-(M : Int))).toNat = M from by omega, Int.toNat_natCast]
        have hlt := pmN_lt A 10005
        have HF := Lib.hid hlt
        go_enter Try.func87, Try.ntmps87
        go_wp2_with (first | (go_at_call 57; (with_reducible refine (l1In_any _ _ _ _).mono ?_); rintro e w' ⟨rfl, rfl⟩) | (go_at_call 81; first | ((with_reducible refine (l11Power_inv A _ (by omega)).mono ?_); rintro e w' ⟨rfl, rfl⟩) | ((with_reducible refine (l11Power_any (pmN A 10005) M _ HF.out (by omega)).mono ?_); rintro e w' ⟨rfl, rfl⟩)))
        go_ret
        exact ⟨rfl, rfl⟩
      · have hf := powP_pos A n ha ha' (by omega)
        obtain ⟨M, rfl⟩ : ∃ M : Nat, n = M := ⟨n.toNat, by omega⟩
        rw [← hf]; clear hf
        rw [Int.toNat_natCast, Int.toNat_natCast]
        go_enter Try.func87, Try.ntmps87
        go_wp2_with (first | (go_at_call 57; (with_reducible refine (l1In_any _ _ _ _).mono ?_); rintro e w' ⟨rfl, rfl⟩) | (go_at_call 81; ((with_reducible refine (l11Power_any A M _ (by omega) (by omega)).mono ?_); rintro e w' ⟨rfl, rfl⟩)))
        go_ret
        exact ⟨rfl, rfl⟩
    · have hv : powP a n = 0 := by simp [powP, h2]
      rw [hv]; clear hv
      go_enter Try.func87, Try.ntmps87
      go_wp2_with (go_at_call 57; (with_reducible refine (l1In_any _ _ _ _).mono ?_); rintro e w' ⟨rfl, rfl⟩)
      go_ret
      exact ⟨rfl, rfl⟩
  · have hv : powP a n = 0 := by simp [powP, h1]
    rw [hv]; clear hv
    go_enter Try.func87, Try.ntmps87
    go_wp2_with (go_at_call 57; (with_reducible refine (l1In_any _ _ _ _).mono ?_); rintro e w' ⟨rfl, rfl⟩)
    go_ret
    exact ⟨rfl, rfl⟩

theorem exp_red (n : Int) (hn : -1000000 ≤ n) (hn' : n ≤ 1000000) : 0 ≤ n.tmod 10006 + 10007 - 1 ∧ n.tmod 10006 + 10007 - 1 ≤ 20012 ∧ (n.tmod 10006 + 10007 - 1) % 10006 = n % 10006 := by
  have h := tmod_bd n 10006 (by omega)
  have h1 := Int.tmod_add_mul_tdiv n 10006
  have h2 : ((10006 : Int).natAbs : Int) = 10006 := rfl
  rw [h2] at h
  generalize n.tmod 10006 = r at *
  generalize n.tdiv 10006 = q at *
  omega

set_option maxHeartbeats 1000000 in
theorem power_any (A : Nat) (n : Int) (w : World) (hA : A < 10007) (hn : -1000000 ≤ n) (hn' : n ≤ 1000000) :
    Calls Try.prog 70 #[.int .i64 A, .int .i64 n] w fun e w' => e = .returned (.int .i64 (pmN A (n % 10006).toNat)) ∧ w = w' := by
  obtain ⟨e1, e2, e3⟩ := exp_red n hn hn'
  obtain ⟨N, hN⟩ : ∃ N : Nat, n % 10006 = N := ⟨(n % 10006).toNat, by omega⟩
  rw [hN] at e3 ⊢
  have hN6 : N < 10006 := by omega
  rw [Int.toNat_natCast]
  clear hN
  have e4 := tmod_bd n 10006 (by omega)
  simp at e4
  have E3 := Lib.hid e3; clear e3
  go_enter Try.func70, Try.ntmps70
  go_wp2
  go_loop [0, 1, 5] (fun x k o => ∃ (X K O : Nat), x = .int .i64 X ∧ k = .int .i64 K ∧ o = .int .i64 O ∧ X < 10007 ∧ K < 10006 ∧ O < 10007 ∧ O * pmN X K % 10007 = pmN A N)
    (fun _ k _ => (intOf k).toNat)
  case atStart => exact ⟨A, N, 1, rfl, congrArg (Value.int .i64) E3.out, rfl, hA, hN6, by omega, by rw [Nat.one_mul]; exact Nat.mod_eq_of_lt (pmN_lt _ _)⟩
  case round =>
    obtain ⟨X, K, O, rfl, rfl, rfl, h1, h2, h3, hg⟩ := hrel
    have HG := Lib.hid hg; clear hg
    have b1 := loop_bd h3 h1
    have b2 := loop_bd h1 h1
    by_cases hk : K = 0
    · subst hk
      go_wp2
      go_ret
      refine ⟨ret_int ?_, rfl⟩
      have := HG.out
      unfold pmN at this ⊢
      rw [Nat.pow_zero, Nat.mod_eq_of_lt (show 1 < 10007 by omega), Nat.mul_one, Nat.mod_eq_of_lt h3] at this
      exact congrArg Int.ofNat this
    · by_cases hodd : K % 2 = 1
      · have ho : ((K : Int) % 2 == 1) = true := by rw [beq_iff_eq]; omega
        go_wp2
        go_round
        case rel => exact ⟨X * X % 10007, K / 2, O * X % 10007, by go_num, by go_num, by go_num, Nat.mod_lt _ (by omega), by omega, Nat.mod_lt _ (by omega), by rw [pm_odd _ _ _ hodd]; exact HG.out⟩
        case measure => simp [intOf]; omega
      · have ho : ((K : Int) % 2 == 1) = false := by rw [beq_eq_false_iff_ne]; omega
        go_wp2
        go_round
        case rel => exact ⟨X * X % 10007, K / 2, O, by go_num, by go_num, rfl, Nat.mod_lt _ (by omega), by omega, h3, by rw [pm_even _ _ _ (by omega)]; exact HG.out⟩
        case measure => simp [intOf]; omega

end Go.Proofs.Ytibninlggdpnkaa
