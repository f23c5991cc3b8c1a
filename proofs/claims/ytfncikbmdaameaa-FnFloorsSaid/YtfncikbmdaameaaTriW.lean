/- Counting the whole points of a triangle: the walks. -/
import Derived.Test.YtfncikbmdaameaaTri
import Derived.Test.YtfncikbmdaameaaSumsW
namespace Go.Proofs.Ytfncikbmdaameaa
open Go.RowKit
set_option linter.unusedVariables false
set_option linter.unusedSimpArgs false

def triC (a b n : Int) : Int := if inB a 1 100000 && inB b 1 100000 && inB n 0 100000 then fs b a (n - a * (n / a)) (n / a).toNat.succ + (n / a + 1) else -1
theorem triC_out {a b n : Int} (h : ¬(inB a 1 100000 = true ∧ inB b 1 100000 = true ∧ inB n 0 100000 = true)) : triC a b n = -1 := by
  unfold triC; rw [if_neg]; simpa [Bool.and_eq_true, and_assoc] using h

set_option maxHeartbeats 1000000 in
theorem specTriangleCount_any (a b n : Int) (w : World) :
    Calls Try.prog 41 #[.int .i64 a, .int .i64 b, .int .i64 n] w fun e w' => e = .returned (.int .i64 (triC a b n)) ∧ ∃ d, w' = w.drewN d := by
  by_cases hin : inB a 1 100000 = true ∧ inB b 1 100000 = true ∧ inB n 0 100000 = true
  · obtain ⟨i1, i2, i3⟩ := hin
    obtain ⟨h1, h1'⟩ := inB_iff.1 i1
    obtain ⟨h2, h2'⟩ := inB_iff.1 i2
    obtain ⟨h3, h3'⟩ := inB_iff.1 i3
    have hv : triC a b n = fs b a (n - a * (n / a)) (n / a).toNat.succ + (n / a + 1) := by simp [triC, i1, i2, i3]
    rw [hv]; clear hv
    have q1 := Int.ediv_nonneg h3 (show 0 ≤ a by omega)
    have q2 := Int.ediv_le_self a h3
    have hm := Int.mul_ediv_add_emod n a
    have hr := Int.emod_nonneg n (show a ≠ 0 by omega)
    have hr' := Int.emod_lt_of_pos n (show 0 < a by omega)
    have HL := fun w => l16Sum_any (n / a).toNat.succ b a (n - a * (n / a)) w (by omega) h2 h2' (by omega) h1' (by omega) (by omega)
    have hf0 := fs_nonneg h2 (show 0 ≤ a by omega) (show 0 ≤ n - a * (n / a) by omega) (n / a).toNat.succ
    have hf1 := fs_le h2 (show 0 ≤ a by omega) (show 0 ≤ n - a * (n / a) by omega) (n / a).toNat.succ (n / a).toNat.succ (Nat.le_refl _)
    have hf2 : fs b a (n - a * (n / a)) (n / a).toNat.succ ≤ 100001 * 10000200000 := by
      have g1 : a * (((n / a).toNat.succ : Nat) : Int) ≤ 100000 * 100001 := Int.mul_le_mul (by omega) (by omega) (by omega) (by omega)
      have g0 : 0 ≤ a * (((n / a).toNat.succ : Nat) : Int) := Int.mul_nonneg (by omega) (by omega)
      have g2 : (((n / a).toNat.succ : Nat) : Int) * (a * (((n / a).toNat.succ : Nat) : Int) + (n - a * (n / a))) ≤ 100001 * 10000200000 := Int.mul_le_mul (by omega) (by omega) (by omega) (by omega)
      omega
    clear hf1
    generalize hF : fs b a (n - a * (n / a)) (n / a).toNat.succ = FF at *
    clear hF
    have e1 : (((n / a).toNat.succ : Nat) : Int) = n / a + 1 := by omega
    rw [e1] at HL
    clear e1
    go_enter Try.func41, Try.ntmps41
    go_wp2_with (first | (go_at_call 122; (with_reducible refine (l1In_any _ _ _ _).mono ?_); rintro e w' ⟨rfl, rfl⟩) | (go_at_call 129; (with_reducible refine (HL _).mono ?_); rintro e w' ⟨rfl, d1, rfl⟩))
    go_ret
    exact ⟨ret_int (by omega), _, rfl⟩
  · rw [triC_out hin]
    rcases and3_false hin with i1 | ⟨i1, i2⟩ | ⟨i1, i2, i3⟩
    all_goals
      clear hin
      go_enter Try.func41, Try.ntmps41
      go_wp2_with (go_at_call 122; (with_reducible refine (l1In_any _ _ _ _).mono ?_); rintro e w' ⟨rfl, rfl⟩)
      go_ret
      exact ⟨rfl, 0, rfl⟩

theorem tri_left {b n : Int} {k : Nat} (hb : 1 ≤ b) (hn : 0 ≤ n) (h : 0 ≤ n + b - b * k) : (k : Int) ≤ n / b + 1 := by
  have : (k : Int) - 1 ≤ n / b := by
    rw [Int.le_ediv_iff_mul_le (by omega), Int.sub_mul, Int.one_mul, Int.mul_comm]; omega
  omega
theorem tri_last {b n : Int} {k : Nat} (hb : 1 ≤ b) (hn : 0 ≤ n) (h : 0 ≤ n + b - b * k) (h' : n - b * k < 0) : k = (n / b).toNat.succ := by
  have h1 := tri_left hb hn h
  have h2 : n / b < k := by
    refine Int.ediv_lt_of_lt_mul (by omega) ?_
    rw [Int.mul_comm]; omega
  have h3 := Int.ediv_nonneg hn (show 0 ≤ b by omega)
  omega

set_option maxHeartbeats 1000000 in
theorem implTriangleCount_any (a b n : Int) (w : World) :
    Calls Try.prog 37 #[.int .i64 a, .int .i64 b, .int .i64 n] w fun e w' => e = .returned (.int .i64 (triC a b n)) ∧ w = w' := by
  by_cases hin : inB a 1 100000 = true ∧ inB b 1 100000 = true ∧ inB n 0 100000 = true
  · obtain ⟨i1, i2, i3⟩ := hin
    obtain ⟨h1, h1'⟩ := inB_iff.1 i1
    obtain ⟨h2, h2'⟩ := inB_iff.1 i2
    obtain ⟨h3, h3'⟩ := inB_iff.1 i3
    have hv : triC a b n = fs b a (n - a * (n / a)) (n / a).toNat.succ + (n / a + 1) := by simp [triC, i1, i2, i3]
    obtain ⟨N, rfl⟩ : ∃ N : Nat, n = N := ⟨n.toNat, by omega⟩
    rw [hv, ← tri_rows a b N h1 h2]; clear hv
    go_enter Try.func37, Try.ntmps37
    go_wp2_with (go_at_call 119; (with_reducible refine (within_any _ _ _ _).mono ?_); rintro e w' ⟨rfl, rfl⟩)
    go_loop [7, 8] (fun s l => ∃ k : Nat, 0 ≤ (N : Int) + b - b * k ∧ l = .int .i64 (N - b * k) ∧ s = .int .i64 (fs a (-b) N k + k)) (fun _ l => (intOf l + b).toNat)
    case atStart => exact ⟨0, by omega, by simp, rfl⟩
    case round =>
      obtain ⟨k, hk, rfl, rfl⟩ := hrel
      have hkn := tri_left h2 h3 hk
      have hql := Int.ediv_le_self b h3
      have hbk : 0 ≤ b * (k : Int) := Int.mul_nonneg (by omega) (by omega)
      have hf := fs_bd h1 (show -100000 ≤ -b by omega) (show -b ≤ 100000 by omega) (show -100000 ≤ (N : Int) by omega) h3' 
      by_cases hlt : 0 ≤ (N : Int) - b * k
      · have hk0 : (k : Int) ≤ 100000 := by
          rcases Nat.lt_or_ge 100000 k with h | h
          · have : 1 * (k : Int) ≤ b * k := Int.mul_le_mul_of_nonneg_right h2 (by omega)
            omega
          · omega
        have hf' := hf k (by omega)
        clear hf
        have hq := Int.ediv_le_self a hlt
        have hq0 := Int.ediv_nonneg hlt (show 0 ≤ a by omega)
        have e1 : fs a (-b) N (k + 1) = fs a (-b) N k + ((N : Int) - b * k) / a := by
          show fs a (-b) N k + (-b * k + N) / a = _
          rw [Int.neg_mul, Int.add_comm (-(b * (k : Int))), Int.sub_eq_add_neg]
        have E1 := Lib.hid e1; clear e1
        go_wp2
        go_round
        case rel => exact ⟨k + 1, by rw [show ((k + 1 : Nat) : Int) = (k : Int) + 1 from by omega, Int.mul_add, Int.mul_one]; omega, by rw [show ((k + 1 : Nat) : Int) = (k : Int) + 1 from by omega, Int.mul_add, Int.mul_one]; congr 1; omega, by rw [E1.out]; congr 1; omega⟩
        case measure => simp [intOf]; omega
      · have hkl := tri_last h2 h3 hk (by omega)
        have HK := Lib.hid hkl; clear hkl hf
        go_wp2
        go_ret
        refine ⟨ret_int ?_, rfl⟩
        have e0 := HK.out
        have e1 : ((N : Int) / b).toNat + 1 = k := e0.symm
        rw [e1]
        have := Int.ediv_nonneg h3 (show 0 ≤ b by omega)
        omega
  · rw [triC_out hin]
    rcases and3_false hin with i1 | ⟨i1, i2⟩ | ⟨i1, i2, i3⟩
    all_goals
      clear hin
      go_enter Try.func37, Try.ntmps37
      go_wp2_with (go_at_call 119; (with_reducible refine (within_any _ _ _ _).mono ?_); rintro e w' ⟨rfl, rfl⟩)
      go_ret
      exact ⟨rfl, rfl⟩

end Go.Proofs.Ytfncikbmdaameaa
