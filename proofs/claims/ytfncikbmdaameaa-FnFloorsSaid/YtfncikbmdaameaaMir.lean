/- The mirror of the saws: the walks. -/
import Derived.Test.YtfncikbmdaameaaSaw
namespace Go.Proofs.Ytfncikbmdaameaa
open Go.RowKit
set_option linter.unusedVariables false
set_option linter.unusedSimpArgs false

def mirB (h k : Int) : Bool := sawOkB h k && (h * sawI h k + k * sawI k h == h * h + k * k + 1 - 3 * h * k)
theorem mir_bd {h k : Int} (hs : sawOkB h k = true) : -3000000000000 ≤ h * sawI h k ∧ h * sawI h k ≤ 3000000000000 ∧ -3000000000000 ≤ k * sawI k h ∧ k * sawI k h ≤ 3000000000000 ∧
    0 ≤ h * h ∧ h * h ≤ 1000000 ∧ 0 ≤ k * k ∧ k * k ≤ 1000000 ∧ 0 ≤ 3 * h * k ∧ 3 * h * k ≤ 3000000 := by
  obtain ⟨h1, h1', k1, k1'⟩ := sawOk_bd hs
  have b1 := sawI_bd hs
  have b2 := sawI_bd (h := k) (k := h) (by rw [sawOk_comm]; exact hs)
  have c1 := mul_bd3 (a := h) (b := sawI h k) (M := 1000) (N := 3000000000) (by omega) (by omega) (by omega) (by omega) (by omega) (by omega)
  have c2 := mul_bd3 (a := k) (b := sawI k h) (M := 1000) (N := 3000000000) (by omega) (by omega) (by omega) (by omega) (by omega) (by omega)
  have d1 : 0 ≤ h * h := Int.mul_nonneg (by omega) (by omega)
  have d2 : h * h ≤ 1000 * 1000 := Int.mul_le_mul (by omega) (by omega) (by omega) (by omega)
  have d3 : 0 ≤ k * k := Int.mul_nonneg (by omega) (by omega)
  have d4 : k * k ≤ 1000 * 1000 := Int.mul_le_mul (by omega) (by omega) (by omega) (by omega)
  have d5 : 0 ≤ 3 * h * k := Int.mul_nonneg (by omega) (by omega)
  have d6 : 3 * h * k ≤ 3000 * 1000 := Int.mul_le_mul (by omega) (by omega) (by omega) (by omega)
  omega

set_option maxHeartbeats 1000000 in
theorem specMirrorHolds_any (h k : Int) (w : World) :
    Calls Try.prog 44 #[.int .i64 h, .int .i64 k] w fun e w' => e = .returned (.bool (mirB h k)) ∧ w = w' := by
  by_cases hs : sawOkB h k = true
  · have hv : mirB h k = (h * sawI h k + k * sawI k h == h * h + k * k + 1 - 3 * h * k) := by simp [mirB, hs]
    rw [hv]; clear hv
    have bd := mir_bd hs
    obtain ⟨h1, h1', k1, k1'⟩ := sawOk_bd hs
    have HS1 := fun w => l16Saw_any h k w hs
    have HS2 := fun w => l16Saw_any k h w (by rw [sawOk_comm]; exact hs)
    have HS := hs
    generalize sawI h k = x at *
    generalize sawI k h = y at *
    go_enter Try.func44, Try.ntmps44
    go_wp2_with (first | (go_at_call 130; (with_reducible refine (l16Pair_any _ _ _).mono ?_); rintro e w' ⟨rfl, rfl⟩) | (go_at_call 131; (with_reducible refine (HS1 _).mono ?_); rintro e w' ⟨rfl, rfl⟩) | (go_at_call 131; (with_reducible refine (HS2 _).mono ?_); rintro e w' ⟨rfl, rfl⟩))
    go_ret
    exact ⟨rfl, rfl⟩
  · have hv : mirB h k = false := by simp [mirB, hs]
    rw [hv]; clear hv
    go_enter Try.func44, Try.ntmps44
    go_wp2_with (go_at_call 130; (with_reducible refine (l16Pair_any _ _ _).mono ?_); rintro e w' ⟨rfl, rfl⟩)
    go_ret
    exact ⟨rfl, rfl⟩

set_option maxHeartbeats 1000000 in
theorem implMirrorHolds_any (h k : Int) (w : World) :
    Calls Try.prog 43 #[.int .i64 h, .int .i64 k] w fun e w' => e = .returned (.bool (mirB h k)) ∧ ∃ d, w' = w.drewN d := by
  by_cases hs : sawOkB h k = true
  · have hv : mirB h k = (h * sawI h k + k * sawI k h == h * h + k * k + 1 - 3 * h * k) := by simp [mirB, hs]
    rw [hv]; clear hv
    have bd := mir_bd hs
    obtain ⟨h1, h1', k1, k1'⟩ := sawOk_bd hs
    have HS1 := fun w => implSawSum_any h k w
    have HS2 := fun w => implSawSum_any k h w
    have e1 : sawS h k = sawI h k := by simp [sawS, hs]
    have e2 : sawS k h = sawI k h := by have := hs; rw [sawOk_comm] at this; simp [sawS, this]
    rw [e1] at HS1; rw [e2] at HS2
    clear e1 e2
    generalize sawI h k = x at *
    generalize sawI k h = y at *
    go_enter Try.func43, Try.ntmps43
    go_wp2_with (first | (go_at_call 128; (with_reducible refine (sawOk_any _ _ _).mono ?_); rintro e w' ⟨rfl, d, rfl⟩) | (go_at_call 39; (with_reducible refine (HS1 _).mono ?_); rintro e w' ⟨rfl, d, rfl⟩) | (go_at_call 39; (with_reducible refine (HS2 _).mono ?_); rintro e w' ⟨rfl, d, rfl⟩))
    go_ret
    exact ⟨rfl, _, rfl⟩
  · have hv : mirB h k = false := by simp [mirB, hs]
    rw [hv]; clear hv
    go_enter Try.func43, Try.ntmps43
    go_wp2_with (go_at_call 128; (with_reducible refine (sawOk_any _ _ _).mono ?_); rintro e w' ⟨rfl, d, rfl⟩)
    go_ret
    exact ⟨rfl, _, rfl⟩

end Go.Proofs.Ytfncikbmdaameaa
