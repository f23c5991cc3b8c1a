/- impl.PowerMod, in seats without its own exact law. -/
import Derived.Test.YtehhoplenloocaaB3
namespace Go.Proofs.Ytehhoplenloocaa
open Go.RowKit
set_option linter.unusedVariables false
set_option linter.unusedSimpArgs false

set_option maxHeartbeats 1000000 in
theorem implPowerModG (a n : Int) (w : World) :
    Calls Try.prog 59 #[.int .i64 a, .int .i64 n] w fun e w' => e = .returned (.int .i64 (powP a n)) ∧ w = w' := by
  by_cases h1 : inB a 1 10006 = true
  · by_cases h2 : inB n (-1000000) 1000000 = true
    · obtain ⟨ha, ha'⟩ := inB_iff.1 h1
      obtain ⟨hn, hn'⟩ := inB_iff.1 h2
      have hv : powP a n = (pmN a.toNat (n % 10006).toNat : Int) := by simp [powP, h1, h2]
      obtain ⟨A, rfl⟩ : ∃ A : Nat, a = A := ⟨a.toNat, by omega⟩
      rw [hv, Int.toNat_natCast]; clear hv
      go_enter Try.func59, Try.ntmps59
      go_wp2_with (first | (go_at_call 65; (with_reducible refine (within_any _ _ _ _).mono ?_); rintro e w' ⟨rfl, rfl⟩) | (go_at_call 113; (with_reducible refine (power_any A n _ (by omega) (by omega) (by omega)).mono ?_); rintro e w' ⟨rfl, rfl⟩))
      go_ret
      exact ⟨rfl, rfl⟩
    · have hv : powP a n = 0 := by simp [powP, h2]
      rw [hv]; clear hv
      go_enter Try.func59, Try.ntmps59
      go_wp2_with (go_at_call 65; (with_reducible refine (within_any _ _ _ _).mono ?_); rintro e w' ⟨rfl, rfl⟩)
      go_ret
      exact ⟨rfl, rfl⟩
  · have hv : powP a n = 0 := by simp [powP, h1]
    rw [hv]; clear hv
    go_enter Try.func59, Try.ntmps59
    go_wp2_with (go_at_call 65; (with_reducible refine (within_any _ _ _ _).mono ?_); rintro e w' ⟨rfl, rfl⟩)
    go_ret
    exact ⟨rfl, rfl⟩
end Go.Proofs.Ytehhoplenloocaa
