/- The walks of the functions on segments. -/
import Derived.Test.YtfncikbmdaameaaB1
namespace Go.Proofs.Ytfncikbmdaameaa
open Go.RowKit

def segV (a b c d : Int) : Value := .agg #[.int .i64 a, .int .i64 b, .int .i64 c, .int .i64 d]
def segB (a b c d : Int) : Bool := inB b 1 12 && inB d 1 12 && inB a (-1000) 1000 && inB c (-1000) 1000 && decide (a * d ≤ c * b)
theorem mul_bd {a b M N : Int} (ha : -M ≤ a) (ha' : a ≤ M) (hb : 0 ≤ b) (hb' : b ≤ N) (hM : 0 ≤ M) : -(M * N) ≤ a * b ∧ a * b ≤ M * N := by
  have h1 : a * b ≤ M * b := Int.mul_le_mul_of_nonneg_right ha' hb
  have h2 : M * b ≤ M * N := Int.mul_le_mul_of_nonneg_left hb' hM
  have h3 : (-M) * b ≤ a * b := Int.mul_le_mul_of_nonneg_right ha hb
  have h4 : (-M) * b = -(M * b) := Int.neg_mul _ _
  omega
theorem seg_bd {a b : Int} (h1 : inB b 1 12 = true) (h2 : inB a (-1000) 1000 = true) : -9223372036854775808 ≤ a * b ∧ a * b ≤ 9223372036854775807 := by
  rw [inB_iff] at h1 h2
  have := mul_bd (a := a) (b := b) (M := 1000) (N := 12) (by omega) (by omega) (by omega) (by omega) (by omega)
  exact ⟨by omega, by omega⟩

set_option maxHeartbeats 1000000 in
theorem implIsSegment_any (a b c d : Int) (w : World) :
    Calls Try.prog 32 #[segV a b c d] w fun e w' => e = .returned (.bool (segB a b c d)) ∧ Below w.heap.size w w' := by
  unfold segV
  have bel : ∀ o, Below w.heap.size w (w.alloc o) := fun o => (Below.refl _ _).alloc (Nat.le_refl _) o
  go_enter Try.func32, Try.ntmps32
  go_wp2_with (go_at_call 119; (with_reducible refine (within_any _ _ _ _).mono ?_); rintro e w' ⟨rfl, rfl⟩)
  · have h1 : inB b 1 12 = true := by assumption
    have h2 : inB d 1 12 = true := by assumption
    have h3 : inB a (-1000) 1000 = true := by assumption
    have h4 : inB c (-1000) 1000 = true := by assumption
    go_ret
    refine ⟨ret_bool ?_, bel _⟩
    have e1 : wrap64 (a * d) = a * d := IntWalk.wrap64_in _ (seg_bd h2 h3)
    have e2 : wrap64 (c * b) = c * b := IntWalk.wrap64_in _ (seg_bd h1 h4)
    simp [segB, h1, h2, h3, h4, e1, e2]
  all_goals
    go_ret
    refine ⟨ret_bool ?_, bel _⟩
    simp_all [segB]

set_option maxHeartbeats 1000000 in
theorem specIsSegment_any (a b c d : Int) (w : World) :
    Calls Try.prog 33 #[segV a b c d] w fun e w' => e = .returned (.bool (segB a b c d)) ∧ Below w.heap.size w w' := by
  unfold segV
  have bel : ∀ o, Below w.heap.size w (w.alloc o) := fun o => (Below.refl _ _).alloc (Nat.le_refl _) o
  go_enter Try.func33, Try.ntmps33
  go_wp2_with (go_at_call 122; (with_reducible refine (l1In_any _ _ _ _).mono ?_); rintro e w' ⟨rfl, rfl⟩)
  · have h1 : inB b 1 12 = true := by assumption
    have h2 : inB d 1 12 = true := by assumption
    have h3 : inB a (-1000) 1000 = true := by assumption
    have h4 : inB c (-1000) 1000 = true := by assumption
    go_ret
    refine ⟨ret_bool ?_, bel _⟩
    have e1 : wrap64 (a * d) = a * d := IntWalk.wrap64_in _ (seg_bd h2 h3)
    have e2 : wrap64 (c * b) = c * b := IntWalk.wrap64_in _ (seg_bd h1 h4)
    simp [segB, h1, h2, h3, h4, e1, e2]
  all_goals
    go_ret
    refine ⟨ret_bool ?_, bel _⟩
    simp_all [segB]

set_option maxHeartbeats 1000000 in
theorem toSegment_any (a b c d : Int) (w : World) :
    Calls Try.prog 12 #[segV a b c d] w fun e w' => e = .returned (segV a b c d) ∧ Below w.heap.size w w' := by
  unfold segV
  go_enter Try.func12, Try.ntmps12
  go_wp2
  exact bodyPost_ret (v := .agg #[.int .i64 a, .int .i64 b, .int .i64 c, .int .i64 d]) (by simp [results, Try.results12, go_sem]) rfl ⟨rfl, below3 _ _ _ _⟩
end Go.Proofs.Ytfncikbmdaameaa
