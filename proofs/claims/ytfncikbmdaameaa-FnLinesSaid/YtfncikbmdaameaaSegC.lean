/- Counting on segments: the walks. -/
import Derived.Test.YtfncikbmdaameaaSeg
import Derived.Test.YtfncikbmdaameaaB1
import Derived.Deep.QuietTactic
import Derived.BigQuiet
namespace Go.Proofs.Ytfncikbmdaameaa
open Go.RowKit

def cntI (a b c d t : Int) : Int := c * t / d + (-a) * t / b + 1

theorem div_bd {x d : Int} (M : Int) (hx : -M ≤ x) (hx' : x ≤ M) (hd : 1 ≤ d) : -M ≤ x / d ∧ x / d ≤ M := by
  have h2 : x / d ≤ M := by
    rcases Int.lt_or_le x 0 with h | h
    · have := Int.ediv_neg_of_neg_of_pos h (show 0 < d by omega); omega
    · exact Int.le_trans (Int.ediv_le_self d h) hx'
  have h1 : -M ≤ x / d := by
    rw [Int.le_ediv_iff_mul_le (by omega)]
    have : M * 1 ≤ M * d := Int.mul_le_mul_of_nonneg_left hd (by omega)
    have e : -M * d = -(M * d) := Int.neg_mul _ _
    omega
  exact ⟨h1, h2⟩

set_option maxHeartbeats 1000000 in
theorem l14Count_any (a b c d t : Int) (w : World) (h1 : -1000 ≤ a) (h1' : a ≤ 1000) (h2 : 1 ≤ b) (h2' : b ≤ 12) (h3 : -1000 ≤ c) (h3' : c ≤ 1000) (h4 : 1 ≤ d) (h4' : d ≤ 12) (h5 : 0 ≤ t) (h5' : t ≤ 1000) :
    Calls Try.prog 107 #[segV a b c d, .int .i64 t] w fun e w' => e = .returned (.int .i64 (cntI a b c d t)) ∧ Below w.heap.size w w' := by
  unfold segV
  have m1 := mul_bd h3 h3' h5 h5' (by omega)
  have m2 := mul_bd (a := -a) (b := t) (M := 1000) (N := 1000) (by omega) (by omega) h5 h5' (by omega)
  have q1 := div_bd 1000000 (by omega) (by omega) h4 (x := c * t)
  have q2 := div_bd 1000000 (by omega) (by omega) h2 (x := -a * t)
  have e1 := wr64 (c * t) (by omega)
  have e2 := wr64 (-a) (by omega)
  have e3 := wr64 (-a * t) (by omega)
  have e4 := wr64 (c * t / d + -a * t / b) (by omega)
  have e5 := wr64 (c * t / d + -a * t / b + 1) (by omega)
  go_enter Try.func107, Try.ntmps107
  go_wp2
  go_quiet ((go_at_call 123; exact quiet_eq (l3Floor_any _ _ _ (by omega) (by omega) (by omega) (by omega))))
  go_wp2
  go_ret
  exact ⟨rfl, (below1 _ _).trans (below_draws _ _ _)⟩

def segCount (a b c d t : Int) : Int := if segB a b c d && inB t 0 1000 then cntI a b c d t else -1
def segInner (a b c d t : Int) : Int := if segB a b c d && inB t 1 1000 then max 0 (-((-c) * t / d) - 1 - (a * t / b)) else -1
theorem segB_bd {a b c d : Int} (h : segB a b c d = true) : 1 ≤ b ∧ b ≤ 12 ∧ 1 ≤ d ∧ d ≤ 12 ∧ -1000 ≤ a ∧ a ≤ 1000 ∧ -1000 ≤ c ∧ c ≤ 1000 := by
  simp only [segB, Bool.and_eq_true, inB_iff] at h; omega

set_option maxHeartbeats 1000000 in
theorem specSegmentCount_any (a b c d t : Int) (w : World) :
    Calls Try.prog 28 #[segV a b c d, .int .i64 t] w fun e w' => e = .returned (.int .i64 (segCount a b c d t)) ∧ Below w.heap.size w w' := by
  have HB := fun w => specIsSegment_any a b c d w
  have X0 := box4_new w (.int .i64 a) (.int .i64 b) (.int .i64 c) (.int .i64 d) 26
  have B0 := below1 w (.cells #[.int .i64 a, .int .i64 b, .int .i64 c, .int .i64 d] 26)
  by_cases hs : segB a b c d = true
  · by_cases ht : inB t 0 1000 = true
    · have hv : segCount a b c d t = cntI a b c d t := by simp [segCount, hs, ht]
      obtain ⟨h2, h2', h4, h4', h1, h1', h3, h3'⟩ := segB_bd hs
      obtain ⟨h5, h5'⟩ := inB_iff.1 ht
      have HL := fun w => l14Count_any a b c d t w h1 h1' h2 h2' h3 h3' h4 h4' h5 h5'
      rw [hv]; clear hv
      unfold segV at *
      go_enter Try.func28, Try.ntmps28
      go_wp2_with fail
      refine (HB _).mono ?_
      rintro e w1 ⟨rfl, hb1⟩
      obtain ⟨-, y0, y1, y2, y3⟩ := X0.keep hb1
      have B1 := below_then B0 (by simp) hb1
      clear X0 B0 hb1
      go_wp2_with (go_at_call 122; (with_reducible refine (l1In_any _ _ _ _).mono ?_); rintro e w' ⟨rfl, rfl⟩)
      refine (HL _).mono ?_
      rintro e w2 ⟨rfl, hb2⟩
      go_wp2
      go_ret
      exact ⟨rfl, below_then B1 B1.size hb2⟩
    · have hv : segCount a b c d t = -1 := by simp [segCount, ht]
      rw [hv]; clear hv
      unfold segV at *
      go_enter Try.func28, Try.ntmps28
      go_wp2_with fail
      refine (HB _).mono ?_
      rintro e w1 ⟨rfl, hb1⟩
      have B1 := below_then B0 (by simp) hb1
      clear X0 B0 hb1
      go_wp2_with (go_at_call 122; (with_reducible refine (l1In_any _ _ _ _).mono ?_); rintro e w' ⟨rfl, rfl⟩)
      go_ret
      exact ⟨rfl, B1⟩
  · have hv : segCount a b c d t = -1 := by simp [segCount, hs]
    rw [hv]; clear hv
    unfold segV at *
    go_enter Try.func28, Try.ntmps28
    go_wp2_with fail
    refine (HB _).mono ?_
    rintro e w1 ⟨rfl, hb1⟩
    have B1 := below_then B0 (by simp) hb1
    clear X0 B0 hb1
    go_wp2
    go_ret
    exact ⟨rfl, B1⟩

theorem cnt_impl (a b c d t : Int) : c * t / d - -(-(a * t) / b) + 1 = cntI a b c d t := by
  unfold cntI; rw [Int.neg_mul]; omega

set_option maxHeartbeats 1000000 in
theorem implSegmentCount_any (a b c d t : Int) (w : World) :
    Calls Try.prog 27 #[segV a b c d, .int .i64 t] w fun e w' => e = .returned (.int .i64 (segCount a b c d t)) ∧ Below w.heap.size w w' := by
  have HB := fun w => implIsSegment_any a b c d w
  have X0 := box4_new w (.int .i64 a) (.int .i64 b) (.int .i64 c) (.int .i64 d) 26
  have B0 := below1 w (.cells #[.int .i64 a, .int .i64 b, .int .i64 c, .int .i64 d] 26)
  by_cases hs : segB a b c d = true
  · by_cases ht : inB t 0 1000 = true
    · have hv : segCount a b c d t = cntI a b c d t := by simp [segCount, hs, ht]
      obtain ⟨h2, h2', h4, h4', h1, h1', h3, h3'⟩ := segB_bd hs
      obtain ⟨h5, h5'⟩ := inB_iff.1 ht
      rw [hv, ← cnt_impl]; clear hv
      have m1 := mul_bd h3 h3' h5 h5' (by omega)
      have m2 := mul_bd h1 h1' h5 h5' (by omega)
      have q1 := div_bd 1000000 (by omega) (by omega) h4 (x := c * t)
      have q2 := div_bd 1000000 (by omega) (by omega) h2 (x := -(a * t))
      have e1 := wr64 (c * t) (by omega)
      have e3 := wr64 (a * t) (by omega)
      have e4 := wr64 (c * t / d - -(-(a * t) / b)) (by omega)
      have e5 := wr64 (c * t / d - -(-(a * t) / b) + 1) (by omega)
      unfold segV at *
      go_enter Try.func27, Try.ntmps27
      go_wp2_with fail
      refine (HB _).mono ?_
      rintro e w1 ⟨rfl, hb1⟩
      obtain ⟨-, y0, y1, y2, y3⟩ := X0.keep hb1
      have B1 := below_then B0 (by simp) hb1
      clear X0 B0 hb1
      go_wp2_with (go_at_call 119; (with_reducible refine (within_any _ _ _ _).mono ?_); rintro e w' ⟨rfl, rfl⟩)
      go_quiet ((first | (go_at_call 120; exact quiet_eq (down_any _ _ _ (by omega) (by omega) (by omega) (by omega))) | (go_at_call 121; exact quiet_eq (up_any _ _ _ (by omega) (by omega) (by omega) (by omega)))))
      go_wp2
      go_ret
      exact ⟨ret_int (by rw [Int.sub_neg]), B1.trans (below_draws _ _ _)⟩
    · have hv : segCount a b c d t = -1 := by simp [segCount, ht]
      rw [hv]; clear hv
      unfold segV at *
      go_enter Try.func27, Try.ntmps27
      go_wp2_with fail
      refine (HB _).mono ?_
      rintro e w1 ⟨rfl, hb1⟩
      have B1 := below_then B0 (by simp) hb1
      clear X0 B0 hb1
      go_wp2_with (go_at_call 119; (with_reducible refine (within_any _ _ _ _).mono ?_); rintro e w' ⟨rfl, rfl⟩)
      go_ret
      exact ⟨rfl, B1⟩
  · have hv : segCount a b c d t = -1 := by simp [segCount, hs]
    rw [hv]; clear hv
    unfold segV at *
    go_enter Try.func27, Try.ntmps27
    go_wp2_with fail
    refine (HB _).mono ?_
    rintro e w1 ⟨rfl, hb1⟩
    have B1 := below_then B0 (by simp) hb1
    clear X0 B0 hb1
    go_wp2
    go_ret
    exact ⟨rfl, B1⟩

theorem inner_spec (a b c d t : Int) : max 0 (-((-c) * t / d) - 1 - (a * t / b + 1) + 1) = max 0 (-((-c) * t / d) - 1 - (a * t / b)) := by
  generalize (-c) * t / d = x; generalize a * t / b = y; omega

set_option maxHeartbeats 1000000 in
theorem specSegmentInner_any (a b c d t : Int) (w : World) :
    Calls Try.prog 30 #[segV a b c d, .int .i64 t] w fun e w' => e = .returned (.int .i64 (segInner a b c d t)) ∧ Below w.heap.size w w' := by
  have HB := fun w => specIsSegment_any a b c d w
  have X0 := box4_new w (.int .i64 a) (.int .i64 b) (.int .i64 c) (.int .i64 d) 26
  have B0 := below1 w (.cells #[.int .i64 a, .int .i64 b, .int .i64 c, .int .i64 d] 26)
  by_cases hs : segB a b c d = true
  · by_cases ht : inB t 1 1000 = true
    · have hv : segInner a b c d t = max 0 (-((-c) * t / d) - 1 - (a * t / b)) := by simp [segInner, hs, ht]
      obtain ⟨h2, h2', h4, h4', h1, h1', h3, h3'⟩ := segB_bd hs
      obtain ⟨h5, h5'⟩ := inB_iff.1 ht
      rw [hv, ← inner_spec]; clear hv
      have m1 := mul_bd (a := -c) (b := t) (M := 1000) (N := 1000) (by omega) (by omega) (by omega) h5' (by omega)
      have m2 := mul_bd h1 h1' (show 0 ≤ t by omega) h5' (by omega)
      have q1 := div_bd 1000000 (by omega) (by omega) h4 (x := -c * t)
      have q2 := div_bd 1000000 (by omega) (by omega) h2 (x := a * t)
      unfold segV at *
      go_enter Try.func30, Try.ntmps30
      go_wp2_with fail
      refine (HB _).mono ?_
      rintro e w1 ⟨rfl, hb1⟩
      obtain ⟨-, y0, y1, y2, y3⟩ := X0.keep hb1
      have B1 := below_then B0 (by simp) hb1
      clear X0 B0 hb1
      go_wp2_with (first | (go_at_call 122; (with_reducible refine (l1In_any _ _ _ _).mono ?_); rintro e w' ⟨rfl, rfl⟩) | (go_at_call 123; (with_reducible refine (l3Floor_any _ _ _ (by omega) (by omega) (by omega) (by omega)).mono ?_); rintro e w' ⟨rfl, rfl⟩) | (go_at_call 124; (with_reducible refine (l1Max_any _ _ _).mono ?_); rintro e w' ⟨rfl, rfl⟩))
      go_ret
      exact ⟨rfl, B1⟩
    · have hv : segInner a b c d t = -1 := by simp [segInner, ht]
      rw [hv]; clear hv
      unfold segV at *
      go_enter Try.func30, Try.ntmps30
      go_wp2_with fail
      refine (HB _).mono ?_
      rintro e w1 ⟨rfl, hb1⟩
      have B1 := below_then B0 (by simp) hb1
      clear X0 B0 hb1
      go_wp2_with (go_at_call 122; (with_reducible refine (l1In_any _ _ _ _).mono ?_); rintro e w' ⟨rfl, rfl⟩)
      go_ret
      exact ⟨rfl, B1⟩
  · have hv : segInner a b c d t = -1 := by simp [segInner, hs]
    rw [hv]; clear hv
    unfold segV at *
    go_enter Try.func30, Try.ntmps30
    go_wp2_with fail
    refine (HB _).mono ?_
    rintro e w1 ⟨rfl, hb1⟩
    have B1 := below_then B0 (by simp) hb1
    clear X0 B0 hb1
    go_wp2
    go_ret
    exact ⟨rfl, B1⟩

set_option maxHeartbeats 1000000 in
theorem implSegmentInner_any (a b c d t : Int) (w : World) :
    Calls Try.prog 29 #[segV a b c d, .int .i64 t] w fun e w' => e = .returned (.int .i64 (segInner a b c d t)) ∧ Below w.heap.size w w' := by
  have HB := fun w => implIsSegment_any a b c d w
  have X0 := box4_new w (.int .i64 a) (.int .i64 b) (.int .i64 c) (.int .i64 d) 26
  have B0 := below1 w (.cells #[.int .i64 a, .int .i64 b, .int .i64 c, .int .i64 d] 26)
  by_cases hs : segB a b c d = true
  · by_cases ht : inB t 1 1000 = true
    · have hv : segInner a b c d t = max 0 (-((-c) * t / d) - 1 - (a * t / b)) := by simp [segInner, hs, ht]
      obtain ⟨h2, h2', h4, h4', h1, h1', h3, h3'⟩ := segB_bd hs
      obtain ⟨h5, h5'⟩ := inB_iff.1 ht
      rw [hv, Int.neg_mul]; clear hv
      have m1 := mul_bd h3 h3' (show 0 ≤ t by omega) h5' (by omega)
      have m2 := mul_bd h1 h1' (show 0 ≤ t by omega) h5' (by omega)
      have q1 := div_bd 1000000 (by omega) (by omega) h4 (x := -(c * t))
      have q2 := div_bd 1000000 (by omega) (by omega) h2 (x := a * t)
      have e1 := wr64 (c * t) (by omega)
      have e3 := wr64 (a * t) (by omega)
      have e4 := wr64 (-(-(c * t) / d) - 1) (by omega)
      have e5 := wr64 (-(-(c * t) / d) - 1 - a * t / b) (by omega)
      unfold segV at *
      go_enter Try.func29, Try.ntmps29
      go_wp2_with fail
      refine (HB _).mono ?_
      rintro e w1 ⟨rfl, hb1⟩
      obtain ⟨-, y0, y1, y2, y3⟩ := X0.keep hb1
      have B1 := below_then B0 (by simp) hb1
      clear X0 B0 hb1
      go_wp2_with (go_at_call 119; (with_reducible refine (within_any _ _ _ _).mono ?_); rintro e w' ⟨rfl, rfl⟩)
      go_quiet ((first | (go_at_call 120; exact quiet_eq (down_any _ _ _ (by omega) (by omega) (by omega) (by omega))) | (go_at_call 121; exact quiet_eq (up_any _ _ _ (by omega) (by omega) (by omega) (by omega)))))
      all_goals go_wp2
      all_goals go_ret
      all_goals exact ⟨ret_int (by omega), B1.trans (below_draws _ _ _)⟩
    · have hv : segInner a b c d t = -1 := by simp [segInner, ht]
      rw [hv]; clear hv
      unfold segV at *
      go_enter Try.func29, Try.ntmps29
      go_wp2_with fail
      refine (HB _).mono ?_
      rintro e w1 ⟨rfl, hb1⟩
      have B1 := below_then B0 (by simp) hb1
      clear X0 B0 hb1
      go_wp2_with (go_at_call 119; (with_reducible refine (within_any _ _ _ _).mono ?_); rintro e w' ⟨rfl, rfl⟩)
      go_ret
      exact ⟨rfl, B1⟩
  · have hv : segInner a b c d t = -1 := by simp [segInner, hs]
    rw [hv]; clear hv
    unfold segV at *
    go_enter Try.func29, Try.ntmps29
    go_wp2_with fail
    refine (HB _).mono ?_
    rintro e w1 ⟨rfl, hb1⟩
    have B1 := below_then B0 (by simp) hb1
    clear X0 B0 hb1
    go_wp2
    go_ret
    exact ⟨rfl, B1⟩
end Go.Proofs.Ytfncikbmdaameaa
