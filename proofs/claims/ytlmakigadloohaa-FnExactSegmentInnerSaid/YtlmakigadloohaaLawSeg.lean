/- The laws on segments: walks. -/
import Derived.Test.YtlmakigadloohaaSegP
namespace Go.Proofs.Ytlmakigadloohaa
open Go.RowKit

set_option maxHeartbeats 1000000 in
theorem lawIsSegment (a b c d : Int) (w : World) :
    Calls Try.prog 3 #[segV a b c d] w fun e w' => e = .returned (.bool true) ∧ Below w.heap.size w w' := by
  have HA := fun w => toSegment_any a b c d w
  have HB := fun w => specIsSegment_any a b c d w
  have HC := fun w => implIsSegment_any a b c d w
  unfold segV at *
  have B0 := below1 w (.cells #[.int .i64 a, .int .i64 b, .int .i64 c, .int .i64 d] 23)
  have X0 := box4_new w (.int .i64 a) (.int .i64 b) (.int .i64 c) (.int .i64 d) 23
  go_enter Try.func3, Try.ntmps3
  go_wp2_with fail
  refine (HA _).mono ?_
  rintro e w1 ⟨rfl, hb1⟩
  have X1 := X0.keep hb1
  have B1 := below_then B0 (by simp) hb1
  clear X0 B0 hb1
  go_wp2_with fail
  refine (HB _).mono ?_
  rintro e w2 ⟨rfl, hb2⟩
  have X2 := X1.keep hb2
  have B2 := below_then B1 B1.size hb2
  have y0 := X2.c0
  have y1 := X2.c1
  have y2 := X2.c2
  have y3 := X2.c3
  clear X1 B1 hb2
  go_wp2_with fail
  refine (HA _).mono ?_
  rintro e w3 ⟨rfl, hb3⟩
  have B3 := below_then B2 B2.size hb3
  clear X2 B2 hb3 y0 y1 y2 y3
  go_wp2_with fail
  refine (HC _).mono ?_
  rintro e w4 ⟨rfl, hb4⟩
  have B4 := below_then B3 B3.size hb4
  clear B3 hb4
  go_wp2
  go_ret
  exact ⟨rfl, B4⟩

set_option maxHeartbeats 1000000 in
theorem lawSegmentCount (a b c d t : Int) (_ht : -9223372036854775808 ≤ t ∧ t ≤ 9223372036854775807) (w : World) :
    Calls Try.prog 6 #[segV a b c d, .int .i64 t] w fun e w' => e = .returned (.bool true) ∧ Below w.heap.size w w' := by
  have HA := fun w => toSegment_any a b c d w
  have HB := fun w => specSegmentCount_any a b c d t w
  have HC := fun w => implSegmentCount_any a b c d t w
  unfold segV at *
  have B0 := below1 w (.cells #[.int .i64 a, .int .i64 b, .int .i64 c, .int .i64 d] 23)
  have X0 := box4_new w (.int .i64 a) (.int .i64 b) (.int .i64 c) (.int .i64 d) 23
  go_enter Try.func6, Try.ntmps6
  go_wp2_with fail
  refine (HA _).mono ?_
  rintro e w1 ⟨rfl, hb1⟩
  have X1 := X0.keep hb1
  have B1 := below_then B0 (by simp) hb1
  clear X0 B0 hb1
  go_wp2_with fail
  refine (HB _).mono ?_
  rintro e w2 ⟨rfl, hb2⟩
  have X2 := X1.keep hb2
  have B2 := below_then B1 B1.size hb2
  have y0 := X2.c0
  have y1 := X2.c1
  have y2 := X2.c2
  have y3 := X2.c3
  clear X1 B1 hb2
  go_wp2_with fail
  refine (HA _).mono ?_
  rintro e w3 ⟨rfl, hb3⟩
  have B3 := below_then B2 B2.size hb3
  clear X2 B2 hb3 y0 y1 y2 y3
  go_wp2_with fail
  refine (HC _).mono ?_
  rintro e w4 ⟨rfl, hb4⟩
  have B4 := below_then B3 B3.size hb4
  clear B3 hb4
  go_wp2
  go_ret
  exact ⟨rfl, B4⟩

set_option maxHeartbeats 1000000 in
theorem lawSegmentInner (a b c d t : Int) (_ht : -9223372036854775808 ≤ t ∧ t ≤ 9223372036854775807) (w : World) :
    Calls Try.prog 7 #[segV a b c d, .int .i64 t] w fun e w' => e = .returned (.bool true) ∧ Below w.heap.size w w' := by
  have HA := fun w => toSegment_any a b c d w
  have HB := fun w => specSegmentInner_any a b c d t w
  have HC := fun w => implSegmentInner_any a b c d t w
  unfold segV at *
  have B0 := below1 w (.cells #[.int .i64 a, .int .i64 b, .int .i64 c, .int .i64 d] 23)
  have X0 := box4_new w (.int .i64 a) (.int .i64 b) (.int .i64 c) (.int .i64 d) 23
  go_enter Try.func7, Try.ntmps7
  go_wp2_with fail
  refine (HA _).mono ?_
  rintro e w1 ⟨rfl, hb1⟩
  have X1 := X0.keep hb1
  have B1 := below_then B0 (by simp) hb1
  clear X0 B0 hb1
  go_wp2_with fail
  refine (HB _).mono ?_
  rintro e w2 ⟨rfl, hb2⟩
  have X2 := X1.keep hb2
  have B2 := below_then B1 B1.size hb2
  have y0 := X2.c0
  have y1 := X2.c1
  have y2 := X2.c2
  have y3 := X2.c3
  clear X1 B1 hb2
  go_wp2_with fail
  refine (HA _).mono ?_
  rintro e w3 ⟨rfl, hb3⟩
  have B3 := below_then B2 B2.size hb3
  clear X2 B2 hb3 y0 y1 y2 y3
  go_wp2_with fail
  refine (HC _).mono ?_
  rintro e w4 ⟨rfl, hb4⟩
  have B4 := below_then B3 B3.size hb4
  clear B3 hb4
  go_wp2
  go_ret
  exact ⟨rfl, B4⟩

set_option maxHeartbeats 1000000 in
theorem lawSegmentPeriod (a b c d : Int) (w : World) :
    Calls Try.prog 12 #[segV a b c d] w fun e w' => e = .returned (.bool true) ∧ Below w.heap.size w w' := by
  have HA := fun w => toSegment_any a b c d w
  have HB := fun w => specSegmentPeriod_any a b c d w
  have HC := fun w => implSegmentPeriod_any a b c d w
  unfold segV at *
  have B0 := below1 w (.cells #[.int .i64 a, .int .i64 b, .int .i64 c, .int .i64 d] 23)
  have X0 := box4_new w (.int .i64 a) (.int .i64 b) (.int .i64 c) (.int .i64 d) 23
  go_enter Try.func12, Try.ntmps12
  go_wp2_with fail
  refine (HA _).mono ?_
  rintro e w1 ⟨rfl, hb1⟩
  have X1 := X0.keep hb1
  have B1 := below_then B0 (by simp) hb1
  clear X0 B0 hb1
  go_wp2_with fail
  refine (HB _).mono ?_
  rintro e w2 ⟨rfl, hb2⟩
  have X2 := X1.keep hb2
  have B2 := below_then B1 B1.size hb2
  have y0 := X2.c0
  have y1 := X2.c1
  have y2 := X2.c2
  have y3 := X2.c3
  clear X1 B1 hb2
  go_wp2_with fail
  refine (HA _).mono ?_
  rintro e w3 ⟨rfl, hb3⟩
  have B3 := below_then B2 B2.size hb3
  clear X2 B2 hb3 y0 y1 y2 y3
  go_wp2_with fail
  refine (HC _).mono ?_
  rintro e w4 ⟨rfl, hb4⟩
  have B4 := below_then B3 B3.size hb4
  clear B3 hb4
  go_wp2
  go_ret
  exact ⟨rfl, B4⟩
end Go.Proofs.Ytlmakigadloohaa
