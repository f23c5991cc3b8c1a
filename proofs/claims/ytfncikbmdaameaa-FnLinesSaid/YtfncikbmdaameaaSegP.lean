/- The period of a segment: the walks. -/
import Derived.Test.YtfncikbmdaameaaSegC
namespace Go.Proofs.Ytfncikbmdaameaa
open Go.RowKit

def perI (a b c d : Int) : Int := b / gcdI a b / gcdI (b / gcdI a b) (d / gcdI c d) * (d / gcdI c d)
def segPeriod (a b c d : Int) : Int := if segB a b c d then perI a b c d else 0
theorem quo_bd {b g : Int} (hb : 1 ≤ b) (hg : 1 ≤ g) (hgb : g ≤ b) : 1 ≤ b / g ∧ b / g ≤ b :=
  ⟨by rw [Int.le_ediv_iff_mul_le (by omega)]; omega, Int.ediv_le_self _ (by omega)⟩
theorem gcdI_le_left (a b : Int) (hb : 1 ≤ a) : gcdI a b ≤ a := by rw [gcdI_comm]; exact gcdI_le_right b a hb
theorem quo_wrap {b g : Int} (hb : 0 ≤ b) (hb' : b ≤ 9223372036854775807) (hg : 1 ≤ g) : IntKind.i64.wrap (b.tdiv g) = b / g := IntWalk.i64_quo b g ⟨hb, hb', hg⟩

set_option maxHeartbeats 1000000 in
theorem specSegmentPeriod_any (a b c d : Int) (w : World) :
    Calls Try.prog 31 #[segV a b c d] w fun e w' => e = .returned (.int .i64 (segPeriod a b c d)) ∧ Below w.heap.size w w' := by
  have HB := fun w => specIsSegment_any a b c d w
  have X0 := box4_new w (.int .i64 a) (.int .i64 b) (.int .i64 c) (.int .i64 d) 26
  have B0 := below1 w (.cells #[.int .i64 a, .int .i64 b, .int .i64 c, .int .i64 d] 26)
  by_cases hs : segB a b c d = true
  · have hv : segPeriod a b c d = perI a b c d := by simp [segPeriod, hs]
    obtain ⟨h2, h2', h4, h4', h1, h1', h3, h3'⟩ := segB_bd hs
    rw [hv]; clear hv
    unfold perI
    have g1 := gcdI_pos_right a b h2
    have g1' := gcdI_le_right a b h2
    have g2 := gcdI_pos_right c d h4
    have g2' := gcdI_le_right c d h4
    have q1 := quo_bd h2 g1 g1'
    have q2 := quo_bd h4 g2 g2'
    have u1 := quo_wrap (b := b) (by omega) (by omega) g1
    have u2 := quo_wrap (b := d) (by omega) (by omega) g2
    have k1 := gcdI_pos_right (b / gcdI a b) (d / gcdI c d) q2.1
    have k1' := gcdI_le_left (b / gcdI a b) (d / gcdI c d) q1.1
    have r1 := quo_bd q1.1 k1 k1'
    have m1 := mul_bd (a := b / gcdI a b / gcdI (b / gcdI a b) (d / gcdI c d)) (b := d / gcdI c d) (M := 12) (N := 12) (by omega) (by omega) (by omega) (by omega) (by omega)
    unfold segV at *
    go_enter Try.func31, Try.ntmps31
    go_wp2_with fail
    refine (HB _).mono ?_
    rintro e w1 ⟨rfl, hb1⟩
    obtain ⟨-, y0, y1, y2, y3⟩ := X0.keep hb1
    have B1 := below_then B0 (by simp) hb1
    clear X0 B0 hb1
    go_wp2_with fail
    go_quiet ((go_at_call 125; exact quiet_eq (l2Gcd_any _ _ _ (by omega) (by omega) (by omega) (by omega))))
    have z2 : (w1.drewN nq).cell? ⟨w.heap.size, 2, none⟩ = some (.int .i64 c) := y2
    have z3 : (w1.drewN nq).cell? ⟨w.heap.size, 3, none⟩ = some (.int .i64 d) := y3
    have B2 := B1.trans (below_draws _ _ nq)
    clear y0 y1 y2 y3 B1
    generalize w1.drewN nq = w2 at *
    go_wp2_with fail
    go_quiet ((go_at_call 125; exact quiet_eq (l2Gcd_any _ _ _ (by omega) (by omega) (by omega) (by omega))))
    go_wp2_with (go_at_call 125; (with_reducible refine (l2Gcd_any _ _ _ (by omega) (by omega) (by omega) (by omega)).mono ?_); rintro e w' ⟨rfl, rfl⟩)
    go_ret
    exact ⟨rfl, B2.trans (below_draws _ _ _)⟩
  · have hv : segPeriod a b c d = 0 := by simp [segPeriod, hs]
    rw [hv]; clear hv
    unfold segV at *
    go_enter Try.func31, Try.ntmps31
    go_wp2_with fail
    refine (HB _).mono ?_
    rintro e w1 ⟨rfl, hb1⟩
    have B1 := below_then B0 (by simp) hb1
    clear X0 B0 hb1
    go_wp2
    go_ret
    exact ⟨rfl, B1⟩

set_option maxHeartbeats 1000000 in
theorem implSegmentPeriod_any (a b c d : Int) (w : World) :
    Calls Try.prog 25 #[segV a b c d] w fun e w' => e = .returned (.int .i64 (segPeriod a b c d)) ∧ Below w.heap.size w w' := by
  have HB := fun w => implIsSegment_any a b c d w
  have X0 := box4_new w (.int .i64 a) (.int .i64 b) (.int .i64 c) (.int .i64 d) 26
  have B0 := below1 w (.cells #[.int .i64 a, .int .i64 b, .int .i64 c, .int .i64 d] 26)
  by_cases hs : segB a b c d = true
  · have hv : segPeriod a b c d = perI a b c d := by simp [segPeriod, hs]
    obtain ⟨h2, h2', h4, h4', h1, h1', h3, h3'⟩ := segB_bd hs
    rw [hv]; clear hv
    unfold perI
    have g1 := gcdI_pos_right a b h2
    have g1' := gcdI_le_right a b h2
    have g2 := gcdI_pos_right c d h4
    have g2' := gcdI_le_right c d h4
    have q1 := quo_bd h2 g1 g1'
    have q2 := quo_bd h4 g2 g2'
    have u1 := quo_wrap (b := b) (by omega) (by omega) g1
    have u2 := quo_wrap (b := d) (by omega) (by omega) g2
    have k1 := gcdI_pos_right (b / gcdI a b) (d / gcdI c d) q2.1
    have k1' := gcdI_le_left (b / gcdI a b) (d / gcdI c d) q1.1
    have r1 := quo_bd q1.1 k1 k1'
    have m1 := mul_bd (a := b / gcdI a b / gcdI (b / gcdI a b) (d / gcdI c d)) (b := d / gcdI c d) (M := 12) (N := 12) (by omega) (by omega) (by omega) (by omega) (by omega)
    unfold segV at *
    go_enter Try.func25, Try.ntmps25
    go_wp2_with fail
    refine (HB _).mono ?_
    rintro e w1 ⟨rfl, hb1⟩
    obtain ⟨-, y0, y1, y2, y3⟩ := X0.keep hb1
    have B1 := below_then B0 (by simp) hb1
    clear X0 B0 hb1
    go_wp2_with fail
    go_quiet ((go_at_call 118; exact Calls.quiet_of (divisor_any _ _ _ (by omega) (by omega) (by omega) (by omega))))
    go_wp2_with (go_at_call 118; (with_reducible refine (divisor_any _ _ _ (by omega) (by omega) (by omega) (by omega)).mono ?_); rintro e w' ⟨rfl, n2, rfl⟩)
    go_ret
    exact ⟨rfl, B1.trans (below_draws _ _ _)⟩
  · have hv : segPeriod a b c d = 0 := by simp [segPeriod, hs]
    rw [hv]; clear hv
    unfold segV at *
    go_enter Try.func25, Try.ntmps25
    go_wp2_with fail
    refine (HB _).mono ?_
    rintro e w1 ⟨rfl, hb1⟩
    have B1 := below_then B0 (by simp) hb1
    clear X0 B0 hb1
    go_wp2
    go_ret
    exact ⟨rfl, B1⟩
end Go.Proofs.Ytfncikbmdaameaa
