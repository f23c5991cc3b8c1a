/- The law on PointsValue: its walk. -/
import Derived.Test.YtibninlggdpnkaaPtsS
namespace Go.Proofs.Ytibninlggdpnkaa
open Go.RowKit
set_option linter.unusedVariables false
set_option linter.unusedSimpArgs false

set_option maxHeartbeats 1000000 in
theorem lawPointsValue (v : Value) (ls : List (List Int)) (s : Int) (_hs : -9223372036854775808 ≤ s ∧ s ≤ 9223372036854775807) (u : Int) (_hu : -9223372036854775808 ≤ u ∧ u ≤ 9223372036854775807) (w : World) (h : ISSr w w.heap.size v ls) :
    Calls Try.prog 7 #[v, .int .i64 s, .int .i64 u] w fun e w' => e = .returned (.bool true) ∧ Below w.heap.size w w' := by
  have S := szIntSS_any ls v 1048576 w.heap.size w h (by omega) (by omega)
  by_cases hl : totS ls ≤ 1048576
  · have e1 : szL (totS ls) 1048576 = 1048576 - (totS ls : Int) := by unfold szL; rw [if_neg (by omega)]
    rw [e1] at S
    have hr : 0 ≤ 1048576 - (totS ls : Int) := by omega
    obtain ⟨h1, h2⟩ := totS_len hl
    clear e1 hl
    generalize 1048576 - (totS ls : Int) = r at *
    have HT := fun w' (h' : ISSr w' w.heap.size v ls) (hs : w.heap.size ≤ w'.heap.size) => toIntSS_any ls v w.heap.size w' h' hs h1 h2
    have H := Lib.hid h
    generalize hP : ptsV ls s u = p at *
    obtain ⟨pa, pb⟩ := p
    clear h1 h2
    go_enter Try.func7, Try.ntmps7
    go_wp2_with fail
    refine S.mono ?_
    rintro e w0 ⟨rfl, rfl⟩
    go_wp2_with fail
    refine (HT w H.out (Nat.le_refl _)).mono ?_
    rintro e w1 ⟨v1, rfl, i1, b1, s1⟩
    have I1 := Lib.hid i1; clear i1
    go_wp2_with fail
    have SP := specPointsValue_any ls v1 s u _ w1 I1.out.read
    rw [hP] at SP
    refine SP.mono ?_
    rintro e w' ⟨rfl, d1, rfl⟩
    have B1 : Below w.heap.size w (w1.drewN d1) := b1.trans (below_draws _ _ d1)
    clear I1 s1 b1 SP
    generalize w1.drewN d1 = w2 at *
    have H2 := Lib.hid (H.out.keep B1 (Nat.le_refl _))
    go_wp2_with fail
    refine (HT w2 H2.out B1.size).mono ?_
    rintro e w3 ⟨v3, rfl, i3, b3, s3⟩
    have I3 := Lib.hid i3; clear i3
    have le3 := Lib.hid (show w2.heap.size + 1 + ls.length ≤ w3.heap.size by omega)
    have B3 := below_then B1 B1.size b3
    clear B1 H2 b3 s3
    go_wp2_with fail
    have SP := implPointsValue_any ls v3 s u _ w3 I3.out.read
    rw [hP] at SP
    refine SP.mono ?_
    rintro e w' ⟨rfl, d3, rfl⟩
    have B4 := B3.trans (below_draws _ _ d3)
    have I4 := Lib.hid (show ISS (w3.drewN d3) _ _ v3 ls from I3.out.draws d3)
    have le4 := Lib.hid (show w2.heap.size + 1 + ls.length ≤ (w3.drewN d3).heap.size from le3.out)
    clear I3 B3 SP le3
    generalize w3.drewN d3 = w4 at *
    have H4 := Lib.hid (H.out.keep B4 (Nat.le_refl _))
    go_wp2_with fail
    refine (HT w4 H4.out B4.size).mono ?_
    rintro e w5 ⟨v5, rfl, i5, b5, s5⟩
    have I5 := Lib.hid i5; clear i5
    have I6 := Lib.hid (I4.out.keep b5 le4.out)
    have B5 := below_then B4 B4.size b5
    clear B4 b5 I4 s5 H4
    go_wp2_with fail
    have E := eqIntSS_any ls ls v3 v5 _ _ w5 I6.out.read I5.out.read
    have ht : decide (ls = ls) = true := by simp
    rw [ht] at E
    refine E.mono ?_
    rintro e w' ⟨rfl, d6, rfl⟩
    go_wp2
    go_ret
    exact ⟨rfl, B5.trans (below_draws _ _ _)⟩
  · have e1 : szL (totS ls) 1048576 = -1 := by unfold szL; rw [if_pos (by omega)]
    rw [e1] at S
    clear e1
    go_enter Try.func7, Try.ntmps7
    go_wp2_with fail
    refine S.mono ?_
    rintro e w0 ⟨rfl, rfl⟩
    go_wp2
    go_ret
    exact ⟨rfl, Below.refl _ _⟩
end Go.Proofs.Ytibninlggdpnkaa
