/- The law on GreatestGap: its walk. -/
import Derived.Test.YtibninlggdpnkaaGapW
namespace Go.Proofs.Ytibninlggdpnkaa
open Go.RowKit
set_option linter.unusedVariables false
set_option linter.unusedSimpArgs false

set_option maxHeartbeats 1000000 in
theorem lawGreatestGap (v : Value) (l : List Int) (w : World) (h : ISr w w.heap.size v l) :
    Calls Try.prog 5 #[v] w fun e w' => e = .returned (.bool true) ∧ Below w.heap.size w w' := by
  by_cases hbig : 1048576 < l.length
  · obtain ⟨a, cap, rfl, -, -, -⟩ := h
    generalize l.length = n at *
    go_enter Try.func5, Try.ntmps5
    go_wp2
    go_ret
    exact ⟨rfl, Below.refl _ _⟩
  · have HT := fun w' (h' : ISr w' w.heap.size v l) (hs : w.heap.size ≤ w'.heap.size) => toIntS_any l v w.heap.size w' h' hs (by omega)
    have H := Lib.hid h
    obtain ⟨a, cap, rfl, -, -, -⟩ := h
    have hle : l.length ≤ 1048576 := by omega
    go_enter Try.func5, Try.ntmps5
    go_wp2_with fail
    refine (HT _ H.out (Nat.le_refl _)).mono ?_
    rintro e w1 ⟨v1, rfl, i1, b1, s1⟩
    have I1 := Lib.hid i1; clear i1
    have S1 := Lib.hid s1; clear s1
    go_wp2_with fail
    refine (specGreatestGap_any l v1 _ _ I1.out.read (by rw [S1.out]; exact Nat.le_refl _)).mono ?_
    rintro e w2 ⟨rfl, b2⟩
    have B1 := below_then b1 b1.size b2
    clear I1 S1 b1 b2
    have H2 := Lib.hid (H.out.keep B1 (Nat.le_refl _))
    go_wp2_with fail
    refine (HT _ H2.out B1.size).mono ?_
    rintro e w3 ⟨v3, rfl, i3, b3, s3⟩
    have I3 := Lib.hid i3; clear i3
    have S3 := Lib.hid s3; clear s3
    have B3 := below_then B1 B1.size b3
    go_wp2_with fail
    refine (implGreatestGap_any l v3 _ _ I3.out.read (by rw [S3.out]; exact Nat.le_refl _)).mono ?_
    rintro e w4 ⟨rfl, b4⟩
    have I4 := Lib.hid (I3.out.keep b4 (by rw [S3.out]; exact Nat.le_refl _))
    have hsz := b4.size
    have S4 : w2.heap.size + 1 ≤ w4.heap.size := by rw [S3.out] at hsz; exact hsz
    have B4 := below_then B3 B3.size b4
    clear I3 S3 B3 b3 B1 H2 b4 hsz
    have H4 := Lib.hid (H.out.keep B4 (Nat.le_refl _))
    go_wp2_with fail
    refine (HT _ H4.out B4.size).mono ?_
    rintro e w5 ⟨v5, rfl, i5, b5, s5⟩
    have I5 := Lib.hid i5; clear i5
    have I6 := Lib.hid (I4.out.keep b5 (by omega))
    have B5 := below_then B4 B4.size b5
    clear B4 b5 I4 S4 s5
    go_wp2_with fail
    refine (eqIntS_any l l v3 v5 _ _ _ I6.out.read I5.out.read).mono ?_
    rintro e w' ⟨rfl, d6, rfl⟩
    have ht : decide (l = l) = true := by simp
    rw [ht]
    go_wp2
    go_ret
    exact ⟨rfl, B5.trans (below_draws _ _ _)⟩
end Go.Proofs.Ytibninlggdpnkaa
