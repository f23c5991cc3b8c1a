/- TermAt of the model: the walk. -/
import Derived.Test.YtibninlggdpnkaaTermA
namespace Go.Proofs.Ytibninlggdpnkaa
open Go.RowKit
set_option linter.unusedVariables false
set_option linter.unusedSimpArgs false

set_option maxHeartbeats 4000000 in
theorem specTermAt_any (s : Int) (U : List Int) (G : List (List Int)) (x : List Int) (v1 v2 vx : Value) (hb : Nat) (w : World) (hs : -9223372036854775808 ≤ s ∧ s ≤ 9223372036854775807) (i1 : ISr w hb v1 U) (i2 : ISSr w hb v2 G) (ix : ISr w hb vx x) (hhb : hb ≤ w.heap.size) :
    Calls Try.prog 54 #[.agg #[.int .i64 s, v1, v2], vx] w fun e w' => e = .returned (.int .i64 (termAt s U G x)) ∧ Below w.heap.size w w' := by
  have b1 := below1 w (.cells #[.int .i64 s, v1, v2] 61)
  have bx := box3_new w (.int .i64 s) v1 v2 61
  have P1 := fun W (B : Below w.heap.size w W) => specIsTerm_any s U G v1 v2 hb W hs (i1.keep B hhb) (i2.keep B hhb) (Nat.le_trans hhb B.size)
  have P2 := fun W (B : Below w.heap.size w W) => toBelow (specIsVector_any x vx hb W (ix.keep B hhb))
  obtain ⟨ax, cx, hvx, -⟩ := id ix
  have HB := Lib.hid b1
  have BX := Lib.hid bx
  cases ht : termB s U G
  · have hr : termAt s U G x = 0 := by unfold termAt; rw [ht]; rfl
    simp only [ht] at P1
    rw [hr]
    clear hr ht i1 i2 ix P2 hvx bx b1
    go_enter Try.func54, Try.ntmps54
    go_wp2_with (go_at_call 48; (with_reducible refine (P1 _ HB.out).mono ?_); rintro e w2 ⟨rfl, c2⟩)
    go_ret
    exact ⟨rfl, below_then HB.out HB.out.size c2⟩
  obtain ⟨hG, hU, hse⟩ := gens_of_term ht
  simp only [ht] at P1
  cases hv : vecB x
  · have hr : termAt s U G x = 0 := by unfold termAt; rw [ht, hv]; rfl
    simp only [hv] at P2
    rw [hr]
    clear hr ht i1 i2 ix hvx bx b1 hG hU hse hv
    go_enter Try.func54, Try.ntmps54
    go_wp2_with (first | (go_at_call 48; (with_reducible refine (P1 _ HB.out).mono ?_); rintro e w2 ⟨rfl, c2⟩; have B2 := below_then HB.out HB.out.size c2) | (go_at_call 67; (with_reducible refine (P2 _ B2).mono ?_); rintro e w3 ⟨rfl, c3⟩))
    go_ret
    exact ⟨rfl, below_then B2 B2.size c3⟩
  simp only [hv] at P2
  by_cases lx : x.length = 2
  case neg =>
    have hr : termAt s U G x = 0 := by unfold termAt; rw [decide_eq_false lx]; simp
    have hne' : ((x.length : Int) != 2) = true := by rw [bne_iff_ne]; omega
    rw [hr]
    subst hvx
    clear hr ht i1 i2 ix bx b1 hG hU hse hv lx
    generalize x.length = n at *
    go_enter Try.func54, Try.ntmps54
    go_wp2_with (first | (go_at_call 48; (with_reducible refine (P1 _ HB.out).mono ?_); rintro e w2 ⟨rfl, c2⟩; have B2 := below_then HB.out HB.out.size c2) | (go_at_call 67; (with_reducible refine (P2 _ B2).mono ?_); rintro e w3 ⟨rfl, c3⟩))
    go_ret
    exact ⟨rfl, below_then B2 B2.size c3⟩
  have lU := ptB_len hU
  have hx := vecB_bd hv
  have P3 := fun W (B : Below w.heap.size w W) => l2Less_any x U vx v1 hb W (ix.keep B hhb) (i1.keep B hhb) (Nat.le_trans hhb B.size) (by omega) (by rw [lx, lU.1]; exact Nat.le_refl _) (fun k hk => by
    have h1 := allIn_at hx k hk
    have h2 := allIn_at lU.2 k (by rw [lU.1, ← lx]; exact hk)
    omega)
  have hz := minusI_zip lx lU.1
  have P4 := fun W vm (B : Below w.heap.size w W) (hm : ISr W W.heap.size vm (minusI x U)) => l10Hits_any G (minusI x U) v2 vm W.heap.size W ((i2.keep B hhb).upto (Nat.le_trans hhb B.size)) hm (Nat.le_refl _) hG rfl (minusI_bd lx lU.1 hx lU.2)
  rw [lx] at hvx
  subst hvx
  have HT := Lib.hid ht
  have HV := Lib.hid hv
  have HZ := Lib.hid hz
  cases hh : hitsB G (minusI x U)
  all_goals
    have HR := Lib.hid (show termAt s U G x = _ by unfold termAt; rw [HT.out, HV.out, decide_eq_true lx, hh])
    simp only [hh] at P4
    clear lU hx i1 i2 ix hG hU hse hh b1 bx lx ht hv hz
    go_enter Try.func54, Try.ntmps54
    go_wp2_with (first | (go_at_call 48; (with_reducible refine (P1 _ HB.out).mono ?_); rintro e w2 ⟨rfl, c2⟩; have B2 := below_then HB.out HB.out.size c2; have X2 := BX.out.keep c2) | (go_at_call 67; (with_reducible refine (P2 _ B2).mono ?_); rintro e w3 ⟨rfl, c3⟩; have B3 := below_then B2 B2.size c3; have X3 := X2.keep c3))
    have Bd : Below w.heap.size w w3.drew := B3.trans (below_draws _ w3 1)
    have BXd : Box3 w3.drew w.heap.size (.int .i64 s) v1 v2 := X3.keep (below_draws _ w3 1)
    have q1 := BXd.c1
    have q2 := BXd.c2
    clear P1 P2 c2 c3 B2 B3 X2 X3 HB BX
    go_region_held3 (fun w' => w'.cell? ⟨w.heap.size, 1, none⟩ = some v1 ∧ w'.cell? ⟨w.heap.size, 2, none⟩ = some v2) (first | exact ⟨q1, q2⟩ | exact ⟨z1, z2⟩ | exact ⟨y1, y2⟩) (first | (go_at_call 75; (with_reducible refine (P3 _ Bd).mono ?_); rintro e w4 ⟨vm, rfl, km, c4⟩; have KM := Lib.hid km.read; have B4 := below_then Bd Bd.size c4; have X4 := BXd.keep c4; have z1 := X4.c1; have z2 := X4.c2) | (go_at_call 82; (with_reducible refine (P4 _ _ B4 (HZ.out ▸ KM.out)).mono ?_); rintro e w5 ⟨rfl, c5⟩; have B5 := below_then B4 B4.size c5; have X5 := X4.keep c5; have y1 := X5.c1; have y2 := X5.c2))
    have y0 := X5.c0
    clear q1 q2 z1 z2
    go_wp2
    go_ret
    exact ⟨ret_int HR.out.symm, B5⟩
end Go.Proofs.Ytibninlggdpnkaa
