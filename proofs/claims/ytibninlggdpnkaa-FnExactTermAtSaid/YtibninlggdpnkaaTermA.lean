/- TermAt: the walks. -/
import Derived.Test.YtibninlggdpnkaaHitS
import Derived.Test.YtibninlggdpnkaaTermS
import Derived.Deep.RegionHeld3
import Derived.Deep.RegionWith
namespace Go.Proofs.Ytibninlggdpnkaa
open Go.RowKit
set_option linter.unusedVariables false
set_option linter.unusedSimpArgs false

def termAt (s : Int) (U : List Int) (G : List (List Int)) (x : List Int) : Int :=
  if termB s U G && vecB x && decide (x.length = 2) && hitsB G (minusI x U) then s else 0
theorem vecB_bd {x : List Int} (h : vecB x = true) : allIn x (-1000) 1000 = true := by
  unfold vecB at h; simp only [Bool.and_eq_true] at h; exact h.2
theorem allIn_two {x y m : Int} (hx : -m ≤ x ∧ x ≤ m) (hy : -m ≤ y ∧ y ≤ m) : allIn [x, y] (-m) m = true := by
  simp [allIn, inB]; omega
theorem minusI_bd {x U : List Int} (lx : x.length = 2) (lU : U.length = 2) (hx : allIn x (-1000) 1000 = true) (hU : allIn U (-1000) 1000 = true) : allIn (minusI x U) (-1000000) 1000000 = true := by
  have a0 := allIn_at hx 0 (by omega)
  have a1 := allIn_at hx 1 (by omega)
  have b0 := allIn_at hU 0 (by omega)
  have b1 := allIn_at hU 1 (by omega)
  exact allIn_two (by omega) (by omega)

set_option maxHeartbeats 4000000 in
theorem implTermAt_any (s : Int) (U : List Int) (G : List (List Int)) (x : List Int) (v1 v2 vx : Value) (hb : Nat) (w : World) (hs : -9223372036854775808 ≤ s ∧ s ≤ 9223372036854775807) (i1 : ISr w hb v1 U) (i2 : ISSr w hb v2 G) (ix : ISr w hb vx x) (hhb : hb ≤ w.heap.size) :
    Calls Try.prog 55 #[.agg #[.int .i64 s, v1, v2], vx] w fun e w' => e = .returned (.int .i64 (termAt s U G x)) ∧ Below w.heap.size w w' := by
  have b1 := below1 w (.cells #[.int .i64 s, v1, v2] 61)
  have bx := box3_new w (.int .i64 s) v1 v2 61
  have P1 := fun W (B : Below w.heap.size w W) => implIsTerm_any s U G v1 v2 hb W hs (i1.keep B hhb) (i2.keep B hhb) (Nat.le_trans hhb B.size)
  have P2 := fun W (B : Below w.heap.size w W) => toBelow (implIsVector_any x vx hb W (ix.keep B hhb))
  obtain ⟨ax, cx, hvx, -⟩ := id ix
  cases ht : termB s U G
  · have hr : termAt s U G x = 0 := by unfold termAt; rw [ht]; rfl
    simp only [ht] at P1
    rw [hr]
    have HB := Lib.hid b1
    have BX := Lib.hid bx
    clear b1 bx hr ht i1 i2 ix P2 hvx
    go_enter Try.func55, Try.ntmps55
    go_wp2_with fail
    generalize w.alloc (.cells #[.int .i64 s, v1, v2] 61) = w1 at *
    refine wp_region_class (fun w' => Below w.heap.size w w' ∧ Box3 w' w.heap.size (.int .i64 s) v1 v2) (by kernel_rfl) (by kernel_rfl) ⟨HB.out.trans (below_draws _ w1 1), BX.out.keep (below_draws _ w1 1)⟩ (fun hne => ?_)
    generalize hC : (fun w' => Below w.heap.size w w' ∧ Box3 w' w.heap.size (.int .i64 s) v1 v2) = C at *
    have q0 : ∀ x : InC C, x.w.cell? ⟨w.heap.size, 0, none⟩ = some (.int .i64 s) := by subst hC; exact fun x => x.h.2.c0
    have q1 : ∀ x : InC C, x.w.cell? ⟨w.heap.size, 1, none⟩ = some v1 := by subst hC; exact fun x => x.h.2.c1
    have q2 : ∀ x : InC C, x.w.cell? ⟨w.heap.size, 2, none⟩ = some v2 := by subst hC; exact fun x => x.h.2.c2
    have R0 : ∀ x : InC C, Calls Try.prog 50 #[.agg #[.int .i64 s, v1, v2]] x.w fun e w' => e = .returned (.bool false) ∧ ∃ m : InC C, w' = m.w := by
      subst hC; exact fun x => Calls.inC ((P1 _ x.h.1).mono fun e w' ⟨he, c⟩ => ⟨he, below_then x.h.1 x.h.1.size c, x.h.2.keep c⟩)
    have HCC := Lib.hid hC
    clear hC P1
    repeat (go_big_quiet_step ((go_at_call 50; exact R0 _)))
    refine wpQuiet_nil ?_
    rintro _ ⟨x, rfl⟩
    have HBx := Lib.hid (show Below w.heap.size w x.w by have := HCC.out; subst this; exact x.h.1)
    generalize x.w = w2 at *
    go_wp2
    go_ret
    exact ⟨rfl, HBx.out⟩
  obtain ⟨hG, hU, hse⟩ := gens_of_term ht
  simp only [ht] at P1
  cases hv : vecB x
  · have hr : termAt s U G x = 0 := by unfold termAt; rw [ht, hv]; rfl
    simp only [hv] at P2
    rw [hr]
    have HB := Lib.hid b1
    have BX := Lib.hid bx
    clear b1 bx hr ht i1 i2 ix hvx hG hU hse hv
    go_enter Try.func55, Try.ntmps55
    go_wp2_with fail
    generalize w.alloc (.cells #[.int .i64 s, v1, v2] 61) = w1 at *
    refine wp_region_class (fun w' => Below w.heap.size w w' ∧ Box3 w' w.heap.size (.int .i64 s) v1 v2) (by kernel_rfl) (by kernel_rfl) ⟨HB.out.trans (below_draws _ w1 1), BX.out.keep (below_draws _ w1 1)⟩ (fun hne => ?_)
    generalize hC : (fun w' => Below w.heap.size w w' ∧ Box3 w' w.heap.size (.int .i64 s) v1 v2) = C at *
    have q0 : ∀ x : InC C, x.w.cell? ⟨w.heap.size, 0, none⟩ = some (.int .i64 s) := by subst hC; exact fun x => x.h.2.c0
    have q1 : ∀ x : InC C, x.w.cell? ⟨w.heap.size, 1, none⟩ = some v1 := by subst hC; exact fun x => x.h.2.c1
    have q2 : ∀ x : InC C, x.w.cell? ⟨w.heap.size, 2, none⟩ = some v2 := by subst hC; exact fun x => x.h.2.c2
    have R0 : ∀ x : InC C, Calls Try.prog 50 #[.agg #[.int .i64 s, v1, v2]] x.w fun e w' => e = .returned (.bool true) ∧ ∃ m : InC C, w' = m.w := by
      subst hC; exact fun x => Calls.inC ((P1 _ x.h.1).mono fun e w' ⟨he, c⟩ => ⟨he, below_then x.h.1 x.h.1.size c, x.h.2.keep c⟩)
    have R1 : ∀ x : InC C, Calls Try.prog 69 #[vx] x.w fun e w' => e = .returned (.bool false) ∧ ∃ m : InC C, w' = m.w := by
      subst hC; exact fun x => Calls.inC ((P2 _ x.h.1).mono fun e w' ⟨he, c⟩ => ⟨he, below_then x.h.1 x.h.1.size c, x.h.2.keep c⟩)
    have HCC := Lib.hid hC
    clear hC P1 P2
    repeat (go_big_quiet_step (first | (go_at_call 50; exact R0 _) | (go_at_call 69; exact R1 _)))
    refine wpQuiet_nil ?_
    rintro _ ⟨x, rfl⟩
    have HBx := Lib.hid (show Below w.heap.size w x.w by have := HCC.out; subst this; exact x.h.1)
    generalize x.w = w2 at *
    go_wp2
    go_ret
    exact ⟨rfl, HBx.out⟩
  simp only [hv] at P2
  by_cases lx : x.length = 2
  case neg =>
    have hr : termAt s U G x = 0 := by unfold termAt; rw [decide_eq_false lx]; simp
    have hne' : ((x.length : Int) != 2) = true := by rw [bne_iff_ne]; omega
    rw [hr]
    subst hvx
    clear lx
    have HP2 := Lib.hid P2
    clear P2
    generalize hn : x.length = n at *
    have P2 := HP2.out
    clear HP2
    have HB := Lib.hid b1
    have BX := Lib.hid bx
    clear b1 bx hr ht i1 i2 ix hG hU hse hv
    go_enter Try.func55, Try.ntmps55
    go_wp2_with fail
    generalize w.alloc (.cells #[.int .i64 s, v1, v2] 61) = w1 at *
    refine wp_region_class (fun w' => Below w.heap.size w w' ∧ Box3 w' w.heap.size (.int .i64 s) v1 v2) (by kernel_rfl) (by kernel_rfl) ⟨HB.out.trans (below_draws _ w1 1), BX.out.keep (below_draws _ w1 1)⟩ (fun hne => ?_)
    generalize hC : (fun w' => Below w.heap.size w w' ∧ Box3 w' w.heap.size (.int .i64 s) v1 v2) = C at *
    have q0 : ∀ x : InC C, x.w.cell? ⟨w.heap.size, 0, none⟩ = some (.int .i64 s) := by subst hC; exact fun x => x.h.2.c0
    have q1 : ∀ x : InC C, x.w.cell? ⟨w.heap.size, 1, none⟩ = some v1 := by subst hC; exact fun x => x.h.2.c1
    have q2 : ∀ x : InC C, x.w.cell? ⟨w.heap.size, 2, none⟩ = some v2 := by subst hC; exact fun x => x.h.2.c2
    have R0 : ∀ x : InC C, Calls Try.prog 50 #[.agg #[.int .i64 s, v1, v2]] x.w fun e w' => e = .returned (.bool true) ∧ ∃ m : InC C, w' = m.w := by
      subst hC; exact fun x => Calls.inC ((P1 _ x.h.1).mono fun e w' ⟨he, c⟩ => ⟨he, below_then x.h.1 x.h.1.size c, x.h.2.keep c⟩)
    have R1 : ∀ x : InC C, Calls Try.prog 69 #[.slice ax n cx] x.w fun e w' => e = .returned (.bool true) ∧ ∃ m : InC C, w' = m.w := by
      subst hC; exact fun x => Calls.inC ((P2 _ x.h.1).mono fun e w' ⟨he, c⟩ => ⟨he, below_then x.h.1 x.h.1.size c, x.h.2.keep c⟩)
    have HCC := Lib.hid hC
    clear hC P1 P2
    repeat (go_big_quiet_step (first | (go_at_call 50; exact R0 _) | (go_at_call 69; exact R1 _)))
    refine wpQuiet_nil ?_
    rintro _ ⟨x, rfl⟩
    have HBx := Lib.hid (show Below w.heap.size w x.w by have := HCC.out; subst this; exact x.h.1)
    generalize x.w = w2 at *
    go_wp2
    go_ret
    exact ⟨rfl, HBx.out⟩
  have lU := ptB_len hU
  have hx := vecB_bd hv
  have a0 := allIn_at hx 0 (by omega)
  have a1 := allIn_at hx 1 (by omega)
  have u0 := allIn_at lU.2 0 (by omega)
  have u1 := allIn_at lU.2 1 (by omega)
  have P3 := fun W (B : Below w.heap.size w W) => minus_any x U vx v1 hb W (ix.keep B hhb) (i1.keep B hhb) (Nat.le_trans hhb B.size) lx lU.1 (by omega) (by omega)
  have P4 := fun W vm (B : Below w.heap.size w W) (hm : ISr W W.heap.size vm (minusI x U)) => toBelow (isSum_any G (minusI x U) v2 vm W.heap.size W ((i2.keep B hhb).upto (Nat.le_trans hhb B.size)) hm hG rfl (minusI_bd lx lU.1 hx lU.2))
  have HB := Lib.hid b1
  have BX := Lib.hid bx
  rw [lx] at hvx
  subst hvx
  have HT := Lib.hid ht
  have HV := Lib.hid hv
  cases hh : hitsB G (minusI x U)
  all_goals
    have HR := Lib.hid (show termAt s U G x = _ by unfold termAt; rw [HT.out, HV.out, decide_eq_true lx, hh])
    simp only [hh] at P4
    clear a0 a1 u0 u1 lU hx i1 i2 ix hG hU hse hh b1 bx lx ht hv
    go_enter Try.func55, Try.ntmps55
    go_wp2_with fail
    generalize w.alloc (.cells #[.int .i64 s, v1, v2] 61) = w1 at *
    have Bd : Below w.heap.size w w1.drew := HB.out.trans (below_draws _ w1 1)
    have BXd : Box3 w1.drew w.heap.size (.int .i64 s) v1 v2 := BX.out.keep (below_draws _ w1 1)
    have q0 := BXd.c0
    have q1 := BXd.c1
    have q2 := BXd.c2
    go_region_held3 (fun w' => w'.cell? ⟨w.heap.size, 0, none⟩ = some (.int .i64 s) ∧ w'.cell? ⟨w.heap.size, 1, none⟩ = some v1 ∧ w'.cell? ⟨w.heap.size, 2, none⟩ = some v2) (first | exact ⟨q0, q1, q2⟩ | exact ⟨t0, t1, t2⟩ | exact ⟨r0, r1, r2⟩ | exact ⟨z0, z1, z2⟩ | exact ⟨y0, y1, y2⟩) (first | (go_at_call 50; (with_reducible refine (P1 _ Bd).mono ?_); rintro e w2 ⟨rfl, c2⟩; have B2 := below_then Bd Bd.size c2; have X2 := BXd.keep c2; have t0 := X2.c0; have t1 := X2.c1; have t2 := X2.c2) | (go_at_call 69; (with_reducible refine (P2 _ B2).mono ?_); rintro e w3 ⟨rfl, c3⟩; have B3 := below_then B2 B2.size c3; have X3 := X2.keep c3; have r0 := X3.c0; have r1 := X3.c1; have r2 := X3.c2) | (go_at_call 84; (with_reducible refine (P3 _ B3).mono ?_); rintro e w4 ⟨vm, rfl, km, c4⟩; have KM := Lib.hid km.read; have B4 := below_then B3 B3.size c4; have X4 := X3.keep c4; have z0 := X4.c0; have z1 := X4.c1; have z2 := X4.c2) | (go_at_call 83; (with_reducible refine (P4 _ _ B4 KM.out).mono ?_); rintro e w5 ⟨rfl, c5⟩; have B5 := below_then B4 B4.size c5; have X5 := X4.keep c5; have y0 := X5.c0; have y1 := X5.c1; have y2 := X5.c2))
    clear q0 q1 q2 t0 t1 t2 r0 r1 r2 z0 z1 z2
    go_wp2
    go_ret
    exact ⟨ret_int HR.out.symm, B5⟩
end Go.Proofs.Ytibninlggdpnkaa
