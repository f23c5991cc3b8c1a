/- Cones: the walks of IsVector and InCone. -/
import Derived.Test.YtibninlggdpnkaaConeL
namespace Go.Proofs.Ytibninlggdpnkaa
open Go.RowKit
set_option linter.unusedVariables false
set_option linter.unusedSimpArgs false

def vecB (l : List Int) : Bool := inB l.length 1 3 && allIn l (-1000) 1000
def inC (U V X : List Int) : Bool := coneB U V && vecB X && decide (X.length = 2) && decide (0 ≤ crossI U X) && decide (0 ≤ crossI X V)

set_option maxHeartbeats 1000000 in
theorem implIsVector_any (l : List Int) (v : Value) (hb : Nat) (w : World) (h : ISr w hb v l) :
    Calls Try.prog 69 #[v] w fun e w' => e = .returned (.bool (vecB l)) ∧ ∃ d, w' = w.drewN d := by
  have H1 := allWithin_any l v (-1000) 1000 hb w h
  obtain ⟨a, cap, rfl, -, -, -⟩ := h
  have hw := within_any l.length 1 3
  cases h1 : inB l.length 1 3
  · have hv : vecB l = false := by simp [vecB, h1]
    rw [hv]
    simp only [h1] at hw
    clear hv h1 H1
    generalize l.length = n at *
    go_enter Try.func69, Try.ntmps69
    go_wp2_with (go_at_call 59; (with_reducible refine (hw _).mono ?_); rintro e w' ⟨rfl, rfl⟩)
    go_ret
    exact ⟨rfl, 0, rfl⟩
  · have hv : vecB l = allIn l (-1000) 1000 := by simp [vecB, h1]
    rw [hv]
    simp only [h1] at hw
    clear hv h1
    generalize allIn l (-1000) 1000 = r at *
    generalize l.length = n at *
    go_enter Try.func69, Try.ntmps69
    go_wp2_with (first | (go_at_call 59; (with_reducible refine (hw _).mono ?_); rintro e w' ⟨rfl, rfl⟩) | (go_at_call 78; (with_reducible refine H1.mono ?_); rintro e w' ⟨rfl, rfl⟩))
    go_ret
    exact ⟨rfl, 0, rfl⟩

set_option maxHeartbeats 1000000 in
theorem specIsVector_any (l : List Int) (v : Value) (hb : Nat) (w : World) (h : ISr w hb v l) :
    Calls Try.prog 67 #[v] w fun e w' => e = .returned (.bool (vecB l)) ∧ ∃ d, w' = w.drewN d := by
  have H1 := l2Small_any l v 1000 hb w h (by omega) (by omega)
  obtain ⟨a, cap, rfl, -, -, -⟩ := h
  have hw := l1In_any l.length 1 3
  cases h1 : inB l.length 1 3
  · have hv : vecB l = false := by simp [vecB, h1]
    rw [hv]
    simp only [h1] at hw
    clear hv h1 H1
    generalize l.length = n at *
    go_enter Try.func67, Try.ntmps67
    go_wp2_with (go_at_call 57; (with_reducible refine (hw _).mono ?_); rintro e w' ⟨rfl, rfl⟩)
    go_ret
    exact ⟨rfl, 0, rfl⟩
  · have hv : vecB l = allIn l (-1000) 1000 := by simp [vecB, h1]
    rw [hv]
    simp only [h1] at hw
    clear hv h1
    generalize allIn l (-1000) 1000 = r at *
    generalize l.length = n at *
    go_enter Try.func67, Try.ntmps67
    go_wp2_with (first | (go_at_call 57; (with_reducible refine (hw _).mono ?_); rintro e w' ⟨rfl, rfl⟩) | (go_at_call 77; (with_reducible refine H1.mono ?_); rintro e w' ⟨rfl, d, rfl⟩))
    go_ret
    exact ⟨rfl, _, rfl⟩

set_option maxHeartbeats 2000000 in
theorem implInCone_any (U V X : List Int) (v1 v2 vx : Value) (hb : Nat) (w : World) (i1 : ISr w hb v1 U) (i2 : ISr w hb v2 V) (ix : ISr w hb vx X) (hhb : hb ≤ w.heap.size) :
    Calls Try.prog 39 #[.agg #[v1, v2], vx] w fun e w' => e = .returned (.bool (inC U V X)) ∧ Below w.heap.size w w' := by
  have B0 := below1 w (.cells #[v1, v2] 47)
  have bx := box2_new w v1 v2 47
  have P := implIsCone_any U V v1 v2 hb _ (i1.keep B0 hhb) (i2.keep B0 hhb) (Nat.le_trans hhb B0.size)
  have hvx : ∃ a cap, vx = .slice a X.length cap := by obtain ⟨a, cap, rfl, -⟩ := ix; exact ⟨a, cap, rfl⟩
  have HV := fun w' (h : ISr w' hb vx X) => implIsVector_any X vx hb w' h
  have x0 := bx.c0
  have x1 := bx.c1
  cases hc : coneB U V
  · have hr : inC U V X = false := by simp [inC, hc]
    rw [hc] at P
    rw [hr]
    clear hc hr
    go_enter Try.func39, Try.ntmps39
    go_wp2_with (go_at_call 36; (with_reducible refine P.mono ?_); rintro e w1 ⟨rfl, c1⟩)
    go_ret
    exact ⟨rfl, below_then B0 B0.size c1⟩
  rw [hc] at P
  obtain ⟨a1, a2, -, -, -⟩ := coneB_of hc
  cases hv : vecB X
  · have hr : inC U V X = false := by simp [inC, hv]
    simp only [hv] at HV
    rw [hr]
    clear hc hr hv
    go_enter Try.func39, Try.ntmps39
    go_wp2_with fail
    refine P.mono ?_
    rintro e w1 ⟨rfl, c1⟩
    have B1 := below_then B0 B0.size c1
    have jx := Lib.hid (ix.keep B1 hhb)
    go_wp2_with fail
    refine (HV w1 jx.out).mono ?_
    rintro e w2 ⟨rfl, d, rfl⟩
    go_wp2
    go_ret
    exact ⟨rfl, B1.trans (below_draws _ _ _)⟩
  simp only [hv] at HV
  have al : allIn X (-1000) 1000 = true := by unfold vecB at hv; simp only [Bool.and_eq_true] at hv; exact hv.2
  by_cases hl : X.length = 2
  · have hr : inC U V X = (decide (0 ≤ crossI U X) && decide (0 ≤ crossI X V)) := by simp [inC, hc, hv, hl]
    have C1 := fun w' (h1 : ISr w' hb v1 U) (h2 : ISr w' hb vx X) => cross_any U X v1 vx hb hb w' h1 h2 (ptB_len a1).1 hl (allIn_mono (ptB_len a1).2 (by omega) (by omega)) (allIn_mono al (by omega) (by omega))
    have C2 := fun w' (h1 : ISr w' hb vx X) (h2 : ISr w' hb v2 V) => cross_any X V vx v2 hb hb w' h1 h2 hl (ptB_len a2).1 (allIn_mono al (by omega) (by omega)) (allIn_mono (ptB_len a2).2 (by omega) (by omega))
    rw [hr]
    obtain ⟨a, cap, rfl⟩ := hvx
    rw [hl] at HV C1 C2 ix ⊢
    clear hr hl al hv hc a1 a2
    generalize hk1 : crossI U X = k1 at *
    generalize hk2 : crossI X V = k2 at *
    clear hk1 hk2
    by_cases hk : 0 ≤ k1
    · have hr : (decide (0 ≤ k1) && decide (0 ≤ k2)) = decide (0 ≤ k2) := by simp [hk]
      rw [hr]
      clear hr
      go_enter Try.func39, Try.ntmps39
      go_wp2_with fail
      refine P.mono ?_
      rintro e w1 ⟨rfl, c1⟩
      have B1 := below_then B0 B0.size c1
      have jx := Lib.hid (ix.keep B1 hhb)
      go_wp2_with fail
      refine (HV w1 jx.out).mono ?_
      rintro e w2 ⟨rfl, d, rfl⟩
      have x0 := (bx.keep (c1.trans (below_draws _ w1 d))).c0
      have x1 := (bx.keep (c1.trans (below_draws _ w1 d))).c1
      have B2 := B1.trans (below_draws _ w1 d)
      have bx2 := bx.keep (c1.trans (below_draws _ w1 d))
      clear jx c1 B1
      generalize w1.drewN d = w2 at *
      have jx := Lib.hid (ix.keep B2 hhb)
      have j1 := Lib.hid (i1.keep B2 hhb)
      go_wp2_with fail
      refine (C1 w2 j1.out jx.out).mono ?_
      rintro e w3 ⟨rfl, d3, rfl⟩
      have x0 := (bx2.keep (below_draws _ w2 d3)).c0
      have x1 := (bx2.keep (below_draws _ w2 d3)).c1
      have B3 := B2.trans (below_draws _ w2 d3)
      clear jx j1 B2 bx2
      generalize w2.drewN d3 = w3 at *
      have jx := Lib.hid (ix.keep B3 hhb)
      have j2 := Lib.hid (i2.keep B3 hhb)
      go_wp2_with fail
      refine (C2 w3 jx.out j2.out).mono ?_
      rintro e w4 ⟨rfl, d4, rfl⟩
      go_wp2
      go_ret
      exact ⟨rfl, B3.trans (below_draws _ _ _)⟩
    · have hr : (decide (0 ≤ k1) && decide (0 ≤ k2)) = false := by simp [hk]
      rw [hr]
      clear hr
      go_enter Try.func39, Try.ntmps39
      go_wp2_with fail
      refine P.mono ?_
      rintro e w1 ⟨rfl, c1⟩
      have B1 := below_then B0 B0.size c1
      have jx := Lib.hid (ix.keep B1 hhb)
      go_wp2_with fail
      refine (HV w1 jx.out).mono ?_
      rintro e w2 ⟨rfl, d, rfl⟩
      have x0 := (bx.keep (c1.trans (below_draws _ w1 d))).c0
      have x1 := (bx.keep (c1.trans (below_draws _ w1 d))).c1
      have B2 := B1.trans (below_draws _ w1 d)
      clear jx c1 B1
      generalize w1.drewN d = w2 at *
      have jx := Lib.hid (ix.keep B2 hhb)
      have j1 := Lib.hid (i1.keep B2 hhb)
      go_wp2_with fail
      refine (C1 w2 j1.out jx.out).mono ?_
      rintro e w3 ⟨rfl, d3, rfl⟩
      go_wp2
      go_ret
      exact ⟨rfl, B2.trans (below_draws _ _ _)⟩
  · have hr : inC U V X = false := by simp [inC, hl]
    have hne : ((X.length : Int) == 2) = false := by rw [beq_eq_false_iff_ne]; omega
    obtain ⟨a, cap, rfl⟩ := hvx
    rw [hr]
    have HX := Lib.hid ix
    have HV := fun w' (b : Below w.heap.size w w') => HV w' (HX.out.keep b hhb)
    clear hr hl al hv hc a1 a2 ix
    generalize X.length = n at *
    go_enter Try.func39, Try.ntmps39
    go_wp2_with fail
    refine P.mono ?_
    rintro e w1 ⟨rfl, c1⟩
    have B1 := below_then B0 B0.size c1
    go_wp2_with fail
    refine (HV w1 B1).mono ?_
    rintro e w2 ⟨rfl, d, rfl⟩
    go_wp2
    go_ret
    exact ⟨rfl, B1.trans (below_draws _ _ _)⟩

set_option maxHeartbeats 2000000 in
theorem specInCone_any (U V X : List Int) (v1 v2 vx : Value) (hb : Nat) (w : World) (i1 : ISr w hb v1 U) (i2 : ISr w hb v2 V) (ix : ISr w hb vx X) (hhb : hb ≤ w.heap.size) :
    Calls Try.prog 38 #[.agg #[v1, v2], vx] w fun e w' => e = .returned (.bool (inC U V X)) ∧ Below w.heap.size w w' := by
  have B0 := below1 w (.cells #[v1, v2] 47)
  have bx := box2_new w v1 v2 47
  have P := specIsCone_any U V v1 v2 hb _ (i1.keep B0 hhb) (i2.keep B0 hhb) (Nat.le_trans hhb B0.size)
  have hvx : ∃ a cap, vx = .slice a X.length cap := by obtain ⟨a, cap, rfl, -⟩ := ix; exact ⟨a, cap, rfl⟩
  have HV := fun w' (h : ISr w' hb vx X) => specIsVector_any X vx hb w' h
  have x0 := bx.c0
  have x1 := bx.c1
  cases hc : coneB U V
  · have hr : inC U V X = false := by simp [inC, hc]
    rw [hc] at P
    rw [hr]
    clear hc hr
    go_enter Try.func38, Try.ntmps38
    go_wp2_with (go_at_call 34; (with_reducible refine P.mono ?_); rintro e w1 ⟨rfl, c1⟩)
    go_ret
    exact ⟨rfl, below_then B0 B0.size c1⟩
  rw [hc] at P
  obtain ⟨a1, a2, -, -, -⟩ := coneB_of hc
  cases hv : vecB X
  · have hr : inC U V X = false := by simp [inC, hv]
    simp only [hv] at HV
    rw [hr]
    clear hc hr hv
    go_enter Try.func38, Try.ntmps38
    go_wp2_with fail
    refine P.mono ?_
    rintro e w1 ⟨rfl, c1⟩
    have B1 := below_then B0 B0.size c1
    have jx := Lib.hid (ix.keep B1 hhb)
    go_wp2_with fail
    refine (HV w1 jx.out).mono ?_
    rintro e w2 ⟨rfl, d, rfl⟩
    go_wp2
    go_ret
    exact ⟨rfl, B1.trans (below_draws _ _ _)⟩
  simp only [hv] at HV
  have al : allIn X (-1000) 1000 = true := by unfold vecB at hv; simp only [Bool.and_eq_true] at hv; exact hv.2
  by_cases hl : X.length = 2
  · have hr : inC U V X = (decide (0 ≤ crossI U X) && decide (0 ≤ crossI X V)) := by simp [inC, hc, hv, hl]
    have C1 := fun w' (h1 : ISr w' hb v1 U) (h2 : ISr w' hb vx X) => l7Cross_any U X v1 vx hb hb w' h1 h2 (ptB_len a1).1 hl (allIn_mono (ptB_len a1).2 (by omega) (by omega)) (allIn_mono al (by omega) (by omega))
    have C2 := fun w' (h1 : ISr w' hb vx X) (h2 : ISr w' hb v2 V) => l7Cross_any X V vx v2 hb hb w' h1 h2 hl (ptB_len a2).1 (allIn_mono al (by omega) (by omega)) (allIn_mono (ptB_len a2).2 (by omega) (by omega))
    rw [hr]
    obtain ⟨a, cap, rfl⟩ := hvx
    rw [hl] at HV C1 C2 ix ⊢
    clear hr hl al hv hc a1 a2
    generalize hk1 : crossI U X = k1 at *
    generalize hk2 : crossI X V = k2 at *
    clear hk1 hk2
    by_cases hk : 0 ≤ k1
    · have hr : (decide (0 ≤ k1) && decide (0 ≤ k2)) = decide (0 ≤ k2) := by simp [hk]
      rw [hr]
      clear hr
      go_enter Try.func38, Try.ntmps38
      go_wp2_with fail
      refine P.mono ?_
      rintro e w1 ⟨rfl, c1⟩
      have B1 := below_then B0 B0.size c1
      have jx := Lib.hid (ix.keep B1 hhb)
      go_wp2_with fail
      refine (HV w1 jx.out).mono ?_
      rintro e w2 ⟨rfl, d, rfl⟩
      have x0 := (bx.keep (c1.trans (below_draws _ w1 d))).c0
      have x1 := (bx.keep (c1.trans (below_draws _ w1 d))).c1
      have B2 := B1.trans (below_draws _ w1 d)
      have bx2 := bx.keep (c1.trans (below_draws _ w1 d))
      clear jx c1 B1
      generalize w1.drewN d = w2 at *
      have jx := Lib.hid (ix.keep B2 hhb)
      have j1 := Lib.hid (i1.keep B2 hhb)
      go_wp2_with fail
      refine (C1 w2 j1.out jx.out).mono ?_
      rintro e w3 ⟨rfl, d3, rfl⟩
      have x0 := (bx2.keep (below_draws _ w2 d3)).c0
      have x1 := (bx2.keep (below_draws _ w2 d3)).c1
      have B3 := B2.trans (below_draws _ w2 d3)
      clear jx j1 B2 bx2
      generalize w2.drewN d3 = w3 at *
      have jx := Lib.hid (ix.keep B3 hhb)
      have j2 := Lib.hid (i2.keep B3 hhb)
      go_wp2_with fail
      refine (C2 w3 jx.out j2.out).mono ?_
      rintro e w4 ⟨rfl, d4, rfl⟩
      go_wp2
      go_ret
      exact ⟨rfl, B3.trans (below_draws _ _ _)⟩
    · have hr : (decide (0 ≤ k1) && decide (0 ≤ k2)) = false := by simp [hk]
      rw [hr]
      clear hr
      go_enter Try.func38, Try.ntmps38
      go_wp2_with fail
      refine P.mono ?_
      rintro e w1 ⟨rfl, c1⟩
      have B1 := below_then B0 B0.size c1
      have jx := Lib.hid (ix.keep B1 hhb)
      go_wp2_with fail
      refine (HV w1 jx.out).mono ?_
      rintro e w2 ⟨rfl, d, rfl⟩
      have x0 := (bx.keep (c1.trans (below_draws _ w1 d))).c0
      have x1 := (bx.keep (c1.trans (below_draws _ w1 d))).c1
      have B2 := B1.trans (below_draws _ w1 d)
      clear jx c1 B1
      generalize w1.drewN d = w2 at *
      have jx := Lib.hid (ix.keep B2 hhb)
      have j1 := Lib.hid (i1.keep B2 hhb)
      go_wp2_with fail
      refine (C1 w2 j1.out jx.out).mono ?_
      rintro e w3 ⟨rfl, d3, rfl⟩
      go_wp2
      go_ret
      exact ⟨rfl, B2.trans (below_draws _ _ _)⟩
  · have hr : inC U V X = false := by simp [inC, hl]
    have hne : ((X.length : Int) == 2) = false := by rw [beq_eq_false_iff_ne]; omega
    obtain ⟨a, cap, rfl⟩ := hvx
    rw [hr]
    have HX := Lib.hid ix
    have HV := fun w' (b : Below w.heap.size w w') => HV w' (HX.out.keep b hhb)
    clear hr hl al hv hc a1 a2 ix
    generalize X.length = n at *
    go_enter Try.func38, Try.ntmps38
    go_wp2_with fail
    refine P.mono ?_
    rintro e w1 ⟨rfl, c1⟩
    have B1 := below_then B0 B0.size c1
    go_wp2_with fail
    refine (HV w1 B1).mono ?_
    rintro e w2 ⟨rfl, d, rfl⟩
    go_wp2
    go_ret
    exact ⟨rfl, B1.trans (below_draws _ _ _)⟩

end Go.Proofs.Ytibninlggdpnkaa
