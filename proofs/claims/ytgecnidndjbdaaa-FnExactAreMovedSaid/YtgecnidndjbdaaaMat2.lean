/- Determinants of the model, IsUnimodular, IsMove: the walks. -/
import Derived.Test.YtgecnidndjbdaaaMat
import Derived.Test.YtgecnidndjbdaaaB2
import Derived.Test.YtgecnidndjbdaaaMove
import Derived.BigQuiet
namespace Go.Proofs.Ytgecnidndjbdaaa
open Go.RowKit
set_option linter.unusedVariables false
set_option linter.unusedSimpArgs false

theorem detF_one {m : List (List Int)} (h : SqB 1 m) : detF 1 m = (m.getD 0 []).getD 0 0 := by
  match m, h.len with
  | [r], _ =>
    have := (h.row 0 (by omega)).1
    match r, this with
    | [a], _ => simp [detF, detSum, sgnN]
theorem detF_two {m : List (List Int)} (h : SqB 2 m) : detF 2 m = (m.getD 0 []).getD 0 0 * (m.getD 1 []).getD 1 0 - (m.getD 0 []).getD 1 0 * (m.getD 1 []).getD 0 0 := by
  match m, h.len with
  | [r, s], _ =>
    have h1 := (h.row 0 (by omega)).1
    have h2 := (h.row 1 (by omega)).1
    match r, s, h1, h2 with
    | [a, b], [c, d], _, _ => simp [detF, detSum, sgnN, minorL_zero, cutAt]; grind
theorem ISSr.one {w : World} {hi : Nat} {v : Value} {ls : List (List Int)} (h : ISSr w hi v ls) (h1 : ls.length = 1) :
    ∃ b off cap, ∃ V : Nat → Value, v = .slice (some ⟨b, off, none⟩) 1 cap ∧ b < hi ∧ (∀ i, i < 1 → w.cell? ⟨b, off + i, none⟩ = some (V i) ∧ ISr w hi (V i) (ls.getD i [])) := by
  obtain ⟨a, cap, hv, g1, g2, h4⟩ := h
  obtain ⟨b, off, V, rfl, hb, hc⟩ := h4 (by intro e; rw [e] at h1; cases h1)
  rw [h1] at hv hc
  exact ⟨b, off, cap, V, hv, hb, hc⟩
theorem ISSr.two {w : World} {hi : Nat} {v : Value} {ls : List (List Int)} (h : ISSr w hi v ls) (h1 : ls.length = 2) :
    ∃ b off cap, ∃ V : Nat → Value, v = .slice (some ⟨b, off, none⟩) 2 cap ∧ b < hi ∧ (∀ i, i < 2 → w.cell? ⟨b, off + i, none⟩ = some (V i) ∧ ISr w hi (V i) (ls.getD i [])) := by
  obtain ⟨a, cap, hv, g1, g2, h4⟩ := h
  obtain ⟨b, off, V, rfl, hb, hc⟩ := h4 (by intro e; rw [e] at h1; cases h1)
  rw [h1] at hv hc
  exact ⟨b, off, cap, V, hv, hb, hc⟩
theorem ISr.one1 {w : World} {hi : Nat} {v : Value} {l : List Int} (h : ISr w hi v l) (hl : l.length = 1) :
    ∃ b off cap, v = .slice (some ⟨b, off, none⟩) 1 cap ∧ b < hi ∧ w.cell? ⟨b, off, none⟩ = some (.int .i64 (l.getD 0 0)) := by
  obtain ⟨a, cap, hv, g1, g2, h4⟩ := h
  obtain ⟨b, off, rfl, hb, hc⟩ := h4 (by intro e; rw [e] at hl; cases hl)
  rw [hl] at hv
  exact ⟨b, off, cap, hv, hb, hc 0 (by omega)⟩

set_option maxRecDepth 100000 in
set_option maxHeartbeats 4000000 in
theorem l3Det1_any (m : List (List Int)) (v : Value) (hb : Nat) (w : World) (h : ISSr w hb v m) (hs : SqB 1 m) :
    Calls Try.prog 83 #[v] w fun e w' => e = .returned (.int .i64 (detF 1 m)) ∧ ∃ d, w' = w.drewN d := by
  rw [detF_one hs]
  obtain ⟨b, off, cap, V, rfl, hbb, hc⟩ := h.one hs.len
  obtain ⟨x0, i0⟩ := hc 0 (by omega)
  rw [Nat.add_zero] at x0
  obtain ⟨p0, o0, k0, e0, -, y0⟩ := i0.one1 (hs.row 0 (by omega)).1
  rw [e0] at x0
  clear hc i0 e0 h hs
  generalize (m.getD 0 []).getD 0 0 = a at *
  go_enter Try.func83, Try.ntmps83
  go_wp2
  all_goals try go_quiet (fail)
  go_ret
  exact ⟨rfl, 0, rfl⟩
set_option maxRecDepth 100000 in
set_option maxHeartbeats 4000000 in
theorem l3Det2_any (m : List (List Int)) (v : Value) (hb : Nat) (w : World) (h : ISSr w hb v m) (hs : SqB 2 m) :
    Calls Try.prog 83 #[v] w fun e w' => e = .returned (.int .i64 (detF 2 m)) ∧ ∃ d, w' = w.drewN d := by
  rw [detF_two hs]
  obtain ⟨b, off, cap, V, rfl, hbb, hc⟩ := h.two hs.len
  obtain ⟨x0, i0⟩ := hc 0 (by omega)
  obtain ⟨x1, i1⟩ := hc 1 (by omega)
  rw [Nat.add_zero] at x0
  obtain ⟨l0, r0⟩ := hs.row 0 (by omega)
  obtain ⟨l1, r1⟩ := hs.row 1 (by omega)
  obtain ⟨p0, o0, k0, e0, -, y0, y1⟩ := i0.two l0
  obtain ⟨p1, o1, k1, e1, -, z0, z1⟩ := i1.two l1
  rw [e0] at x0
  rw [e1] at x1
  have a0b := allIn_at r0 0 (by omega)
  have a1b := allIn_at r0 1 (by omega)
  have b0b := allIn_at r1 0 (by omega)
  have b1b := allIn_at r1 1 (by omega)
  clear hc i0 i1 e0 e1 h hs r0 r1 l0 l1
  generalize (m.getD 0 []).getD 0 0 = a0 at *
  generalize (m.getD 0 []).getD 1 0 = a1 at *
  generalize (m.getD 1 []).getD 0 0 = b0 at *
  generalize (m.getD 1 []).getD 1 0 = b1 at *
  have w1 := mul_bdd a0b b1b
  have w2 := mul_bdd a1b b0b
  have f0 := wr64 (a0 * b1) (by omega)
  have f1 := wr64 (a1 * b0) (by omega)
  have f2 := wr64 (a0 * b1 - a1 * b0) (by omega)
  clear a0b a1b b0b b1b w1 w2
  go_enter Try.func83, Try.ntmps83
  go_wp2
  go_quiet (fail)
  go_wp2
  go_ret
  exact ⟨rfl, nq, rfl⟩
theorem specDet_any (m : List (List Int)) (v : Value) (hb : Nat) (w : World) (h : ISSr w hb v m) (hs : SqB m.length m) (h1 : 1 ≤ m.length) (h3 : m.length ≤ 3) :
    Calls Try.prog 83 #[v] w fun e w' => e = .returned (.int .i64 (detM m)) ∧ ∃ d, w' = w.drewN d := by
  unfold detM
  rcases (show m.length = 1 ∨ m.length = 2 ∨ m.length = 3 by omega) with e | e | e
  · rw [e] at hs ⊢; exact l3Det1_any m v hb w h hs
  · rw [e] at hs ⊢; exact l3Det2_any m v hb w h hs
  · rw [e] at hs ⊢; rw [detF_three hs]; exact l3Det_any m v hb w h hs
set_option maxHeartbeats 1000000 in
theorem implDetOf_any (m : List (List Int)) (v : Value) (hb : Nat) (w : World) (h : ISSr w hb v m) (hhb : hb ≤ w.heap.size) :
    Calls Try.prog 81 #[v] w fun e w' => e = .returned (.int .i64 (detO m)) ∧ Below w.heap.size w w' := by
  have IM := implIsMatrix_any m v hb w h
  cases hm : matB m
  case false =>
    rw [detO_no hm]
    rw [hm] at IM
    clear h hm
    go_enter Try.func81, Try.ntmps81
    go_wp2_with (go_at_call 115; (with_reducible refine IM.mono ?_); rintro e w1 ⟨rfl, rfl⟩)
    go_ret
    exact ⟨rfl, Below.refl _ _⟩
  rw [detO_yes hm]
  rw [hm] at IM
  have D := det_any m.length (matB_len hm).2 m v hb w h hhb (matB_sq hm)
  rw [show detF m.length m = detM m from rfl] at D
  clear h hm
  generalize detM m = d at *
  go_enter Try.func81, Try.ntmps81
  go_wp2_with (first | (go_at_call 115; (with_reducible refine IM.mono ?_); rintro e w1 ⟨rfl, rfl⟩) | (go_at_call 59; (with_reducible refine D.mono ?_); rintro e w2 ⟨rfl, c2⟩))
  go_ret
  exact ⟨rfl, c2⟩
set_option maxHeartbeats 1000000 in
theorem specDetOf_any (m : List (List Int)) (v : Value) (hb : Nat) (w : World) (h : ISSr w hb v m) :
    Calls Try.prog 79 #[v] w fun e w' => e = .returned (.int .i64 (detO m)) ∧ Below w.heap.size w w' := by
  have IM := specIsMatrix_any m v hb w h
  cases hm : matB m
  case false =>
    rw [detO_no hm]
    rw [hm] at IM
    clear h hm
    go_enter Try.func79, Try.ntmps79
    go_wp2_with (go_at_call 85; (with_reducible refine IM.mono ?_); rintro e w1 ⟨rfl, d, rfl⟩)
    go_ret
    exact ⟨rfl, below_draws _ _ _⟩
  rw [detO_yes hm]
  rw [hm] at IM
  have D := fun d => specDet_any m v hb (w.drewN d) (h.draws d) (matB_sq hm) (matB_len hm).1 (matB_len hm).2
  clear h hm
  generalize detM m = d at *
  go_enter Try.func79, Try.ntmps79
  go_wp2_with (first | (go_at_call 85; (with_reducible refine IM.mono ?_); rintro e w1 ⟨rfl, d1, rfl⟩) | (go_at_call 83; (with_reducible refine (D _).mono ?_); rintro e w2 ⟨rfl, d2, rfl⟩))
  go_ret
  exact ⟨rfl, below_draws _ _ _⟩
set_option maxHeartbeats 1000000 in
theorem implIsUni_any (m : List (List Int)) (v : Value) (hb : Nat) (w : World) (h : ISSr w hb v m) (hhb : hb ≤ w.heap.size) :
    Calls Try.prog 38 #[v] w fun e w' => e = .returned (.bool (uniB m)) ∧ Below w.heap.size w w' := by
  have D := implDetOf_any m v hb w h hhb
  have hb2 := detO_bd m
  have MG := fun W => magnitude_any (detO m) W (by omega) (by omega)
  have HR := Lib.hid (show uniB m = decide (max (detO m) (-(detO m)) = 1) from rfl)
  clear h
  generalize detO m = d at *
  generalize max d (-d) = x at *
  go_enter Try.func38, Try.ntmps38
  go_wp2_with (first | (go_at_call 81; (with_reducible refine D.mono ?_); rintro e w1 ⟨rfl, c1⟩) | (go_at_call 64; (with_reducible refine (MG _).mono ?_); rintro e w2 ⟨rfl, rfl⟩))
  go_ret
  exact ⟨ret_bool (by rw [HR.out, Bool.eq_iff_iff]; simp), c1⟩
set_option maxHeartbeats 1000000 in
theorem specIsUni_any (m : List (List Int)) (v : Value) (hb : Nat) (w : World) (h : ISSr w hb v m) :
    Calls Try.prog 35 #[v] w fun e w' => e = .returned (.bool (uniB m)) ∧ Below w.heap.size w w' := by
  have D := specDetOf_any m v hb w h
  have hb2 := detO_bd m
  have MG := fun W => l1Abs_any (detO m) W (by omega) (by omega)
  have HR := Lib.hid (show uniB m = decide (max (detO m) (-(detO m)) = 1) from rfl)
  clear h
  generalize detO m = d at *
  generalize max d (-d) = x at *
  go_enter Try.func35, Try.ntmps35
  go_wp2_with (first | (go_at_call 79; (with_reducible refine D.mono ?_); rintro e w1 ⟨rfl, c1⟩) | (go_at_call 78; (with_reducible refine (MG _).mono ?_); rintro e w2 ⟨rfl, rfl⟩))
  go_ret
  exact ⟨ret_bool (by rw [HR.out, Bool.eq_iff_iff]; simp), c1⟩
def moveB (U : List (List Int)) (V : List Int) : Bool := decide (U.length = 2) && (uniB U && ptB V 1000)
theorem ptB_vec (V : List Int) : ptB V 1000 = (vecB V && decide (V.length = 2)) := by
  unfold ptB vecB
  by_cases h : V.length = 2
  · rw [h]; simp [inB]
  · simp [h]
set_option maxHeartbeats 2000000 in
theorem implIsMove_any (U : List (List Int)) (V : List Int) (v1 v2 : Value) (hb : Nat) (w : World) (i1 : ISSr w hb v1 U) (i2 : ISr w hb v2 V) (hhb : hb ≤ w.heap.size) :
    Calls Try.prog 13 #[.agg #[v1, v2]] w fun e w' => e = .returned (.bool (moveB U V)) ∧ Below w.heap.size w w' := by
  have B0 := below1 w (.cells #[v1, v2] 28)
  have bx := box2_new w v1 v2 28
  have IU := implIsUni_any U v1 hb _ (i1.keep B0 hhb) (Nat.le_trans hhb B0.size)
  have PT := fun W (B : Below w.heap.size w W) => isPoint_any V v2 1000 hb W (i2.keep B hhb) (by omega) (by omega)
  have x0 := bx.c0
  have x1 := bx.c1
  obtain ⟨a, cap, rfl, -⟩ := id i1
  have HR := Lib.hid (show moveB U V = (decide (U.length = 2) && (uniB U && ptB V 1000)) from rfl)
  clear i1 i2
  by_cases h2 : U.length = 2
  case neg =>
    have hr : moveB U V = false := by rw [HR.out, decide_eq_false h2]; rfl
    rw [hr]
    have hne : ((U.length : Int) == 2) = false := by rw [beq_eq_false_iff_ne]; omega
    clear HR hr PT IU bx
    generalize U.length = n at *
    go_enter Try.func13, Try.ntmps13
    go_wp2
    go_ret
    exact ⟨rfl, B0⟩
  rw [h2] at IU x0 bx B0 x1 ⊢
  cases hu : uniB U
  case false =>
    have hr : moveB U V = false := by rw [HR.out, hu]; simp
    rw [hr]
    rw [hu] at IU
    clear HR hr PT hu h2
    go_enter Try.func13, Try.ntmps13
    go_wp2_with (go_at_call 38; (with_reducible refine IU.mono ?_); rintro e w1 ⟨rfl, c1⟩)
    go_ret
    exact ⟨rfl, below_then B0 B0.size c1⟩
  have hr : moveB U V = ptB V 1000 := by rw [HR.out, hu, decide_eq_true h2]; rfl
  rw [hr]
  rw [hu] at IU
  clear HR hr hu h2
  generalize ptB V 1000 = q at *
  go_enter Try.func13, Try.ntmps13
  go_wp2_with (first | (go_at_call 38; (with_reducible refine IU.mono ?_); rintro e w1 ⟨rfl, c1⟩; have B1 := below_then B0 B0.size c1; have bx1 := bx.keep c1; have x2 := bx1.c1) | (go_at_call 39; (with_reducible refine (PT _ B1).mono ?_); rintro e w2 ⟨rfl, rfl⟩))
  go_ret
  exact ⟨rfl, B1⟩
set_option maxHeartbeats 2000000 in
theorem specIsMove_any (U : List (List Int)) (V : List Int) (v1 v2 : Value) (hb : Nat) (w : World) (i1 : ISSr w hb v1 U) (i2 : ISr w hb v2 V) (hhb : hb ≤ w.heap.size) :
    Calls Try.prog 11 #[.agg #[v1, v2]] w fun e w' => e = .returned (.bool (moveB U V)) ∧ Below w.heap.size w w' := by
  have B0 := below1 w (.cells #[v1, v2] 28)
  have bx := box2_new w v1 v2 28
  have IU := specIsUni_any U v1 hb _ (i1.keep B0 hhb)
  have IV := fun W (B : Below w.heap.size w W) => specIsVector_any V v2 hb W (i2.keep B hhb)
  have x0 := bx.c0
  have x1 := bx.c1
  obtain ⟨a, cap, rfl, -⟩ := id i1
  obtain ⟨a2, cap2, rfl, -⟩ := id i2
  have HR := Lib.hid (show moveB U V = (decide (U.length = 2) && (uniB U && (vecB V && decide (V.length = 2)))) by rw [← ptB_vec]; rfl)
  clear i1 i2
  by_cases h2 : U.length = 2
  case neg =>
    have hr : moveB U V = false := by rw [HR.out, decide_eq_false h2]; rfl
    rw [hr]
    have hne : ((U.length : Int) == 2) = false := by rw [beq_eq_false_iff_ne]; omega
    clear HR hr IV IU bx
    generalize U.length = n at *
    go_enter Try.func11, Try.ntmps11
    go_wp2
    go_ret
    exact ⟨rfl, B0⟩
  rw [h2] at IU x0 bx B0 x1 ⊢
  cases hu : uniB U
  case false =>
    have hr : moveB U V = false := by rw [HR.out, hu]; simp
    rw [hr]
    rw [hu] at IU
    clear HR hr IV hu h2
    go_enter Try.func11, Try.ntmps11
    go_wp2_with (go_at_call 35; (with_reducible refine IU.mono ?_); rintro e w1 ⟨rfl, c1⟩)
    go_ret
    exact ⟨rfl, below_then B0 B0.size c1⟩
  rw [hu] at IU
  have HQ := Lib.hid (show moveB U V = (vecB V && decide (V.length = 2)) by rw [HR.out, hu, decide_eq_true h2]; rfl)
  clear HR hu h2
  cases hv : vecB V
  case false =>
    have hr : moveB U V = false := by rw [HQ.out, hv]; rfl
    rw [hr]
    rw [hv] at IV
    clear HQ hr hv
    generalize V.length = n at *
    go_enter Try.func11, Try.ntmps11
    go_wp2_with (first | (go_at_call 35; (with_reducible refine IU.mono ?_); rintro e w1 ⟨rfl, c1⟩; have B1 := below_then B0 B0.size c1; have bx1 := bx.keep c1; have x2 := bx1.c1) | (go_at_call 36; (with_reducible refine (IV _ B1).mono ?_); rintro e w2 ⟨rfl, d, rfl⟩))
    go_ret
    exact ⟨rfl, B1.trans (below_draws _ _ _)⟩
  have hr : moveB U V = decide (V.length = 2) := by rw [HQ.out, hv]; rfl
  rw [hr]
  rw [hv] at IV
  clear HQ hr hv
  generalize V.length = n at *
  go_enter Try.func11, Try.ntmps11
  go_wp2_with (first | (go_at_call 35; (with_reducible refine IU.mono ?_); rintro e w1 ⟨rfl, c1⟩; have B1 := below_then B0 B0.size c1; have bx1 := bx.keep c1; have x2 := bx1.c1) | (go_at_call 36; (with_reducible refine (IV _ B1).mono ?_); rintro e w2 ⟨rfl, d, rfl⟩; have x3 := x2))
  all_goals go_ret
  all_goals refine ⟨ret_bool ?_, B1.trans (below_draws _ _ _)⟩
  all_goals first | (simp [*]; done) | (rw [Bool.eq_iff_iff]; simp [*]; done) | (rw [Bool.eq_iff_iff]; simp [*]; omega)
end Go.Proofs.Ytgecnidndjbdaaa
