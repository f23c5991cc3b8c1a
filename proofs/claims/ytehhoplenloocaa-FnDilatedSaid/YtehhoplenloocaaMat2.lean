/- Determinants of the model, IsUnimodular, IsMove: the walks. -/
import Derived.Test.YtehhoplenloocaaMat
import Derived.Test.YtehhoplenloocaaB2
import Derived.Test.YtehhoplenloocaaMove
import Derived.BigQuiet
namespace Go.Proofs.Ytehhoplenloocaa
open Go.RowKit
set_option linter.unusedVariables false
set_option linter.unusedSimpArgs false

theorem detF_one {m : List (List Int)} (h : SqB 1 m) : detF 1 m = (m.getD 0 []).getD 0 0 := by
  match m, h.len with
  | [r], _ =>
    have := (h.row 0 (by omega)).1
    match r, this with
    | [a], _ => simp [detF, detSum, sgnN]
theorem detF_two {m : List (List Int)} (h : SqB 2 m) : detF 2 m = (m.getD 0 []).getD 0 0 * (m.getD 1 []).getD 1 0 - (m.getD 0 []).getD 1 0 * (m.getD 1 []).getD 0 0 := by
  match m, h.len with
  | [r, s], _ =>
    have h1 := (h.row 0 (by omega)).1
    have h2 := (h.row 1 (by omega)).1
    match r, s, h1, h2 with
    | [a, b], [c, d], _, _ => simp [detF, detSum, sgnN, minorL_zero, cutAt]; grind
theorem ISSr.one {w : World} {hi : Nat} {v : Value} {ls : List (List Int)} (h : ISSr w hi v ls) (h1 : ls.length = 1) :
    ∃ b off cap, ∃ V : Nat → Value, v = .slice (some ⟨b, off, none⟩) 1 cap ∧ b < hi ∧ (∀ i, i < 1 → w.cell? ⟨b, off + i, none⟩ = some (V i) ∧ ISr w hi (V i) (ls.getD i [])) := by
  obtain ⟨a, cap, hv, g1, g2, h4⟩ := h
  obtain ⟨b, off, V, rfl, hb, hc⟩ := h4 (by intro e; rw [e] at h1; cases h1)
  rw [h1] at hv hc
  exact ⟨b, off, cap, V, hv, hb, hc⟩
theorem ISSr.two {w : World} {hi : Nat} {v : Value} {ls : List (List Int)} (h : ISSr w hi v ls) (h1 : ls.length = 2) :
    ∃ b off cap, ∃ V : Nat → Value, v = .slice (some ⟨b, off, none⟩) 2 cap ∧ b < hi ∧ (∀ i, i < 2 → w.cell? ⟨b, off + i, none⟩ = some (V i) ∧ ISr w hi (V i) (ls.getD i [])) := by
  obtain ⟨a, cap, hv, g1, g2, h4⟩ := h
  obtain ⟨b, off, V, rfl, hb, hc⟩ := h4 (by intro e; rw [e] at h1; cases h1)
  rw [h1] at hv hc
  exact ⟨b, off, cap, V, hv, hb, hc⟩
theorem ISr.one1 {w : World} {hi : Nat} {v : Value} {l : List Int} (h : ISr w hi v l) (hl : l.length = 1) :
    ∃ b off cap, v = .slice (some ⟨b, off, none⟩) 1 cap ∧ b < hi ∧ w.cell? ⟨b, off, none⟩ = some (.int .i64 (l.getD 0 0)) := by
  obtain ⟨a, cap, hv, g1, g2, h4⟩ := h
  obtain ⟨b, off, rfl, hb, hc⟩ := h4 (by intro e; rw [e] at hl; cases hl)
  rw [hl] at hv
  exact ⟨b, off, cap, hv, hb, hc 0 (by omega)⟩

set_option maxRecDepth 100000 in
set_option maxHeartbeats 4000000 in
theorem l3Det1_any (m : List (List Int)) (v : Value) (hb : Nat) (w : World) (h : ISSr w hb v m) (hs : SqB 1 m) :
    Calls Try.prog 152 #[v] w fun e w' => e = .returned (.int .i64 (detF 1 m)) ∧ ∃ d, w' = w.drewN d := by
  rw [detF_one hs]
  obtain ⟨b, off, cap, V, rfl, hbb, hc⟩ := h.one hs.len
  obtain ⟨x0, i0⟩ := hc 0 (by omega)
  rw [Nat.add_zero] at x0
  obtain ⟨p0, o0, k0, e0, -, y0⟩ := i0.one1 (hs.row 0 (by omega)).1
  rw [e0] at x0
  clear hc i0 e0 h hs
  generalize (m.getD 0 []).getD 0 0 = a at *
  go_enter Try.func152, Try.ntmps152
  go_wp2
  all_goals try go_quiet (fail)
  go_ret
  exact ⟨rfl, 0, rfl⟩
set_option maxRecDepth 100000 in
set_option maxHeartbeats 4000000 in
theorem l3Det2_any (m : List (List Int)) (v : Value) (hb : Nat) (w : World) (h : ISSr w hb v m) (hs : SqB 2 m) :
    Calls Try.prog 152 #[v] w fun e w' => e = .returned (.int .i64 (detF 2 m)) ∧ ∃ d, w' = w.drewN d := by
  rw [detF_two hs]
  obtain ⟨b, off, cap, V, rfl, hbb, hc⟩ := h.two hs.len
  obtain ⟨x0, i0⟩ := hc 0 (by omega)
  obtain ⟨x1, i1⟩ := hc 1 (by omega)
  rw [Nat.add_zero] at x0
  obtain ⟨l0, r0⟩ := hs.row 0 (by omega)
  obtain ⟨l1, r1⟩ := hs.row 1 (by omega)
  obtain ⟨p0, o0, k0, e0, -, y0, y1⟩ := i0.two l0
  obtain ⟨p1, o1, k1, e1, -, z0, z1⟩ := i1.two l1
  rw [e0] at x0
  rw [e1] at x1
  have a0b := allIn_at r0 0 (by omega)
  have a1b := allIn_at r0 1 (by omega)
  have b0b := allIn_at r1 0 (by omega)
  have b1b := allIn_at r1 1 (by omega)
  clear hc i0 i1 e0 e1 h hs r0 r1 l0 l1
  generalize (m.getD 0 []).getD 0 0 = a0 at *
  generalize (m.getD 0 []).getD 1 0 = a1 at *
  generalize (m.getD 1 []).getD 0 0 = b0 at *
  generalize (m.getD 1 []).getD 1 0 = b1 at *
  have w1 := mul_bdd a0b b1b
  have w2 := mul_bdd a1b b0b
  have f0 := wr64 (a0 * b1) (by omega)
  have f1 := wr64 (a1 * b0) (by omega)
  have f2 := wr64 (a0 * b1 - a1 * b0) (by omega)
  clear a0b a1b b0b b1b w1 w2
  go_enter Try.func152, Try.ntmps152
  go_wp2
  go_quiet (fail)
  go_wp2
  go_ret
  exact ⟨rfl, nq, rfl⟩
theorem specDet_any (m : List (List Int)) (v : Value) (hb : Nat) (w : World) (h : ISSr w hb v m) (hs : SqB m.length m) (h1 : 1 ≤ m.length) (h3 : m.length ≤ 3) :
    Calls Try.prog 152 #[v] w fun e w' => e = .returned (.int .i64 (detM m)) ∧ ∃ d, w' = w.drewN d := by
  unfold detM
  rcases (show m.length = 1 ∨ m.length = 2 ∨ m.length = 3 by omega) with e | e | e
  · rw [e] at hs ⊢; exact l3Det1_any m v hb w h hs
  · rw [e] at hs ⊢; exact l3Det2_any m v hb w h hs
  · rw [e] at hs ⊢; rw [detF_three hs]; exact l3Det_any m v hb w h hs
set_option maxHeartbeats 1000000 in
theorem implDetOf_any (m : List (List Int)) (v : Value) (hb : Nat) (w : World) (h : ISSr w hb v m) (hhb : hb ≤ w.heap.size) :
    Calls Try.prog 105 #[v] w fun e w' => e = .returned (.int .i64 (detO m)) ∧ Below w.heap.size w w' := by
  have IM := implIsMatrix_any m v hb w h
  cases hm : matB m
  case false =>
    rw [detO_no hm]
    rw [hm] at IM
    clear h hm
    go_enter Try.func105, Try.ntmps105
    go_wp2_with (go_at_call 154; (with_reducible refine IM.mono ?_); rintro e w1 ⟨rfl, rfl⟩)
    go_ret
    exact ⟨rfl, Below.refl _ _⟩
  rw [detO_yes hm]
  rw [hm] at IM
  have D := det_any m.length (matB_len hm).2 m v hb w h hhb (matB_sq hm)
  rw [show detF m.length m = detM m from rfl] at D
  clear h hm
  generalize detM m = d at *
  go_enter Try.func105, Try.ntmps105
  go_wp2_with (first | (go_at_call 154; (with_reducible refine IM.mono ?_); rintro e w1 ⟨rfl, rfl⟩) | (go_at_call 79; (with_reducible refine D.mono ?_); rintro e w2 ⟨rfl, c2⟩))
  go_ret
  exact ⟨rfl, c2⟩
set_option maxHeartbeats 1000000 in
theorem specDetOf_any (m : List (List Int)) (v : Value) (hb : Nat) (w : World) (h : ISSr w hb v m) :
    Calls Try.prog 107 #[v] w fun e w' => e = .returned (.int .i64 (detO m)) ∧ Below w.heap.size w w' := by
  have IM := specIsMatrix_any m v hb w h
  cases hm : matB m
  case false =>
    rw [detO_no hm]
    rw [hm] at IM
    clear h hm
    go_enter Try.func107, Try.ntmps107
    go_wp2_with (go_at_call 95; (with_reducible refine IM.mono ?_); rintro e w1 ⟨rfl, d, rfl⟩)
    go_ret
    exact ⟨rfl, below_draws _ _ _⟩
  rw [detO_yes hm]
  rw [hm] at IM
  have D := fun d => specDet_any m v hb (w.drewN d) (h.draws d) (matB_sq hm) (matB_len hm).1 (matB_len hm).2
  clear h hm
  generalize detM m = d at *
  go_enter Try.func107, Try.ntmps107
  go_wp2_with (first | (go_at_call 95; (with_reducible refine IM.mono ?_); rintro e w1 ⟨rfl, d1, rfl⟩) | (go_at_call 152; (with_reducible refine (D _).mono ?_); rintro e w2 ⟨rfl, d2, rfl⟩))
  go_ret
  exact ⟨rfl, below_draws _ _ _⟩
def moveB (U : List (List Int)) (V : List Int) : Bool := decide (U.length = 2) && (uniB U && ptB V 1000)
theorem ptB_vec (V : List Int) : ptB V 1000 = (vecB V && decide (V.length = 2)) := by
  unfold ptB vecB
  by_cases h : V.length = 2
  · rw [h]; simp [inB]
  · simp [h]
end Go.Proofs.Ytehhoplenloocaa
