/- Cones: the walks of ConeIndex. -/
import Derived.Test.YtfncikbmdaameaaB2
namespace Go.Proofs.Ytfncikbmdaameaa
open Go.RowKit
set_option linter.unusedVariables false
set_option linter.unusedSimpArgs false

def idxI (U V : List Int) : Int := if coneB U V = true then crossI U V else 0

set_option maxHeartbeats 1000000 in
theorem implConeIndex_any (U V : List Int) (v1 v2 : Value) (hb : Nat) (w : World) (i1 : ISr w hb v1 U) (i2 : ISr w hb v2 V) (hhb : hb ≤ w.heap.size) :
    Calls Try.prog 72 #[.agg #[v1, v2]] w fun e w' => e = .returned (.int .i64 (idxI U V)) ∧ Below w.heap.size w w' := by
  have B0 := below1 w (.cells #[v1, v2] 64)
  have j1 := i1.keep B0 hhb
  have j2 := i2.keep B0 hhb
  have bx := box2_new w v1 v2 64
  have P := implIsCone_any U V v1 v2 hb _ j1 j2 (Nat.le_trans hhb B0.size)
  have x0 := bx.c0
  have x1 := bx.c1
  cases hc : coneB U V
  · have e1 : idxI U V = 0 := by unfold idxI; rw [hc]; rfl
    rw [hc] at P
    rw [e1]
    clear hc e1
    go_enter Try.func72, Try.ntmps72
    go_wp2_with (go_at_call 74; (with_reducible refine P.mono ?_); rintro e w1 ⟨rfl, c1⟩)
    go_ret
    exact ⟨rfl, below_then B0 B0.size c1⟩
  · have e1 : idxI U V = crossI U V := by unfold idxI; rw [if_pos hc]
    obtain ⟨a1, a2, -, -, -⟩ := coneB_of hc
    rw [hc] at P
    rw [e1]
    clear hc e1
    have HC := fun w' (h1 : ISr w' hb v1 U) (h2 : ISr w' hb v2 V) => cross_any U V v1 v2 hb hb w' h1 h2 (ptB_len a1).1 (ptB_len a2).1 (allIn_mono (ptB_len a1).2 (by omega) (by omega)) (allIn_mono (ptB_len a2).2 (by omega) (by omega))
    go_enter Try.func72, Try.ntmps72
    go_wp2_with fail
    refine P.mono ?_
    rintro e w1 ⟨rfl, c1⟩
    have B1 := below_then B0 B0.size c1
    have x0 := (bx.keep c1).c0
    have x1 := (bx.keep c1).c1
    go_wp2_with fail
    refine (HC w1 (i1.keep B1 hhb) (i2.keep B1 hhb)).mono ?_
    rintro e w2 ⟨rfl, d, rfl⟩
    go_wp2
    go_ret
    exact ⟨rfl, B1.trans (below_draws _ _ _)⟩

set_option maxHeartbeats 1000000 in
theorem specConeIndex_any (U V : List Int) (v1 v2 : Value) (hb : Nat) (w : World) (i1 : ISr w hb v1 U) (i2 : ISr w hb v2 V) (hhb : hb ≤ w.heap.size) :
    Calls Try.prog 73 #[.agg #[v1, v2]] w fun e w' => e = .returned (.int .i64 (idxI U V)) ∧ Below w.heap.size w w' := by
  have B0 := below1 w (.cells #[v1, v2] 64)
  have j1 := i1.keep B0 hhb
  have j2 := i2.keep B0 hhb
  have bx := box2_new w v1 v2 64
  have P := specIsCone_any U V v1 v2 hb _ j1 j2 (Nat.le_trans hhb B0.size)
  have x0 := bx.c0
  have x1 := bx.c1
  cases hc : coneB U V
  · have e1 : idxI U V = 0 := by unfold idxI; rw [hc]; rfl
    rw [hc] at P
    rw [e1]
    clear hc e1
    go_enter Try.func73, Try.ntmps73
    go_wp2_with (go_at_call 75; (with_reducible refine P.mono ?_); rintro e w1 ⟨rfl, c1⟩)
    go_ret
    exact ⟨rfl, below_then B0 B0.size c1⟩
  · have e1 : idxI U V = crossI U V := by unfold idxI; rw [if_pos hc]
    obtain ⟨a1, a2, -, -, -⟩ := coneB_of hc
    rw [hc] at P
    rw [e1]
    clear hc e1
    have HC := fun w' (h1 : ISr w' hb v1 U) (h2 : ISr w' hb v2 V) => l7Cross_any U V v1 v2 hb hb w' h1 h2 (ptB_len a1).1 (ptB_len a2).1 (allIn_mono (ptB_len a1).2 (by omega) (by omega)) (allIn_mono (ptB_len a2).2 (by omega) (by omega))
    go_enter Try.func73, Try.ntmps73
    go_wp2_with fail
    refine P.mono ?_
    rintro e w1 ⟨rfl, c1⟩
    have B1 := below_then B0 B0.size c1
    have x0 := (bx.keep c1).c0
    have x1 := (bx.keep c1).c1
    go_wp2_with fail
    refine (HC w1 (i1.keep B1 hhb) (i2.keep B1 hhb)).mono ?_
    rintro e w2 ⟨rfl, d, rfl⟩
    go_wp2
    go_ret
    exact ⟨rfl, B1.trans (below_draws _ _ _)⟩
end Go.Proofs.Ytfncikbmdaameaa
