/- The statements' own sums, products and comparisons of vectors and cones. -/
import Derived.Test.YtehhoplenloocaaSame
import Derived.Test.YtehhoplenloocaaB2
namespace Go.Proofs.Ytehhoplenloocaa
open Go.RowKit
set_option linter.unusedVariables false
set_option linter.unusedSimpArgs false

set_option maxRecDepth 100000 in
set_option maxHeartbeats 2000000 in
theorem sameCone_any (U V U' V' : List Int) (v1 v2 v1' v2' : Value) (hb : Nat) (w : World) (i1 : ISr w hb v1 U) (i2 : ISr w hb v2 V) (i1' : ISr w hb v1' U') (i2' : ISr w hb v2' V') (hhb : hb ≤ w.heap.size) :
    Calls Try.prog 58 #[.agg #[v1, v2], .agg #[v1', v2']] w fun e w' => e = .returned (.bool (decide (U = U') && decide (V = V'))) ∧ Below w.heap.size w w' := by
  have B0 := below2 w (.cells #[v1, v2] 62) (.cells #[v1', v2'] 62)
  have j1 := i1.keep B0 hhb
  have j2 := i2.keep B0 hhb
  have j1' := i1'.keep B0 hhb
  have j2' := i2'.keep B0 hhb
  have P1 := sameInts_any U U' v1 v1' hb hb _ j1 j1'
  have P2 := fun d => sameInts_any V V' v2 v2' hb hb _ (j2.draws d) (j2'.draws d)
  obtain ⟨a1, c1, rfl, -⟩ := id i1
  obtain ⟨a2, c2, rfl, -⟩ := id i2
  obtain ⟨a3, c3, rfl, -⟩ := id i1'
  obtain ⟨a4, c4, rfl, -⟩ := id i2'
  clear i1 i2 i1' i2' j1 j2 j1' j2'
  generalize decide (U = U') = b1 at *
  generalize decide (V = V') = b2 at *
  go_enter Try.func58, Try.ntmps58
  cases b1
  · go_wp2_with (go_at_call 18; (with_reducible refine P1.mono ?_); rintro e w1 ⟨rfl, d1, rfl⟩)
    go_ret
    exact ⟨rfl, B0.trans (below_draws _ _ _)⟩
  · go_wp2_with (first | (go_at_call 18; (with_reducible refine P1.mono ?_); rintro e w1 ⟨rfl, d1, rfl⟩) | (go_at_call 18; (with_reducible refine (P2 _).mono ?_); rintro e w2 ⟨rfl, d2, rfl⟩))
    go_ret
    exact ⟨by simp, B0.trans (below_draws _ _ _)⟩
end Go.Proofs.Ytehhoplenloocaa
