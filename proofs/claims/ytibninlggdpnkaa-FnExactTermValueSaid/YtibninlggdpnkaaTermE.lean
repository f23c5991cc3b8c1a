/- Terms as the laws compare them. -/
import Derived.Test.YtibninlggdpnkaaTermL
namespace Go.Proofs.Ytibninlggdpnkaa
open Go.RowKit
set_option linter.unusedVariables false
set_option linter.unusedSimpArgs false

set_option maxHeartbeats 1000000 in
theorem eqTerm_any (s : Int) (U : List Int) (G : List (List Int)) (v1 v2 u1 u2 : Value) (h1 h2 : Nat) (w : World) (i1 : ISr w h1 v1 U) (i2 : ISSr w h1 v2 G) (j1 : ISr w h2 u1 U) (j2 : ISSr w h2 u2 G) (hb1 : h1 ≤ w.heap.size) (hb2 : h2 ≤ w.heap.size) :
    Calls Try.prog 51 #[.agg #[.int .i64 s, v1, v2], .agg #[.int .i64 s, u1, u2]] w fun e w' => e = .returned (.bool true) ∧ Below w.heap.size w w' := by
  have B0 := below2 w (.cells #[.int .i64 s, v1, v2] 61) (.cells #[.int .i64 s, u1, u2] 61)
  have bx := (box3_new w (.int .i64 s) v1 v2 61).keep (below1 _ (.cells #[.int .i64 s, u1, u2] 61))
  have by' := box3_new (w.alloc (.cells #[.int .i64 s, v1, v2] 61)) (.int .i64 s) u1 u2 61
  have x0 := bx.c0
  have x1 := bx.c1
  have x2 := bx.c2
  have y0 := by'.c0
  have y1 := by'.c1
  have y2 := by'.c2
  simp only [World.size_alloc] at y0 y1 y2
  have E1 := fun n => eqIntS_any U U v1 u1 h1 h2 _ ((i1.keep B0 hb1).draws n) ((j1.keep B0 hb2).draws n)
  have E2 := fun n => eqIntSS_any G G v2 u2 h1 h2 _ ((i2.keep B0 hb1).draws n) ((j2.keep B0 hb2).draws n)
  have t1 : decide (U = U) = true := by simp
  have t2 : decide (G = G) = true := by simp
  simp only [t1] at E1
  simp only [t2] at E2
  clear t1 t2
  have hss : (s != s) = false := by simp
  go_enter Try.func51, Try.ntmps51
  go_wp2_with fail
  refine (E1 0).mono ?_
  rintro e w' ⟨rfl, d1, rfl⟩
  go_wp2_with fail
  refine (E2 d1).mono ?_
  rintro e w' ⟨rfl, d2, rfl⟩
  go_wp2
  go_ret
  exact ⟨rfl, B0.trans (below_draws _ _ _)⟩
end Go.Proofs.Ytibninlggdpnkaa
