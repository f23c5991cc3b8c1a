/- Cones as the laws copy and compare them. -/
import Derived.Test.YtchkcjpahlimjaaCone
namespace Go.Proofs.Ytchkcjpahlimjaa
open Go.RowKit
set_option linter.unusedVariables false
set_option linter.unusedSimpArgs false

/-- a box of two cells that may be written -/
structure Box2 (w : World) (n : Nat) (x y : Value) : Prop where
  lt : n < w.heap.size
  c0 : w.cell? ⟨n, 0, none⟩ = some x
  c1 : w.cell? ⟨n, 1, none⟩ = some y
  f0 : w.frozen? ⟨n, 0, none⟩ = false
  f1 : w.frozen? ⟨n, 1, none⟩ = false
theorem box2_new (w : World) (x y : Value) (t : TypeId) : Box2 (w.alloc (.cells #[x, y] t)) w.heap.size x y :=
  ⟨by simp, by rw [World.cell?_alloc_at _ _ _ _ rfl]; rfl, by rw [World.cell?_alloc_at _ _ _ _ rfl]; rfl, World.frozen?_alloc_at _ _ _ _ rfl, World.frozen?_alloc_at _ _ _ _ rfl⟩
theorem Box2.keep {w w1 : World} {n : Nat} {x y : Value} (h : Box2 w n x y) (hb : Below w.heap.size w w1) : Box2 w1 n x y :=
  ⟨Nat.lt_of_lt_of_le h.lt hb.size, (hb.cell h.lt).trans h.c0, (hb.cell h.lt).trans h.c1, (hb.frozen h.lt).trans h.f0, (hb.frozen h.lt).trans h.f1⟩
theorem Box2.other {w : World} {n : Nat} {x y : Value} (h : Box2 w n x y) {a : Addr} (ha : a.block ≠ n) (u : Value) : Box2 (w.setCell a u) n x y :=
  ⟨by simpa using h.lt, by rw [World.cell?_setCell_other]; exact h.c0; (intro e; apply ha; rw [e]), by rw [World.cell?_setCell_other]; exact h.c1; (intro e; apply ha; rw [e]), by rw [World.frozen?_setCell]; exact h.f0, by rw [World.frozen?_setCell]; exact h.f1⟩
theorem Box2.set0 {w : World} {n : Nat} {x y : Value} (h : Box2 w n x y) (u : Value) : Box2 (w.setCell ⟨n, 0, none⟩ u) n u y :=
  ⟨by simpa using h.lt, World.cell?_setCell_same w _ _ h.c0, by rw [World.cell?_setCell_other]; exact h.c1; (intro e; injection e with _ e _; cases e), by rw [World.frozen?_setCell]; exact h.f0, by rw [World.frozen?_setCell]; exact h.f1⟩
theorem Box2.set1 {w : World} {n : Nat} {x y : Value} (h : Box2 w n x y) (u : Value) : Box2 (w.setCell ⟨n, 1, none⟩ u) n x u :=
  ⟨by simpa using h.lt, by rw [World.cell?_setCell_other]; exact h.c0; (intro e; injection e with _ e _; cases e), World.cell?_setCell_same w _ _ h.c1, by rw [World.frozen?_setCell]; exact h.f0, by rw [World.frozen?_setCell]; exact h.f1⟩
theorem IS.setOther {w : World} {lo hi : Nat} {v : Value} {l : List Int} (h : IS w lo hi v l) {a : Addr} (ha : a.block < lo ∨ hi ≤ a.block) (u : Value) : IS (w.setCell a u) lo hi v l :=
  h.of_blocks fun b h1 h2 h3 => Below.heap_setCell w a u b (by omega)

def szL (n : Nat) (left : Int) : Int := if left < n then -1 else left - n
set_option maxHeartbeats 1000000 in
theorem szIntS_any (l : List Int) (v : Value) (left : Int) (hb : Nat) (w : World) (h : ISr w hb v l) (h0 : 0 ≤ left) (h1 : left ≤ 1048576) :
    Calls Try.prog 54 #[v, .int .i64 left] w fun e w' => e = .returned (.int .i64 (szL l.length left)) ∧ w = w' := by
  obtain ⟨a, cap, rfl, g1, g2, -⟩ := h
  unfold maxLen at g2
  have hlen : l.length ≤ 9223372036854775807 := by omega
  clear g1 g2
  unfold szL
  generalize l.length = n at *
  by_cases hc : left < n
  · rw [if_pos hc]
    go_enter Try.func54, Try.ntmps54
    go_wp2
    go_ret
    exact ⟨rfl, rfl⟩
  · rw [if_neg hc]
    go_enter Try.func54, Try.ntmps54
    go_wp2
    go_ret
    exact ⟨rfl, rfl⟩

/-- what is left of the bound on sizes -/
def szTot (n : Nat) : Int := if n ≤ 1048576 then 1048576 - n else -1
set_option maxHeartbeats 1000000 in
theorem szCone_any (U V : List Int) (v1 v2 : Value) (hb : Nat) (w : World) (i1 : ISr w hb v1 U) (i2 : ISr w hb v2 V) (hhb : hb ≤ w.heap.size) :
    Calls Try.prog 14 #[.agg #[v1, v2], .int .i64 1048576] w fun e w' => e = .returned (.int .i64 (szTot (U.length + V.length))) ∧ Below w.heap.size w w' := by
  have B0 := below1 w (.cells #[v1, v2] 24)
  have j1 := i1.keep B0 hhb
  have j2 := i2.keep B0 hhb
  have bx := box2_new w v1 v2 24
  have x0 := bx.c0
  have x1 := bx.c1
  have S1 := szIntS_any U v1 1048576 hb _ j1 (by omega) (by omega)
  by_cases hc : 1048576 < U.length
  · have e1 : szL U.length 1048576 = -1 := by unfold szL; rw [if_pos (by omega)]
    rw [e1] at S1
    have e2 : szTot (U.length + V.length) = -1 := by unfold szTot; rw [if_neg (by omega)]
    rw [e2]
    clear e1 e2
    go_enter Try.func14, Try.ntmps14
    go_wp2_with (go_at_call 54; (with_reducible refine S1.mono ?_); rintro e w' ⟨rfl, rfl⟩)
    go_ret
    exact ⟨rfl, B0⟩
  · have e1 : szL U.length 1048576 = 1048576 - (U.length : Int) := by unfold szL; rw [if_neg (by omega)]
    rw [e1] at S1
    clear e1
    have S2 := szIntS_any V v2 (1048576 - (U.length : Int)) hb _ j2 (by omega) (by omega)
    have hu : (0 : Int) ≤ 1048576 - (U.length : Int) := by omega
    by_cases h2 : U.length + V.length ≤ 1048576
    · have e2 : szL V.length (1048576 - (U.length : Int)) = 1048576 - (U.length : Int) - V.length := by unfold szL; rw [if_neg (by omega)]
      have e3 : szTot (U.length + V.length) = 1048576 - (U.length : Int) - V.length := by unfold szTot; rw [if_pos h2]; omega
      rw [e2] at S2
      rw [e3]
      have hr : 0 ≤ 1048576 - (U.length : Int) - V.length := by omega
      clear e2 e3
      generalize 1048576 - (U.length : Int) - V.length = r at *
      generalize hm : 1048576 - (U.length : Int) = m at *
      clear hm hc h2
      go_enter Try.func14, Try.ntmps14
      go_wp2_with (first | (go_at_call 54; (with_reducible refine S1.mono ?_); rintro e w' ⟨rfl, rfl⟩) | (go_at_call 54; (with_reducible refine S2.mono ?_); rintro e w' ⟨rfl, rfl⟩))
      go_ret
      exact ⟨rfl, B0⟩
    · have e2 : szL V.length (1048576 - (U.length : Int)) = -1 := by unfold szL; rw [if_pos (by omega)]
      have e3 : szTot (U.length + V.length) = -1 := by unfold szTot; rw [if_neg h2]
      rw [e2] at S2
      rw [e3]
      clear e2 e3
      generalize hm : 1048576 - (U.length : Int) = m at *
      clear hm hc h2
      go_enter Try.func14, Try.ntmps14
      go_wp2_with (first | (go_at_call 54; (with_reducible refine S1.mono ?_); rintro e w' ⟨rfl, rfl⟩) | (go_at_call 54; (with_reducible refine S2.mono ?_); rintro e w' ⟨rfl, rfl⟩))
      go_ret
      exact ⟨rfl, B0⟩

set_option maxHeartbeats 1000000 in
theorem eqCone_any (U V : List Int) (v1 v2 u1 u2 : Value) (h1 h2 : Nat) (w : World) (i1 : ISr w h1 v1 U) (i2 : ISr w h1 v2 V) (j1 : ISr w h2 u1 U) (j2 : ISr w h2 u2 V) (hb1 : h1 ≤ w.heap.size) (hb2 : h2 ≤ w.heap.size) :
    Calls Try.prog 19 #[.agg #[v1, v2], .agg #[u1, u2]] w fun e w' => e = .returned (.bool true) ∧ Below w.heap.size w w' := by
  have B0 := below2 w (.cells #[v1, v2] 28) (.cells #[u1, u2] 28)
  have bx := (box2_new w v1 v2 28).keep (below1 _ (.cells #[u1, u2] 28))
  have by' := box2_new (w.alloc (.cells #[v1, v2] 28)) u1 u2 28
  have x0 := bx.c0
  have x1 := bx.c1
  have y0 := by'.c0
  have y1 := by'.c1
  simp only [World.size_alloc] at y0 y1
  have E1 := eqIntS_any U U v1 u1 h1 h2 _ (i1.keep B0 hb1) (j1.keep B0 hb2)
  have E2 := fun n => eqIntS_any V V v2 u2 h1 h2 _ ((i2.keep B0 hb1).draws n) ((j2.keep B0 hb2).draws n)
  have t1 : decide (U = U) = true := by simp
  have t2 : decide (V = V) = true := by simp
  rw [t1] at E1
  simp only [t2] at E2
  clear t1 t2
  go_enter Try.func19, Try.ntmps19
  go_wp2_with (first | (go_at_call 25; (with_reducible refine E1.mono ?_); rintro e w' ⟨rfl, d1, rfl⟩) | (go_at_call 25; (with_reducible refine (E2 _).mono ?_); rintro e w' ⟨rfl, d2, rfl⟩))
  all_goals try go_quiet ((go_at_call 25; exact Calls.quiet_of (E2 _)))
  go_ret
  exact ⟨rfl, B0.trans (below_draws _ _ _)⟩
end Go.Proofs.Ytchkcjpahlimjaa
