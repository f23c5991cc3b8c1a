/- Terms as the laws measure and compare them. -/
import Derived.Test.YtibninlggdpnkaaTSS
namespace Go.Proofs.Ytibninlggdpnkaa
open Go.RowKit
set_option linter.unusedVariables false
set_option linter.unusedSimpArgs false

/-- a box of three cells that may be written -/
structure Box3 (w : World) (n : Nat) (x y z : Value) : Prop where
  lt : n < w.heap.size
  c0 : w.cell? ⟨n, 0, none⟩ = some x
  c1 : w.cell? ⟨n, 1, none⟩ = some y
  c2 : w.cell? ⟨n, 2, none⟩ = some z
  f0 : w.frozen? ⟨n, 0, none⟩ = false
  f1 : w.frozen? ⟨n, 1, none⟩ = false
  f2 : w.frozen? ⟨n, 2, none⟩ = false
theorem box3_new (w : World) (x y z : Value) (t : TypeId) : Box3 (w.alloc (.cells #[x, y, z] t)) w.heap.size x y z :=
  ⟨by simp, by rw [World.cell?_alloc_at _ _ _ _ rfl]; rfl, by rw [World.cell?_alloc_at _ _ _ _ rfl]; rfl, by rw [World.cell?_alloc_at _ _ _ _ rfl]; rfl, World.frozen?_alloc_at _ _ _ _ rfl, World.frozen?_alloc_at _ _ _ _ rfl, World.frozen?_alloc_at _ _ _ _ rfl⟩
theorem Box3.keep {w w1 : World} {n : Nat} {x y z : Value} (h : Box3 w n x y z) (hb : Below w.heap.size w w1) : Box3 w1 n x y z :=
  ⟨Nat.lt_of_lt_of_le h.lt hb.size, (hb.cell h.lt).trans h.c0, (hb.cell h.lt).trans h.c1, (hb.cell h.lt).trans h.c2, (hb.frozen h.lt).trans h.f0, (hb.frozen h.lt).trans h.f1, (hb.frozen h.lt).trans h.f2⟩
theorem Box3.other {w : World} {n : Nat} {x y z : Value} (h : Box3 w n x y z) {a : Addr} (ha : a.block ≠ n) (u : Value) : Box3 (w.setCell a u) n x y z := by
  have e : ∀ k, (⟨n, k, none⟩ : Addr) ≠ a := fun k e => ha (by rw [← e])
  exact ⟨by simpa using h.lt, by rw [World.cell?_setCell_other _ _ _ _ (by first | exact e 0 | exact (e 0).symm)]; exact h.c0, by rw [World.cell?_setCell_other _ _ _ _ (by first | exact e 1 | exact (e 1).symm)]; exact h.c1, by rw [World.cell?_setCell_other _ _ _ _ (by first | exact e 2 | exact (e 2).symm)]; exact h.c2, by rw [World.frozen?_setCell]; exact h.f0, by rw [World.frozen?_setCell]; exact h.f1, by rw [World.frozen?_setCell]; exact h.f2⟩

set_option maxHeartbeats 1000000 in
theorem szTerm_any (s : Value) (U : List Int) (G : List (List Int)) (v1 v2 : Value) (hb : Nat) (w : World) (i1 : ISr w hb v1 U) (i2 : ISSr w hb v2 G) (hhb : hb ≤ w.heap.size) :
    Calls Try.prog 47 #[.agg #[s, v1, v2], .int .i64 1048576] w fun e w' => e = .returned (.int .i64 (szTot (U.length + totS G))) ∧ Below w.heap.size w w' := by
  have B0 := below1 w (.cells #[s, v1, v2] 58)
  have j1 := i1.keep B0 hhb
  have j2 := i2.keep B0 hhb
  have bx := box3_new w s v1 v2 58
  have x0 := bx.c0
  have x1 := bx.c1
  have x2 := bx.c2
  have S1 := szIntS_any U v1 1048576 hb _ j1 (by omega) (by omega)
  by_cases hc : 1048576 < U.length
  · have e1 : szL U.length 1048576 = -1 := by unfold szL; rw [if_pos (by omega)]
    rw [e1] at S1
    have e2 : szTot (U.length + totS G) = -1 := by unfold szTot; rw [if_neg (by omega)]
    rw [e2]
    clear e1 e2
    go_enter Try.func47, Try.ntmps47
    go_wp2_with (go_at_call 65; (with_reducible refine S1.mono ?_); rintro e w' ⟨rfl, rfl⟩)
    go_ret
    exact ⟨rfl, B0⟩
  · have e1 : szL U.length 1048576 = 1048576 - (U.length : Int) := by unfold szL; rw [if_neg (by omega)]
    rw [e1] at S1
    clear e1
    have S2 := szIntSS_any G v2 (1048576 - (U.length : Int)) hb _ j2 (by omega) (by omega)
    have hu : (0 : Int) ≤ 1048576 - (U.length : Int) := by omega
    by_cases h2 : U.length + totS G ≤ 1048576
    · have e2 : szL (totS G) (1048576 - (U.length : Int)) = 1048576 - (U.length : Int) - totS G := by unfold szL; rw [if_neg (by omega)]
      have e3 : szTot (U.length + totS G) = 1048576 - (U.length : Int) - totS G := by unfold szTot; rw [if_pos h2]; omega
      rw [e2] at S2
      rw [e3]
      have hr : 0 ≤ 1048576 - (U.length : Int) - totS G := by omega
      clear e2 e3
      generalize 1048576 - (U.length : Int) - totS G = r at *
      generalize hm : 1048576 - (U.length : Int) = m at *
      clear hm hc h2
      go_enter Try.func47, Try.ntmps47
      go_wp2_with (first | (go_at_call 65; (with_reducible refine S1.mono ?_); rintro e w' ⟨rfl, rfl⟩) | (go_at_call 28; (with_reducible refine S2.mono ?_); rintro e w' ⟨rfl, rfl⟩))
      go_ret
      exact ⟨rfl, B0⟩
    · have e2 : szL (totS G) (1048576 - (U.length : Int)) = -1 := by unfold szL; rw [if_pos (by omega)]
      have e3 : szTot (U.length + totS G) = -1 := by unfold szTot; rw [if_neg h2]
      rw [e2] at S2
      rw [e3]
      clear e2 e3
      generalize hm : 1048576 - (U.length : Int) = m at *
      clear hm hc h2
      go_enter Try.func47, Try.ntmps47
      go_wp2_with (first | (go_at_call 65; (with_reducible refine S1.mono ?_); rintro e w' ⟨rfl, rfl⟩) | (go_at_call 28; (with_reducible refine S2.mono ?_); rintro e w' ⟨rfl, rfl⟩))
      go_ret
      exact ⟨rfl, B0⟩
end Go.Proofs.Ytibninlggdpnkaa
