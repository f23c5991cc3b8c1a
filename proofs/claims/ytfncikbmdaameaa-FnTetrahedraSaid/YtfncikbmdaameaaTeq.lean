/- The place of a point, of a stretched tetrahedron: both ways are the same. -/
import Derived.Test.YtfncikbmdaameaaPlc
namespace Go.Proofs.Ytfncikbmdaameaa
set_option linter.unusedVariables false
set_option linter.unusedSimpArgs false

theorem place4 (S : Nat → Int) : placeN S 4 = if 0 ≤ S 0 ∧ 0 ≤ S 1 ∧ 0 ≤ S 2 ∧ 0 ≤ S 3 then (if S 0 = 0 ∨ S 1 = 0 ∨ S 2 = 0 ∨ S 3 = 0 then 0 else 1) else -1 := by
  unfold placeN
  have e : (List.range 4).all (fun i => decide (0 ≤ S i)) = decide (0 ≤ S 0 ∧ 0 ≤ S 1 ∧ 0 ≤ S 2 ∧ 0 ≤ S 3) := by
    rw [Bool.eq_iff_iff]; simp [List.range, List.range.loop]
  rw [e]
  simp only [decide_eq_true_eq, plc]
  split
  · by_cases h0 : S 0 = 0 <;> by_cases h1 : S 1 = 0 <;> by_cases h2 : S 2 = 0 <;> by_cases h3 : S 3 = 0 <;> simp [h0, h1, h2, h3]
  · rfl
theorem pos_mul {T z : Int} (hT : 0 < T) : (0 ≤ T * z ↔ 0 ≤ z) ∧ (T * z = 0 ↔ z = 0) := by
  refine ⟨⟨fun h => ?_, fun h => Int.mul_nonneg (by omega) h⟩, ⟨fun h => ?_, fun h => by rw [h, Int.mul_zero]⟩⟩
  · rcases Int.lt_or_le z 0 with g | g
    · have := Int.mul_pos hT (show 0 < -z by omega)
      rw [Int.mul_neg] at this; omega
    · exact g
  · rcases Int.mul_eq_zero.1 h with g | g
    · omega
    · exact g
theorem sgd_mul {T all z : Int} (hT : 0 < T) : sgd all (T * z) = T * sgd all z := by
  unfold sgd; split
  · rw [Int.mul_neg]
  · rfl
theorem sgd_all {T all z : Int} (hT : 0 < T) : sgd (T * all) z = sgd all z := by
  have := (pos_mul (T := T) (z := all) hT).1
  unfold sgd
  by_cases h : all < 0
  · rw [if_pos h, if_pos (by omega)]
  · rw [if_neg h, if_neg (by omega)]
theorem place_roll {S S' : Nat → Int} {T : Int} (hT : 0 < T) (h0 : S 0 = T * S' 3) (h1 : S 1 = T * S' 0) (h2 : S 2 = T * S' 1) (h3 : S 3 = T * S' 2) : placeN S 4 = placeN S' 4 := by
  rw [place4, place4, h0, h1, h2, h3]
  have e0 := pos_mul (T := T) (z := S' 0) hT
  have e1 := pos_mul (T := T) (z := S' 1) hT
  have e2 := pos_mul (T := T) (z := S' 2) hT
  have e3 := pos_mul (T := T) (z := S' 3) hT
  simp only [e0.1, e1.1, e2.1, e3.1, e0.2, e1.2, e2.2, e3.2]
  by_cases k0 : 0 ≤ S' 0 <;> by_cases k1 : 0 ≤ S' 1 <;> by_cases k2 : 0 ≤ S' 2 <;> by_cases k3 : 0 ≤ S' 3 <;> simp [k0, k1, k2, k3] <;>
    (by_cases z0 : S' 0 = 0 <;> by_cases z1 : S' 1 = 0 <;> by_cases z2 : S' 2 = 0 <;> by_cases z3 : S' 3 = 0 <;> simp [z0, z1, z2, z3])
theorem tet_place {ls : List (List Int)} {x : List Int} {t : Int} (h4 : ls.length = 4) (hr : ∀ i, i < 4 → (ls.getD i []).length = 3) (hx : x.length = 3) (ht : 0 < t) :
    placeN (tS (timesL ls t) x) 4 = placeN (sS ls x t) 4 := by
  obtain ⟨p0, p1, p2, p3, rfl⟩ := len4 h4
  obtain ⟨a0, a1, a2, e0⟩ := len3 (hr 0 (by omega))
  obtain ⟨b0, b1, b2, e1⟩ := len3 (hr 1 (by omega))
  obtain ⟨c0, c1, c2, e2⟩ := len3 (hr 2 (by omega))
  obtain ⟨d0, d1, d2, e3⟩ := len3 (hr 3 (by omega))
  obtain ⟨x0, x1, x2, rfl⟩ := len3 hx
  simp at e0 e1 e2 e3
  subst e0 e1 e2 e3
  have hT2 : 0 < t * t := Int.mul_pos ht ht
  have hT3 : 0 < t * t * t := Int.mul_pos hT2 ht
  have hall : det3 (edgesF (timesL [[a0, a1, a2], [b0, b1, b2], [c0, c1, c2], [d0, d1, d2]] t)) = t * t * t * det3 (edgesF [[a0, a1, a2], [b0, b1, b2], [c0, c1, c2], [d0, d1, d2]]) := by
    simp [timesL, edgesF, det3, diff3, dd]; grind
  refine place_roll (T := t * t) hT2 ?_ ?_ ?_ ?_
  all_goals
    unfold tS sS
    rw [hall, sgd_all hT3, ← sgd_mul hT2]
    congr 1
    simp [sF, facF, yF, timesL, edgesF, det3, diff3, dd]
    grind
end Go.Proofs.Ytfncikbmdaameaa
