/- The inverse matrix: the program's walk. -/
import Derived.Test.YtehhoplenloocaaAdj
import Derived.Test.YtehhoplenloocaaPlace
import Derived.Deep.RegionWith
namespace Go.Proofs.Ytehhoplenloocaa
open Go.RowKit
set_option linter.unusedVariables false
set_option linter.unusedSimpArgs false

def invRow (m : List (List Int)) (i : Nat) : List Int := (List.range m.length).map fun j => adjE m.length m i j * detM m
def invM (m : List (List Int)) : List (List Int) := (List.range m.length).map (invRow m)
def invV (m : List (List Int)) : List (List Int) × Bool := if uniB m && matB (invM m) then (invM m, true) else ([], false)
theorem invV_no1 {m : List (List Int)} (h : uniB m = false) : invV m = ([], false) := by unfold invV; rw [h]; rfl
theorem invV_no2 {m : List (List Int)} (h : matB (invM m) = false) : invV m = ([], false) := by unfold invV; rw [h]; simp
theorem invV_yes {m : List (List Int)} (h1 : uniB m = true) (h2 : matB (invM m) = true) : invV m = (invM m, true) := by unfold invV; rw [h1, h2]; rfl
theorem uniB_mat {m : List (List Int)} (h : uniB m = true) : matB m = true ∧ (detM m = 1 ∨ detM m = -1) := by
  cases hm : matB m
  · unfold uniB at h; rw [detO_no hm] at h; simp at h
  · unfold uniB at h; rw [detO_yes hm] at h; simp at h; exact ⟨rfl, by omega⟩
def mixRow (m : List (List Int)) (k j : Nat) : List Int := (List.range m.length).map fun c => if c < j then adjE m.length m k c * detM m else adjE m.length m k c
def curI (m : List (List Int)) (k j : Nat) : Nat → List Int := fun i => if i < k then invRow m i else if i = k then mixRow m k j else adjRow m.length m i
theorem mixRow_len (m : List (List Int)) (k j : Nat) : (mixRow m k j).length = m.length := by simp [mixRow]
theorem mixRow_zero (m : List (List Int)) (k : Nat) : mixRow m k 0 = adjRow m.length m k := by simp [mixRow, adjRow]
theorem mixRow_full (m : List (List Int)) (k : Nat) : mixRow m k m.length = invRow m k := by
  unfold mixRow invRow
  exact List.map_congr_left fun c hc => by rw [if_pos (List.mem_range.1 hc)]
theorem mixRow_at {m : List (List Int)} {k j : Nat} (hj : j < m.length) : (mixRow m k j).getD j 0 = adjE m.length m k j := by
  unfold mixRow; rw [List.getD_eq_getElem?_getD, List.getElem?_map, List.getElem?_range hj]; simp
theorem mixRow_set {m : List (List Int)} {k j : Nat} (hj : j < m.length) : (mixRow m k j).set j (adjE m.length m k j * detM m) = mixRow m k (j + 1) := by
  apply List.ext_getElem?
  intro c
  rw [List.getElem?_set]
  unfold mixRow
  rw [List.length_map, List.length_range, List.getElem?_map, List.getElem?_map]
  by_cases e : j = c
  · subst e
    rw [if_pos rfl, if_pos hj, List.getElem?_range hj]
    simp
  · rw [if_neg e]
    by_cases hc : c < m.length
    · rw [List.getElem?_range hc]
      show some (if c < j then _ else _) = some (if c < j + 1 then _ else _)
      by_cases e2 : c < j
      · rw [if_pos e2, if_pos (by omega)]
      · rw [if_neg e2, if_neg (by omega)]
    · rw [List.getElem?_eq_none (by simp; omega)]; rfl
theorem adjE_bd {m : List (List Int)} (h : matB m = true) {i j : Nat} (hi : i < m.length) (hj : j < m.length) : -20000000000 ≤ adjE m.length m i j ∧ adjE m.length m i j ≤ 20000000000 := by
  have := (minorDet_bd (matB_sq h) (matB_len h).1 (matB_len h).2 hj hi).2
  unfold adjE; split <;> omega
theorem RowsW.keep {w w' : World} {lo hi b off n B : Nat} {V : Nat → Value} {cur : Nat → List Int} (h : RowsW w lo hi b off n V cur) (hb : Below B w w') (hh : hi ≤ B) (hbB : b < B) : RowsW w' lo hi b off n V cur :=
  ⟨h.outer.keep hb hbB, fun i hi => (h.row i hi).keep hb hh, h.apart⟩

set_option maxHeartbeats 1000000 in
theorem matrixOf_any (m : List (List Int)) (v : Value) (hb : Nat) (w : World) (h : ISSr w hb v m) :
    Calls Try.prog 146 #[v] w fun e w' => e = .returned (.tuple #[if matB m then v else .slice none 0 0, .bool (matB m)]) ∧ w = w' := by
  have IM := implIsMatrix_any m v hb w h
  obtain ⟨a, cap, rfl, -⟩ := id h
  generalize m.length = n at *
  cases hm : matB m
  all_goals
    rw [hm] at IM
    clear h hm
    go_enter Try.func146, Try.ntmps146
    go_wp2_with (go_at_call 154; (with_reducible refine IM.mono ?_); rintro e w1 ⟨rfl, rfl⟩)
    go_ret2
    exact ⟨rfl, rfl⟩
end Go.Proofs.Ytehhoplenloocaa
