/- Points that are stretched in place. -/
import Derived.Test.YtcofkjnkdfibfaaPlace
import Derived.Test.YtcofkjnkdfibfaaB4
namespace Go.Proofs.Ytcofkjnkdfibfaa
open Go.RowKit
set_option linter.unusedVariables false
set_option linter.unusedSimpArgs false

def scaleTo (r : List Int) (t : Int) (j : Nat) : List Int := (r.take j).map (· * t) ++ r.drop j
theorem scaleTo_len (r : List Int) (t : Int) (j : Nat) : (scaleTo r t j).length = r.length := by
  unfold scaleTo; rw [List.length_append, List.length_map, List.length_take, List.length_drop]; omega
theorem scaleTo_zero (r : List Int) (t : Int) : scaleTo r t 0 = r := by simp [scaleTo]
theorem scaleTo_full (r : List Int) (t : Int) : scaleTo r t r.length = r.map (· * t) := by simp [scaleTo]
theorem scaleTo_at (r : List Int) (t : Int) (j : Nat) (h : j < r.length) : (scaleTo r t j).getD j 0 = r.getD j 0 := by
  unfold scaleTo
  rw [List.getD_eq_getElem?_getD, List.getElem?_append_right (by rw [List.length_map, List.length_take]; omega), List.length_map, List.length_take, Nat.min_eq_left (by omega), Nat.sub_self, List.getElem?_drop, Nat.add_zero, ← List.getD_eq_getElem?_getD]
theorem scaleTo_set (r : List Int) (t : Int) (j : Nat) (h : j < r.length) : (scaleTo r t j).set j (r.getD j 0 * t) = scaleTo r t (j + 1) := by
  unfold scaleTo
  rw [List.set_append_right _ _ (by rw [List.length_map, List.length_take]; omega), List.length_map, List.length_take, Nat.min_eq_left (by omega), Nat.sub_self]
  rw [List.take_succ_eq_append_getElem h, List.map_append, List.append_assoc]
  congr 1
  rw [List.drop_eq_getElem_cons h, List.getD_eq_getElem?_getD, List.getElem?_eq_getElem h]
  rfl
def timesL (ls : List (List Int)) (t : Int) : List (List Int) := ls.map fun r => r.map (· * t)
def curT (ls : List (List Int)) (t : Int) (k j : Nat) : Nat → List Int := fun i => if i < k then (ls.getD i []).map (· * t) else if i = k then scaleTo (ls.getD i []) t j else ls.getD i []
theorem curT_end (ls : List (List Int)) (t : Int) : (List.range ls.length).map (curT ls t ls.length 0) = timesL ls t := by
  apply List.ext_getElem
  · simp [timesL]
  · intro i h1 h2
    simp at h1
    simp [timesL, curT, h1]

end Go.Proofs.Ytcofkjnkdfibfaa
