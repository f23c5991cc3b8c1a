/- The adjugate matrix: the program's walk. -/
import Derived.Test.YtfncikbmdaameaaMat2
import Derived.Test.YtfncikbmdaameaaB4
import Derived.Test.YtfncikbmdaameaaB1
namespace Go.Proofs.Ytfncikbmdaameaa
open Go.RowKit
set_option linter.unusedVariables false
set_option linter.unusedSimpArgs false

theorem minorK_lenE (m : List (List Int)) (i j : Nat) : ∀ k, (minorK m i j k).length = if i < k then k - 1 else k
  | 0 => by simp [minorK]
  | k + 1 => by
    rw [minorK]
    have ih := minorK_lenE m i j k
    by_cases h : k = i
    · rw [if_pos h, ih, if_neg (by omega), if_pos (by omega)]; omega
    · rw [if_neg h, List.length_append, ih, List.length_singleton]
      by_cases h2 : i < k
      · rw [if_pos h2, if_pos (by omega)]; omega
      · rw [if_neg h2, if_neg (by omega)]
theorem minorK_mem (m : List (List Int)) (i j : Nat) : ∀ k, ∀ r ∈ minorK m i j k, ∃ t, t < k ∧ r = cutAt (m.getD t []) j
  | 0, r, h => by simp [minorK] at h
  | k + 1, r, h => by
    rw [minorK] at h
    split at h
    · obtain ⟨t, ht, e⟩ := minorK_mem m i j k r h; exact ⟨t, by omega, e⟩
    · rcases List.mem_append.1 h with h | h
      · obtain ⟨t, ht, e⟩ := minorK_mem m i j k r h; exact ⟨t, by omega, e⟩
      · simp at h; exact ⟨k, by omega, by rw [h, List.getD_eq_getElem?_getD]⟩
theorem SqB.minorG {n : Nat} {m : List (List Int)} (h : SqB (n + 1) m) {i j : Nat} (hi : i < n + 1) (hj : j < n + 1) : SqB n (minorL m i j) := by
  have hl : (minorL m i j).length = n := by unfold minorL; rw [minorK_lenE, h.len, if_pos hi]; omega
  refine ⟨hl, fun k hk => ?_⟩
  have hm : (minorL m i j).getD k [] ∈ minorL m i j := by rw [List.getD_eq_getElem?_getD, List.getElem?_eq_getElem (by omega)]; exact List.getElem_mem _
  obtain ⟨t, ht, e⟩ := minorK_mem m i j m.length _ hm
  rw [e]
  rw [h.len] at ht
  obtain ⟨h1, h2⟩ := h.row t ht
  exact ⟨by rw [cutAt_len (by omega), h1]; omega, cutAt_in h2⟩
/-- the minor with its sign -/
def adjE (n : Nat) (m : List (List Int)) (i j : Nat) : Int := if (i + j) % 2 = 1 then -(detF (n - 1) (minorL m j i)) else detF (n - 1) (minorL m j i)
def adjRow (n : Nat) (m : List (List Int)) (i : Nat) : List Int := (List.range n).map (adjE n m i)
def adjM (n : Nat) (m : List (List Int)) : List (List Int) := (List.range n).map (adjRow n m)
theorem range_more {α : Type} (f : Nat → α) (j : Nat) : (List.range j).map f ++ [f j] = (List.range (j + 1)).map f := by rw [List.range_succ, List.map_append]; rfl
def adjFn (n : Nat) (m : List (List Int)) (k j : Nat) : Nat → Value := fun c => .int .i64 (if c < j then adjE n m k c else 0)
theorem adjRow_len (n : Nat) (m : List (List Int)) (i : Nat) : (adjRow n m i).length = n := by simp [adjRow]
theorem adjRow_at {n : Nat} {m : List (List Int)} {i j : Nat} (hj : j < n) : (adjRow n m i).getD j 0 = adjE n m i j := by
  unfold adjRow; rw [List.getD_eq_getElem?_getD, List.getElem?_map, List.getElem?_range hj]; rfl
theorem minorDet_bd {n : Nat} {m : List (List Int)} (h : SqB n m) (h1 : 1 ≤ n) (h3 : n ≤ 3) {i j : Nat} (hi : i < n) (hj : j < n) : SqB (n - 1) (minorL m i j) ∧ -20000000000 ≤ detF (n - 1) (minorL m i j) ∧ detF (n - 1) (minorL m i j) ≤ 20000000000 := by
  obtain ⟨n', rfl⟩ : ∃ n', n = n' + 1 := ⟨n - 1, by omega⟩
  rw [show n' + 1 - 1 = n' by omega]
  have hs := h.minorG hi hj
  have hb := detF_bd _ _ hs
  have hd : detB n' ≤ 20000000000 := by
    rcases (show n' = 0 ∨ n' = 1 ∨ n' = 2 by omega) with rfl | rfl | rfl <;> decide
  exact ⟨hs, by omega, by omega⟩

end Go.Proofs.Ytfncikbmdaameaa
