/- The points of a box, in order: the plain law. -/
import Derived.Test.YtehhoplenloocaaGreatB1
namespace Go.Proofs.YtehhoplenloocaaGreat
set_option linter.unusedVariables false
set_option linter.unusedSimpArgs false

/-- from lo to hi -/
def upto (lo hi : Int) : List Int := (List.range (hi + 1 - lo).toNat).map fun (i : Nat) => lo + (i : Int)
theorem upto_len (lo hi : Int) : (upto lo hi).length = (hi + 1 - lo).toNat := by simp [upto]
/-- the first j numbers from lo on, behind v -/
def longer (v : List Int) (lo : Int) (j : Nat) : List (List Int) := (List.range j).map fun (i : Nat) => v ++ [lo + (i : Int)]
theorem longer_snoc (v : List Int) (lo : Int) (j : Nat) : longer v lo j ++ [v ++ [lo + (j : Int)]] = longer v lo (j + 1) := by
  unfold longer; rw [List.range_succ, List.map_append]; rfl
/-- one more number behind each -/
def stepL (out : List (List Int)) (lo hi : Int) : List (List Int) := out.flatMap fun v => longer v lo (hi + 1 - lo).toNat
theorem stepL_snoc (out : List (List Int)) (lo hi : Int) (k : Nat) (h : k < out.length) : stepL (out.take k) lo hi ++ longer (out.getD k []) lo (hi + 1 - lo).toNat = stepL (out.take (k + 1)) lo hi := by
  unfold stepL
  rw [List.take_succ_eq_append_getElem h, List.flatMap_append, List.getD_eq_getElem?_getD, List.getElem?_eq_getElem h]
  simp
theorem stepL_len (out : List (List Int)) (lo hi : Int) : (stepL out lo hi).length = out.length * (hi + 1 - lo).toNat := by
  unfold stepL
  induction out with
  | nil => simp
  | cons a out ih => rw [List.flatMap_cons, List.length_append, ih]; simp [longer, Nat.add_mul, Nat.add_comm]
def latK (low high : List Int) : Nat → List (List Int)
  | 0 => [[]]
  | k + 1 => stepL (latK low high k) (low.getD k 0) (high.getD k 0)
def latL (low high : List Int) : List (List Int) := latK low high low.length
theorem latK_row (low high : List Int) : ∀ k, ∀ r ∈ latK low high k, r.length = k
  | 0, r, h => by simp [latK] at h; rw [h]; rfl
  | k + 1, r, h => by
    rw [latK, stepL, List.mem_flatMap] at h
    obtain ⟨v, hv, hr⟩ := h
    unfold longer at hr
    rw [List.mem_map] at hr
    obtain ⟨i, -, rfl⟩ := hr
    rw [List.length_append, latK_row low high k v hv]; rfl
/-- all in the box -/
theorem latK_in (low high : List Int) (M : Int) : ∀ k, (∀ j, j < k → -M ≤ low.getD j 0 ∧ high.getD j 0 ≤ M) → ∀ r ∈ latK low high k, allIn r (-M) M = true
  | 0, _, r, h => by simp [latK] at h; rw [h]; rfl
  | k + 1, hb, r, h => by
    rw [latK, stepL, List.mem_flatMap] at h
    obtain ⟨v, hv, hr⟩ := h
    unfold longer at hr
    rw [List.mem_map] at hr
    obtain ⟨i, hi, rfl⟩ := hr
    rw [List.mem_range] at hi
    have := latK_in low high M k (fun j hj => hb j (by omega)) v hv
    have h2 := hb k (by omega)
    unfold allIn at *
    rw [List.all_append, this]
    generalize low.getD k 0 = a at *
    generalize high.getD k 0 = c at *
    simp [inB]; omega
end Go.Proofs.YtehhoplenloocaaGreat
