/- Hermite's form as the code reckons it (64 bits, with the wrap): plain law. -/
import Derived.Test.YtehhoplenloocaaWrp
namespace Go.Proofs.Ytehhoplenloocaa
open Go.RowKit
set_option linter.unusedVariables false
set_option linter.unusedSimpArgs false

theorem wrap_ex (x : Int) : ∃ t, wrap64 x = x + 18446744073709551616 * t := ⟨-((x + 9223372036854775808) / 18446744073709551616), by unfold wrap64; omega⟩
theorem wrap_in (x : Int) : -9223372036854775808 ≤ wrap64 x ∧ wrap64 x ≤ 9223372036854775807 := by unfold wrap64; omega
theorem wrap_eq {x y : Int} (h : ∃ t, x = y + 18446744073709551616 * t) : wrap64 x = wrap64 y := by
  obtain ⟨t, rfl⟩ := h; unfold wrap64; omega
theorem wrap_id {x : Int} (h : -9223372036854775808 ≤ x ∧ x ≤ 9223372036854775807) : wrap64 x = x := by unfold wrap64; omega
theorem wrap_sub (x y : Int) : ∃ t, wrap64 (x - wrap64 y) = x - y + 18446744073709551616 * t := by
  obtain ⟨s, hs⟩ := wrap_ex y
  obtain ⟨t, ht⟩ := wrap_ex (x - wrap64 y)
  exact ⟨t - s, by rw [ht, hs]; omega⟩
/-- a square matrix -/
structure Sq (n : Nat) (M : List (List Int)) : Prop where
  len : M.length = n
  row : ∀ i, i < n → (M.getD i []).length = n
def neW (a : List Int) : List Int := a.map (fun x => wrap64 (x * -1))
theorem neW_len (a : List Int) : (neW a).length = a.length := by simp [neW]
theorem getD_setR {M : List (List Int)} {k i : Nat} {r : List Int} (h : k < M.length) : (M.set k r).getD i [] = if i = k then r else M.getD i [] := by
  rw [List.getD_eq_getElem?_getD, List.getElem?_set]
  by_cases e : k = i
  · subst e; simp [h]
  · rw [if_neg e, if_neg (fun e' => e e'.symm), ← List.getD_eq_getElem?_getD]
theorem Sq.set {n k : Nat} {M : List (List Int)} (h : Sq n M) (hk : k < n) {r : List Int} (hr : r.length = n) : Sq n (M.set k r) := by
  refine ⟨by rw [List.length_set]; exact h.len, fun i hi => ?_⟩
  rw [getD_setR (by rw [h.len]; exact hk)]
  split
  · exact hr
  · exact h.row i hi
def dN : List (List Int) → Int
  | [[a]] => a
  | [[a, b], [c, d]] => a * d - b * c
  | [[a, b, c], [d, e, f], [g, h, i]] => a * (e * i - f * h) - b * (d * i - f * g) + c * (d * h - e * g)
  | _ => 0
theorem lenE1 {r : List Int} (h : r.length = 1) : ∃ a, r = [a] := by
  match r, h with | [a], _ => exact ⟨a, rfl⟩
theorem lenE2 {r : List Int} (h : r.length = 2) : ∃ a b, r = [a, b] := by
  match r, h with | [a, b], _ => exact ⟨a, b, rfl⟩
theorem lenE3 {r : List Int} (h : r.length = 3) : ∃ a b c, r = [a, b, c] := by
  match r, h with | [a, b, c], _ => exact ⟨a, b, c, rfl⟩
theorem Sq.one {M : List (List Int)} (h : Sq 1 M) : ∃ a, M = [[a]] := by
  match M, h.len with
  | [r], _ =>
    obtain ⟨a, e⟩ := lenE1 (h.row 0 (by omega))
    exact ⟨a, by rw [show r = [a] from e]⟩
theorem Sq.two {M : List (List Int)} (h : Sq 2 M) : ∃ a b c d, M = [[a, b], [c, d]] := by
  match M, h.len with
  | [r, s], _ =>
    obtain ⟨a, b, e⟩ := lenE2 (h.row 0 (by omega))
    obtain ⟨c, d, e2⟩ := lenE2 (h.row 1 (by omega))
    exact ⟨a, b, c, d, by rw [show r = [a, b] from e, show s = [c, d] from e2]⟩
theorem Sq.three {M : List (List Int)} (h : Sq 3 M) : ∃ a b c d e f g i j, M = [[a, b, c], [d, e, f], [g, i, j]] := by
  match M, h.len with
  | [r, s, t], _ =>
    obtain ⟨a, b, c, e1⟩ := lenE3 (h.row 0 (by omega))
    obtain ⟨d, e, f, e2⟩ := lenE3 (h.row 1 (by omega))
    obtain ⟨g, i, j, e3⟩ := lenE3 (h.row 2 (by omega))
    exact ⟨a, b, c, d, e, f, g, i, j, by rw [show r = [a, b, c] from e1, show s = [d, e, f] from e2, show t = [g, i, j] from e3]⟩
/-- the step of Euclid on the rows k and r, by any quotient -/
def stepQ (k r : Nat) (q : Int) (M : List (List Int)) : List (List Int) := (M.set k (M.getD r [])).set r (subW (M.getD k []) (M.getD r []) q)
theorem stepQ_sq {n k r : Nat} {M : List (List Int)} (h : Sq n M) (hk : k < n) (hr : r < n) (q : Int) : Sq n (stepQ k r q M) :=
  (h.set hk (h.row r hr)).set hr (by rw [subW_len _ (by rw [h.row k hk, h.row r hr]), h.row k hk])
theorem step_d {n k r : Nat} {M : List (List Int)} (h : Sq n M) (h3 : n ≤ 3) (hk : k < r) (hr : r < n) (q : Int) : ∃ t, dN (stepQ k r q M) = -dN M + 18446744073709551616 * t := by
  rcases (show n = 1 ∨ n = 2 ∨ n = 3 by omega) with rfl | rfl | rfl
  · omega
  · obtain ⟨a, b, c, d, rfl⟩ := h.two
    obtain rfl : k = 0 := by omega
    obtain rfl : r = 1 := by omega
    obtain ⟨t1, h1⟩ := wrap_sub a (c * q)
    obtain ⟨t2, h2⟩ := wrap_sub b (d * q)
    show ∃ t, dN [[c, d], [wrap64 (a - wrap64 (c * q)), wrap64 (b - wrap64 (d * q))]] = _
    rw [h1, h2]
    exact ⟨dN [[c, d], [t1, t2]], by simp only [dN]; grind⟩
  · obtain ⟨a, b, c, d, e, f, g, i, j, rfl⟩ := h.three
    rcases (show (k = 0 ∧ r = 1) ∨ (k = 0 ∧ r = 2) ∨ (k = 1 ∧ r = 2) by omega) with ⟨rfl, rfl⟩ | ⟨rfl, rfl⟩ | ⟨rfl, rfl⟩
    · obtain ⟨t1, h1⟩ := wrap_sub a (d * q)
      obtain ⟨t2, h2⟩ := wrap_sub b (e * q)
      obtain ⟨t3, h3⟩ := wrap_sub c (f * q)
      show ∃ t, dN [[d, e, f], [wrap64 (a - wrap64 (d * q)), wrap64 (b - wrap64 (e * q)), wrap64 (c - wrap64 (f * q))], [g, i, j]] = _
      rw [h1, h2, h3]
      exact ⟨dN [[d, e, f], [t1, t2, t3], [g, i, j]], by simp only [dN]; grind⟩
    · obtain ⟨t1, h1⟩ := wrap_sub a (g * q)
      obtain ⟨t2, h2⟩ := wrap_sub b (i * q)
      obtain ⟨t3, h3⟩ := wrap_sub c (j * q)
      show ∃ t, dN [[g, i, j], [d, e, f], [wrap64 (a - wrap64 (g * q)), wrap64 (b - wrap64 (i * q)), wrap64 (c - wrap64 (j * q))]] = _
      rw [h1, h2, h3]
      exact ⟨dN [[g, i, j], [d, e, f], [t1, t2, t3]], by simp only [dN]; grind⟩
    · obtain ⟨t1, h1⟩ := wrap_sub d (g * q)
      obtain ⟨t2, h2⟩ := wrap_sub e (i * q)
      obtain ⟨t3, h3⟩ := wrap_sub f (j * q)
      show ∃ t, dN [[a, b, c], [g, i, j], [wrap64 (d - wrap64 (g * q)), wrap64 (e - wrap64 (i * q)), wrap64 (f - wrap64 (j * q))]] = _
      rw [h1, h2, h3]
      exact ⟨dN [[a, b, c], [g, i, j], [t1, t2, t3]], by simp only [dN]; grind⟩
theorem wrap_neg (x : Int) : ∃ t, wrap64 (x * -1) = -x + 18446744073709551616 * t := by
  obtain ⟨t, ht⟩ := wrap_ex (x * -1)
  exact ⟨t, by rw [ht]; omega⟩
theorem neg_d {n k : Nat} {M : List (List Int)} (h : Sq n M) (h3 : n ≤ 3) (hk : k < n) : ∃ t, dN (M.set k (neW (M.getD k []))) = -dN M + 18446744073709551616 * t := by
  rcases (show n = 1 ∨ n = 2 ∨ n = 3 by omega) with rfl | rfl | rfl
  · obtain ⟨a, rfl⟩ := h.one
    obtain rfl : k = 0 := by omega
    obtain ⟨t1, h1⟩ := wrap_neg a
    show ∃ t, dN [[wrap64 (a * -1)]] = _
    rw [h1]
    exact ⟨t1, by simp only [dN]⟩
  · obtain ⟨a, b, c, d, rfl⟩ := h.two
    rcases (show k = 0 ∨ k = 1 by omega) with rfl | rfl
    · obtain ⟨t1, h1⟩ := wrap_neg a
      obtain ⟨t2, h2⟩ := wrap_neg b
      show ∃ t, dN [[wrap64 (a * -1), wrap64 (b * -1)], [c, d]] = _
      rw [h1, h2]
      exact ⟨dN [[t1, t2], [c, d]], by simp only [dN]; grind⟩
    · obtain ⟨t1, h1⟩ := wrap_neg c
      obtain ⟨t2, h2⟩ := wrap_neg d
      show ∃ t, dN [[a, b], [wrap64 (c * -1), wrap64 (d * -1)]] = _
      rw [h1, h2]
      exact ⟨dN [[a, b], [t1, t2]], by simp only [dN]; grind⟩
  · obtain ⟨a, b, c, d, e, f, g, i, j, rfl⟩ := h.three
    rcases (show k = 0 ∨ k = 1 ∨ k = 2 by omega) with rfl | rfl | rfl
    · obtain ⟨t1, h1⟩ := wrap_neg a
      obtain ⟨t2, h2⟩ := wrap_neg b
      obtain ⟨t3, h3⟩ := wrap_neg c
      show ∃ t, dN [[wrap64 (a * -1), wrap64 (b * -1), wrap64 (c * -1)], [d, e, f], [g, i, j]] = _
      rw [h1, h2, h3]
      exact ⟨dN [[t1, t2, t3], [d, e, f], [g, i, j]], by simp only [dN]; grind⟩
    · obtain ⟨t1, h1⟩ := wrap_neg d
      obtain ⟨t2, h2⟩ := wrap_neg e
      obtain ⟨t3, h3⟩ := wrap_neg f
      show ∃ t, dN [[a, b, c], [wrap64 (d * -1), wrap64 (e * -1), wrap64 (f * -1)], [g, i, j]] = _
      rw [h1, h2, h3]
      exact ⟨dN [[a, b, c], [t1, t2, t3], [g, i, j]], by simp only [dN]; grind⟩
    · obtain ⟨t1, h1⟩ := wrap_neg g
      obtain ⟨t2, h2⟩ := wrap_neg i
      obtain ⟨t3, h3⟩ := wrap_neg j
      show ∃ t, dN [[a, b, c], [d, e, f], [wrap64 (g * -1), wrap64 (i * -1), wrap64 (j * -1)]] = _
      rw [h1, h2, h3]
      exact ⟨dN [[a, b, c], [d, e, f], [t1, t2, t3]], by simp only [dN]; grind⟩
/-- row j less a multiple of row k -/
def subR (j k : Nat) (q : Int) (M : List (List Int)) : List (List Int) := M.set j (subW (M.getD j []) (M.getD k []) q)
theorem subR_sq {n j k : Nat} {M : List (List Int)} (h : Sq n M) (hj : j < n) (hk : k < n) (q : Int) : Sq n (subR j k q M) :=
  h.set hj (by rw [subW_len _ (by rw [h.row k hk, h.row j hj]), h.row j hj])
theorem red_d {n j k : Nat} {M : List (List Int)} (h : Sq n M) (h3 : n ≤ 3) (hj : j < k) (hk : k < n) (q : Int) : ∃ t, dN (subR j k q M) = dN M + 18446744073709551616 * t := by
  rcases (show n = 1 ∨ n = 2 ∨ n = 3 by omega) with rfl | rfl | rfl
  · omega
  · obtain ⟨a, b, c, d, rfl⟩ := h.two
    obtain rfl : j = 0 := by omega
    obtain rfl : k = 1 := by omega
    obtain ⟨t1, h1⟩ := wrap_sub a (c * q)
    obtain ⟨t2, h2⟩ := wrap_sub b (d * q)
    show ∃ t, dN [[wrap64 (a - wrap64 (c * q)), wrap64 (b - wrap64 (d * q))], [c, d]] = _
    rw [h1, h2]
    exact ⟨dN [[t1, t2], [c, d]], by simp only [dN]; grind⟩
  · obtain ⟨a, b, c, d, e, f, g, i, m, rfl⟩ := h.three
    rcases (show (j = 0 ∧ k = 1) ∨ (j = 0 ∧ k = 2) ∨ (j = 1 ∧ k = 2) by omega) with ⟨rfl, rfl⟩ | ⟨rfl, rfl⟩ | ⟨rfl, rfl⟩
    · obtain ⟨t1, h1⟩ := wrap_sub a (d * q)
      obtain ⟨t2, h2⟩ := wrap_sub b (e * q)
      obtain ⟨t3, h3⟩ := wrap_sub c (f * q)
      show ∃ t, dN [[wrap64 (a - wrap64 (d * q)), wrap64 (b - wrap64 (e * q)), wrap64 (c - wrap64 (f * q))], [d, e, f], [g, i, m]] = _
      rw [h1, h2, h3]
      exact ⟨dN [[t1, t2, t3], [d, e, f], [g, i, m]], by simp only [dN]; grind⟩
    · obtain ⟨t1, h1⟩ := wrap_sub a (g * q)
      obtain ⟨t2, h2⟩ := wrap_sub b (i * q)
      obtain ⟨t3, h3⟩ := wrap_sub c (m * q)
      show ∃ t, dN [[wrap64 (a - wrap64 (g * q)), wrap64 (b - wrap64 (i * q)), wrap64 (c - wrap64 (m * q))], [d, e, f], [g, i, m]] = _
      rw [h1, h2, h3]
      exact ⟨dN [[t1, t2, t3], [d, e, f], [g, i, m]], by simp only [dN]; grind⟩
    · obtain ⟨t1, h1⟩ := wrap_sub d (g * q)
      obtain ⟨t2, h2⟩ := wrap_sub e (i * q)
      obtain ⟨t3, h3⟩ := wrap_sub f (m * q)
      show ∃ t, dN [[a, b, c], [wrap64 (d - wrap64 (g * q)), wrap64 (e - wrap64 (i * q)), wrap64 (f - wrap64 (m * q))], [g, i, m]] = _
      rw [h1, h2, h3]
      exact ⟨dN [[a, b, c], [t1, t2, t3], [g, i, m]], by simp only [dN]; grind⟩
/-- the determinant is no multiple of 2^64 -/
def NZ (M : List (List Int)) : Prop := ∀ t, dN M ≠ 18446744073709551616 * t
theorem NZ.neg {M N : List (List Int)} (h : NZ M) (e : ∃ t, dN N = -dN M + 18446744073709551616 * t) : NZ N := by
  obtain ⟨s, e⟩ := e
  intro t ht
  exact h (s - t) (by omega)
theorem NZ.same {M N : List (List Int)} (h : NZ M) (e : ∃ t, dN N = dN M + 18446744073709551616 * t) : NZ N := by
  obtain ⟨s, e⟩ := e
  intro t ht
  exact h (t - s) (by omega)
def atM (M : List (List Int)) (i j : Nat) : Int := (M.getD i []).getD j 0
/-- below the diagonal the first k columns are nought -/
def Tri (n k : Nat) (M : List (List Int)) : Prop := ∀ c, c < k → ∀ i, c < i → i < n → atM M i c = 0
theorem diag_nz {n k : Nat} {M : List (List Int)} (h : Sq n M) (h3 : n ≤ 3) (hk : k < n) (ht : Tri n (k + 1) M) (hz : NZ M) : ¬ atM M k k = 0 := by
  intro e0
  refine hz 0 ?_
  rcases (show n = 1 ∨ n = 2 ∨ n = 3 by omega) with rfl | rfl | rfl
  · obtain ⟨a, rfl⟩ := h.one
    obtain rfl : k = 0 := by omega
    obtain rfl : a = 0 := e0
    rfl
  · obtain ⟨a, b, c, d, rfl⟩ := h.two
    obtain rfl : c = 0 := ht 0 (by omega) 1 (by omega) (by omega)
    rcases (show k = 0 ∨ k = 1 by omega) with rfl | rfl
    · obtain rfl : a = 0 := e0
      simp [dN]
    · obtain rfl : d = 0 := e0
      simp [dN]
  · obtain ⟨a, b, c, d, e, f, g, i, j, rfl⟩ := h.three
    obtain rfl : d = 0 := ht 0 (by omega) 1 (by omega) (by omega)
    obtain rfl : g = 0 := ht 0 (by omega) 2 (by omega) (by omega)
    rcases (show k = 0 ∨ k = 1 ∨ k = 2 by omega) with rfl | rfl | rfl
    · obtain rfl : a = 0 := e0
      simp [dN]
    · obtain rfl : i = 0 := ht 1 (by omega) 2 (by omega) (by omega)
      obtain rfl : e = 0 := e0
      simp [dN]
    · obtain rfl : i = 0 := ht 1 (by omega) 2 (by omega) (by omega)
      obtain rfl : j = 0 := e0
      simp [dN]
def InR (M : List (List Int)) : Prop := ∀ i j, -9223372036854775808 ≤ atM M i j ∧ atM M i j ≤ 9223372036854775807
theorem subW_at (a b : List Int) (q : Int) (hl : a.length = b.length) {j : Nat} (hj : j < a.length) : (subW a b q).getD j 0 = wrap64 (a.getD j 0 - wrap64 (b.getD j 0 * q)) := by
  unfold subW
  rw [List.getD_eq_getElem?_getD, List.getElem?_zipWith, List.getElem?_eq_getElem hj, List.getElem?_eq_getElem (show j < b.length by omega)]
  simp [List.getD_eq_getElem?_getD, List.getElem?_eq_getElem hj, List.getElem?_eq_getElem (show j < b.length by omega)]
theorem subW_in (a b : List Int) (q : Int) (j : Nat) : -9223372036854775808 ≤ (subW a b q).getD j 0 ∧ (subW a b q).getD j 0 ≤ 9223372036854775807 := by
  rw [List.getD_eq_getElem?_getD]
  cases h : (subW a b q)[j]? with
  | none => simp
  | some x =>
    unfold subW at h
    rw [List.getElem?_zipWith] at h
    cases h1 : a[j]? <;> cases h2 : b[j]? <;> rw [h1, h2] at h <;> simp at h
    subst h
    exact wrap_in _
theorem neW_in (a : List Int) (j : Nat) : -9223372036854775808 ≤ (neW a).getD j 0 ∧ (neW a).getD j 0 ≤ 9223372036854775807 := by
  rw [List.getD_eq_getElem?_getD]
  unfold neW
  rw [List.getElem?_map]
  cases h : a[j]? with
  | none => simp
  | some x => exact wrap_in _
theorem atM_set {M : List (List Int)} {k i j : Nat} {r : List Int} (h : k < M.length) : atM (M.set k r) i j = if i = k then r.getD j 0 else atM M i j := by
  unfold atM; rw [getD_setR h]; split <;> rfl
theorem InR.set {M : List (List Int)} (h : InR M) {k : Nat} (hk : k < M.length) {r : List Int} (hr : ∀ j, -9223372036854775808 ≤ r.getD j 0 ∧ r.getD j 0 ≤ 9223372036854775807) : InR (M.set k r) := by
  intro i j
  rw [atM_set hk]
  split
  · exact hr j
  · exact h i j
theorem stepQ_at {n k r : Nat} {M : List (List Int)} (h : Sq n M) (hk : k < n) (hr : r < n) (hkr : k ≠ r) (q : Int) (i : Nat) {j : Nat} (hj : j < n) :
    atM (stepQ k r q M) i j = if i = r then wrap64 (atM M k j - wrap64 (atM M r j * q)) else if i = k then atM M r j else atM M i j := by
  unfold stepQ
  rw [atM_set (by rw [List.length_set, h.len]; exact hr)]
  split
  · exact subW_at _ _ _ (by rw [h.row k hk, h.row r hr]) (by rw [h.row k hk]; exact hj)
  · rw [atM_set (by rw [h.len]; exact hk)]; rfl
theorem subR_at {n s k : Nat} {M : List (List Int)} (h : Sq n M) (hs : s < n) (hk : k < n) (q : Int) (i : Nat) {j : Nat} (hj : j < n) :
    atM (subR s k q M) i j = if i = s then wrap64 (atM M s j - wrap64 (atM M k j * q)) else atM M i j := by
  unfold subR
  rw [atM_set (by rw [h.len]; exact hs)]
  split
  · exact subW_at _ _ _ (by rw [h.row k hk, h.row s hs]) (by rw [h.row s hs]; exact hj)
  · rfl
theorem euc_rem {x y : Int} (hy : ¬ y = 0) (hy2 : -9223372036854775808 ≤ y ∧ y ≤ 9223372036854775807) : wrap64 (x - wrap64 (y * wrap64 (x.tdiv y))) = x.tmod y := by
  have hb := tmod_bd x y hy
  have hm := Int.mul_tdiv_add_tmod x y
  obtain ⟨s, hs⟩ := wrap_ex (x.tdiv y)
  obtain ⟨t, ht⟩ := wrap_sub x (y * wrap64 (x.tdiv y))
  have e : wrap64 (x.tmod y) = x.tmod y := wrap_id (by omega)
  rw [← e]
  have e2 : wrap64 (wrap64 (x - wrap64 (y * wrap64 (x.tdiv y)))) = wrap64 (x - wrap64 (y * wrap64 (x.tdiv y))) := wrap_id (wrap_in _)
  rw [← e2]
  refine wrap_eq ⟨t - y * s, ?_⟩
  rw [ht, hs, Int.mul_add]
  have e3 : y * (18446744073709551616 * s) = 18446744073709551616 * (y * s) := by rw [← Int.mul_assoc, Int.mul_comm y, Int.mul_assoc]
  rw [e3, Int.mul_sub]
  omega
theorem wrap_zero (q : Int) : wrap64 (0 - wrap64 (0 * q)) = 0 := by rw [Int.zero_mul]; unfold wrap64; decide
/-- what holds at the start of the column k -/
structure HI (n k : Nat) (M : List (List Int)) : Prop where
  sq : Sq n M
  inr : InR M
  tri : Tri n k M
  nz : NZ M
def qE (k r : Nat) (M : List (List Int)) : Int := wrap64 ((atM M k k).tdiv (atM M r k))
theorem HI.step {n k r : Nat} {M : List (List Int)} (h : HI n k M) (h3 : n ≤ 3) (hk : k < r) (hr : r < n) (q : Int) : HI n k (stepQ k r q M) := by
  refine ⟨stepQ_sq h.sq (by omega) hr q, ?_, ?_, h.nz.neg (step_d h.sq h3 hk hr q)⟩
  · unfold stepQ
    exact (h.inr.set (by rw [h.sq.len]; omega) (fun j => h.inr r j)).set (by rw [List.length_set, h.sq.len]; exact hr) (subW_in _ _ _)
  · intro c hc i hi hin
    rw [stepQ_at h.sq (by omega) hr (by omega) q i (by omega)]
    split
    · rw [h.tri c hc k (by omega) (by omega), h.tri c hc r (by omega) hr]; exact wrap_zero q
    · split
      · exact h.tri c hc r (by omega) hr
      · exact h.tri c hc i hi hin
def eucM : Nat → Nat → Nat → List (List Int) → List (List Int)
  | 0, _, _, M => M
  | f + 1, k, r, M => if atM M r k = 0 then M else eucM f k r (stepQ k r (qE k r M) M)
theorem eucM_all {n k r : Nat} (h3 : n ≤ 3) (hk : k < r) (hr : r < n) : ∀ f (M : List (List Int)), HI n k M → HI n k (eucM f k r M) ∧ (∀ i, i ≠ k → i ≠ r → ∀ j, j < n → atM (eucM f k r M) i j = atM M i j) ∧ ((atM M r k).natAbs ≤ f → atM (eucM f k r M) r k = 0)
  | 0, M, h => ⟨h, fun _ _ _ _ _ => rfl, fun e => by show atM M r k = 0; omega⟩
  | f + 1, M, h => by
    unfold eucM
    by_cases e : atM M r k = 0
    · rw [if_pos e]; exact ⟨h, fun _ _ _ _ _ => rfl, fun _ => e⟩
    · rw [if_neg e]
      obtain ⟨g1, g2, g3⟩ := eucM_all h3 hk hr f (stepQ k r (qE k r M) M) (h.step h3 hk hr _)
      refine ⟨g1, fun i hi hi2 j hj => ?_, fun hf => g3 ?_⟩
      · rw [g2 i hi hi2 j hj, stepQ_at h.sq (by omega) hr (by omega) _ i hj, if_neg hi2, if_neg hi]
      · rw [stepQ_at h.sq (by omega) hr (by omega) _ r (by omega), if_pos rfl]
        unfold qE
        rw [euc_rem e (h.inr r k)]
        have := tmod_natAbs (atM M k k) (atM M r k) e
        omega
/-- the rows k+1 .. k+i of the column k -/
def colS (k : Nat) : Nat → List (List Int) → List (List Int)
  | 0, M => M
  | i + 1, M => eucM (atM (colS k i M) (k + 1 + i) k).natAbs k (k + 1 + i) (colS k i M)
theorem colS_all {n k : Nat} {M : List (List Int)} (h : HI n k M) (h3 : n ≤ 3) : ∀ i, k + 1 + i ≤ n → HI n k (colS k i M) ∧ ∀ r, k < r → r < k + 1 + i → atM (colS k i M) r k = 0
  | 0, _ => ⟨h, fun r h1 h2 => by omega⟩
  | i + 1, hi => by
    obtain ⟨g1, g2⟩ := colS_all h h3 i (by omega)
    obtain ⟨e1, e2, e3⟩ := eucM_all (n := n) (k := k) (r := k + 1 + i) h3 (by omega) (by omega) (atM (colS k i M) (k + 1 + i) k).natAbs _ g1
    refine ⟨e1, fun r h1 h2 => ?_⟩
    show atM (eucM _ _ _ _) r k = 0
    by_cases e : r = k + 1 + i
    · subst e; exact e3 (Nat.le_refl _)
    · rw [e2 r (by omega) e k (by omega)]; exact g2 r h1 (by omega)
theorem colS_end {n k : Nat} {M : List (List Int)} (h : HI n k M) (h3 : n ≤ 3) (hk : k < n) : HI n (k + 1) (colS k (n - 1 - k) M) := by
  obtain ⟨g1, g2⟩ := colS_all h h3 (n - 1 - k) (by omega)
  refine ⟨g1.sq, g1.inr, fun c hc i hi hin => ?_, g1.nz⟩
  by_cases e : c = k
  · subst e; exact g2 i hi (by omega)
  · exact g1.tri c (by omega) i hi hin
def negS (k : Nat) (M : List (List Int)) : List (List Int) := if atM M k k < 0 then M.set k (neW (M.getD k [])) else M
theorem neW_at0 {a : List Int} {j : Nat} (h : a.getD j 0 = 0) : (neW a).getD j 0 = 0 := by
  rw [List.getD_eq_getElem?_getD] at h ⊢
  unfold neW
  rw [List.getElem?_map]
  cases e : a[j]? with
  | none => rfl
  | some x => rw [e] at h; obtain rfl : x = 0 := h; show wrap64 (0 * -1) = 0; unfold wrap64; decide
theorem negS_hi {n k : Nat} {M : List (List Int)} (h : HI n (k + 1) M) (h3 : n ≤ 3) (hk : k < n) : HI n (k + 1) (negS k M) := by
  unfold negS
  split
  · have hl : k < M.length := by rw [h.sq.len]; exact hk
    refine ⟨h.sq.set hk (by rw [neW_len]; exact h.sq.row k hk), h.inr.set hl (neW_in _), fun c hc i hi hin => ?_, h.nz.neg (neg_d h.sq h3 hk)⟩
    rw [atM_set hl]
    split
    · rename_i e; subst e; exact neW_at0 (h.tri c hc i hi hin)
    · exact h.tri c hc i hi hin
  · exact h
def redS (k : Nat) : Nat → List (List Int) → List (List Int)
  | 0, M => M
  | j + 1, M => subR j k (flW (atM (redS k j M) j k) (atM (redS k j M) k k)) (redS k j M)
theorem redS_hi {n k : Nat} {M : List (List Int)} (h : HI n (k + 1) M) (h3 : n ≤ 3) (hk : k < n) : ∀ j, j ≤ k → HI n (k + 1) (redS k j M)
  | 0, _ => h
  | j + 1, hj => by
    have g := redS_hi h h3 hk j (by omega)
    have hl : j < (redS k j M).length := by rw [g.sq.len]; omega
    refine ⟨subR_sq g.sq (by omega) hk _, g.inr.set hl (subW_in _ _ _), fun c hc i hi hin => ?_, g.nz.same (red_d g.sq h3 (by omega) hk _)⟩
    show atM (subR j k _ _) i c = 0
    rw [subR_at g.sq (by omega) hk _ i (by omega)]
    split
    · rename_i e; subst e
      rw [g.tri c (by omega) i hi (by omega), g.tri c (by omega) k (by omega) hk]; exact wrap_zero _
    · exact g.tri c hc i hi hin
def herK (n k : Nat) (M : List (List Int)) : List (List Int) := redS k k (negS k (colS k (n - 1 - k) M))
theorem herK_hi {n k : Nat} {M : List (List Int)} (h : HI n k M) (h3 : n ≤ 3) (hk : k < n) : HI n (k + 1) (herK n k M) :=
  redS_hi (negS_hi (colS_end h h3 hk) h3 hk) h3 hk k (Nat.le_refl _)
def herS (n : Nat) : Nat → List (List Int) → List (List Int)
  | 0, M => M
  | k + 1, M => herK n k (herS n k M)
theorem herS_hi {n : Nat} {M : List (List Int)} (h : HI n 0 M) (h3 : n ≤ 3) : ∀ k, k ≤ n → HI n k (herS n k M)
  | 0, _ => h
  | k + 1, hk => herK_hi (herS_hi h h3 k (by omega)) h3 (by omega)
def herM (M : List (List Int)) : List (List Int) := herS M.length M.length M
end Go.Proofs.Ytehhoplenloocaa
