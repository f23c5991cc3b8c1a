/- Tetrahedra: the plain law. -/
import Derived.Test.YtehhoplenloocaaB4
namespace Go.Proofs.Ytehhoplenloocaa
set_option linter.unusedVariables false
set_option linter.unusedSimpArgs false

def tetRow (r : List Int) : Bool := decide (r.length = 3) && allIn r 0 4
/-- the determinant of three rows, laid out -/
def dd (a0 a1 a2 b0 b1 b2 c0 c1 c2 : Int) : Int := a0 * (b1 * c2 - b2 * c1) + a1 * (b2 * c0 - b0 * c2) + a2 * (b0 * c1 - b1 * c0)
def det3 (m : List (List Int)) : Int :=
  dd ((m.getD 0 []).getD 0 0) ((m.getD 0 []).getD 1 0) ((m.getD 0 []).getD 2 0) ((m.getD 1 []).getD 0 0) ((m.getD 1 []).getD 1 0) ((m.getD 1 []).getD 2 0) ((m.getD 2 []).getD 0 0) ((m.getD 2 []).getD 1 0) ((m.getD 2 []).getD 2 0)
def edgesF (p : List (List Int)) : List (List Int) := (p.drop 1).map (diff3 · (p.getD 0 []))
def tetraB (p : List (List Int)) : Bool := decide (p.length = 4) && p.all tetRow && decide (det3 (edgesF p) ≠ 0)
theorem len3 {α : Type} {r : List α} (h : r.length = 3) : ∃ a b c, r = [a, b, c] := by
  match r, h with
  | [a, b, c], _ => exact ⟨a, b, c, rfl⟩
theorem len4 {α : Type} {r : List α} (h : r.length = 4) : ∃ a b c d, r = [a, b, c, d] := by
  match r, h with
  | [a, b, c, d], _ => exact ⟨a, b, c, d, rfl⟩
theorem detF_three {m : List (List Int)} (h : SqB 3 m) : detF 3 m = det3 m := by
  obtain ⟨r0, r1, r2, rfl⟩ := len3 h.len
  obtain ⟨a0, a1, a2, rfl⟩ := len3 (h.row 0 (by omega)).1
  obtain ⟨b0, b1, b2, hb⟩ := len3 (h.row 1 (by omega)).1
  obtain ⟨c0, c1, c2, hc⟩ := len3 (h.row 2 (by omega)).1
  simp at hb hc
  subst hb hc
  simp [detF, detSum, minorL_zero, cutAt, sgnN, det3, dd]
  grind
/-- four points of space with small numbers -/
def Four (M : Int) (p : List (List Int)) : Prop := p.length = 4 ∧ ∀ i, i < p.length → (p.getD i []).length = 3 ∧ allIn (p.getD i []) (-M) M = true
theorem allIn3 {x y z lo hi : Int} (hx : lo ≤ x ∧ x ≤ hi) (hy : lo ≤ y ∧ y ≤ hi) (hz : lo ≤ z ∧ z ≤ hi) : allIn [x, y, z] lo hi = true := by
  simp [allIn, inB]; omega
theorem edgesF_sq {p : List (List Int)} (h : Four 50000 p) : SqB 3 (edgesF p) := by
  obtain ⟨r0, r1, r2, r3, rfl⟩ := len4 h.1
  have h0 := h.2 0 (by simp)
  have h1 := h.2 1 (by simp)
  have h2 := h.2 2 (by simp)
  have h3 := h.2 3 (by simp)
  simp at h0 h1 h2 h3
  have key : ∀ r : List Int, r.length = 3 ∧ allIn r (-50000) 50000 = true → (diff3 r r0).length = 3 ∧ allIn (diff3 r r0) (-100000) 100000 = true := by
    intro r ⟨hl, hr⟩
    have a0 := allIn_at h0.2 0 (by omega)
    have a1 := allIn_at h0.2 1 (by omega)
    have a2 := allIn_at h0.2 2 (by omega)
    have b0 := allIn_at hr 0 (by omega)
    have b1 := allIn_at hr 1 (by omega)
    have b2 := allIn_at hr 2 (by omega)
    exact ⟨rfl, allIn3 (by omega) (by omega) (by omega)⟩
  refine ⟨rfl, fun i hi => ?_⟩
  match i, hi with
  | 0, _ => exact key r1 h1
  | 1, _ => exact key r2 h2
  | 2, _ => exact key r3 h3
theorem allIn_wideT {r : List Int} {a b a' b' : Int} (h : allIn r a b = true) (ha : a' ≤ a) (hb : b ≤ b') : allIn r a' b' = true := by
  unfold allIn at *
  rw [List.all_eq_true] at *
  intro x hx
  have := h x hx
  unfold inB at *
  simp at *
  omega
theorem tet_four {p : List (List Int)} (h4 : p.length = 4) (h : ∀ i, i < p.length → tetRow (p.getD i []) = true) : Four 4 p := by
  refine ⟨h4, fun i hi => ?_⟩
  have := h i hi
  unfold tetRow at this
  simp only [Bool.and_eq_true, decide_eq_true_eq] at this
  exact ⟨this.1, allIn_wideT this.2 (by omega) (by omega)⟩
theorem Four.wide {a b : Int} {p : List (List Int)} (h : Four a p) (hab : a ≤ b) : Four b p :=
  ⟨h.1, fun i hi => ⟨(h.2 i hi).1, allIn_wideT (h.2 i hi).2 (by omega) hab⟩⟩
theorem all_of_getD {p : List (List Int)} {f : List Int → Bool} (h : ∀ i, i < p.length → f (p.getD i []) = true) : p.all f = true := by
  rw [List.all_eq_true]
  intro x hx
  obtain ⟨i, hi, rfl⟩ := List.getElem_of_mem hx
  have := h i hi
  rwa [List.getD_eq_getElem?_getD, List.getElem?_eq_getElem hi] at this
theorem getD_of_all {p : List (List Int)} {f : List Int → Bool} (h : p.all f = true) (i : Nat) (hi : i < p.length) : f (p.getD i []) = true := by
  rw [List.all_eq_true] at h
  rw [List.getD_eq_getElem?_getD, List.getElem?_eq_getElem hi]
  exact h _ (List.getElem_mem hi)
theorem tetraB_true {p : List (List Int)} (h : tetraB p = true) : Four 4 p ∧ det3 (edgesF p) ≠ 0 := by
  unfold tetraB at h
  simp only [Bool.and_eq_true, decide_eq_true_eq] at h
  exact ⟨tet_four h.1.1 (getD_of_all h.1.2), h.2⟩
theorem tetraB_row {p : List (List Int)} {i : Nat} (hi : i < p.length) (h : tetRow (p.getD i []) = false) : tetraB p = false := by
  unfold tetraB
  cases ha : p.all tetRow
  · simp
  · rw [getD_of_all ha i hi] at h; cases h
theorem tetraB_len {p : List (List Int)} (h : p.length ≠ 4) : tetraB p = false := by
  unfold tetraB; rw [decide_eq_false h]; rfl
theorem tetraB_eq {p : List (List Int)} (h : p.length = 4) (ha : ∀ i, i < p.length → tetRow (p.getD i []) = true) : tetraB p = (det3 (edgesF p) != 0) := by
  unfold tetraB; rw [decide_eq_true h, all_of_getD ha]
  simp [bne, Bool.beq_eq_decide_eq]
theorem Four.getD {M : Int} {p : List (List Int)} (h : Four M p) (i : Nat) (hi : i < 4) : (p.getD i []).length = 3 ∧ allIn (p.getD i []) (-M) M = true := h.2 i (by rw [h.1]; exact hi)
theorem det3_bd {m : List (List Int)} (h : SqB 3 m) : -6000000000000000 ≤ det3 m ∧ det3 m ≤ 6000000000000000 := by
  have := detF_bd 3 m h
  rw [detF_three h] at this
  simpa [detB] using this
/-- a slice of four rows: its parts -/
theorem ISSr.four {w : World} {hi : Nat} {v : Value} {ls : List (List Int)} (h : ISSr w hi v ls) (h4 : ls.length = 4) :
    ∃ b off cap, ∃ V : Nat → Value, v = .slice (some ⟨b, off, none⟩) 4 cap ∧ b < hi ∧ 4 ≤ cap ∧ (∀ i, i < 4 → w.cell? ⟨b, off + i, none⟩ = some (V i) ∧ ISr w hi (V i) (ls.getD i [])) ∧ ISSr w hi (.slice (some ⟨b, off + 1, none⟩) 3 (cap - 1)) (ls.drop 1) := by
  obtain ⟨a, cap, hv, h1, h2, h3⟩ := h
  obtain ⟨b, off, V, rfl, hb, hc⟩ := h3 (by intro e; rw [e] at h4; cases h4)
  rw [h4] at hv h1 hc
  refine ⟨b, off, cap, V, hv, hb, h1, hc, _, _, by rw [List.length_drop, h4], by rw [List.length_drop, h4]; omega, by omega, fun _ => ⟨b, off + 1, fun i => V (i + 1), rfl, hb, fun i hi => ?_⟩⟩
  rw [List.length_drop, h4] at hi
  have := hc (i + 1) (by omega)
  refine ⟨by rw [show off + 1 + i = off + (i + 1) by omega]; exact this.1, ?_⟩
  rw [List.getD_eq_getElem?_getD, List.getElem?_drop, ← List.getD_eq_getElem?_getD, show 1 + i = i + 1 by omega]
  exact this.2
theorem Four.drop {M : Int} {p : List (List Int)} (h : Four M p) : ∀ i, i < (p.drop 1).length → ((p.drop 1).getD i []).length = 3 ∧ allIn ((p.drop 1).getD i []) (-M) M = true := by
  intro i hi
  rw [List.length_drop] at hi
  rw [List.getD_eq_getElem?_getD, List.getElem?_drop, ← List.getD_eq_getElem?_getD]
  exact h.2 (1 + i) (by omega)
end Go.Proofs.Ytehhoplenloocaa
