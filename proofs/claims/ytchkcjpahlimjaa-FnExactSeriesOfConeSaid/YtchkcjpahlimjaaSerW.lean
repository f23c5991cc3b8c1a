/- The series of a cone: bounds for the law. -/
import Derived.Test.YtchkcjpahlimjaaSerS
namespace Go.Proofs.Ytchkcjpahlimjaa
open Go.RowKit
set_option linter.unusedVariables false
set_option linter.unusedSimpArgs false

theorem mtK_le {ts : List TermL} {c : Nat} (h : ∀ i, i < ts.length → mk1 (ts.getD i t0) ≤ c) : ∀ k, k ≤ ts.length → mtK ts k ≤ c * k
  | 0, _ => by simp [mtK]
  | k + 1, hk => by
    have h1 := mtK_le h k (by omega)
    have h2 := h k (by omega)
    rw [show mtK ts (k + 1) = mtK ts k + mk1 (ts.getD k t0) from rfl, Nat.mul_add]
    omega
theorem row2 {L : List (List Int)} (h : SplAll L) (i : Nat) : (L.getD i []).length ≤ 2 := by
  by_cases hi : i < L.length
  · obtain ⟨a, b, e, -⟩ := h.row i hi; rw [e]; simp
  · rw [List.getD_eq_getElem?_getD, List.getElem?_eq_none (by omega)]; simp
theorem serL_mem {L : List (List Int)} {sh : List Int} {P : TermL → Prop} (h1 : ∀ k, P (posT L sh k)) (h2 : ∀ k, P (negT L sh k)) : ∀ i, i < (serL L sh).length → P ((serL L sh).getD i t0) := by
  intro i hi
  rw [List.getD_eq_getElem?_getD, List.getElem?_eq_getElem hi]
  have := List.getElem_mem hi
  unfold serL at this
  rw [List.mem_append] at this
  rcases this with h | h
  · obtain ⟨k, -, e⟩ := List.mem_map.1 h; unfold serL; rw [Option.getD_some, ← e]; exact h1 k
  · obtain ⟨k, -, e⟩ := List.mem_map.1 h; unfold serL; rw [Option.getD_some, ← e]; exact h2 k
theorem serL_len (L : List (List Int)) (sh : List Int) : (serL L sh).length = (L.length - 1) + (L.length - 2) := by simp [serL]
theorem serC_tot (U V sh : List Int) : mtT (serC U V sh).1 ≤ 1000 ∧ (serC U V sh).1.length ≤ 60 := by
  cases h : serOk (splitC U V) sh
  · rw [serC_no h]; simp [mtT, mtK]
  · rw [serC_yes h]
    have hall := (splitC_all U V).1
    generalize splitC U V = L at *
    unfold serOk at h
    simp only [Bool.and_eq_true, decide_eq_true_eq] at h
    obtain ⟨h1, h2, h3, h4⟩ := h
    have hm : ∀ i, i < (serL L sh).length → mk1 ((serL L sh).getD i t0) ≤ 7 := serL_mem (P := fun t => mk1 t ≤ 7) (fun k => by
      have a := row2 hall k
      have b := row2 hall (k + 1)
      unfold mk1 posT
      simp only [totL, List.length_cons, List.length_nil, List.getD_cons_zero, List.getD_cons_succ]
      rw [h3]
      omega) (fun k => by
      have b := row2 hall (k + 1)
      unfold mk1 negT
      simp only [totL, List.length_cons, List.length_nil, List.getD_cons_zero]
      rw [h3]
      omega)
    have := mtK_le hm _ (Nat.le_refl _)
    have hl := serL_len L sh
    constructor
    · show mtK (serL L sh) (serL L sh).length ≤ 1000; omega
    · show (serL L sh).length ≤ 60; omega
end Go.Proofs.Ytchkcjpahlimjaa
