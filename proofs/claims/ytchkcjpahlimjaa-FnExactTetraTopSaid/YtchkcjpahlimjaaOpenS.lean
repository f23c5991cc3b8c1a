/- What comes in: slices of slices of whole numbers. -/
import Derived.Test.YtchkcjpahlimjaaISS
import Derived.Test.YtchkcjpahlimjaaOpen
import Derived.Deep.Matrix
namespace Go.Proofs.Ytchkcjpahlimjaa
open Go.ChangeShapes Go.WideShapes Go.ChangeAt Go.RowKit Go.Joins
set_option linter.unusedVariables false
set_option linter.unusedSimpArgs false

theorem openIntssCells {H : Type} {enc : TypeId × Value → H} {W : World} {v : Value} {n : Nat} {y : DataW H × List MemPlace}
    (hf : DataW.trod enc Try.prog W 0 (fun _ => true) true n 26 [v] = some y) : ∃ ls, ISSr W W.heap.size v ls := by
  rcases Go.Deep.open_int_rows Try.underlying26 Try.underlying22 Try.underlying3 (by kernel_rfl) (by kernel_rfl) hf with ⟨hcs, _⟩ | ⟨a, len, cap, AA, L, C, Z, hcs, _, hl, hm, _, hrow⟩
  · simp at hcs
    subst hcs
    exact ⟨[], none, 0, rfl, Nat.le_refl _, Nat.zero_le _, fun h => absurd rfl h⟩
  · simp at hcs
    subst hcs
    refine ⟨(List.range len).map fun r => (Z r).take (L r), some a, cap, by simp, by simpa using hl, hm, fun hne => ?_⟩
    have hpos : 0 < len := by
      rcases Nat.eq_zero_or_pos len with h0 | h0
      · subst h0; simp at hne
      · exact h0
    obtain ⟨b, off, spot⟩ := a
    have hc0 := (hrow 0 (by omega)).1
    have hspot : spot = none := by simpa [Addr.add] using World.cell?_spot hc0
    subst hspot
    refine ⟨b, off, fun r => .slice (AA r) (L r) (C r), rfl, by simpa [Addr.add] using World.block_lt_of_cell? _ _ hc0, fun i hi => ?_⟩
    have hi : i < len := by simpa using hi
    obtain ⟨h1, h2, h3, h4, h5, h6, h7⟩ := hrow i (by omega)
    have ha : ∀ (b off i : Nat), (⟨b, off, none⟩ : Addr).add i = ⟨b, off + i, none⟩ := by
      intro b off i; simp only [Addr.add]; split <;> simp_all
    rw [ha] at h1
    refine ⟨h1, ?_⟩
    have e0 : ((List.range len).map fun r => (Z r).take (L r)).getD i [] = (Z i).take (L i) := by
      rw [List.getD_eq_getElem?_getD]; simp [hi]
    rw [e0]
    have hlen : ((Z i).take (L i)).length = L i := by rw [List.length_take, h4]; omega
    refine ⟨AA i, C i, by rw [hlen], by rw [hlen]; exact h2, h3, fun hne => ?_⟩
    have hLp : 0 < L i := by
      rcases Nat.eq_zero_or_pos (L i) with h0 | h0
      · rw [h0] at hne; simp at hne
      · exact h0
    cases hA : AA i with
    | none => have := h6 hA; omega
    | some a' =>
      obtain ⟨b', off', spot'⟩ := a'
      have hcc := (h7 _ hA).2
      have hs0 := hcc 0 (by omega)
      have hspot' : spot' = none := by simpa [Addr.add] using World.cell?_spot hs0
      subst hspot'
      refine ⟨b', off', rfl, by simpa [Addr.add] using World.block_lt_of_cell? _ _ hs0, fun j hj => ?_⟩
      rw [hlen] at hj
      have := hcc j (by omega)
      rw [ha] at this
      rw [List.getD_eq_getElem?_getD, List.getElem?_take_of_lt hj, ← List.getD_eq_getElem?_getD]
      exact this

theorem openIntss {H : Type} {enc : TypeId × Value → H} {W : World} {base : Nat} {v : Value} {d : DataW H} {p : List MemPlace}
    (hv : Value.okWide Try.prog W .any base 26 v) (h : DataW.Trod enc Try.prog W 0 (fun _ => true) true 26 v d p) : ∃ ls, ISSr W W.heap.size v ls := by
  obtain ⟨a0, len0, cap0, rfl⟩ := okWide_slice Try.underlying26 hv
  obtain ⟨fuel, hf⟩ := h
  exact openIntssCells (by simpa [Value.cells] using hf)
end Go.Proofs.Ytchkcjpahlimjaa
