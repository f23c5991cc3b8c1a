/- What comes in: cones, read off the statement's own form. -/
import Derived.Test.YtchkcjpahlimjaaOpen
namespace Go.Proofs.Ytchkcjpahlimjaa
open Go.ChangeShapes Go.WideShapes Go.ChangeAt Go.RowKit Go.Joins
set_option linter.unusedVariables false
set_option linter.unusedSimpArgs false

/-- a cone that may be read -/
def ConeR (w : World) (hi : Nat) (v : Value) (x : List Int × List Int) : Prop := ∃ v1 v2, v = .agg #[v1, v2] ∧ ISr w hi v1 x.1 ∧ ISr w hi v2 x.2

theorem openIntsCell {H : Type} {enc : TypeId × Value → H} {W : World} {v : Value} {n : Nat} {y : DataW H × List MemPlace}
    (hf : DataW.trod enc Try.prog W 0 (fun _ => true) true n 22 [v] = some y) : ∃ l, ISr W W.heap.size v l := by
  obtain ⟨d, p⟩ := y
  rcases open_ints Try.underlying22 Try.underlying3 (by kernel_rfl) hf with ⟨hcs, _⟩ | ⟨x, l, c, zs, hcs, _, hl, hm, hz, _, hcell, hwz⟩
  · simp at hcs
    subst hcs
    exact ⟨[], none, 0, rfl, Nat.le_refl _, Nat.zero_le _, fun h => absurd rfl h⟩
  · simp at hcs
    subst hcs
    have hzl : zs.length = c := by simpa using hz
    have hlen : (zs.take l).length = l := by rw [List.length_take, hzl]; omega
    refine ⟨zs.take l, some x, c, by rw [hlen], by rw [hlen]; exact hl, hm, fun hne => ?_⟩
    obtain ⟨b, off, spot⟩ := x
    have hpos : 0 < l := by
      rcases Nat.eq_zero_or_pos l with h0 | h0
      · subst h0; simp at hne
      · exact h0
    have hc0 := hcell 0 (by omega)
    have hspot : spot = none := by simpa [Addr.add] using World.cell?_spot hc0
    subst hspot
    refine ⟨b, off, rfl, by simpa [Addr.add] using World.block_lt_of_cell? _ _ hc0, fun i hi => ?_⟩
    rw [hlen] at hi
    have hci := hcell i (by omega)
    have e : (zs.take l).getD i 0 = zs.getD i 0 := by
      rw [List.getD_eq_getElem?_getD, List.getD_eq_getElem?_getD, List.getElem?_take_of_lt hi]
    rw [e]
    have ha : (⟨b, off, none⟩ : Addr).add i = ⟨b, off + i, none⟩ := by
      simp only [Addr.add]; split <;> simp_all
    rw [ha] at hci; exact hci

theorem openCone {H : Type} {enc : TypeId × Value → H} {W : World} {base : Nat} {v : Value} {d : DataW H} {p : List MemPlace}
    (hv : Value.okWide Try.prog W .any base 24 v) (h : DataW.Trod enc Try.prog W 0 (fun _ => true) true 24 v d p) : ∃ x, ConeR W W.heap.size v x := by
  obtain ⟨c0, c1, y0, y1, m, rfl, -, -, hy0, hy1⟩ := open_agg2 Try.underlying24 (by kernel_rfl) (by kernel_rfl) hv h
  obtain ⟨l1, j1⟩ := openIntsCell hy0
  obtain ⟨l2, j2⟩ := openIntsCell hy1
  exact ⟨(l1, l2), c0, c1, rfl, j1, j2⟩
end Go.Proofs.Ytchkcjpahlimjaa
