/- What comes in: terms. -/
import Derived.Test.YtibninlggdpnkaaOpenC
import Derived.Test.YtibninlggdpnkaaOpenS
namespace Go.Proofs.Ytibninlggdpnkaa
open Go.ChangeShapes Go.WideShapes Go.ChangeAt Go.RowKit Go.Joins
set_option linter.unusedVariables false
set_option linter.unusedSimpArgs false

/-- a term that may be read -/
def TermR (w : World) (hi : Nat) (v : Value) (x : Int × List Int × List (List Int)) : Prop := ∃ v2 v3, v = .agg #[.int .i64 x.1, v2, v3] ∧ (-9223372036854775808 ≤ x.1 ∧ x.1 ≤ 9223372036854775807) ∧ ISr w hi v2 x.2.1 ∧ ISSr w hi v3 x.2.2

theorem openTerm {H : Type} {enc : TypeId × Value → H} {W : World} {base : Nat} {v : Value} {d : DataW H} {p : List MemPlace}
    (hv : Value.okWide Try.prog W .any base 58 v) (h : DataW.Trod enc Try.prog W 0 (fun _ => true) true 58 v d p) : ∃ x, TermR W W.heap.size v x := by
  obtain ⟨c0, c1, c2, y0, y1, y2, m, rfl, -, -, hy0, hy1, hy2⟩ := open_agg3 Try.underlying58 (by kernel_rfl) (by kernel_rfl) hv h
  obtain ⟨n, e0, rfl, wn⟩ := DataW.trod_int Try.underlying3 hy0
  obtain ⟨l1, j1⟩ := openIntsCell hy1
  obtain ⟨l2, j2⟩ := openIntssCells hy2
  simp at e0
  subst e0
  exact ⟨(n, l1, l2), c1, c2, rfl, bounds_i64 wn, j1, j2⟩
end Go.Proofs.Ytibninlggdpnkaa
