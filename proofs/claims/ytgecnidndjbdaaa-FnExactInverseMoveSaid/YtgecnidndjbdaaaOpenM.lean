/- What comes in: moves, read off the statement's own form. -/
import Derived.Test.YtgecnidndjbdaaaB2
import Derived.Test.YtgecnidndjbdaaaB1
namespace Go.Proofs.Ytgecnidndjbdaaa
open Go.ChangeShapes Go.WideShapes Go.ChangeAt Go.RowKit Go.Joins
set_option linter.unusedVariables false
set_option linter.unusedSimpArgs false

/-- a move that may be read -/
def MoveR (w : World) (hi : Nat) (v : Value) (x : List (List Int) × List Int) : Prop := ∃ v1 v2, v = .agg #[v1, v2] ∧ ISSr w hi v1 x.1 ∧ ISr w hi v2 x.2

set_option maxRecDepth 100000 in
theorem openMove {H : Type} {enc : TypeId × Value → H} {W : World} {base : Nat} {v : Value} {d : DataW H} {p : List MemPlace}
    (hv : Value.okWide Try.prog W .any base 25 v) (h : DataW.Trod enc Try.prog W 0 (fun _ => true) true 25 v d p) : ∃ x, MoveR W W.heap.size v x := by
  obtain ⟨c0, c1, y0, y1, m, rfl, -, -, hy0, hy1⟩ := open_agg2 Try.underlying25 (by kernel_rfl) (by kernel_rfl) hv h
  obtain ⟨l1, j1⟩ := openIntssCells hy0
  obtain ⟨l2, j2⟩ := openIntsCell hy1
  exact ⟨(l1, l2), c0, c1, rfl, j1, j2⟩
end Go.Proofs.Ytgecnidndjbdaaa
