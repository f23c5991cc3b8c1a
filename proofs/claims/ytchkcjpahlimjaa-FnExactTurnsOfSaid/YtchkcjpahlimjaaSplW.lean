/- SplitCone and TurnsOf: the contracts as the laws take them. -/
import Derived.Test.YtchkcjpahlimjaaTrn
import Derived.Test.YtchkcjpahlimjaaMkS
namespace Go.Proofs.Ytchkcjpahlimjaa
open Go.RowKit
set_option linter.unusedVariables false
set_option linter.unusedSimpArgs false

theorem totL_two {ls : List (List Int)} (h : ∀ i, i < ls.length → (ls.getD i []).length ≤ 2) : ∀ k, k ≤ ls.length → totL ls k ≤ 2 * k
  | 0, _ => by simp [totL]
  | k + 1, hk => by
    have := totL_two h k (by omega)
    have := h k (by omega)
    show totL ls k + (ls.getD k []).length ≤ _
    omega
theorem splitC_tot (U V : List Int) : totL (splitC U V) (splitC U V).length ≤ 4000 ∧ (splitC U V).length ≤ 1801 := by
  obtain ⟨h, hl⟩ := splitC_all U V
  have := totL_two (ls := splitC U V) (fun i hi => by obtain ⟨a, b, e, -⟩ := h.row i hi; rw [e]; simp) _ (Nat.le_refl _)
  omega
theorem turnsL_len (L : List (List Int)) : (turnsL L).length = L.length - 2 := by simp [turnsL]
theorem turnsC_len (U V : List Int) : (turnsL (splitC U V)).length ≤ 1801 := by
  rw [turnsL_len]; have := (splitC_all U V).2; omega
theorem specSplitCone_law (U V : List Int) (v1 v2 : Value) (hb : Nat) (w : World) (i1 : ISr w hb v1 U) (i2 : ISr w hb v2 V) (hhb : hb ≤ w.heap.size) :
    Calls Try.prog 15 #[.agg #[v1, v2]] w fun e w' => ∃ u, e = .returned u ∧ ISS w' w.heap.size w'.heap.size u (splitC U V) ∧ Below w.heap.size w w' :=
  (specSplitCone_any U V v1 v2 hb w i1 i2 hhb).mono fun _ _ ⟨u, h1, h2, h3⟩ => ⟨u, h1, h2.is, h3⟩
theorem implSplitCone_law (U V : List Int) (v1 v2 : Value) (hb : Nat) (w : World) (i1 : ISr w hb v1 U) (i2 : ISr w hb v2 V) (hhb : hb ≤ w.heap.size) :
    Calls Try.prog 17 #[.agg #[v1, v2]] w fun e w' => ∃ u, e = .returned u ∧ ISS w' w.heap.size w'.heap.size u (splitC U V) ∧ Below w.heap.size w w' :=
  (implSplitCone_any U V v1 v2 hb w i1 i2 hhb).mono fun _ _ ⟨u, h1, h2, _, h3⟩ => ⟨u, h1, h2.is, h3⟩
theorem specTurnsOf_law (U V : List Int) (v1 v2 : Value) (hb : Nat) (w : World) (i1 : ISr w hb v1 U) (i2 : ISr w hb v2 V) (hhb : hb ≤ w.heap.size) :
    Calls Try.prog 23 #[.agg #[v1, v2]] w fun e w' => ∃ u, e = .returned u ∧ IS w' w.heap.size w'.heap.size u (turnsL (splitC U V)) ∧ Below w.heap.size w w' :=
  (specTurnsOf_any U V v1 v2 hb w i1 i2 hhb).mono fun _ _ ⟨u, h1, h2, h3⟩ => ⟨u, h1, h2.is, h3⟩
theorem implTurnsOf_law (U V : List Int) (v1 v2 : Value) (hb : Nat) (w : World) (i1 : ISr w hb v1 U) (i2 : ISr w hb v2 V) (hhb : hb ≤ w.heap.size) :
    Calls Try.prog 24 #[.agg #[v1, v2]] w fun e w' => ∃ u, e = .returned u ∧ IS w' w.heap.size w'.heap.size u (turnsL (splitC U V)) ∧ Below w.heap.size w w' :=
  (implTurnsOf_any U V v1 v2 hb w i1 i2 hhb).mono fun _ _ ⟨u, h1, h2, h3⟩ => ⟨u, h1, h2.is, h3⟩
end Go.Proofs.Ytchkcjpahlimjaa
