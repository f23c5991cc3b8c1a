/- Small words that the laws' walks share. -/
import Derived.Test.YtchkcjpahlimjaaISS
import Derived.Deep.Quiet
namespace Go.Proofs.Ytchkcjpahlimjaa
open Go.RowKit

theorem toBelow {P : Program} {f : FuncId} {args : Array Value} {w : World} {r : Ending} (h : Calls P f args w fun e w' => e = r ∧ ∃ d, w' = w.drewN d) : Calls P f args w fun e w' => e = r ∧ Below w.heap.size w w' :=
  h.mono fun _ _ ⟨he, d, hd⟩ => ⟨he, by rw [hd]; exact below_draws _ _ _⟩
theorem toBelow0 {P : Program} {f : FuncId} {args : Array Value} {w : World} {r : Ending} (h : Calls P f args w fun e w' => e = r ∧ w = w') : Calls P f args w fun e w' => e = r ∧ Below w.heap.size w w' :=
  h.mono fun _ _ ⟨he, hd⟩ => ⟨he, by rw [← hd]; exact Below.refl _ _⟩
theorem ISr.upto {w : World} {a b : Nat} {v : Value} {l : List Int} (h : ISr w a v l) (hab : a ≤ b) : ISr w b v l := by
  obtain ⟨x, cap, h0, h1, h2, h3⟩ := h
  refine ⟨x, cap, h0, h1, h2, fun hne => ?_⟩
  obtain ⟨bb, off, e, hb, hc⟩ := h3 hne
  exact ⟨bb, off, e, Nat.lt_of_lt_of_le hb hab, hc⟩
theorem ISSr.upto {w : World} {a b : Nat} {v : Value} {l : List (List Int)} (h : ISSr w a v l) (hab : a ≤ b) : ISSr w b v l := by
  obtain ⟨x, cap, h0, h1, h2, h3⟩ := h
  refine ⟨x, cap, h0, h1, h2, fun hne => ?_⟩
  obtain ⟨bb, off, V, e, hb, hc⟩ := h3 hne
  exact ⟨bb, off, V, e, Nat.lt_of_lt_of_le hb hab, fun i hi => ⟨(hc i hi).1, (hc i hi).2.upto hab⟩⟩
theorem szL_in {n : Nat} {left : Int} (h : (n : Int) ≤ left) : (if left < (n : Int) then (-1 : Int) else left - n) = left - n := by rw [if_neg (by omega)]
/-- a world of a class (a word of its own, so that the walk does not look behind it) -/
structure InC (C : World → Prop) where
  w : World
  h : C w
/-- a region that draws its order and whose calls may make memory but hand back numbers and truths: one walk in the order of the text, in a class of worlds of one's own -/
theorem wp_region_class {P : Program} {id : Nat} {Q : Exit → Act → World → Prop} {a : Act} {w : World} {l : List Oper} (C : World → Prop) (hm : P.follows .mixedOrders = true) (hB : Region.lexB .any l.toArray = true) (hC : C w.drew)
    (h : Nonempty (InC C) → wpQuiet P l.toArray (fun w' => ∃ x : InC C, w' = x.w) (fun a' => ∀ w', (∃ x : InC C, w' = x.w) → Q .normal a' w') l a) : (Code.region id l.toArray true).wp P Q a w :=
  wp_region_quiet (C := fun w' => ∃ x : InC C, w' = x.w) hm hB ⟨⟨_, hC⟩, rfl⟩ (by simpa using h ⟨⟨_, hC⟩⟩)
/-- a contract of a function that hands back a value and keeps the class -/
theorem Calls.inC {P : Program} {f : FuncId} {args : Array Value} {C : World → Prop} {w : World} {v : Value} (h : Calls P f args w fun e w' => e = .returned v ∧ C w') : Calls P f args w fun e w'' => e = .returned v ∧ ∃ m : InC C, w'' = m.w :=
  h.mono fun _ w' ⟨he, hc⟩ => ⟨he, ⟨w', hc⟩, rfl⟩
end Go.Proofs.Ytchkcjpahlimjaa
