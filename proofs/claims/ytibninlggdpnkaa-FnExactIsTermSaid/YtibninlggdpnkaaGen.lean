/- Small words that the laws' walks share. -/
import Derived.Test.YtibninlggdpnkaaISS
namespace Go.Proofs.Ytibninlggdpnkaa
open Go.RowKit

theorem toBelow {P : Program} {f : FuncId} {args : Array Value} {w : World} {r : Ending} (h : Calls P f args w fun e w' => e = r ∧ ∃ d, w' = w.drewN d) : Calls P f args w fun e w' => e = r ∧ Below w.heap.size w w' :=
  h.mono fun _ _ ⟨he, d, hd⟩ => ⟨he, by rw [hd]; exact below_draws _ _ _⟩
theorem toBelow0 {P : Program} {f : FuncId} {args : Array Value} {w : World} {r : Ending} (h : Calls P f args w fun e w' => e = r ∧ w = w') : Calls P f args w fun e w' => e = r ∧ Below w.heap.size w w' :=
  h.mono fun _ _ ⟨he, hd⟩ => ⟨he, by rw [← hd]; exact Below.refl _ _⟩
theorem ISr.upto {w : World} {a b : Nat} {v : Value} {l : List Int} (h : ISr w a v l) (hab : a ≤ b) : ISr w b v l := by
  obtain ⟨x, cap, h0, h1, h2, h3⟩ := h
  refine ⟨x, cap, h0, h1, h2, fun hne => ?_⟩
  obtain ⟨bb, off, e, hb, hc⟩ := h3 hne
  exact ⟨bb, off, e, Nat.lt_of_lt_of_le hb hab, hc⟩
theorem ISSr.upto {w : World} {a b : Nat} {v : Value} {l : List (List Int)} (h : ISSr w a v l) (hab : a ≤ b) : ISSr w b v l := by
  obtain ⟨x, cap, h0, h1, h2, h3⟩ := h
  refine ⟨x, cap, h0, h1, h2, fun hne => ?_⟩
  obtain ⟨bb, off, V, e, hb, hc⟩ := h3 hne
  exact ⟨bb, off, V, e, Nat.lt_of_lt_of_le hb hab, fun i hi => ⟨(hc i hi).1, (hc i hi).2.upto hab⟩⟩
theorem szL_in {n : Nat} {left : Int} (h : (n : Int) ≤ left) : (if left < (n : Int) then (-1 : Int) else left - n) = left - n := by rw [if_neg (by omega)]
end Go.Proofs.Ytibninlggdpnkaa
