/- What is written only between two block numbers. -/
import Derived.Test.YtchkcjpahlimjaaISS
namespace Go.Proofs.Ytchkcjpahlimjaa
open Go.RowKit
set_option linter.unusedVariables false
set_option linter.unusedSimpArgs false

/-- only blocks from lo on and below hi are written, others may be new -/
structure Only (lo hi : Nat) (w w' : World) : Prop where
  os : w'.os = w.os
  tape : w'.tape = w.tape
  output : w'.output = w.output
  size : w.heap.size ≤ w'.heap.size
  block : ∀ k, k < w.heap.size → k < lo ∨ hi ≤ k → w'.heap[k]? = w.heap[k]?
theorem Only.refl (lo hi : Nat) (w : World) : Only lo hi w w := ⟨rfl, rfl, rfl, Nat.le_refl _, fun _ _ _ => rfl⟩
theorem Only.trans {lo hi : Nat} {a b c : World} (h : Only lo hi a b) (k : Only lo hi b c) : Only lo hi a c :=
  ⟨k.os.trans h.os, k.tape.trans h.tape, k.output.trans h.output, Nat.le_trans h.size k.size, fun i hi hd => (k.block i (Nat.lt_of_lt_of_le hi h.size) hd).trans (h.block i hi hd)⟩
theorem Only.of_grown {lo hi : Nat} {w w' : World} {ob : Option Nat} {p : Nat → Prop} (h : w.grownBy w' ob) (ho : ob = none ∨ ∃ b, ob = some b ∧ lo ≤ b ∧ b < hi ∧ p b) : Only lo hi w w' := by
  refine ⟨h.os, h.tape, h.output, h.size, fun k hk hd => h.block k hk ?_⟩
  rcases ho with rfl | ⟨b, rfl, h1, h2, _⟩
  · simp
  · intro e; injection e with e; omega
theorem Only.below {lo hi : Nat} {w w' : World} (h : Only lo hi w w') (hlo : lo ≤ w.heap.size) : Below lo w w' := by
  refine ⟨h.os, h.tape, h.output, h.size, fun k hk => h.block k (by omega) (.inl hk)⟩
theorem Only.mono {lo hi lo' hi' : Nat} {w w' : World} (h : Only lo hi w w') (h1 : lo' ≤ lo) (h2 : hi ≤ hi') : Only lo' hi' w w' :=
  ⟨h.os, h.tape, h.output, h.size, fun k hk hd => h.block k hk (by omega)⟩
theorem IS.only {w w' : World} {lo hi lo2 hi2 : Nat} {v : Value} {l : List Int} (h : IS w lo2 hi2 v l) (ho : Only lo hi w w') (hd : hi2 ≤ lo ∨ hi ≤ lo2) : IS w' lo2 hi2 v l :=
  h.of_blocks fun b h1 h2 h3 => ho.block b h3 (by omega)
theorem ISS.only {w w' : World} {lo hi lo2 hi2 : Nat} {v : Value} {ls : List (List Int)} (h : ISS w lo2 hi2 v ls) (ho : Only lo hi w w') (hd : hi2 ≤ lo ∨ hi ≤ lo2) : ISS w' lo2 hi2 v ls :=
  h.of_blocks fun b h1 h2 h3 => ho.block b h3 (by omega)

theorem IS.blkIn {w : World} {lo hi : Nat} {v : Value} {l : List Int} (h : IS w lo hi v l) : blkOf v = none ∨ ∃ b, blkOf v = some b ∧ lo ≤ b ∧ b < hi ∧ True := by
  rcases h.blk with h | ⟨b, h1, h2, h3, _⟩
  · exact .inl h
  · exact .inr ⟨b, h1, h2, h3, trivial⟩
theorem Only.of_below {lo hi : Nat} {w w' : World} (h : Below w.heap.size w w') : Only lo hi w w' := ⟨h.os, h.tape, h.output, h.size, fun k hk _ => h.block k hk⟩
end Go.Proofs.Ytchkcjpahlimjaa
