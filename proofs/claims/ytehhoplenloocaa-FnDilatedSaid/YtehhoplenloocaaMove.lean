/- Moves as the laws copy, compare and mark them. -/
import Derived.Test.YtehhoplenloocaaB2
import Derived.Test.YtehhoplenloocaaB1
namespace Go.Proofs.Ytehhoplenloocaa
open Go.RowKit
set_option linter.unusedVariables false
set_option linter.unusedSimpArgs false

theorem ISS.setOther {w : World} {lo hi : Nat} {v : Value} {l : List (List Int)} (h : ISS w lo hi v l) {a : Addr} (ha : a.block < lo ∨ hi ≤ a.block) (u : Value) : ISS (w.setCell a u) lo hi v l :=
  h.of_blocks fun b h1 h2 h3 => Below.heap_setCell w a u b (by omega)
/-- a matrix and a list of the call's own, in blocks of their own -/
def MoveO (w : World) (lo hi : Nat) (u1 u2 : Value) (U : List (List Int)) (V : List Int) : Prop :=
  ∃ a b c d, ISS w a b u1 U ∧ IS w c d u2 V ∧ (b ≤ c ∨ d ≤ a) ∧ lo ≤ a ∧ b ≤ hi ∧ lo ≤ c ∧ d ≤ hi
theorem MoveO.fstR {w : World} {lo hi : Nat} {u1 u2 : Value} {U : List (List Int)} {V : List Int} (h : MoveO w lo hi u1 u2 U V) : ISSr w hi u1 U := by
  obtain ⟨a, b, c, d, h1, h2, h3, h4, h5, h6, h7⟩ := h; exact h1.read.upto h5
theorem MoveO.sndR {w : World} {lo hi : Nat} {u1 u2 : Value} {U : List (List Int)} {V : List Int} (h : MoveO w lo hi u1 u2 U V) : ISr w hi u2 V := by
  obtain ⟨a, b, c, d, h1, h2, h3, h4, h5, h6, h7⟩ := h; exact h2.read.upto h7
theorem MoveO.nil (w : World) (lo hi : Nat) (h : lo ≤ hi) : MoveO w lo hi (.slice none 0 0) (.slice none 0 0) [] [] := ⟨lo, lo, lo, lo, ISS.nil _ _ _, IS.nil _ _ _, .inl (Nat.le_refl _), Nat.le_refl _, h, Nat.le_refl _, h⟩
theorem MoveO.keep {w w' : World} {lo hi B : Nat} {u1 u2 : Value} {U : List (List Int)} {V : List Int} (h : MoveO w lo hi u1 u2 U V) (hb : Below B w w') (hB : hi ≤ B) : MoveO w' lo hi u1 u2 U V := by
  obtain ⟨a, b, c, d, h1, h2, h3, h4, h5, h6, h7⟩ := h
  exact ⟨a, b, c, d, h1.keep hb (by omega), h2.keep hb (by omega), h3, h4, h5, h6, h7⟩
theorem MoveO.only {w w' : World} {lo hi lo2 hi2 : Nat} {u1 u2 : Value} {U : List (List Int)} {V : List Int} (h : MoveO w lo2 hi2 u1 u2 U V) (ho : Only lo hi w w') (hd : hi2 ≤ lo ∨ hi ≤ lo2) : MoveO w' lo2 hi2 u1 u2 U V := by
  obtain ⟨a, b, c, d, h1, h2, h3, h4, h5, h6, h7⟩ := h
  exact ⟨a, b, c, d, h1.only ho (by omega), h2.only ho (by omega), h3, h4, h5, h6, h7⟩
theorem MoveO.of {w : World} {a b c d lo hi : Nat} {u1 u2 : Value} {U : List (List Int)} {V : List Int} (h1 : ISS w a b u1 U) (h2 : IS w c d u2 V) (h : b ≤ c ∨ d ≤ a) (ha : lo ≤ a) (hb : b ≤ hi) (hc : lo ≤ c) (hd : d ≤ hi) : MoveO w lo hi u1 u2 U V := ⟨a, b, c, d, h1, h2, h, ha, hb, hc, hd⟩
theorem MoveO.mono {w : World} {lo hi lo' hi' : Nat} {u1 u2 : Value} {U : List (List Int)} {V : List Int} (h : MoveO w lo hi u1 u2 U V) (g1 : lo' ≤ lo) (g2 : hi ≤ hi') : MoveO w lo' hi' u1 u2 U V := by
  obtain ⟨a, b, c, d, h1, h2, h3, h4, h5, h6, h7⟩ := h
  exact ⟨a, b, c, d, h1, h2, h3, by omega, by omega, by omega, by omega⟩
end Go.Proofs.Ytehhoplenloocaa
