/- Rows that are written in place. -/
import Derived.Test.YtehhoplenloocaaGreatB1
namespace Go.Proofs.YtehhoplenloocaaGreat
open Go.RowKit
set_option linter.unusedVariables false
set_option linter.unusedSimpArgs false

/-- a slice of rows, laid open: the outer block, the rows, which lie apart -/
structure RowsW (w : World) (lo hi b off n : Nat) (V : Nat → Value) (cur : Nat → List Int) : Prop where
  outer : BK w b off n 25 V
  row : ∀ i, i < n → IS w lo hi (V i) (cur i)
  apart : ∀ i j, i < j → j < n → blkOf (V j) = none ∨ blkOf (V j) ≠ blkOf (V i)
theorem RowsW.of {w : World} {lo hi : Nat} {v : Value} {ls : List (List Int)} (h : ISS w lo hi v ls) (hn : 0 < ls.length) :
    ∃ b off cap, ∃ V : Nat → Value, v = .slice (some ⟨b, off, none⟩) ls.length cap ∧ lo ≤ b ∧ b < hi ∧ ls.length ≤ cap ∧ cap ≤ maxLen ∧ RowsW w lo hi b off ls.length V (fun i => ls.getD i []) := by
  obtain ⟨a, cap, hv, h1, h2, h3⟩ := h
  obtain ⟨b, off, V, rfl, g1, g2, g3, g4, g5⟩ := h3 (by intro e; rw [e] at hn; exact absurd hn (Nat.lt_irrefl _))
  exact ⟨b, off, cap, V, hv, g1, g2, h1, h2, g3, g4, g5⟩
theorem RowsW.iss {w : World} {lo hi b off n cap : Nat} {V : Nat → Value} {cur : Nat → List Int} (h : RowsW w lo hi b off n V cur) (hn : n ≤ cap) (hc : cap ≤ maxLen) (hlo : lo ≤ b) (hb : b < hi) :
    ISS w lo hi (.slice (some ⟨b, off, none⟩) n cap) ((List.range n).map cur) := by
  have hl : ((List.range n).map cur).length = n := by simp
  refine ⟨_, _, by rw [hl], by rw [hl]; exact hn, hc, fun _ => ⟨b, off, V, rfl, hlo, hb, ?_⟩⟩
  rw [hl]
  refine ⟨h.outer, fun i hi => ?_, h.apart⟩
  rw [List.getD_eq_getElem?_getD]
  simp [hi]
  exact h.row i hi
theorem RowsW.congr {w : World} {lo hi b off n : Nat} {V : Nat → Value} {cur cur' : Nat → List Int} (h : RowsW w lo hi b off n V cur) (e : ∀ i, i < n → cur i = cur' i) : RowsW w lo hi b off n V cur' :=
  ⟨h.outer, fun i hi => by rw [← e i hi]; exact h.row i hi, h.apart⟩
theorem RowsW.at {w : World} {lo hi b off n k : Nat} {V : Nat → Value} {cur : Nat → List Int} (h : RowsW w lo hi b off n V cur) (hk : k < n) (hl : 0 < (cur k).length) :
    ∃ br or' cr, V k = .slice (some ⟨br, or', none⟩) (cur k).length cr ∧ lo ≤ br ∧ br < hi ∧ br ≠ b ∧ BK w br or' (cur k).length 3 (fun i => .int .i64 ((cur k).getD i 0)) := by
  rcases (h.row k hk).cases with ⟨e, -⟩ | ⟨-, -, br, or', cr, hv, -, -, h1, h2, h3⟩
  · rw [e] at hl; exact absurd hl (Nat.lt_irrefl _)
  · refine ⟨br, or', cr, hv, h1, h2, ?_, h3⟩
    intro e
    subst e
    obtain ⟨c1, e1, -⟩ := h.outer
    obtain ⟨c2, e2, -⟩ := h3
    rw [e1] at e2
    injection e2 with e2
    injection e2 with _ e2 _
    exact absurd e2 (by decide)
theorem getD_set {l : List Int} {c i : Nat} {x : Int} (h : c < l.length) : (l.set c x).getD i 0 = if i = c then x else l.getD i 0 := by
  rw [List.getD_eq_getElem?_getD, List.getElem?_set]
  by_cases e : c = i
  · subst e; simp [h]
  · rw [if_neg e, if_neg (fun e' => e e'.symm), ← List.getD_eq_getElem?_getD]
theorem RowsW.set {w : World} {lo hi b off n k c br or' cr m : Nat} {V : Nat → Value} {cur : Nat → List Int} (h : RowsW w lo hi b off n V cur) (hk : k < n) (hv : V k = .slice (some ⟨br, or', none⟩) m cr) (hc : c < (cur k).length) (x : Int) :
    RowsW (w.setCell ⟨br, or' + c, none⟩ (.int .i64 x)) lo hi b off n V (fun i => if i = k then (cur k).set c x else cur i) ∧ Only lo hi w (w.setCell ⟨br, or' + c, none⟩ (.int .i64 x)) ∧ w.cell? ⟨br, or' + c, none⟩ = some (.int .i64 ((cur k).getD c 0)) ∧ w.frozen? ⟨br, or' + c, none⟩ = false := by
  obtain ⟨br', or2, cr', hv', hlo, hhi, hne, hbk⟩ := h.at hk (by omega)
  rw [hv] at hv'
  injection hv' with e1 e2 e3
  injection e1 with e1
  injection e1 with e1 e4
  subst e1 e4 e2 e3
  have hblk : ∀ i, i < n → i ≠ k → blkOf (V i) = none ∨ blkOf (V i) ≠ some br := by
    intro i hi hik
    have hbk' : blkOf (V k) = some br := by rw [hv]; exact blkOf_some _ _ _ _ (by omega)
    rcases Nat.lt_or_ge i k with g | g
    · rcases h.apart i k g hk with e | e
      · rw [hbk'] at e; cases e
      · rw [hbk'] at e; exact .inr fun e' => e e'.symm
    · have := h.apart k i (by omega) hi
      rwa [hbk'] at this
  have hg : w.grownBy (w.setCell ⟨br, or' + c, none⟩ (.int .i64 x)) (some br) := by
    have g := World.grownBy.refl w (some br)
    refine ⟨g.os, g.tape, g.output, by simp, fun i hi hne' => ?_⟩
    rw [Below.heap_setCell _ _ _ _ (by intro e; apply hne'; rw [e])]
  refine ⟨⟨h.outer.of_block (hg.block b h.outer.lt (by intro e; injection e with e; exact hne e.symm)), fun i hi => ?_, h.apart⟩, Only.of_grown (p := fun _ => True) hg (.inr ⟨br, rfl, hlo, hhi, trivial⟩), hbk.cell hc, hbk.frozen _⟩
  by_cases e : i = k
  · subst e
    rw [if_pos rfl]
    have hset := hbk.set hc (.int .i64 x)
    have hsz := h.row i hi
    obtain ⟨a, cap, hva, l1, l2, -⟩ := id hsz
    rw [hv] at hva
    injection hva with _ _ hva
    subst hva
    refine ⟨_, cr, by rw [hv, List.length_set], by rw [List.length_set]; exact l1, l2, fun _ => ⟨br, or', rfl, hlo, hhi, ?_⟩⟩
    rw [List.length_set]
    exact hset.congr fun j hj => by
      show (if j = c then _ else _) = _
      rw [getD_set hc]
      split <;> rfl
  · rw [if_neg e]
    exact (h.row i hi).grown hg (hblk i hi e)
end Go.Proofs.YtehhoplenloocaaGreat
