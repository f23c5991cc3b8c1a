/- A polygon's area is at least one half: the plain law. -/
import Derived.Test.YtcofkjnkdfibfaaPlF
namespace Go.Proofs.Ytcofkjnkdfibfaa
open Go.RowKit

theorem area_step (a b c : List Int) : crossI b c - crossI b a + crossI c a = tn (ptOf a) (ptOf b) (ptOf c) := by
  unfold crossI tn crossP subP ptOf; simp; grind
theorem area_fan {ls : List (List Int)} (hl : locB ls.length (pf ls) = true) (h3 : 3 ≤ ls.length) : ∀ k, k + 2 ≤ ls.length →
    (k = 0 → arK ls (k + 1) + crossI (ls.getD (k + 1) []) (ls.getD 0 []) = 0) ∧ (1 ≤ k → 1 ≤ arK ls (k + 1) + crossI (ls.getD (k + 1) []) (ls.getD 0 []))
  | 0, _ => by
    refine ⟨fun _ => ?_, fun h => absurd h (by omega)⟩
    have e : arK ls 1 = 0 + arT ls 0 := rfl
    rw [e]; unfold arT
    rw [show (0 + 1) % ls.length = 1 from Nat.mod_eq_of_lt (by omega)]
    unfold crossI; simp; grind
  | k + 1, h => by
    refine ⟨fun h => absurd h (by omega), fun _ => ?_⟩
    have ih := area_fan hl h3 k (by omega)
    have ha := List.all_eq_true.1 hl (k + 1) (by rw [List.mem_range]; omega)
    have hb := (locAt_iff.1 ha).2.2
    have hc : 0 < tn (pf ls 0) (pf ls (k + 1)) (pf ls (k + 1 + 1)) := by
      rcases hb with h1 | h1 | h1
      · omega
      · omega
      · exact h1
    have e : arK ls (k + 1 + 1) = arK ls (k + 1) + arT ls (k + 1) := rfl
    have es := area_step (ls.getD 0 []) (ls.getD (k + 1) []) (ls.getD (k + 1 + 1) [])
    have et : arT ls (k + 1) = crossI (ls.getD (k + 1) []) (ls.getD (k + 1 + 1) []) := by
      unfold arT; rw [Nat.mod_eq_of_lt (by omega)]
    have ep : tn (pf ls 0) (pf ls (k + 1)) (pf ls (k + 1 + 1)) = tn (ptOf (ls.getD 0 [])) (ptOf (ls.getD (k + 1) [])) (ptOf (ls.getD (k + 1 + 1) [])) := rfl
    rw [ep, ← es] at hc
    rw [e, et]
    by_cases hk : k = 0
    · have := ih.1 hk; omega
    · have := ih.2 (by omega); omega
theorem arV_pos (ls : List (List Int)) (hp : isPolyB ls = true) : 1 ≤ arV ls := by
  obtain ⟨h3, h12, hf⟩ := isPoly_parts hp
  rw [← arL_V ls hp]
  have hl : locB ls.length (pf ls) = true := by
    unfold isPolyB at hp; simp only [Bool.and_eq_true] at hp; exact hp.2.2
  have := (area_fan hl h3 (ls.length - 2) (by omega)).2 (by omega)
  obtain ⟨m, hm⟩ : ∃ m, ls.length = m + 2 := ⟨ls.length - 2, by omega⟩
  unfold arL
  rw [hm] at this ⊢
  simp only [Nat.add_sub_cancel] at this
  have e : arK ls (m + 2) = arK ls (m + 1) + arT ls (m + 1) := rfl
  have et : arT ls (m + 1) = crossI (ls.getD (m + 1) []) (ls.getD 0 []) := by
    unfold arT; rw [hm]; rw [show (m + 1 + 1) % (m + 2) = 0 from Nat.mod_self _]
  rw [e, et]; exact this
end Go.Proofs.Ytcofkjnkdfibfaa
