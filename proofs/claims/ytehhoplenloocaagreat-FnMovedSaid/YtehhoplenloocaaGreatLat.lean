/- The points of a box, in order: the walks. -/
import Derived.Test.YtehhoplenloocaaGreatLatM
import Derived.Test.YtehhoplenloocaaGreatB2
namespace Go.Proofs.YtehhoplenloocaaGreat
open Go.RowKit
set_option linter.unusedVariables false
set_option linter.unusedSimpArgs false

theorem OwnL.lower {w : World} {B B' : Nat} {v : Value} {ls : List (List Int)} (h : OwnL w B v ls) (hB : B' ≤ B) : OwnL w B' v ls := by
  obtain ⟨V, p, h1, h2, h3, h4⟩ := h
  refine ⟨V, p, ⟨h1.1, ?_⟩, Nat.le_trans hB h2, h3, h4⟩
  rcases h1.2 with e | ⟨g, cap, cur, e, hg, r⟩
  · exact .inl e
  · exact .inr ⟨g, cap, cur, e, Nat.le_trans hB hg, r⟩
theorem IS.none (w : World) (lo hi : Nat) (a : Option Addr) (cap : Nat) (h : cap ≤ maxLen) : IS w lo hi (.slice a 0 cap) [] := ⟨a, cap, rfl, Nat.zero_le _, h, fun h => absurd rfl h⟩
theorem OwnL.lit1 (w : World) (B : Nat) (h : B ≤ w.heap.size) (a : Option Addr) : OwnL (w.alloc (.cells #[.slice a 0 0] 25)) B (.slice (some ⟨w.heap.size, 0, none⟩) 1 1) [[]] :=
  ⟨fun _ => .slice a 0 0, fun _ => B, World.ownsRow_lit w #[.slice a 0 0] 1 h (by simp [maxLen]) rfl, Nat.le_refl _, by simp; omega, fun i hi => ⟨Nat.le_refl _, by
    have : i = 0 := by simpa using hi
    subst this; exact IS.none _ _ _ _ _ (Nat.zero_le _)⟩⟩

end Go.Proofs.YtehhoplenloocaaGreat
