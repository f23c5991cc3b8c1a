/- The draws of the statement on tetrahedra. -/
import Derived.Test.YtfncikbmdaameaaDrL
import Derived.Test.YtfncikbmdaameaaB2
import Derived.Test.YtfncikbmdaameaaB4
import Derived.Test.YtfncikbmdaameaaPlace
namespace Go.Proofs.Ytfncikbmdaameaa
open Go.RowKit
set_option linter.unusedVariables false
set_option linter.unusedSimpArgs false

theorem OwnL.cur {w w' : World} {B p : Nat} {v : Value} {ls : List (List Int)} (h : OwnL w B v ls) (hg : w.grownBy w' (some p)) (hp : p < B) : OwnL w' B v ls := by
  obtain ⟨V, q, h1, h2, h3, h4⟩ := h
  have h1' : w'.ownsRow B 46 1 v ls.length ((List.range ls.length).map V) := by
    refine World.ownsRow.kept h1 (row := some p) hg ?_
    right
    intro e
    have := (World.ownsRow.lt h1 p e).1
    omega
  refine ⟨V, q, h1', h2, Nat.le_trans h3 hg.size, fun i hi => ⟨(h4 i hi).1, (h4 i hi).2.cur hg ?_⟩⟩
  have := OwnL.mono (p := q) (n := ls.length) (fun i hi => (h4 i hi).1) 0 i (Nat.zero_le _) (by omega)
  left; omega
set_option maxRecDepth 100000 in
set_option maxHeartbeats 4000000 in
theorem l13Draw_any (p hb : Nat) (w : World) (h : Cur w p hb) :
    Calls Try.prog 179 #[curP p] w fun e w' => ∃ u ls, e = .returned u ∧ OwnL w' w.heap.size u ls ∧ ls.length = 4 ∧ (∀ i, i < ls.length → (ls.getD i []).length = 3) ∧ Cur w' p hb ∧ w.grownBy w' (some p) := by
  obtain ⟨i0, hi0, hz0, hz1, hz2⟩ := info_parts info_ints
  have HI0 := Lib.hid hi0; clear hi0
  have HZ0 := Lib.hid hz0; clear hz0
  have HZ1 := Lib.hid hz1; clear hz1
  have HZ2 := Lib.hid hz2; clear hz2
  have hp := h.lt
  have HC0 := Lib.hid (h.below (below1 w (.cells #[] 46)) hp)
  have HG0 := Lib.hid (grown_alloc (World.grownBy.refl w (some p)) (.cells #[] 46))
  have HO0 := Lib.hid (OwnL.lit0 w w.heap.size (Nat.le_refl _))
  clear h
  unfold curP
  go_enter Try.func179, Try.ntmps179
  go_wp2
  go_loopw [3, 4] (fun s i wr => ∃ (k : Nat) (acc : List (List Int)), k ≤ 4 ∧ i = .int .i64 k ∧ acc.length ≤ k ∧ Hid (acc.length = k) ∧ Hid (∀ i, i < acc.length → (acc.getD i []).length = 3) ∧ Hid (OwnL wr w.heap.size s acc) ∧ Hid (Cur wr p hb) ∧ Hid (w.grownBy wr (some p))) (fun _ i _ => 4 - (intOf i).toNat)
  case atStart => exact ⟨0, [], by omega, rfl, Nat.le_refl _, Lib.hid rfl, Lib.hid (fun i hi => by simp at hi), HO0, HC0, HG0⟩
  case round =>
    obtain ⟨k, acc, hk, rfl, hal, HL, HA, HO, HC, HG⟩ := hrel
    by_cases hlt : k < 4
    · have BB := l1Below_any p hb 4 wr HC.out (by omega) (by omega)
      unfold curP at BB
      go_wp2_with fail
      refine BB.mono ?_
      rintro e w2 ⟨x, rfl, -, -, hc, hg⟩
      have HO2 := Lib.hid (HO.out.cur hg hp)
      have HC2 := Lib.hid hc
      have HG2 := Lib.hid (grown_trans HG.out hg)
      clear hc hg BB HC HG HO
      have BB := l1Below_any p hb 4 w2 HC2.out (by omega) (by omega)
      unfold curP at BB
      go_wp2_with fail
      refine BB.mono ?_
      rintro e w3 ⟨y, rfl, -, -, hc, hg⟩
      have HO3 := Lib.hid (HO2.out.cur hg hp)
      have HC3 := Lib.hid hc
      have HG3 := Lib.hid (grown_trans HG2.out hg)
      clear hc hg BB HC2 HG2 HO2
      have BB := l1Below_any p hb 4 w3 HC3.out (by omega) (by omega)
      unfold curP at BB
      go_wp2_with fail
      refine BB.mono ?_
      rintro e w4 ⟨z, rfl, -, -, hc, hg⟩
      have HO4 := Lib.hid (HO3.out.cur hg hp)
      have HC4 := Lib.hid hc
      have HG4 := Lib.hid (grown_trans HG3.out hg)
      clear hc hg BB HC3 HG3 HO3
      have hsz := HG4.out.size
      have c5 := below1 w4 (.cells #[.int .i64 x, .int .i64 y, .int .i64 z] 3)
      obtain ⟨V, q, hpt⟩ := HO4.out.part c5
      have HPT := Lib.hid hpt
      have HK := Lib.hid (IS.lit3 w4 w4.heap.size (Nat.le_refl _) x y z)
      clear hpt
      go_wp2_with (at_builtin; refine wpList_append_own _ rfl _ _ 24 rfl w.heap.size 46 i0 (.slice none 0 0) 1 24 Try.underlying24 HI0.out HZ0.out HZ1.out HZ2.out rfl (by decide) _ _ _ rfl (HPT.out.alloc _) ⟨w4.heap.size + 1, 0, none⟩ 1 1 [.slice (some ⟨w4.heap.size, 0, none⟩) 3 3] rfl rfl ?c1 ?c2 ?c3 ?c4 ?c5 ?_)
      case c1 => have := cell_one_new (w4.alloc (.cells #[.int .i64 x, .int .i64 y, .int .i64 z] 3)) (.slice (some ⟨w4.heap.size, 0, none⟩) 3 3) 46; rw [World.size_alloc] at this; exact this
      case c2 => first | rfl | (intro u hu; simp at hu; subst hu; rfl)
      case c3 => unfold maxLen; omega
      case c4 => omega
      case c5 => first | omega | (simp; omega)
      intro v2 w6 hown2 hgrow _
      have HO6 := Lib.hid (HPT.out.push HK.out (Nat.le_refl _) (Nat.le_succ _) (by simp) hgrow hown2)
      have hB6 : Below w.heap.size w4 w6 := OwnLp.below ((Below.refl w.heap.size w4).alloc hsz _) (by simp; omega) _ hgrow HPT.out (Nat.le_refl _)
      have HC6 := Lib.hid (HC4.out.below hB6 hp)
      have HG6 := Lib.hid (grown_then HG4.out hB6)
      have HL6 := Lib.hid (show (acc ++ [[x, y, z]]).length = k + 1 by simp [HL.out])
      have HA6 := Lib.hid (show ∀ i, i < (acc ++ [[x, y, z]]).length → ((acc ++ [[x, y, z]]).getD i []).length = 3 from fun i hi => by
        rcases Nat.lt_or_ge i acc.length with h | h
        · rw [List.getD_eq_getElem?_getD, List.getElem?_append_left h, ← List.getD_eq_getElem?_getD]; exact HA.out i h
        · rw [List.length_append] at hi
          have : i = acc.length := by simp at hi; omega
          rw [this, List.getD_eq_getElem?_getD, List.getElem?_append_right (Nat.le_refl _)]; simp)
      clear hown2 hgrow hB6
      go_wp2
      go_roundw
      case rel => exact ⟨k + 1, _, by omega, by go_num, by simp; omega, HL6, HA6, HO6, HC6, HG6⟩
      case measure => simp [intOf]; omega
    · obtain rfl : k = 4 := by omega
      go_wp2
      go_ret
      exact ⟨_, acc, rfl, HO.out, HL.out, HA.out, HC.out, HG.out⟩
end Go.Proofs.Ytfncikbmdaameaa
