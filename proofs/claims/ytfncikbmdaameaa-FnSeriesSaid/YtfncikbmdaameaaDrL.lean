/- Lists that are drawn: l2Draw, l15Draw. -/
import Derived.Test.YtfncikbmdaameaaDraw
import Derived.Test.YtfncikbmdaameaaB2
import Derived.Handy
namespace Go.Proofs.Ytfncikbmdaameaa
open Go.RowKit
set_option linter.unusedVariables false
set_option linter.unusedSimpArgs false

theorem OwnI.cur {w w' : World} {B p : Nat} {v : Value} {l : List Int} (h : OwnI w B v l) (hg : w.grownBy w' (some p)) (hp : p < B) : OwnI w' B v l := by
  refine World.ownsRow.kept h (row := some p) hg ?_
  right
  intro e
  have := (World.ownsRow.lt h p e).1
  omega
theorem grown_then {w w1 w2 : World} {p : Nat} (h : w.grownBy w1 (some p)) (h2 : Below w.heap.size w1 w2) : w.grownBy w2 (some p) :=
  ⟨h2.os.trans h.os, h2.tape.trans h.tape, h2.output.trans h.output, Nat.le_trans h.size h2.size, fun k hk hne => (h2.block k hk).trans (h.block k hk hne)⟩
theorem draw_push {w w3 w4 : World} {p hb : Nat} {v : Value} {acc : List Int} {o : Obj} (hC : Cur w3 p hb) (hG : w.grownBy w3 (some p)) (hown : OwnI w3 w.heap.size v acc) (hp : p < w.heap.size) (hg : (w3.alloc o).grownBy w4 v.ownBlock) : Cur w4 p hb ∧ w.grownBy w4 (some p) := by
  have hB : Below w.heap.size w3 w4 := OwnI.below (Below.refl _ _) hG.size o hg hown (Nat.le_refl _)
  exact ⟨hC.below hB hp, grown_then hG hB⟩

set_option maxRecDepth 100000 in
set_option maxHeartbeats 4000000 in
theorem l2Draw_any (p hb : Nat) (n m : Nat) (w : World) (h : Cur w p hb) (hn : n ≤ 1000) (hm : m ≤ 1000) :
    Calls Try.prog 144 #[curP p, .int .i64 n, .int .i64 m] w fun e w' => ∃ u l, e = .returned u ∧ OwnI w' w.heap.size u l ∧ l.length = n ∧ allIn l (-m) m = true ∧ Cur w' p hb ∧ w.grownBy w' (some p) := by
  have hp := h.lt
  have HC0 := Lib.hid (h.below (below1 w (.cells #[] 3)) hp)
  have HG0 := Lib.hid (grown_alloc (World.grownBy.refl w (some p)) (.cells #[] 3))
  have HO0 := Lib.hid (OwnI.lit0 w w.heap.size (Nat.le_refl _))
  clear h
  unfold curP
  go_enter Try.func144, Try.ntmps144
  go_wp2
  go_loopw [7, 8] (fun s i wr => ∃ (k : Nat) (acc : List Int), k ≤ n ∧ i = .int .i64 k ∧ acc.length ≤ k ∧ Hid (acc.length = k) ∧ Hid (allIn acc (-m) m = true) ∧ Hid (OwnI wr w.heap.size s acc) ∧ Hid (Cur wr p hb) ∧ Hid (w.grownBy wr (some p))) (fun _ i _ => n - (intOf i).toNat)
  case atStart => exact ⟨0, [], by omega, rfl, Nat.le_refl _, Lib.hid rfl, Lib.hid rfl, HO0, HC0, HG0⟩
  case round =>
    obtain ⟨k, acc, hk, rfl, hal, HL, HA, HO, HC, HG⟩ := hrel
    by_cases hlt : k < n
    · have BB := l1Below_any p hb (2 * m + 1) wr HC.out (by omega) (by omega)
      unfold curP at BB
      go_wp2_with fail
      refine BB.mono ?_
      rintro e w2 ⟨x, rfl, hx0, hx1, hc, hg⟩
      have HO2 := Lib.hid (HO.out.cur hg hp)
      have HC2 := Lib.hid hc
      have HG2 := Lib.hid (grown_trans HG.out hg)
      clear hc hg BB HC HG HO
      have hsz := HG2.out.size
      go_wp2_with (at_builtin; refine wpList_append_I rfl _ _ rfl rfl rfl (HO2.out.kept (below1 w2 (.cells #[.int .i64 (x - m)] 3))) (IS.lit w2 [x - m] (by simp)).read (by simp; omega) (by simp; omega) ?_)
      intro a cap w4 ho4 hg4
      have hd := draw_push HC2.out HG2.out HO2.out hp hg4
      have HC4 := Lib.hid hd.1
      have HG4 := Lib.hid hd.2
      have HO4 := Lib.hid ho4
      have HL4 := Lib.hid (show (acc ++ [x - (m : Int)]).length = k + 1 by simp [HL.out])
      have HA4 := Lib.hid (show allIn (acc ++ [x - (m : Int)]) (-m) m = true by unfold allIn; rw [List.all_append]; simp only [Bool.and_eq_true]; exact ⟨HA.out, by simp [inB]; omega⟩)
      clear hd hg4 ho4 HC2 HG2 HO2 hsz
      go_wp2
      go_roundw
      case rel => exact ⟨k + 1, acc ++ [x - m], by omega, by go_num, by simp; omega, HL4, HA4, HO4, HC4, HG4⟩
      case measure => simp [intOf]; omega
    · obtain rfl : k = n := by omega
      go_wp2
      go_ret
      exact ⟨_, acc, rfl, HO.out, HL.out, HA.out, HC.out, HG.out⟩
set_option maxRecDepth 100000 in
set_option maxHeartbeats 4000000 in
theorem l15Draw_any (p hb : Nat) (w : World) (h : Cur w p hb) :
    Calls Try.prog 134 #[curP p] w fun e w' => ∃ u l, e = .returned u ∧ OwnI w' w.heap.size u l ∧ l.length ≤ 4 ∧ Cur w' p hb ∧ w.grownBy w' (some p) := by
  have hp := h.lt
  have hC0 := h.below (below1 w (.cells #[] 3)) hp
  have BB := l1Below_any p hb 3 (w.alloc (.cells #[] 3)) hC0 (by omega) (by omega)
  have HG0 := Lib.hid (grown_alloc (World.grownBy.refl w (some p)) (.cells #[] 3))
  have HO0 := Lib.hid (OwnI.lit0 w w.heap.size (Nat.le_refl _))
  clear h hC0
  unfold curP at *
  go_enter Try.func134, Try.ntmps134
  go_wp2_with fail
  refine BB.mono ?_
  rintro e w2 ⟨y, rfl, hy0, hy1, hc, hg⟩
  have HO1 := Lib.hid (HO0.out.cur hg hp)
  have HC1 := Lib.hid hc
  have HG1 := Lib.hid (grown_trans HG0.out hg)
  clear hc hg BB HG0 HO0
  obtain ⟨n, hn⟩ : ∃ n : Nat, 1 + y = n := ⟨(1 + y).toNat, by omega⟩
  have hn3 : n ≤ 3 := by omega
  go_wp2_with fail
  clear hn hy0 hy1
  go_loopw [3, 4, 6] (fun s t i wr => ∃ (k : Nat) (x : Int) (acc : List Int), k ≤ n ∧ i = .int .i64 k ∧ t = .int .i64 x ∧ 0 ≤ x ∧ x ≤ 7 * k ∧ acc.length ≤ k ∧ Hid (OwnI wr w.heap.size s acc) ∧ Hid (Cur wr p hb) ∧ Hid (w.grownBy wr (some p))) (fun _ _ i _ => n - (intOf i).toNat)
  case atStart => exact ⟨0, 0, [], by omega, rfl, rfl, by omega, by omega, Nat.le_refl _, HO1, HC1, HG1⟩
  case round =>
    obtain ⟨k, x, acc, hk, rfl, rfl, hx0, hx1, hal, HO, HC, HG⟩ := hrel
    by_cases hlt : k < n
    · have BB := l1Below_any p hb 7 wr HC.out (by omega) (by omega)
      unfold curP at BB
      go_wp2_with fail
      refine BB.mono ?_
      rintro e w2 ⟨z, rfl, hz0, hz1, hc, hg⟩
      have HO2 := Lib.hid (HO.out.cur hg hp)
      have HC2 := Lib.hid hc
      have HG2 := Lib.hid (grown_trans HG.out hg)
      clear hc hg BB HC HG HO
      have hsz := HG2.out.size
      go_wp2_with (at_builtin; refine wpList_append_I rfl _ _ rfl rfl rfl (HO2.out.kept (below1 w2 (.cells #[.int .i64 (x + 1 + z)] 3))) (IS.lit w2 [x + 1 + z] (by simp)).read (by simp; omega) (by simp; omega) ?_)
      intro a cap w4 ho4 hg4
      have hd := draw_push HC2.out HG2.out HO2.out hp hg4
      have HC4 := Lib.hid hd.1
      have HG4 := Lib.hid hd.2
      have HO4 := Lib.hid ho4
      clear hd hg4 ho4 HC2 HG2 HO2 hsz
      go_wp2
      go_roundw
      case rel => exact ⟨k + 1, x + 1 + z, acc ++ [x + 1 + z], by omega, by go_num, rfl, by omega, by omega, by simp; omega, HO4, HC4, HG4⟩
      case measure => simp [intOf]; omega
    · obtain rfl : k = n := by omega
      have BB := l1Once_any p hb 12 wr HC.out (by omega) (by omega)
      unfold curP at BB
      go_wp2_with fail
      refine BB.mono ?_
      rintro e w2 ⟨b, rfl, hc, hg⟩
      have HO2 := Lib.hid (HO.out.cur hg hp)
      have HC2 := Lib.hid hc
      have HG2 := Lib.hid (grown_trans HG.out hg)
      clear hc hg BB HC HG HO
      cases b
      · go_wp2
        go_ret
        exact ⟨_, acc, rfl, HO2.out, by omega, HC2.out, HG2.out⟩
      · go_wp2_with fail
        have BB := pick_lit p hb [0, 30, 31, -1] w2 HC2.out (by simp) (by simp)
        unfold curP at BB
        refine BB.mono ?_
        rintro e w3 ⟨z, rfl, hz, hc, hg⟩
        have HO3 := Lib.hid (HO2.out.cur hg hp)
        have HC3 := Lib.hid hc
        have HG3 := Lib.hid (grown_trans HG2.out hg)
        clear hc hg BB HC2 HG2 HO2 hz
        have hsz := HG3.out.size
        go_wp2_with (at_builtin; refine wpList_append_I rfl _ _ rfl rfl rfl (HO3.out.kept (below1 w3 (.cells #[.int .i64 z] 3))) (IS.lit w3 [z] (by simp)).read (by simp; omega) (by simp; omega) ?_)
        intro a cap w4 ho4 hg4
        have hd := draw_push HC3.out HG3.out HO3.out hp hg4
        have HC4 := Lib.hid hd.1
        have HG4 := Lib.hid hd.2
        have HO4 := Lib.hid ho4
        clear hd hg4 ho4 HC3 HG3 HO3 hsz
        go_wp2
        go_ret
        exact ⟨_, acc ++ [z], rfl, HO4.out, by simp; omega, HC4.out, HG4.out⟩
end Go.Proofs.Ytfncikbmdaameaa
