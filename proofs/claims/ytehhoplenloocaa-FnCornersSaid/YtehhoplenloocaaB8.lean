/- B8: texts in one: DrL DrT DrB DrE DrK DrI OwC DrU DrV DrW. -/
import Derived.Test.YtehhoplenloocaaDraw
import Derived.Test.YtehhoplenloocaaB2
import Derived.Handy
import Derived.Test.YtehhoplenloocaaB4
import Derived.Test.YtehhoplenloocaaPlace
import Derived.Test.YtehhoplenloocaaB17
import Derived.Test.YtehhoplenloocaaPrm
import Derived.Deep.DeepCutAuto
import Derived.Deep.RegionHeld3
import Derived.Test.YtehhoplenloocaaB18
import Derived.Deep.AppendLies
/- Lists that are drawn: l2Draw, l15Draw. -/
namespace Go.Proofs.Ytehhoplenloocaa
open Go.RowKit
set_option linter.unusedVariables false
set_option linter.unusedSimpArgs false

theorem OwnI.cur {w w' : World} {B p : Nat} {v : Value} {l : List Int} (h : OwnI w B v l) (hg : w.grownBy w' (some p)) (hp : p < B) : OwnI w' B v l := by
  refine World.ownsRow.kept h (row := some p) hg ?_
  right
  intro e
  have := (World.ownsRow.lt h p e).1
  omega
theorem grown_then {w w1 w2 : World} {p : Nat} (h : w.grownBy w1 (some p)) (h2 : Below w.heap.size w1 w2) : w.grownBy w2 (some p) :=
  ⟨h2.os.trans h.os, h2.tape.trans h.tape, h2.output.trans h.output, Nat.le_trans h.size h2.size, fun k hk hne => (h2.block k hk).trans (h.block k hk hne)⟩
theorem draw_push {w w3 w4 : World} {p hb : Nat} {v : Value} {acc : List Int} {o : Obj} (hC : Cur w3 p hb) (hG : w.grownBy w3 (some p)) (hown : OwnI w3 w.heap.size v acc) (hp : p < w.heap.size) (hg : (w3.alloc o).grownBy w4 v.ownBlock) : Cur w4 p hb ∧ w.grownBy w4 (some p) := by
  have hB : Below w.heap.size w3 w4 := OwnI.below (Below.refl _ _) hG.size o hg hown (Nat.le_refl _)
  exact ⟨hC.below hB hp, grown_then hG hB⟩

set_option maxRecDepth 100000 in
set_option maxHeartbeats 4000000 in
theorem l2Draw_any (p hb : Nat) (n m : Nat) (w : World) (h : Cur w p hb) (hn : n ≤ 1000) (hm : m ≤ 1000) :
    Calls Try.prog 99 #[curP p, .int .i64 n, .int .i64 m] w fun e w' => ∃ u l, e = .returned u ∧ OwnI w' w.heap.size u l ∧ l.length = n ∧ allIn l (-m) m = true ∧ Cur w' p hb ∧ w.grownBy w' (some p) := by
  have hp := h.lt
  have HC0 := Lib.hid (h.below (below1 w (.cells #[] 3)) hp)
  have HG0 := Lib.hid (grown_alloc (World.grownBy.refl w (some p)) (.cells #[] 3))
  have HO0 := Lib.hid (OwnI.lit0 w w.heap.size (Nat.le_refl _))
  clear h
  unfold curP
  go_enter Try.func99, Try.ntmps99
  go_wp2
  go_loopw [7, 8] (fun s i wr => ∃ (k : Nat) (acc : List Int), k ≤ n ∧ i = .int .i64 k ∧ acc.length ≤ k ∧ Hid (acc.length = k) ∧ Hid (allIn acc (-m) m = true) ∧ Hid (OwnI wr w.heap.size s acc) ∧ Hid (Cur wr p hb) ∧ Hid (w.grownBy wr (some p))) (fun _ i _ => n - (intOf i).toNat)
  case atStart => exact ⟨0, [], by omega, rfl, Nat.le_refl _, Lib.hid rfl, Lib.hid rfl, HO0, HC0, HG0⟩
  case round =>
    obtain ⟨k, acc, hk, rfl, hal, HL, HA, HO, HC, HG⟩ := hrel
    by_cases hlt : k < n
    · have BB := l1Below_any p hb (2 * m + 1) wr HC.out (by omega) (by omega)
      unfold curP at BB
      go_wp2_with fail
      refine BB.mono ?_
      rintro e w2 ⟨x, rfl, hx0, hx1, hc, hg⟩
      have HO2 := Lib.hid (HO.out.cur hg hp)
      have HC2 := Lib.hid hc
      have HG2 := Lib.hid (grown_trans HG.out hg)
      clear hc hg BB HC HG HO
      have hsz := HG2.out.size
      go_wp2_with (at_builtin; refine wpList_append_I rfl _ _ rfl rfl rfl (HO2.out.kept (below1 w2 (.cells #[.int .i64 (x - m)] 3))) (IS.lit w2 [x - m] (by simp)).read (by simp; omega) (by simp; omega) ?_)
      intro a cap w4 ho4 hg4
      have hd := draw_push HC2.out HG2.out HO2.out hp hg4
      have HC4 := Lib.hid hd.1
      have HG4 := Lib.hid hd.2
      have HO4 := Lib.hid ho4
      have HL4 := Lib.hid (show (acc ++ [x - (m : Int)]).length = k + 1 by simp [HL.out])
      have HA4 := Lib.hid (show allIn (acc ++ [x - (m : Int)]) (-m) m = true by unfold allIn; rw [List.all_append]; simp only [Bool.and_eq_true]; exact ⟨HA.out, by simp [inB]; omega⟩)
      clear hd hg4 ho4 HC2 HG2 HO2 hsz
      go_wp2
      go_roundw
      case rel => exact ⟨k + 1, acc ++ [x - m], by omega, by go_num, by simp; omega, HL4, HA4, HO4, HC4, HG4⟩
      case measure => simp [intOf]; omega
    · obtain rfl : k = n := by omega
      go_wp2
      go_ret
      exact ⟨_, acc, rfl, HO.out, HL.out, HA.out, HC.out, HG.out⟩
end Go.Proofs.Ytehhoplenloocaa

/- The draws of the statement on tetrahedra. -/
namespace Go.Proofs.Ytehhoplenloocaa
open Go.RowKit
set_option linter.unusedVariables false
set_option linter.unusedSimpArgs false

theorem OwnL.cur {w w' : World} {B p : Nat} {v : Value} {ls : List (List Int)} (h : OwnL w B v ls) (hg : w.grownBy w' (some p)) (hp : p < B) : OwnL w' B v ls := by
  obtain ⟨V, q, h1, h2, h3, h4⟩ := h
  have h1' : w'.ownsRow B 30 1 v ls.length ((List.range ls.length).map V) := by
    refine World.ownsRow.kept h1 (row := some p) hg ?_
    right
    intro e
    have := (World.ownsRow.lt h1 p e).1
    omega
  refine ⟨V, q, h1', h2, Nat.le_trans h3 hg.size, fun i hi => ⟨(h4 i hi).1, (h4 i hi).2.cur hg ?_⟩⟩
  have := OwnL.mono (p := q) (n := ls.length) (fun i hi => (h4 i hi).1) 0 i (Nat.zero_le _) (by omega)
  left; omega
end Go.Proofs.Ytehhoplenloocaa

/- The draws of the statement on tetrahedra: l13Bent. -/
namespace Go.Proofs.Ytehhoplenloocaa
open Go.RowKit
set_option linter.unusedVariables false
set_option linter.unusedSimpArgs false

theorem RowsW.less {w : World} {lo hi b off n m : Nat} {V : Nat → Value} {cur : Nat → List Int} (h : RowsW w lo hi b off n V cur) (hm : m ≤ n) : RowsW w lo hi b off m V cur :=
  ⟨by obtain ⟨c, e, f⟩ := h.outer; exact ⟨c, e, fun i hi => f i (by omega)⟩, fun i hi => h.row i (by omega), fun i j hij hj => h.apart i j hij (by omega)⟩
theorem blw5 (w : World) (o1 o2 o3 o4 o5 : Obj) : Below w.heap.size w (((((w.alloc o1).alloc o2).alloc o3).alloc o4).alloc o5) := ((((below1 w o1).alloc (by simp) o2).alloc (by simp; omega) o3).alloc (by simp; omega) o4).alloc (by simp; omega) o5
theorem IS.lit3H (w : World) (B g : Nat) (hg : w.heap.size = g) (h : B ≤ g) (x y z : Int) : IS (w.alloc (.cells #[.int .i64 x, .int .i64 y, .int .i64 z] 3)) g (g + 1) (.slice (some ⟨g, 0, none⟩) 3 3) [x, y, z] := by
  subst hg; exact IS.lit3 w _ (Nat.le_refl _) x y z
/-- four rows, as they are laid -/
theorem lit43 (w : World) (B : Nat) (hB : B ≤ w.heap.size) {a b c d e f g h i j k l : Int} : ISS (((((w.alloc (.cells #[.int .i64 a, .int .i64 b, .int .i64 c] 3)).alloc (.cells #[.int .i64 d, .int .i64 e, .int .i64 f] 3)).alloc (.cells #[.int .i64 g, .int .i64 h, .int .i64 i] 3)).alloc (.cells #[.int .i64 j, .int .i64 k, .int .i64 l] 3)).alloc
    (.cells #[.slice (some ⟨w.heap.size, 0, none⟩) 3 3, .slice (some ⟨w.heap.size + 1, 0, none⟩) 3 3, .slice (some ⟨w.heap.size + 1 + 1, 0, none⟩) 3 3, .slice (some ⟨w.heap.size + 1 + 1 + 1, 0, none⟩) 3 3] 30)) B (w.heap.size + 1 + 1 + 1 + 1 + 1) (.slice (some ⟨w.heap.size + 1 + 1 + 1 + 1, 0, none⟩) 4 4) [[a, b, c], [d, e, f], [g, h, i], [j, k, l]] := by
  have k0 := IS.lit3H w w.heap.size _ rfl (Nat.le_refl _) a b c
  have k1 := IS.lit3H (w.alloc (.cells #[.int .i64 a, .int .i64 b, .int .i64 c] 3)) w.heap.size (w.heap.size + 1) (by simp) (by omega) d e f
  have k2 := IS.lit3H ((w.alloc (.cells #[.int .i64 a, .int .i64 b, .int .i64 c] 3)).alloc (.cells #[.int .i64 d, .int .i64 e, .int .i64 f] 3)) w.heap.size (w.heap.size + 1 + 1) (by simp) (by omega) g h i
  have k3 := IS.lit3H (((w.alloc (.cells #[.int .i64 a, .int .i64 b, .int .i64 c] 3)).alloc (.cells #[.int .i64 d, .int .i64 e, .int .i64 f] 3)).alloc (.cells #[.int .i64 g, .int .i64 h, .int .i64 i] 3)) w.heap.size (w.heap.size + 1 + 1 + 1) (by simp) (by omega) j k l
  have hb : ∀ q : Nat, blkOf (.slice (some ⟨q, 0, none⟩) 3 3) = some q := fun q => blkOf_some _ _ _ _ (by omega)
  refine ⟨some ⟨w.heap.size + 1 + 1 + 1 + 1, 0, none⟩, 4, rfl, by simp, by simp [maxLen], fun _ => ⟨w.heap.size + 1 + 1 + 1 + 1, 0, fun q => .slice (some ⟨w.heap.size + q, 0, none⟩) 3 3, rfl, by omega, by omega, ?_, fun q hq => ?_, fun q r hqr hr => ?_⟩⟩
  · refine ⟨_, by have := heap_alloc_new ((((w.alloc (.cells #[.int .i64 a, .int .i64 b, .int .i64 c] 3)).alloc (.cells #[.int .i64 d, .int .i64 e, .int .i64 f] 3)).alloc (.cells #[.int .i64 g, .int .i64 h, .int .i64 i] 3)).alloc (.cells #[.int .i64 j, .int .i64 k, .int .i64 l] 3)) (.cells #[.slice (some ⟨w.heap.size, 0, none⟩) 3 3, .slice (some ⟨w.heap.size + 1, 0, none⟩) 3 3, .slice (some ⟨w.heap.size + 1 + 1, 0, none⟩) 3 3, .slice (some ⟨w.heap.size + 1 + 1 + 1, 0, none⟩) 3 3] 30); simpa using this, fun q hq => ?_⟩
    simp at hq
    rcases (show q = 0 ∨ q = 1 ∨ q = 2 ∨ q = 3 by omega) with rfl | rfl | rfl | rfl <;> rfl
  · simp at hq
    rcases (show q = 0 ∨ q = 1 ∨ q = 2 ∨ q = 3 by omega) with rfl | rfl | rfl | rfl
    · exact ((((k0.keep (below1 _ _) (by simp)).keep (below1 _ _) (by simp)).keep (below1 _ _) (by simp)).keep (below1 _ _) (by simp)).mono hB (by omega)
    · exact (((k1.keep (below1 _ _) (by simp)).keep (below1 _ _) (by simp)).keep (below1 _ _) (by simp)).mono (by omega) (by omega)
    · exact ((k2.keep (below1 _ _) (by simp)).keep (below1 _ _) (by simp)).mono (by omega) (by omega)
    · exact (k3.keep (below1 _ _) (by simp)).mono (by omega) (by omega)
  · right
    rw [hb, hb]
    intro e; injection e with e; omega
end Go.Proofs.Ytehhoplenloocaa

/- The draws of the statement on tetrahedra. -/
namespace Go.Proofs.Ytehhoplenloocaa
open Go.RowKit
set_option linter.unusedVariables false
set_option linter.unusedSimpArgs false

theorem ISS.cur {w w' : World} {lo p : Nat} {v : Value} {ls : List (List Int)} (h : ISS w lo w.heap.size v ls) (hg : w.grownBy w' (some p)) (hp : p < lo) : ISS w' lo w'.heap.size v ls :=
  (h.of_blocks fun b h1 h2 h3 => hg.block b h3 (by intro e; injection e with e; omega)).mono (Nat.le_refl _) hg.size
theorem ISS.upb {w w' : World} {lo : Nat} {v : Value} {ls : List (List Int)} (h : ISS w lo w.heap.size v ls) (hb : Below w.heap.size w w') : ISS w' lo w'.heap.size v ls := (h.of_blocks fun b _ _ h3 => hb.block b h3).mono (Nat.le_refl _) hb.size
def ISu (w : World) (lo : Nat) (v : Value) (l : List Int) : Prop := IS w lo w.heap.size v l
theorem ISu.cur {w w' : World} {lo p : Nat} {v : Value} {l : List Int} (h : ISu w lo v l) (hg : w.grownBy w' (some p)) (hp : p < lo) : ISu w' lo v l := (IS.cur h hg (.inl hp)).mono (Nat.le_refl _) hg.size
theorem ISu.upb {w w' : World} {lo : Nat} {v : Value} {l : List Int} (h : ISu w lo v l) (hb : Below w.heap.size w w') : ISu w' lo v l := (IS.of_blocks h fun b _ _ h3 => hb.block b h3).mono (Nat.le_refl _) hb.size

end Go.Proofs.Ytehhoplenloocaa

/- Cones that are drawn. -/
namespace Go.Proofs.Ytehhoplenloocaa
open Go.RowKit
set_option linter.unusedVariables false
set_option linter.unusedSimpArgs false

/-- block n is a cone's box -/
def CB (w : World) (n : Nat) (x y : Value) : Prop := w.heap[n]? = some (.cells #[x, y] 62 (0, 0))
theorem CB.lt {w : World} {n : Nat} {x y : Value} (h : CB w n x y) : n < w.heap.size := by
  rcases Nat.lt_or_ge n w.heap.size with h' | h'
  · exact h'
  · unfold CB at h; rw [Array.getElem?_eq_none h'] at h; cases h
theorem CB.c0 {w : World} {n : Nat} {x y : Value} (h : CB w n x y) : w.cell? ⟨n, 0, none⟩ = some x := by unfold CB at h; simp [World.cell?, h]
theorem CB.c1 {w : World} {n : Nat} {x y : Value} (h : CB w n x y) : w.cell? ⟨n, 1, none⟩ = some y := by unfold CB at h; simp [World.cell?, h]
theorem CB.fr {w : World} {n : Nat} {x y : Value} (h : CB w n x y) (i : Nat) : w.frozen? ⟨n, i, none⟩ = false := blk_frozen h i
theorem CB.cur {w w' : World} {n p : Nat} {x y : Value} (h : CB w n x y) (hg : w.grownBy w' (some p)) (hp : n ≠ p) : CB w' n x y :=
  (hg.block n h.lt (by intro e; injection e with e; exact hp e)).trans h
theorem CB.below {w w' : World} {n : Nat} {x y : Value} (h : CB w n x y) (hb : Below w.heap.size w w') : CB w' n x y := (hb.block n h.lt).trans h
theorem CB.new (w : World) (x y : Value) : CB (w.alloc (.cells #[x, y] 62)) w.heap.size x y := heap_alloc_new w _
theorem CB.set0 {w : World} {n : Nat} {x y : Value} (h : CB w n x y) (u : Value) : CB (w.setCell ⟨n, 0, none⟩ u) n u y := by
  unfold CB at *; simp [World.setCell, Array.getElem?_modify, h]
theorem CB.set1 {w : World} {n : Nat} {x y : Value} (h : CB w n x y) (u : Value) : CB (w.setCell ⟨n, 1, none⟩ u) n x u := by
  unfold CB at *; simp [World.setCell, Array.getElem?_modify, h]
theorem CB.other {w : World} {n m i : Nat} {x y : Value} (h : CB w n x y) (hm : m ≠ n) (u : Value) : CB (w.setCell ⟨m, i, none⟩ u) n x y := by
  unfold CB at *
  rw [Below.heap_setCell _ _ _ _ (fun e => hm e.symm)]; exact h
theorem below_set2 (w : World) (n : Nat) (x y : Value) : Below n w ((w.setCell ⟨n, 0, none⟩ x).setCell ⟨n, 1, none⟩ y) :=
  ((Below.refl n w).setCell (p := ⟨n, 0, none⟩) (Nat.le_refl _) x).setCell (p := ⟨n, 1, none⟩) (Nat.le_refl _) y
theorem Cur.setN {w : World} {p hb n i : Nat} (h : Cur w p hb) (hp : p < n) (x : Value) : Cur (w.setCell ⟨n, i, none⟩ x) p hb :=
  h.below (B := n) ((Below.refl n w).setCell (Nat.le_refl _) x) hp
theorem ISu.setN {w : World} {lo n i : Nat} {v : Value} {l : List Int} (h : ISu w lo v l) (hn : n < lo) (x : Value) : ISu (w.setCell ⟨n, i, none⟩ x) lo v l :=
  (IS.of_blocks h fun b h1 h2 _ => Below.heap_setCell _ _ _ _ (by intro e; have e : b = n := e; omega)).mono (Nat.le_refl _) (by simp)
theorem ISu.form {w : World} {lo : Nat} {v : Value} {l : List Int} (h : ISu w lo v l) : ∃ a cap, v = .slice a l.length cap := by
  obtain ⟨a, cap, e, -⟩ := h; exact ⟨a, cap, e⟩
theorem ISu.read {w : World} {lo : Nat} {v : Value} {l : List Int} (h : ISu w lo v l) : ISr w w.heap.size v l := IS.read h
theorem ISu.lo {w : World} {lo lo' : Nat} {v : Value} {l : List Int} (h : ISu w lo v l) (hl : lo' ≤ lo) : ISu w lo' v l := IS.mono h hl (Nat.le_refl _)
theorem ISu.nil (w : World) (lo : Nat) : ISu w lo (.slice none 0 0) [] := IS.nil _ _ _
theorem primQ_in9 {x y : Int} (hx : -6 ≤ x ∧ x ≤ 6) (hy : -6 ≤ y ∧ y ≤ 6) : allIn (primQ [x, y]) (-1000000000) 1000000000 = true := by
  have h := primQ_bd (l := [x, y]) (M := 6) (fun k hk => by
    rcases (show k = 0 ∨ k = 1 by simp at hk; omega) with rfl | rfl
    · exact hx
    · exact hy)
  obtain ⟨a, b, e⟩ : ∃ a b, primQ [x, y] = [a, b] := ⟨_, _, rfl⟩
  rw [e] at h ⊢
  have h0 := h 0 (by simp)
  have h1 := h 1 (by simp)
  simp only [List.getD_cons_zero, List.getD_cons_succ] at h0 h1
  simp [allIn, inB]; omega
theorem len2k {l : List Int} (h : l.length = 2) : ∃ a b, l = [a, b] := by
  match l, h with
  | [a, b], _ => exact ⟨a, b, rfl⟩

theorem IS.lit2K (w : World) (B g : Nat) (hg : w.heap.size = g) (h : B ≤ g) (x y : Int) : IS (w.alloc (.cells #[.int .i64 x, .int .i64 y] 3)) B (g + 1) (.slice (some ⟨g, 0, Option.none⟩) 2 2) [x, y] := by
  subst hg; exact IS.lit2 w B h x y
theorem IS.setO {w : World} {lo hi n i : Nat} {v : Value} {l : List Int} (h : IS w lo hi v l) (hn : n < lo ∨ hi ≤ n) (x : Value) : IS (w.setCell ⟨n, i, Option.none⟩ x) lo hi v l :=
  h.of_blocks fun b h1 h2 _ => Below.heap_setCell _ _ _ _ (by intro e; have e : b = n := e; omega)
set_option maxRecDepth 100000 in
set_option maxHeartbeats 8000000 in
theorem l9Draw_any (p hb : Nat) (w : World) (h : Cur w p hb) :
    Calls Try.prog 160 #[curP p] w fun e w' => ∃ u1 u2 U V, e = .returned (.agg #[u1, u2]) ∧ ISu w' w.heap.size u1 U ∧ ISu w' w.heap.size u2 V ∧ Cur w' p hb ∧ w.grownBy w' (some p) := by
  have hp := h.lt
  have HC0 := Lib.hid (h.below (below1 w (.cells #[.slice none 0 0, .slice none 0 0] 62)) hp)
  have HG0 := Lib.hid (grown_alloc (World.grownBy.refl w (some p)) (.cells #[.slice none 0 0, .slice none 0 0] 62))
  have S0 := Lib.hid (CB.new w (.slice none 0 0) (.slice none 0 0))
  have hnp : w.heap.size ≠ p := by omega
  clear h
  unfold curP at *
  go_enter Try.func160, Try.ntmps160
  go_wp2
  go_loopw [3] (fun i wr => ∃ k : Nat, k ≤ 6 ∧ i = .int .i64 k ∧ Hid (CB wr w.heap.size (.slice none 0 0) (.slice none 0 0)) ∧ Hid (Cur wr p hb) ∧ Hid (w.grownBy wr (some p))) (fun i _ => 6 - (intOf i).toNat)
  case atStart => exact ⟨0, by omega, rfl, S0, HC0, HG0⟩
  case round =>
    clear S0 HC0 HG0
    obtain ⟨k, hk, rfl, HS, HC, HG⟩ := hrel
    by_cases hlt : k < 6
    · have BB := l2Draw_any p hb 2 6 wr HC.out (by omega) (by omega)
      rw [show ((2 : Nat) : Int) = 2 from rfl, show ((6 : Nat) : Int) = 6 from rfl] at BB
      unfold curP at BB
      go_wp2_with fail
      refine BB.mono ?_
      clear BB
      rintro e w2 ⟨u, l1, rfl, ho, hl, ha, hc, hg⟩
      have hsz : w.heap.size + 1 ≤ wr.heap.size := HS.out.lt
      have O2 := Lib.hid (show ISu w2 (w.heap.size + 1) u l1 from ho.is.mono hsz (Nat.le_refl _))
      have S2 := Lib.hid (HS.out.cur hg hnp)
      have HC2 := Lib.hid hc
      have HG2 := Lib.hid (grown_trans HG.out hg)
      obtain ⟨x1, y1, rfl⟩ := len2k hl
      have b1 := allIn_at ha 0 (by simp)
      have b2 := allIn_at ha 1 (by simp)
      simp only [List.getD_cons_zero, List.getD_cons_succ] at b1 b2
      obtain ⟨a1, c1, rfl⟩ := O2.out.form
      clear ho hl ha hc hg HS HC HG hsz
      have BB := l2Draw_any p hb 2 6 w2 HC2.out (by omega) (by omega)
      rw [show ((2 : Nat) : Int) = 2 from rfl, show ((6 : Nat) : Int) = 6 from rfl] at BB
      unfold curP at BB
      go_wp2_with fail
      refine BB.mono ?_
      clear BB
      rintro e w3 ⟨u, l2, rfl, ho, hl, ha, hc, hg⟩
      have hsz : w.heap.size + 1 ≤ w2.heap.size := S2.out.lt
      have P3 := Lib.hid (show ISu w3 (w.heap.size + 1) u l2 from ho.is.mono hsz (Nat.le_refl _))
      have O3 := Lib.hid (O2.out.cur hg (by omega))
      have S3 := Lib.hid (S2.out.cur hg hnp)
      have HC3 := Lib.hid hc
      have HG3 := Lib.hid (grown_trans HG2.out hg)
      obtain ⟨x2, y2, rfl⟩ := len2k hl
      have b3 := allIn_at ha 0 (by simp)
      have b4 := allIn_at ha 1 (by simp)
      simp only [List.getD_cons_zero, List.getD_cons_succ] at b3 b4
      obtain ⟨a2, c2, rfl⟩ := P3.out.form
      clear ho hl ha hc hg S2 HC2 HG2 hsz O2
      have k1 : ∀ k, k < [x1, y1].length → -1000 ≤ [x1, y1].getD k 0 ∧ [x1, y1].getD k 0 ≤ 1000 := fun k hk => by
        rcases (show k = 0 ∨ k = 1 by simp at hk; omega) with rfl | rfl
        · show -1000 ≤ x1 ∧ x1 ≤ 1000; omega
        · show -1000 ≤ y1 ∧ y1 ≤ 1000; omega
      have k2 : ∀ k, k < [x2, y2].length → -1000 ≤ [x2, y2].getD k 0 ∧ [x2, y2].getD k 0 ≤ 1000 := fun k hk => by
        rcases (show k = 0 ∨ k = 1 by simp at hk; omega) with rfl | rfl
        · show -1000 ≤ x2 ∧ x2 ≤ 1000; omega
        · show -1000 ≤ y2 ∧ y2 ≤ 1000; omega
      have G1 := l2All_any [x1, y1] _ _ w3 O3.out.read 1000 (by omega) k1
      have G2 := l2All_any [x2, y2] _ _ w3 P3.out.read 1000 (by omega) k2
      have Q1 := l2Prime_any [x1, y1] _ _ w3 O3.out.read (Nat.le_refl _) (by simp) k1
      have Q2 := Lib.hid (fun W (B : Below w3.heap.size w3 W) => l2Prime_any [x2, y2] _ _ W (P3.out.read.keep B (Nat.le_refl _)) B.size (by simp) k2)
      have in1 := Lib.hid (primQ_in9 b1 b2)
      have in2 := Lib.hid (primQ_in9 b3 b4)
      have pl1 := Lib.hid (show (primQ [x1, y1]).length = 2 from rfl)
      have pl2 := Lib.hid (show (primQ [x2, y2]).length = 2 from rfl)
      clear k1 k2 b1 b2 b3 b4
      rw [show [x1, y1].length = 2 from rfl] at G1 Q1 O3
      rw [show [x2, y2].length = 2 from rfl] at G2 Q2 P3
      rw [show [x2, y2].length = 2 from rfl]
      generalize gcdL [x1, y1] = g1 at *
      generalize gcdL [x2, y2] = g2 at *
      generalize hpq1 : primQ [x1, y1] = q1 at *
      generalize hpq2 : primQ [x2, y2] = q2 at *
      clear hpq1 hpq2
      by_cases e1 : g1 = 0
      · subst e1
        clear Q1 Q2 G2
        have t1 : ((0 : Int) == 0) = true := rfl
        go_wp2_with (go_at_call 159; (with_reducible refine G1.mono ?_); rintro e w9 ⟨rfl, rfl⟩)
        go_roundw
        case rel => exact ⟨k + 1, by omega, by go_num, S3, HC3, HG3⟩
        case measure => simp [intOf]; omega
      have t1 : (g1 == 0) = false := by rw [beq_eq_false_iff_ne]; exact e1
      by_cases e2 : g2 = 0
      · subst e2
        clear Q1 Q2
        have t2 : ((0 : Int) == 0) = true := rfl
        go_wp2_with (first | (go_at_call 159; (with_reducible refine G1.mono ?_); rintro e w9 ⟨rfl, rfl⟩) | (go_at_call 159; (with_reducible refine G2.mono ?_); rintro e w9 ⟨rfl, rfl⟩))
        go_roundw
        case rel => exact ⟨k + 1, by omega, by go_num, S3, HC3, HG3⟩
        case measure => simp [intOf]; omega
      have t2 : (g2 == 0) = false := by rw [beq_eq_false_iff_ne]; exact e2
      go_wp2_with (first | (go_at_call 159; (with_reducible refine G1.mono ?_); rintro e w9 ⟨rfl, rfl⟩) | (go_at_call 159; (with_reducible refine G2.mono ?_); rintro e w9 ⟨rfl, rfl⟩))
      clear G1 G2 t1 t2 e1 e2
      have hw3 : w.heap.size + 1 ≤ w3.heap.size := S3.out.lt
      refine Q1.mono ?_
      clear Q1
      rintro e w4 ⟨u4, rfl, k4, c4⟩
      have A4 := Lib.hid (show ISu w4 (w.heap.size + 1) u4 q1 from k4.mono hw3 (Nat.le_refl _))
      obtain ⟨a4, p4, rfl⟩ := A4.out.form
      have Q2' := Q2.out _ c4
      have C4 := Lib.hid c4
      clear k4 Q2 O3 P3
      go_wp2_with fail
      refine Q2'.mono ?_
      clear Q2'
      rintro e w5 ⟨u5, rfl, k5, c5⟩
      have C5 := Lib.hid (below_then C4.out C4.out.size c5)
      have A5 := Lib.hid (A4.out.upb c5)
      have B5 := Lib.hid (show ISu w5 (w.heap.size + 1) u5 q2 from k5.mono (Nat.le_trans hw3 C4.out.size) (Nat.le_refl _))
      obtain ⟨a5, p5, rfl⟩ := B5.out.form
      clear k5 c4 c5 A4 C4
      rw [pl1.out] at A5
      rw [pl2.out] at B5 ⊢
      try rw [pl1.out]
      have cA := below1 w5 (.cells #[.slice a4 2 p4, .slice a5 2 p5] 62)
      have C6 := Lib.hid (below_then C5.out C5.out.size cA)
      have A6 := Lib.hid (A5.out.upb cA)
      have B6 := Lib.hid (B5.out.upb cA)
      have X6 := Lib.hid (CB.new w5 (.slice a4 2 p4) (.slice a5 2 p5))
      have hp5 : p < w5.heap.size := by have := C5.out.size; omega
      have hn5 : w.heap.size < w5.heap.size := by have := C5.out.size; have := S3.out.lt; omega
      have S6 := Lib.hid (S3.out.below C6.out)
      have HC6 := Lib.hid (HC3.out.below C6.out HC3.out.lt)
      have HG6 := Lib.hid (grown_then HG3.out (C6.out.mono (by omega)))
      clear A5 B5 C5 cA S3 HC3 HG3 C6
      have hz6 : (w5.alloc (.cells #[.slice a4 2 p4, .slice a5 2 p5] 62)).heap.size = w5.heap.size + 1 := by simp
      have CR := l7Cross_any q1 q2 _ _ _ _ _ A6.out.read B6.out.read pl1.out pl2.out in1.out in2.out
      go_upto_region 8 with fail
      generalize w5.heap.size = n6 at *
      generalize w5.alloc (.cells #[.slice a4 2 p4, .slice a5 2 p5] 62) = w6 at *
      have y0 := X6.out.c0
      have y1' := X6.out.c1
      generalize crossI q1 q2 = cr at *
      have IC := Lib.hid (fun d => specIsCone_any q1 q2 _ _ _ (w6.drewN d) (A6.out.read.draws d) (B6.out.read.draws d) (Nat.le_refl _))
      go_wp2_with fail
      refine CR.mono ?_
      rintro e w7 ⟨rfl, dd, rfl⟩
      clear CR
      have A7 := Lib.hid (show ISu (w6.drewN dd) (w.heap.size + 1) (.slice a4 2 p4) q1 from A6.out)
      have B7 := Lib.hid (show ISu (w6.drewN dd) (w.heap.size + 1) (.slice a5 2 p5) q2 from B6.out)
      have S7 := Lib.hid (show CB (w6.drewN dd) w.heap.size (.slice none 0 0) (.slice none 0 0) from S6.out)
      have X7 := Lib.hid (show CB (w6.drewN dd) n6 (.slice a4 2 p4) (.slice a5 2 p5) from X6.out)
      have HC7 := Lib.hid (show Cur (w6.drewN dd) p hb from HC6.out.below (below_draws w6.heap.size w6 dd) HC6.out.lt)
      have HG7 := Lib.hid (grown_draws HG6.out dd)
      have IC := specIsCone_any q1 q2 _ _ _ (w6.drewN dd) A7.out.read B7.out.read (Nat.le_refl _)
      clear A6 B6 S6 X6 HC6 HG6 y0 y1' hz6
      generalize w6.drewN dd = w7 at *
      have y0 := X7.out.c0
      have y1' := X7.out.c1
      by_cases hcr : cr < 0
      · clear IC
        have hcr' : decide (cr < 0) = true := by simpa using hcr
        have z0 := S7.out.c0
        have z1 := S7.out.c1
        have g0 := S7.out.fr 0
        have g1' := S7.out.fr 1
        have r0 := World.cell?_setCell_same w7 ⟨w.heap.size, 0, none⟩ (.slice a5 2 p5) z0
        have SF := (S7.out.set0 (.slice a5 2 p5)).set1 (.slice a4 2 p4)
        have r1 := SF.c1
        have HF := Lib.hid ((HC7.out.setN (i := 0) hp (.slice a5 2 p5)).setN (i := 1) hp (.slice a4 2 p4))
        have HGF := Lib.hid (grown_then HG7.out (below_set2 w7 w.heap.size (.slice a5 2 p5) (.slice a4 2 p4)))
        have HA := Lib.hid ((B7.out.setN (i := 0) (Nat.lt_succ_self _) (.slice a5 2 p5)).setN (i := 1) (Nat.lt_succ_self _) (.slice a4 2 p4))
        have HB := Lib.hid ((A7.out.setN (i := 0) (Nat.lt_succ_self _) (.slice a5 2 p5)).setN (i := 1) (Nat.lt_succ_self _) (.slice a4 2 p4))
        clear SF
        go_wp2
        refine bodyPost_ret (v := .agg #[.slice a5 2 p5, .slice a4 2 p4]) (by simp [results, Try.results160, go_sem, r0, r1]) rfl ?_
        exact ⟨_, _, _, _, rfl, HA.out.lo (Nat.le_succ _), HB.out.lo (Nat.le_succ _), HF.out, HGF.out⟩
      · have hcr' : decide (cr < 0) = false := by simpa using hcr
        go_wp2_with fail
        refine IC.mono ?_
        clear IC
        rintro e w8 ⟨rfl, c8⟩
        have A8 := Lib.hid (A7.out.upb c8)
        have B8 := Lib.hid (B7.out.upb c8)
        have S8 := Lib.hid (S7.out.below c8)
        have HC8 := Lib.hid (HC7.out.below c8 HC7.out.lt)
        have HG8 := Lib.hid (grown_then HG7.out (c8.mono (by have := S7.out.lt; omega)))
        have X8 := X7.out.below c8
        clear y0 y1' A7 B7 S7 HC7 HG7 X7 c8
        have y0 := X8.c0
        have y1' := X8.c1
        cases coneB q1 q2
        · go_wp2
          go_roundw
          case rel => exact ⟨k + 1, by omega, by go_num, S8, HC8, HG8⟩
          case measure => simp [intOf]; omega
        · skip
          have z0 := S8.out.c0
          have z1 := S8.out.c1
          have g0 := S8.out.fr 0
          have g1' := S8.out.fr 1
          have r0 := World.cell?_setCell_same w8 ⟨w.heap.size, 0, none⟩ (.slice a4 2 p4) z0
          have SF := (S8.out.set0 (.slice a4 2 p4)).set1 (.slice a5 2 p5)
          have r1 := SF.c1
          have HF := Lib.hid ((HC8.out.setN (i := 0) hp (.slice a4 2 p4)).setN (i := 1) hp (.slice a5 2 p5))
          have HGF := Lib.hid (grown_then HG8.out (below_set2 w8 w.heap.size (.slice a4 2 p4) (.slice a5 2 p5)))
          have HA := Lib.hid ((A8.out.setN (i := 0) (Nat.lt_succ_self _) (.slice a4 2 p4)).setN (i := 1) (Nat.lt_succ_self _) (.slice a5 2 p5))
          have HB := Lib.hid ((B8.out.setN (i := 0) (Nat.lt_succ_self _) (.slice a4 2 p4)).setN (i := 1) (Nat.lt_succ_self _) (.slice a5 2 p5))
          clear SF
          go_wp2
          refine bodyPost_ret (v := .agg #[.slice a4 2 p4, .slice a5 2 p5]) (by simp [results, Try.results160, go_sem, r0, r1]) rfl ?_
          exact ⟨_, _, _, _, rfl, HA.out.lo (Nat.le_succ _), HB.out.lo (Nat.le_succ _), HF.out, HGF.out⟩
    · obtain rfl : k = 6 := by omega
      have hsz : w.heap.size + 1 ≤ wr.heap.size := HS.out.lt
      have cA := below2 wr (.cells #[.int .i64 1, .int .i64 0] 3) (.cells #[.int .i64 2, .int .i64 5] 3)
      have A1 := Lib.hid (show ISu ((wr.alloc (.cells #[.int .i64 1, .int .i64 0] 3)).alloc (.cells #[.int .i64 2, .int .i64 5] 3)) (w.heap.size + 1) (.slice (some ⟨wr.heap.size, 0, none⟩) 2 2) [1, 0] from ((IS.lit2 wr (w.heap.size + 1) hsz 1 0).keep (below1 _ _) (by simp)).mono (Nat.le_refl _) (by simp))
      have A2 := Lib.hid (show ISu ((wr.alloc (.cells #[.int .i64 1, .int .i64 0] 3)).alloc (.cells #[.int .i64 2, .int .i64 5] 3)) (w.heap.size + 1) (.slice (some ⟨wr.heap.size + 1, 0, none⟩) 2 2) [2, 5] from by
        have := IS.lit2 (wr.alloc (.cells #[.int .i64 1, .int .i64 0] 3)) (w.heap.size + 1) (by simp; omega) 2 5
        rw [World.size_alloc] at this
        exact this.mono (Nat.le_refl _) (by simp))
      have S9 := Lib.hid (HS.out.below cA)
      have HC9 := Lib.hid (HC.out.below cA HC.out.lt)
      have HG9 := Lib.hid (grown_then HG.out (cA.mono (by omega)))
      clear HS HC HG cA
      go_upto_region 12 with fail
      have z0 := S9.out.c0
      have z1 := S9.out.c1
      have g0 := S9.out.fr 0
      have g1' := S9.out.fr 1
      have r0 := World.cell?_setCell_same ((wr.alloc (.cells #[.int .i64 1, .int .i64 0] 3)).alloc (.cells #[.int .i64 2, .int .i64 5] 3)) ⟨w.heap.size, 0, none⟩ (.slice (some ⟨wr.heap.size, 0, none⟩) 2 2) z0
      have SF := (S9.out.set0 (.slice (some ⟨wr.heap.size, 0, none⟩) 2 2)).set1 (.slice (some ⟨wr.heap.size + 1, 0, none⟩) 2 2)
      have r1 := SF.c1
      have HF := Lib.hid ((HC9.out.setN (i := 0) hp (.slice (some ⟨wr.heap.size, 0, none⟩) 2 2)).setN (i := 1) hp (.slice (some ⟨wr.heap.size + 1, 0, none⟩) 2 2))
      have HGF := Lib.hid (grown_then HG9.out (below_set2 ((wr.alloc (.cells #[.int .i64 1, .int .i64 0] 3)).alloc (.cells #[.int .i64 2, .int .i64 5] 3)) w.heap.size (.slice (some ⟨wr.heap.size, 0, none⟩) 2 2) (.slice (some ⟨wr.heap.size + 1, 0, none⟩) 2 2)))
      have HA := Lib.hid ((A1.out.setN (i := 0) (Nat.lt_succ_self _) (.slice (some ⟨wr.heap.size, 0, none⟩) 2 2)).setN (i := 1) (Nat.lt_succ_self _) (.slice (some ⟨wr.heap.size + 1, 0, none⟩) 2 2))
      have HB := Lib.hid ((A2.out.setN (i := 0) (Nat.lt_succ_self _) (.slice (some ⟨wr.heap.size, 0, none⟩) 2 2)).setN (i := 1) (Nat.lt_succ_self _) (.slice (some ⟨wr.heap.size + 1, 0, none⟩) 2 2))
      clear SF
      go_wp2
      refine bodyPost_ret (v := .agg #[.slice (some ⟨wr.heap.size, 0, none⟩) 2 2, .slice (some ⟨wr.heap.size + 1, 0, none⟩) 2 2]) (by simp [results, Try.results160, go_sem, r0, r1]) rfl ?_
      exact ⟨_, _, _, _, rfl, HA.out.lo (Nat.le_succ _), HB.out.lo (Nat.le_succ _), HF.out, HGF.out⟩
end Go.Proofs.Ytehhoplenloocaa

/- Cones that are drawn: the draws of the statements. -/
namespace Go.Proofs.Ytehhoplenloocaa
open Go.RowKit
set_option linter.unusedVariables false
set_option linter.unusedSimpArgs false

theorem l2DrawI_any (p hb : Nat) (n m : Int) (w : World) (h : Cur w p hb) (hn : 0 ≤ n ∧ n ≤ 1000) (hm : 0 ≤ m ∧ m ≤ 1000) :
    Calls Try.prog 99 #[curP p, .int .i64 n, .int .i64 m] w fun e w' => ∃ u l, e = .returned u ∧ OwnI w' w.heap.size u l ∧ (l.length : Int) = n ∧ allIn l (-m) m = true ∧ Cur w' p hb ∧ w.grownBy w' (some p) := by
  have h := l2Draw_any p hb n.toNat m.toNat w h (by omega) (by omega)
  rw [show ((n.toNat : Nat) : Int) = n by omega, show ((m.toNat : Nat) : Int) = m by omega] at h
  refine h.mono ?_
  rintro e w' ⟨u, l, he, ho, hl, hr⟩
  exact ⟨u, l, he, ho, by omega, hr⟩
theorem CB.two {w : World} {n m : Nat} {x y : Value} (h : CB w n x y) (hm : m ≠ n) (u v : Value) : CB ((w.setCell ⟨m, 0, none⟩ u).setCell ⟨m, 1, none⟩ v) n x y := (h.other hm u).other hm v




end Go.Proofs.Ytehhoplenloocaa

/- Owned rows beside a cursor. -/
namespace Go.Proofs.Ytehhoplenloocaa
open Go.RowKit
set_option linter.unusedVariables false
set_option linter.unusedSimpArgs false

theorem OwnLp.cur {w w' : World} {B p m : Nat} {v : Value} {ls : List (List Int)} {V : Nat → Value} {q : Nat → Nat} (h : OwnLp w B v ls V q m) (hg : w.grownBy w' (some p)) (hp : p < B) : OwnLp w' B v ls V q m := by
  obtain ⟨h1, h2, h3, h4⟩ := h
  have h1' : w'.ownsRow B 30 1 v ls.length ((List.range ls.length).map V) := by
    refine World.ownsRow.kept h1 (row := some p) hg ?_
    right
    intro e
    have := (World.ownsRow.lt h1 p e).1
    omega
  refine ⟨h1', h2, h3, fun i hi => ⟨(h4 i hi).1, (h4 i hi).2.cur hg ?_⟩⟩
  have := OwnL.mono (p := q) (n := ls.length) (fun i hi => (h4 i hi).1) 0 i (Nat.zero_le _) (by omega)
  left; omega
theorem OwnL.setN {w : World} {B n i : Nat} {v : Value} {ls : List (List Int)} (h : OwnL w B v ls) (hn : n < B) (x : Value) : OwnL (w.setCell ⟨n, i, none⟩ x) B v ls := h.cur (grown_set (World.grownBy.refl w (some n)) i x) hn
end Go.Proofs.Ytehhoplenloocaa

/- Matrices that are drawn: l3Draw, l3Unit. -/
namespace Go.Proofs.Ytehhoplenloocaa
open Go Go.RowKit
set_option linter.unusedVariables false
set_option linter.unusedSimpArgs false

/-- rows that read, in blocks from lo on -/
def RQ (w : World) (lo : Nat) (v : Value) (ls : List (List Int)) : Prop :=
  ∃ a cap, v = .slice a ls.length cap ∧ ls.length ≤ cap ∧ cap ≤ maxLen ∧ (ls ≠ [] → ∃ b off, ∃ V : Nat → Value, a = some ⟨b, off, none⟩ ∧ lo ≤ b ∧ b < w.heap.size ∧ ∀ i, i < ls.length → w.cell? ⟨b, off + i, none⟩ = some (V i) ∧ IS w lo w.heap.size (V i) (ls.getD i []))
theorem RQ.read {w : World} {lo : Nat} {v : Value} {ls : List (List Int)} (h : RQ w lo v ls) : ISSr w w.heap.size v ls := by
  obtain ⟨a, cap, h1, h2, h3, h4⟩ := h
  refine ⟨a, cap, h1, h2, h3, fun hl => ?_⟩
  obtain ⟨b, off, V, e, -, hb, hc⟩ := h4 hl
  exact ⟨b, off, V, e, hb, fun i hi => ⟨(hc i hi).1, (hc i hi).2.read⟩⟩
theorem RQ.cur {w w' : World} {lo p : Nat} {v : Value} {ls : List (List Int)} (h : RQ w lo v ls) (hg : w.grownBy w' (some p)) (hp : p < lo) : RQ w' lo v ls := by
  obtain ⟨a, cap, h1, h2, h3, h4⟩ := h
  refine ⟨a, cap, h1, h2, h3, fun hl => ?_⟩
  obtain ⟨b, off, V, e, hlo, hb, hc⟩ := h4 hl
  exact ⟨b, off, V, e, hlo, Nat.lt_of_lt_of_le hb hg.size, fun i hi => ⟨(World.cell?_of_block (a := ⟨b, off + i, none⟩) (hg.block b hb (by intro e; injection e with e; omega))).trans (hc i hi).1, ((hc i hi).2.cur hg (.inl hp)).mono (Nat.le_refl _) hg.size⟩⟩
theorem RQ.upb {w w' : World} {lo : Nat} {v : Value} {ls : List (List Int)} (h : RQ w lo v ls) (hb' : Below w.heap.size w w') : RQ w' lo v ls := by
  obtain ⟨a, cap, h1, h2, h3, h4⟩ := h
  refine ⟨a, cap, h1, h2, h3, fun hl => ?_⟩
  obtain ⟨b, off, V, e, hlo, hb, hc⟩ := h4 hl
  exact ⟨b, off, V, e, hlo, Nat.lt_of_lt_of_le hb hb'.size, fun i hi => ⟨(hb'.cell (p := ⟨b, off + i, none⟩) hb).trans (hc i hi).1, ((hc i hi).2.keep hb' (Nat.le_refl _)).mono (Nat.le_refl _) hb'.size⟩⟩
theorem RQ.of {w : World} {lo : Nat} {v : Value} {ls : List (List Int)} (h : ISS w lo w.heap.size v ls) : RQ w lo v ls := by
  obtain ⟨a, cap, h1, h2, h3, h4⟩ := h
  refine ⟨a, cap, h1, h2, h3, fun hl => ?_⟩
  obtain ⟨b, off, V, e, g1, g2, g3, g4, -⟩ := h4 hl
  exact ⟨b, off, V, e, g1, g2, fun i hi => ⟨g3.cell hi, g4 i hi⟩⟩
theorem RQ.lower {w : World} {lo lo' : Nat} {v : Value} {ls : List (List Int)} (h : RQ w lo v ls) (hl : lo' ≤ lo) : RQ w lo' v ls := by
  obtain ⟨a, cap, h1, h2, h3, h4⟩ := h
  refine ⟨a, cap, h1, h2, h3, fun hn => ?_⟩
  obtain ⟨b, off, V, e, g1, g2, g3⟩ := h4 hn
  exact ⟨b, off, V, e, Nat.le_trans hl g1, g2, fun i hi => ⟨(g3 i hi).1, (g3 i hi).2.mono hl (Nat.le_refl _)⟩⟩
theorem RQ.ofMO {w : World} {lo b off n cap : Nat} {M : List (List Int)} (h : MO w lo b off n M) (hn : M.length = n) (hc : n ≤ cap) (hm : cap ≤ maxLen) (hlo : lo ≤ b) : RQ w lo (.slice (some ⟨b, off, none⟩) n cap) M := by
  obtain ⟨V, h⟩ := h
  subst hn
  exact ⟨_, cap, rfl, hc, hm, fun _ => ⟨b, off, V, rfl, hlo, h.outer.lt, fun i hi => ⟨h.outer.cell hi, h.row i hi⟩⟩⟩
theorem MO.cur {w w' : World} {lo b off n p : Nat} {M : List (List Int)} (h : MO w lo b off n M) (hg : w.grownBy w' (some p)) (hp : p < lo) (hb : lo ≤ b) : MO w' lo b off n M := by
  obtain ⟨V, h⟩ := h
  exact ⟨V, h.outer.of_block (hg.block b h.outer.lt (by intro e; injection e with e; omega)), fun i hi => ((h.row i hi).cur hg (.inl hp)).mono (Nat.le_refl _) hg.size⟩
theorem OwnLp.curA {w w' : World} {B p m : Nat} {v : Value} {ls : List (List Int)} {V : Nat → Value} {q : Nat → Nat} (h : OwnLp w B v ls V q m) (hg : w.grownBy w' (some p)) (hm : m ≤ p) (hv : ∀ g, v.ownBlock = some g → g < p) : OwnLp w' B v ls V q m := by
  obtain ⟨h1, h2, h3, h4⟩ := h
  have h1' : w'.ownsRow B 30 1 v ls.length ((List.range ls.length).map V) := by
    refine World.ownsRow.kept h1 (row := some p) hg ?_
    right
    intro e
    have := hv p e
    omega
  refine ⟨h1', h2, h3, fun i hi => ⟨(h4 i hi).1, (h4 i hi).2.cur hg ?_⟩⟩
  have := OwnL.mono (p := q) (n := ls.length) (fun i hi => (h4 i hi).1) (i + 1) ls.length hi (Nat.le_refl _)
  right; omega
theorem OwnL.bnd {w : World} {B : Nat} {v : Value} {ls : List (List Int)} (h : OwnL w B v ls) : ∀ g, v.ownBlock = some g → g < w.heap.size := by
  obtain ⟨V, p, h1, -⟩ := h
  exact fun g e => (World.ownsRow.lt h1 g e).2
def SqL (n : Nat) (B : Int) (M : List (List Int)) : Prop := M.length = n ∧ ∀ i, i < n → (M.getD i []).length = n ∧ allIn (M.getD i []) (-B) B = true
theorem SqL.mono {n : Nat} {B B' : Int} {M : List (List Int)} (h : SqL n B M) (hb : B ≤ B') : SqL n B' M := ⟨h.1, fun i hi => ⟨(h.2 i hi).1, by
  have := (h.2 i hi).2
  unfold allIn at this ⊢
  rw [List.all_eq_true] at this ⊢
  intro y hy
  have := this y hy
  simp [inB] at this ⊢; omega⟩⟩
theorem SqL.set {n a : Nat} {B B' : Int} {M : List (List Int)} {x : List Int} (h : SqL n B M) (ha : a < n) (hb : B ≤ B') (hx : x.length = n ∧ allIn x (-B') B' = true) : SqL n B' (M.set a x) :=
  ⟨by rw [List.length_set]; exact h.1, fun i hi => by
    rw [getD_setR (by rw [h.1]; exact ha)]
    split
    · exact hx
    · exact (h.mono hb).2 i hi⟩
def bU : Nat → Int
  | 0 => 1
  | k + 1 => 3 * bU k
theorem bU_bd {k : Nat} (h : k ≤ 3) : 1 ≤ bU k ∧ bU k ≤ 27 := by
  rcases (show k = 0 ∨ k = 1 ∨ k = 2 ∨ k = 3 by omega) with rfl | rfl | rfl | rfl <;> decide
def unitRow (n k : Nat) (s : Int) : List Int := (List.range n).map fun i => if i = k then s else 0
theorem unitRow_len (n k : Nat) (s : Int) : (unitRow n k s).length = n := by simp [unitRow]
theorem unitRow_at (n k : Nat) (s : Int) {i : Nat} (hi : i < n) : (unitRow n k s).getD i 0 = if i = k then s else 0 := by
  unfold unitRow; rw [List.getD_eq_getElem?_getD, List.getElem?_map, List.getElem?_range hi]; rfl
theorem unitRow_in (n k : Nat) {s : Int} (hs : -1 ≤ s ∧ s ≤ 1) : allIn (unitRow n k s) (-1) 1 = true := by
  unfold allIn unitRow
  rw [List.all_eq_true]
  intro y hy
  obtain ⟨i, -, rfl⟩ := List.mem_map.1 hy
  split <;> simp [inB] <;> omega
theorem rows_snoc {P : List Int → Prop} {acc : List (List Int)} {r : List Int} (h : ∀ i, i < acc.length → P (acc.getD i [])) (hr : P r) : ∀ i, i < (acc ++ [r]).length → P ((acc ++ [r]).getD i []) := fun i hi => by
  rcases Nat.lt_or_ge i acc.length with g | g
  · rw [List.getD_eq_getElem?_getD, List.getElem?_append_left g, ← List.getD_eq_getElem?_getD]; exact h i g
  · rw [List.length_append] at hi
    have : i = acc.length := by simp at hi; omega
    rw [this, List.getD_eq_getElem?_getD, List.getElem?_append_right (Nat.le_refl _)]; simpa using hr
theorem add_in {a b : List Int} {n : Nat} {t B : Int} (ha : a.length = n) (hb : b.length = n) (h1 : allIn a (-B) B = true) (h2 : allIn b (-B) B = true) (ht : -2 ≤ t ∧ t ≤ 2) (hB : 1 ≤ B ∧ B ≤ 27) :
    (∀ k, k < b.length → -9223372036854775808 ≤ b.getD k 0 * t ∧ b.getD k 0 * t ≤ 9223372036854775807) ∧ (∀ k, k < a.length → -9223372036854775808 ≤ a.getD k 0 + (b.map (· * t)).getD k 0 ∧ a.getD k 0 + (b.map (· * t)).getD k 0 ≤ 9223372036854775807) ∧
    (List.zipWith (· + ·) a (b.map (· * t))).length = n ∧ allIn (List.zipWith (· + ·) a (b.map (· * t))) (-(3 * B)) (3 * B) = true := by
  have hm : ∀ k, k < n → -(2 * B) ≤ b.getD k 0 * t ∧ b.getD k 0 * t ≤ 2 * B := fun k hk => by
    have := mul_bdH (M := B) (N := 2) (allIn_at h2 k (by omega)) ht
    omega
  have hmt : ∀ k, k < n → (b.map (· * t)).getD k 0 = b.getD k 0 * t := fun k hk => by
    rw [List.getD_eq_getElem?_getD, List.getElem?_map, List.getElem?_eq_getElem (by omega), List.getD_eq_getElem?_getD, List.getElem?_eq_getElem (by omega)]; rfl
  refine ⟨fun k hk => by have := hm k (by omega); omega, fun k hk => ?_, by simp; omega, ?_⟩
  · have := hm k (by omega)
    have := allIn_at h1 k hk
    rw [hmt k (by omega)]; omega
  · unfold allIn
    rw [List.all_eq_true]
    intro y hy
    obtain ⟨i, hi, rfl⟩ := List.getElem_of_mem hy
    simp only [List.length_zipWith, List.length_map] at hi
    have e1 := hm i (by omega)
    have e2 := allIn_at h1 i (by omega)
    rw [List.getD_eq_getElem?_getD, List.getElem?_eq_getElem (by omega)] at e1 e2
    simp only [Option.getD_some] at e1 e2
    simp only [List.getElem_zipWith, List.getElem_map]
    simp [inB]; omega

set_option maxRecDepth 100000 in
set_option maxHeartbeats 4000000 in
theorem l3Draw_any (p hb : Nat) (n : Nat) (m : Int) (w : World) (h : Cur w p hb) (hn : n ≤ 10) (hm : 0 ≤ m ∧ m ≤ 1000) :
    Calls Try.prog 139 #[curP p, .int .i64 n, .int .i64 m] w fun e w' => ∃ u ls, e = .returned u ∧ OwnL w' w.heap.size u ls ∧ SqL n m ls ∧ Cur w' p hb ∧ w.grownBy w' (some p) := by
  obtain ⟨i0, hi0, hz0, hz1, hz2⟩ := info_parts info_ints
  have HI0 := Lib.hid hi0; clear hi0
  have HZ0 := Lib.hid hz0; clear hz0
  have HZ1 := Lib.hid hz1; clear hz1
  have HZ2 := Lib.hid hz2; clear hz2
  have hp := h.lt
  have HC0 := Lib.hid (h.below (below1 w (.cells #[] 30)) hp)
  have HG0 := Lib.hid (grown_alloc (World.grownBy.refl w (some p)) (.cells #[] 30))
  have HO0 := Lib.hid (OwnL.lit0 w w.heap.size (Nat.le_refl _))
  clear h
  unfold curP
  go_enter Try.func139, Try.ntmps139
  go_wp2
  go_loopw [7, 8] (fun s i wr => ∃ (k : Nat) (acc : List (List Int)), k ≤ n ∧ i = .int .i64 k ∧ acc.length ≤ k ∧ Hid (acc.length = k) ∧ Hid (∀ i, i < acc.length → (acc.getD i []).length = n ∧ allIn (acc.getD i []) (-m) m = true) ∧ Hid (OwnL wr w.heap.size s acc) ∧ Hid (Cur wr p hb) ∧ Hid (w.grownBy wr (some p))) (fun _ i _ => n - (intOf i).toNat)
  case atStart => exact ⟨0, [], by omega, rfl, Nat.le_refl _, Lib.hid rfl, Lib.hid (fun i hi => by simp at hi), HO0, HC0, HG0⟩
  case round =>
    clear HO0 HC0 HG0
    obtain ⟨k, acc, hk, rfl, hal, HL, HA, HO, HC, HG⟩ := hrel
    by_cases hlt : k < n
    · have BB := l2DrawI_any p hb n m wr HC.out (by omega) hm
      unfold curP at BB
      go_wp2_with fail
      refine BB.mono ?_
      clear BB
      rintro e w4 ⟨u4, l4, rfl, ho4, hl4, ha4, hc4, hg4⟩
      obtain ⟨a4, c4, rfl⟩ := ho4.form
      obtain ⟨V, q, hpt⟩ := HO.out.part (Below.refl _ _)
      have HPT := Lib.hid (hpt.cur hg4 hp)
      have hsz := HG.out.size
      have hsz4 := hg4.size
      have HC4 := Lib.hid hc4
      have HG4 := Lib.hid (grown_trans HG.out hg4)
      have HK := Lib.hid (show IS w4 wr.heap.size w4.heap.size (.slice a4 l4.length c4) l4 from ho4.is)
      have HA4 := Lib.hid (show l4.length = n ∧ allIn l4 (-m) m = true from ⟨by omega, ha4⟩)
      clear ho4 hl4 ha4 hc4 hg4 HC HG HO hpt
      go_wp2_with (at_builtin; refine wpList_append_own _ rfl _ _ 24 rfl w.heap.size 30 i0 (.slice none 0 0) 1 24 Try.underlying24 HI0.out HZ0.out HZ1.out HZ2.out rfl (by decide) _ _ _ rfl (HPT.out.alloc _) ⟨w4.heap.size, 0, none⟩ 1 1 [.slice a4 l4.length c4] rfl rfl ?c1 ?c2 ?c3 ?c4 ?c5 ?_)
      case c1 => exact cell_one_new _ _ _
      case c2 => first | rfl | (intro u hu; simp at hu; subst hu; rfl)
      case c3 => unfold maxLen; omega
      case c4 => omega
      case c5 => first | omega | (simp; omega)
      intro v2 w6 hown2 hgrow _
      have HO6 := Lib.hid (HPT.out.push HK.out (Nat.le_refl _) hsz4 (Nat.le_refl _) hgrow hown2)
      have hB6 : Below w.heap.size w4 w6 := OwnLp.below (Below.refl w.heap.size w4) (by omega) _ hgrow HPT.out (Nat.le_refl _)
      have HC6 := Lib.hid (HC4.out.below hB6 hp)
      have HG6 := Lib.hid (grown_then HG4.out hB6)
      have HL6 := Lib.hid (show (acc ++ [l4]).length = k + 1 by simp [HL.out])
      have HA6 := Lib.hid (rows_snoc (P := fun r => r.length = n ∧ allIn r (-m) m = true) HA.out HA4.out)
      clear hown2 hgrow hB6
      go_wp2
      go_roundw
      case rel => exact ⟨k + 1, _, by omega, by go_num, by simp; omega, HL6, HA6, HO6, HC6, HG6⟩
      case measure => simp [intOf]; omega
    · obtain rfl : k = n := by omega
      go_wp2
      go_ret
      exact ⟨_, acc, rfl, HO.out, ⟨HL.out, fun i hi => HA.out i (by rw [HL.out]; exact hi)⟩, HC.out, HG.out⟩
set_option maxRecDepth 100000 in
set_option maxHeartbeats 8000000 in
theorem l3Unit_any (p hb : Nat) (n : Nat) (w : World) (h : Cur w p hb) (h1 : 1 ≤ n) (h3 : n ≤ 3) :
    Calls Try.prog 140 #[curP p, .int .i64 n] w fun e w' => ∃ u ls, e = .returned u ∧ (RQ w' w.heap.size u ls ∧ SqL n 27 ls) ∧ Cur w' p hb ∧ w.grownBy w' (some p) := by
  obtain ⟨i0, hi0, hz0, hz1, hz2⟩ := info_parts info_ints
  have HI0 := Lib.hid hi0; clear hi0
  have HZ0 := Lib.hid hz0; clear hz0
  have HZ1 := Lib.hid hz1; clear hz1
  have HZ2 := Lib.hid hz2; clear hz2
  have hmk := run_make_row' (P := Try.prog) 30 3 (.int .i64 0) 8 Try.underlying30 info_int rfl .i64 .i64 n (by omega) (by omega)
  have hp := h.lt
  have HC0 := Lib.hid (h.below (below1 w (.cells #[] 30)) hp)
  have HG0 := Lib.hid (grown_alloc (World.grownBy.refl w (some p)) (.cells #[] 30))
  have HO0 := Lib.hid (OwnL.lit0 w w.heap.size (Nat.le_refl _))
  clear h
  unfold curP
  go_enter Try.func140, Try.ntmps140
  go_wp2
  go_loopw [5, 6] (fun s i wr => ∃ (k : Nat) (acc : List (List Int)), k ≤ n ∧ i = .int .i64 k ∧ acc.length ≤ k ∧ Hid (acc.length = k) ∧ Hid (∀ i, i < acc.length → (acc.getD i []).length = n ∧ allIn (acc.getD i []) (-1) 1 = true) ∧ Hid (OwnL wr w.heap.size s acc) ∧ Hid (Cur wr p hb) ∧ Hid (w.grownBy wr (some p))) (fun _ i _ => n - (intOf i).toNat)
  case atStart => exact ⟨0, [], by omega, rfl, Nat.le_refl _, Lib.hid rfl, Lib.hid (fun i hi => by simp at hi), HO0, HC0, HG0⟩
  case round =>
    clear HO0 HC0 HG0
    obtain ⟨k, acc, hk, rfl, hal, HL, HA, HO, HC, HG⟩ := hrel
    by_cases hlt : k < n
    · have hdec : decide ((k : Int) < (n : Int)) = true := by simp; omega
      have cM := below1 wr (.cells (madeCells #[.int .i64 0] n) 3)
      have HC1 := Lib.hid (HC.out.below cM HC.out.lt)
      have HG1 := Lib.hid (grown_alloc HG.out (.cells (madeCells #[.int .i64 0] n) 3))
      have b1 := BK.of_rowIs (World.rowIs_made wr (.int .i64 0) n 3)
      have HBK := Lib.hid b1
      have HOB := Lib.hid HO.out.bnd
      obtain ⟨V, q, hpt⟩ := HO.out.part cM
      have HPT := Lib.hid hpt
      have hsz := HG.out.size
      have hzM : (wr.alloc (.cells (madeCells #[.int .i64 0] n) 3)).heap.size = wr.heap.size + 1 := by simp
      have HZM := Lib.hid hzM
      clear b1 hpt HO HC HG cM hzM
      have BB := l1Once_any p hb 4 _ HC1.out (by omega) (by omega)
      unfold curP at BB
      go_wp2_with fail
      refine BB.mono ?_
      clear BB
      rintro e w2 ⟨bb, rfl, hc, hg⟩
      have HC2 := Lib.hid hc
      have HG2 := Lib.hid (grown_trans HG1.out hg)
      have HPT2 := Lib.hid (HPT.out.cur hg hp)
      have HBK2 := Lib.hid (HBK.out.of_block (hg.block wr.heap.size HBK.out.lt (by intro e; injection e with e; omega)))
      have hz2 : wr.heap.size < w2.heap.size := HBK2.out.lt
      obtain ⟨nb, hnb1, hnb2⟩ : ∃ nb : Int, bitI bb = nb ∧ 0 ≤ nb ∧ nb ≤ 1 := ⟨bitI bb, rfl, by unfold bitI; split <;> omega⟩
      have LB := fun W => l1Bit_any bb W
      rw [hnb1] at LB
      clear hnb1 hc hg HC1 HG1 HPT HBK
      have cc : w2.cell? ⟨wr.heap.size, k, none⟩ = some (.int .i64 0) := by
        have := HBK2.out.cell hlt
        rwa [Nat.zero_add] at this
      have fz := HBK2.out.frozen k
      have hst := HBK2.out.set hlt (.int .i64 (1 - 2 * nb))
      rw [Nat.zero_add] at hst
      have HIS := Lib.hid (show IS (w2.setCell ⟨wr.heap.size, k, none⟩ (.int .i64 (1 - 2 * nb))) wr.heap.size (wr.heap.size + 1) (.slice (some ⟨wr.heap.size, 0, none⟩) n n) (unitRow n k (1 - 2 * nb)) from by
        have := IS.of_BK (l := unitRow n k (1 - 2 * nb)) (w := w2.setCell ⟨wr.heap.size, k, none⟩ (.int .i64 (1 - 2 * nb))) (b := wr.heap.size) (off := 0) (cap := n) (lo := wr.heap.size) (hi := wr.heap.size + 1) (by
          rw [unitRow_len]
          exact hst.congr fun i hi => by
            rw [unitRow_at _ _ _ hi]; split <;> rfl) (by rw [unitRow_len]; exact Nat.le_refl _) (by unfold maxLen; omega) (Nat.le_refl _) (by omega)
        rwa [unitRow_len] at this)
      have cS : Below (wr.heap.size) w2 (w2.setCell ⟨wr.heap.size, k, none⟩ (.int .i64 (1 - 2 * nb))) := (Below.refl _ _).setCell (p := ⟨wr.heap.size, k, none⟩) (Nat.le_refl _) _
      have HC3 := Lib.hid (HC2.out.below cS (by omega))
      have HG3 := Lib.hid (grown_then HG2.out (cS.mono hsz))
      have HPT3 := Lib.hid (HPT2.out.curA (grown_set (World.grownBy.refl w2 (some wr.heap.size)) k (.int .i64 (1 - 2 * nb))) (Nat.le_refl _) HOB.out)
      have hz3 : wr.heap.size + 1 ≤ (w2.setCell ⟨wr.heap.size, k, none⟩ (.int .i64 (1 - 2 * nb))).heap.size := by simp; omega
      clear cS hst HC2 HG2 HPT2 HBK2 HOB
      have HA4 := Lib.hid (show (unitRow n k (1 - 2 * nb)).length = n ∧ allIn (unitRow n k (1 - 2 * nb)) (-1) 1 = true from ⟨unitRow_len _ _ _, unitRow_in _ _ (by omega)⟩)
      go_wp2_with (first | (go_at_call 126; (with_reducible refine (LB _).mono ?_); rintro e w' ⟨rfl, rfl⟩) | (at_builtin; refine wpList_append_own _ rfl _ _ 24 rfl w.heap.size 30 i0 (.slice none 0 0) 1 24 Try.underlying24 HI0.out HZ0.out HZ1.out HZ2.out rfl (by decide) _ _ _ rfl (HPT3.out.alloc _) ⟨w2.heap.size, 0, none⟩ 1 1 [.slice (some ⟨wr.heap.size, 0, none⟩) n n] rfl rfl ?c1 ?c2 ?c3 ?c4 ?c5 ?_) | fail)
      case c1 => have := cell_one_new (w2.setCell ⟨wr.heap.size, k, none⟩ (.int .i64 (1 - 2 * nb))) (.slice (some ⟨wr.heap.size, 0, none⟩) n n) 30; rwa [World.size_setCell] at this
      case c2 => first | rfl | (intro u hu; simp at hu; subst hu; rfl)
      case c3 => unfold maxLen; omega
      case c4 => omega
      case c5 => first | omega | (simp; omega)
      intro v2 w6 hown2 hgrow _
      have HO6 := Lib.hid (HPT3.out.push HIS.out (Nat.le_refl _) (by omega) hz3 hgrow hown2)
      have hB6 : Below w.heap.size _ w6 := OwnLp.below (Below.refl w.heap.size _) (by simp; omega) _ hgrow HPT3.out (Nat.le_refl _)
      have HC6 := Lib.hid (HC3.out.below hB6 hp)
      have HG6 := Lib.hid (grown_then HG3.out hB6)
      have HL6 := Lib.hid (show (acc ++ [unitRow n k (1 - 2 * nb)]).length = k + 1 by simp [HL.out])
      have HA6 := Lib.hid (rows_snoc (P := fun r => r.length = n ∧ allIn r (-1) 1 = true) HA.out HA4.out)
      clear hown2 hgrow hB6
      go_wp2
      go_roundw
      case rel => exact ⟨k + 1, _, by omega, by go_num, by simp; omega, HL6, HA6, HO6, HC6, HG6⟩
      case measure => simp [intOf]; omega
    · obtain rfl : k = n := by omega
      obtain ⟨b, off, cap, rfl, hlo, hbh, hnc, hcm, hmo⟩ := MO.of HO.out.is (by rw [HL.out]; omega)
      rw [HL.out] at hmo hnc ⊢
      have HM := Lib.hid hmo
      have HS := Lib.hid (show SqL k 1 acc from ⟨HL.out, fun i hi => HA.out i (by rw [HL.out]; exact hi)⟩)
      have hsz := HG.out.size
      have BB := l1Below_any p hb 4 wr HC.out (by omega) (by omega)
      unfold curP at BB
      clear hmo HO HA HL hmk
      go_wp2_with fail
      refine BB.mono ?_
      clear BB
      rintro e w2 ⟨x, rfl, hx0, hx1, hc, hg⟩
      obtain ⟨q, rfl⟩ : ∃ q : Nat, x = q := ⟨x.toNat, by omega⟩
      have HC2 := Lib.hid hc
      have HG2 := Lib.hid (grown_trans HG.out hg)
      have HM2 := Lib.hid (HM.out.cur hg hp hlo)
      clear hc hg HC HG HM hsz
      have FIN : ∀ (W : World) (M : List (List Int)) (r : Nat), r ≤ 3 → SqL k (bU r) M → MO W w.heap.size b off k M → RQ W w.heap.size (.slice (some ⟨b, off, none⟩) k cap) M ∧ SqL k 27 M := fun W M r hr hs hm => ⟨RQ.ofMO hm hs.1 hnc hcm hlo, hs.mono (bU_bd hr).2⟩
      go_wp2_with fail
      go_loopw [9] (fun i ws => ∃ (r : Nat) (M : List (List Int)), r ≤ q ∧ i = .int .i64 r ∧ Hid (SqL k (bU r) M) ∧ Hid (MO ws w.heap.size b off k M) ∧ Hid (Cur ws p hb) ∧ Hid (w.grownBy ws (some p))) (fun i _ => q - (intOf i).toNat)
      case atStart => exact ⟨0, acc, by omega, rfl, HS, HM2, HC2, HG2⟩
      case round =>
        clear HS HM2 HC2 HG2
        obtain ⟨r, M, hr, rfl, HS, HM, HC, HG⟩ := hrel
        obtain ⟨nat3, -⟩ : r ≤ 3 ∧ True := ⟨by omega, trivial⟩
        by_cases hrq : r < q
        · have hd0 : decide ((r : Int) < (q : Int)) = true := by simp; omega
          by_cases hk1 : 1 < k
          · have hd1 : decide ((k : Int) > 1) = true := by simp; omega
            have hd1' : decide ((1 : Int) < k) = true := by simp; omega
            have BB := l1Below_any p hb k wr HC.out (by omega) (by omega)
            unfold curP at BB
            go_wp2_with fail
            refine BB.mono ?_
            clear BB
            rintro e w3 ⟨x, rfl, hy0, hy1, hc, hg⟩
            obtain ⟨a, rfl⟩ : ∃ a : Nat, x = a := ⟨x.toNat, by omega⟩
            have HC3 := Lib.hid hc
            have HG3 := Lib.hid (grown_trans HG.out hg)
            have HM3 := Lib.hid (HM.out.cur hg hp hlo)
            have BB := l1Below_any p hb ((k : Int) - 1) w3 hc (by omega) (by omega)
            unfold curP at BB
            clear hc hg HC HG HM
            go_wp2_with fail
            refine BB.mono ?_
            clear BB
            rintro e w4 ⟨y, rfl, hz0, hz1, hc, hg⟩
            obtain ⟨d, rfl⟩ : ∃ d : Nat, y = d := ⟨y.toNat, by omega⟩
            have HC4 := Lib.hid hc
            have HG4 := Lib.hid (grown_trans HG3.out hg)
            have HM4 := Lib.hid (HM3.out.cur hg hp hlo)
            clear hc hg HC3 HG3 HM3
            obtain ⟨c, hc1, hc2⟩ : ∃ c : Nat, c < k ∧ ((a : Int) + 1 + d).tmod (k : Int) = (c : Int) := ⟨((a : Int) + 1 + d).tmod (k : Int) |>.toNat, by
              rw [Int.tmod_eq_emod_of_nonneg (by omega)]
              have := Int.emod_nonneg ((a : Int) + 1 + d) (b := (k : Int)) (by omega)
              have := Int.emod_lt_of_pos ((a : Int) + 1 + d) (b := (k : Int)) (by omega)
              omega, by
              rw [Int.tmod_eq_emod_of_nonneg (by omega)]
              have := Int.emod_nonneg ((a : Int) + 1 + d) (b := (k : Int)) (by omega)
              omega⟩
            have hk0 : (k : Int) ≠ 0 := by omega
            obtain ⟨V, ro⟩ := HM4.out
            have hbh4 : b < w4.heap.size := ro.outer.lt
            obtain ⟨nak, hac⟩ : a < k ∧ True := ⟨by omega, trivial⟩
            have x0 : w4.drew.cell? ⟨b, off + a, none⟩ = some (V a) ∧ w4.drew.cell? ⟨b, off + c, none⟩ = some (V c) := ⟨ro.outer.cell nak, ro.outer.cell hc1⟩
            have HRA := Lib.hid (ro.row a nak)
            have HRC := Lib.hid (ro.row c hc1)
            have hAI := fun (t : Int) (ht : -2 ≤ t ∧ t ≤ 2) => add_in (a := M.getD a []) (b := M.getD c []) (n := k) (t := t) (B := bU r) (HS.out.2 a nak).1 (HS.out.2 c hc1).1 (HS.out.2 a nak).2 (HS.out.2 c hc1).2 ht (bU_bd nat3)
            have BB := l1Below_any p hb 5 w4.drew (show Cur w4.drew p hb from HC4.out) (by omega) (by omega)
            unfold curP at BB
            clear ro hac
            go_upto_region 14 with fail
            refine wp_region_last (S := fun (w' : World) => w'.cell? ⟨b, off + a, none⟩ = some (V a) ∧ w'.cell? ⟨b, off + c, none⟩ = some (V c)) 16 _ (by kernel_rfl) rfl rfl (by kernel_rfl) ?_
            simp only [List.take_succ_cons, List.take_zero]
            have hHeld : (fun (w' : World) => w'.cell? ⟨b, off + a, none⟩ = some (V a) ∧ w'.cell? ⟨b, off + c, none⟩ = some (V c)) _ := x0
            refine wpAnyH_take (i := 0) (oi := _) (v := ?_) rfl (by kernel_rfl) (by kernel_rfl) (by kernel_rfl) (fun _ _ _ h => h) (Or.inl ⟨by rfl, (by (intro w hSw); (try dsimp only at hSw); go_simp; (try with_reducible rfl))⟩) (by assumption) ?_
            try simp only [Act.put, List.setIfInBounds_toArray, List.set_cons_zero, List.set_cons_succ]
            refine wpAnyH_take (i := 1) (oi := _) (v := ?_) rfl (by kernel_rfl) (by kernel_rfl) (by kernel_rfl) (fun _ _ _ h => h) (Or.inl ⟨by rfl, (by (intro w hSw); (try dsimp only at hSw); go_simp; (try with_reducible rfl))⟩) (by assumption) ?_
            try simp only [Act.put, List.setIfInBounds_toArray, List.set_cons_zero, List.set_cons_succ]
            refine wpAnyH_take (i := 2) (oi := _) (v := ?_) rfl (by kernel_rfl) (by kernel_rfl) (by kernel_rfl) (fun _ _ _ h => h) (Or.inl ⟨by rfl, (by (intro w hSw); (try dsimp only at hSw); go_simp; (try with_reducible rfl))⟩) (by assumption) ?_
            try simp only [Act.put, List.setIfInBounds_toArray, List.set_cons_zero, List.set_cons_succ]
            refine wpAnyH_take (i := 3) (oi := _) (v := ?_) rfl (by kernel_rfl) (by kernel_rfl) (by kernel_rfl) (fun _ _ _ h => h) (Or.inl ⟨by rfl, (by (intro w hSw); (try dsimp only at hSw); go_simp; (try with_reducible rfl))⟩) (by assumption) ?_
            try simp only [Act.put, List.setIfInBounds_toArray, List.set_cons_zero, List.set_cons_succ]
            refine wpAnyH_take (i := 4) (oi := _) (v := ?_) rfl (by kernel_rfl) (by kernel_rfl) (by kernel_rfl) (fun _ _ _ h => h) (Or.inl ⟨by rfl, (by (intro w hSw); (try dsimp only at hSw); go_simp; (try with_reducible rfl))⟩) (by assumption) ?_
            try simp only [Act.put, List.setIfInBounds_toArray, List.set_cons_zero, List.set_cons_succ]
            refine wpAnyH_take (i := 5) (oi := _) (v := ?_) rfl (by kernel_rfl) (by kernel_rfl) (by kernel_rfl) (fun _ _ _ h => h) (Or.inl ⟨by rfl, (by (intro w hSw); (try dsimp only at hSw); go_simp; (try with_reducible rfl))⟩) (by assumption) ?_
            try simp only [Act.put, List.setIfInBounds_toArray, List.set_cons_zero, List.set_cons_succ]
            refine wpAnyH_take (i := 6) (oi := _) (v := ?_) rfl (by kernel_rfl) (by kernel_rfl) (by kernel_rfl) (fun _ _ _ h => h) (Or.inl ⟨by rfl, (by (intro w hSw); (try dsimp only at hSw); go_simp; (try with_reducible rfl))⟩) (by assumption) ?_
            try simp only [Act.put, List.setIfInBounds_toArray, List.set_cons_zero, List.set_cons_succ]
            refine wpAnyH_take (i := 7) (oi := _) (v := ?_) rfl (by kernel_rfl) (by kernel_rfl) (by kernel_rfl) (fun _ _ _ h => h) (Or.inl ⟨by rfl, (by (intro w hSw); (try dsimp only at hSw); go_simp; (try with_reducible rfl))⟩) (by assumption) ?_
            try simp only [Act.put, List.setIfInBounds_toArray, List.set_cons_zero, List.set_cons_succ]
            refine wpAnyH_take (i := 8) (oi := _) (v := ?_) rfl (by kernel_rfl) (by kernel_rfl) (by kernel_rfl) (fun _ _ _ h => h) (Or.inl ⟨by rfl, (by (intro w hSw); (try dsimp only at hSw); go_simp; (try with_reducible rfl))⟩) (by assumption) ?_
            try simp only [Act.put, List.setIfInBounds_toArray, List.set_cons_zero, List.set_cons_succ]
            refine wpAnyH_take (i := 9) (oi := _) (v := ?_) rfl (by kernel_rfl) (by kernel_rfl) (by kernel_rfl) (fun _ _ _ h => h) (Or.inl ⟨by rfl, (by (intro w hSw); (try dsimp only at hSw); go_simp; (try with_reducible rfl))⟩) (by assumption) ?_
            try simp only [Act.put, List.setIfInBounds_toArray, List.set_cons_zero, List.set_cons_succ]
            refine wpAnyH_take (i := 10) (oi := _) (v := ?_) rfl (by kernel_rfl) (by kernel_rfl) (by kernel_rfl) (fun _ _ _ h => h) (Or.inl ⟨by rfl, (by (intro w hSw); (try dsimp only at hSw); go_simp; (try with_reducible rfl))⟩) (by assumption) ?_
            try simp only [Act.put, List.setIfInBounds_toArray, List.set_cons_zero, List.set_cons_succ]
            refine wpAnyH_ready (rs := [11]) (by kernel_rfl) (by simp) ?_
            refine AllReadyH.cons (o := _) rfl (fun K hK => ?_) AllReadyH.nil
            go_simp
            refine BB.mono ?_
            clear BB
            rintro e w5 ⟨z, rfl, hz5, hz6, hc5, hg5⟩
            have hwz : IntKind.i64.wrap (z - 2) = z - 2 := wr64 _ (by omega)
            obtain ⟨q1, q2, q3, q4⟩ := hAI (z - 2) (by omega)
            have G5 := grown_trans (grown_draws (World.grownBy.refl w4 (some p)) 1) hg5
            have I5 := HRC.out.cur G5 (.inl hp)
            have J5 := HRA.out.cur G5 (.inl hp)
            have hs45 := G5.size
            have SC := l2Scale_any _ _ (z - 2) w5.heap.size w5 (I5.read.upto hs45) (Nat.le_refl _) (by rw [(HS.out.2 c hc1).1]; omega) q1
            refine hK.out _ _ (by exact ⟨(World.cell?_of_block (a := ⟨b, off + a, none⟩) (hg5.block b (hbh4) (by intro e; injection e with e; omega))).trans x0.1, (World.cell?_of_block (a := ⟨b, off + c, none⟩) (hg5.block b (hbh4) (by intro e; injection e with e; omega))).trans x0.2⟩) (fun hHeld => ?_)
            clear hK K
            try simp only [Act.put, List.setIfInBounds_toArray, List.set_cons_zero, List.set_cons_succ]
            refine wpAnyH_take (i := 12) (oi := _) (v := ?_) rfl (by kernel_rfl) (by kernel_rfl) (by kernel_rfl) (fun _ _ _ h => h) (Or.inl ⟨by rfl, (by (intro w hSw); (try dsimp only at hSw); go_simp; (try with_reducible rfl))⟩) (by assumption) ?_
            try simp only [Act.put, List.setIfInBounds_toArray, List.set_cons_zero, List.set_cons_succ]
            refine wpAnyH_ready (rs := [13]) (by kernel_rfl) (by simp) ?_
            refine AllReadyH.cons (o := _) rfl (fun K hK => ?_) AllReadyH.nil
            go_simp
            refine SC.mono ?_
            clear SC
            rintro e w6 ⟨v6, rfl, k6, c6⟩
            have hs56 := c6.size
            have AD := l2Add_any _ _ _ v6 w6.heap.size w6 ((J5.keep c6 hs45).read.upto (by omega)) k6.read (Nat.le_refl _) (by rw [(HS.out.2 a nak).1]; omega) (by rw [List.length_map, (HS.out.2 a nak).1, (HS.out.2 c hc1).1]; exact Nat.le_refl _) q2
            refine hK.out _ _ (by exact ⟨(c6.cell (p := ⟨b, off + a, none⟩) (by show b < _; omega)).trans hHeld.1, (c6.cell (p := ⟨b, off + c, none⟩) (by show b < _; omega)).trans hHeld.2⟩) (fun hHeld => ?_)
            clear hK K
            try simp only [Act.put, List.setIfInBounds_toArray, List.set_cons_zero, List.set_cons_succ]
            refine wpAnyH_ready (rs := [14]) (by kernel_rfl) (by simp) ?_
            refine AllReadyH.cons (o := _) rfl (fun K hK => ?_) AllReadyH.nil
            go_simp
            refine AD.mono ?_
            clear AD
            rintro e w7 ⟨v7, rfl, k7, c7⟩
            obtain ⟨a7, q7, rfl, -⟩ := id k7
            rw [q3] at k7 ⊢
            refine hK.out _ _ (by exact ⟨(c7.cell (p := ⟨b, off + a, none⟩) (by show b < _; omega)).trans hHeld.1, (c7.cell (p := ⟨b, off + c, none⟩) (by show b < _; omega)).trans hHeld.2⟩) (fun hHeld => ?_)
            clear hK K
            try simp only [Act.put, List.setIfInBounds_toArray, List.set_cons_zero, List.set_cons_succ]
            refine wpAnyH_take (i := 15) (oi := _) (v := ?_) rfl (by kernel_rfl) (by kernel_rfl) (by kernel_rfl) (fun _ _ _ h => h) (Or.inl ⟨by rfl, (by (intro w hSw); (try dsimp only at hSw); go_simp; (try with_reducible rfl))⟩) (by assumption) ?_
            try simp only [Act.put, List.setIfInBounds_toArray, List.set_cons_zero, List.set_cons_succ]
            refine wpAnyH_done (by kernel_rfl) ?_ _
            obtain ⟨V7, ro7⟩ := ((HM4.out.cur G5 hp hlo).keep c6).keep c7
            have x0' := ro7.outer.cell (i := a) nak
            have fz := ro7.outer.frozen (off + a)
            have hrow := ro7.set nak (k7.mono (show w.heap.size ≤ w6.heap.size by omega) (Nat.le_refl _))
            have B8 := Lib.hid ((Below.refl w.heap.size w7).setCell (p := ⟨b, off + a, none⟩) hlo (.slice a7 k q7))
            have HM8 := Lib.hid (show MO (w7.setCell ⟨b, off + a, none⟩ (.slice a7 k q7)) w.heap.size b off k (M.set a (List.zipWith (· + ·) (M.getD a []) ((M.getD c []).map (· * (z - 2))))) from ⟨_, hrow.congr fun i hi => by rw [getD_setR (by rw [HS.out.1]; exact nak)]⟩)
            have HS8 := Lib.hid (show SqL k (bU (r + 1)) (M.set a (List.zipWith (· + ·) (M.getD a []) ((M.getD c []).map (· * (z - 2))))) from HS.out.set nak (by have := bU_bd nat3; show bU r ≤ 3 * bU r; omega) ⟨q3, q4⟩)
            have B57 : Below w5.heap.size w5 w7 := c6.trans (c7.mono hs56)
            have hs4 := HG4.out.size
            have HC7 := Lib.hid ((hc5.below B57 (by omega)).below B8.out hp)
            have HG7 := Lib.hid (grown_then (grown_then (grown_trans HG4.out G5) (B57.mono (by omega))) B8.out)
            clear hrow ro7 HRA HRC hAI B57 k6 k7 c6 c7 I5 J5 q1 q2 q3 q4 G5 hg5 hc5 HM4 HS HC4 HG4 FIN B8
            unfold lastQ
            go_simp
            go_wp2
            go_roundw
            case rel => exact ⟨r + 1, _, by omega, by go_num, HS8, HM8, HC7, HG7⟩
            case measure => simp [intOf]; omega
          · have hd1 : decide ((k : Int) > 1) = false := by simp; omega
            have hd1' : decide ((1 : Int) < k) = false := by simp; omega
            go_wp2
            go_ret
            exact ⟨_, M, rfl, FIN _ M r nat3 HS.out HM.out, HC.out, HG.out⟩
        · have hd0 : decide ((r : Int) < (q : Int)) = false := by simp; omega
          go_wp2
          go_ret
          exact ⟨_, M, rfl, FIN _ M r nat3 HS.out HM.out, HC.out, HG.out⟩
end Go.Proofs.Ytehhoplenloocaa

/- Matrices that are bent: l3Bent. -/
namespace Go.Proofs.Ytehhoplenloocaa
open Go Go.RowKit
set_option linter.unusedVariables false
set_option linter.unusedSimpArgs false

theorem OwnL.down {w : World} {B B' : Nat} {v : Value} {ls : List (List Int)} (h : OwnL w B v ls) (hb : B' ≤ B) : OwnL w B' v ls := by
  obtain ⟨V, p, h1, h2, h3⟩ := h
  exact ⟨V, p, h1.mono hb, by omega, h3⟩
theorem IS.lit1 (w : World) (B : Nat) (h : B ≤ w.heap.size) (x : Int) : IS (w.alloc (.cells #[.int .i64 x] 3)) B (w.heap.size + 1) (.slice (some ⟨w.heap.size, 0, Option.none⟩) 1 1) [x] := by
  refine IS.of_BK (l := [x]) ⟨_, heap_alloc_new w _, fun i hi => ?_⟩ (Nat.le_refl _) (by simp [maxLen]) h (by omega)
  match i, hi with
  | 0, _ => rfl
theorem RQ.nil (w : World) (lo cap : Nat) (a : Option Addr) (hc : cap ≤ maxLen) : RQ w lo (.slice a 0 cap) [] := ⟨a, cap, rfl, Nat.zero_le _, hc, fun h => absurd rfl h⟩
set_option maxRecDepth 100000 in
set_option maxHeartbeats 1000000 in
theorem l3Bent_any (p hb : Nat) (w : World) (h : Cur w p hb) :
    Calls Try.prog 77 #[curP p] w fun e w' => ∃ u ls, e = .returned u ∧ (RQ w' w.heap.size u ls ∧ ls.length ≤ 4) ∧ Cur w' p hb ∧ w.grownBy w' (some p) := by
  obtain ⟨i0, hi0, hz0, hz1, hz2⟩ := info_parts info_ints
  have HI0 := Lib.hid hi0; clear hi0
  have HZ0 := Lib.hid hz0; clear hz0
  have HZ1 := Lib.hid hz1; clear hz1
  have HZ2 := Lib.hid hz2; clear hz2
  have hp := h.lt
  have BB := l1Below_any p hb 3 w h (by omega) (by omega)
  clear h
  unfold curP at *
  go_enter Try.func77, Try.ntmps77
  go_wp2_with fail
  refine BB.mono ?_
  clear BB
  rintro e w0 ⟨x, rfl, hx0, hx1, hc, hg⟩
  obtain ⟨n, hn, hn1, hn3⟩ : ∃ n : Nat, 1 + x = n ∧ 1 ≤ n ∧ n ≤ 3 := ⟨(1 + x).toNat, by omega, by omega, by omega⟩
  have HC0 := Lib.hid hc
  have HG0 := Lib.hid hg
  have BB := l3Draw_any p hb n 5 w0 hc (by omega) (by omega)
  unfold curP at BB
  clear hc hg
  go_wp2_with fail
  refine BB.mono ?_
  clear BB
  rintro e w1 ⟨u, ls, rfl, ho, hl, hc, hg⟩
  have HO := Lib.hid (ho.down HG0.out.size)
  have HC := Lib.hid hc
  have HG := Lib.hid (grown_trans HG0.out hg)
  have HL := Lib.hid hl.1
  have HR := Lib.hid hl.2
  have BB := l1Below_any p hb 12 w1 hc (by omega) (by omega)
  unfold curP at BB
  clear ho hc hg hl HC0 HG0 hx0 hx1 hn
  go_wp2_with fail
  refine BB.mono ?_
  clear BB
  rintro e w2 ⟨x, rfl, hx0, hx1, hc, hg⟩
  have HO2 := Lib.hid (HO.out.cur hg hp)
  have HC2 := Lib.hid hc
  have HG2 := Lib.hid (grown_trans HG.out hg)
  clear hc hg HC HG HO
  have hsz := HG2.out.size
  obtain ⟨b, off, cap, V, rfl, hlo, hbh, hnc, hcm, hrw⟩ := RowsW.of HO2.out.is (by rw [HL.out]; omega)
  rw [HL.out] at hrw hnc ⊢
  have HRW := Lib.hid hrw
  by_cases e0 : x = 0
  · subst e0
    have t0 : ((0 : Int) == 0) = true := rfl
    have hn0 : 0 < n := hn1
    have hl0 : (ls.getD 0 []).length = n := (HR.out 0 (by omega)).1
    obtain ⟨br, or', cr, hV0, hblo, hbhi, hbne, hbk⟩ := HRW.out.at (k := 0) (by omega) (by omega)
    rw [hl0] at hV0
    have x0 : w2.drew.cell? ⟨b, off, none⟩ = some (.slice (some ⟨br, or', none⟩) n cr) := by
      have := HRW.out.outer.cell (i := 0) (by omega)
      rw [hV0] at this; exact this
    have HV0 := Lib.hid hV0
    have PK := fun (k : Nat) => pick_lit p hb [100, 101, -100, -101] w2.drew (show Cur w2.drew p hb from HC2.out) (by simp) (by simp)
    unfold curP at PK
    clear hV0 hbk hrw
    go_wp2_with fail
    refine wp_region_last (S := fun (w' : World) => w'.cell? ⟨b, off, none⟩ = some (.slice (some ⟨br, or', none⟩) n cr)) 7 _ (by kernel_rfl) rfl rfl (by kernel_rfl) ?_
    simp only [List.take_succ_cons, List.take_zero]
    have hHeld : (fun (w' : World) => w'.cell? ⟨b, off, none⟩ = some (.slice (some ⟨br, or', none⟩) n cr)) _ := x0
    refine wpAnyH_take (i := 0) (oi := _) (v := ?_) rfl (by kernel_rfl) (by kernel_rfl) (by kernel_rfl) (fun _ _ _ h => h) (Or.inl ⟨by rfl, (by (intro w hSw); (try dsimp only at hSw); go_simp; (try with_reducible rfl))⟩) (by assumption) ?_
    try simp only [Act.put, List.setIfInBounds_toArray, List.set_cons_zero, List.set_cons_succ]
    refine wpAnyH_take (i := 1) (oi := _) (v := ?_) rfl (by kernel_rfl) (by kernel_rfl) (by kernel_rfl) (fun _ _ _ h => h) (Or.inl ⟨by rfl, (by (intro w hSw); (try dsimp only at hSw); go_simp; (try with_reducible rfl))⟩) (by assumption) ?_
    try simp only [Act.put, List.setIfInBounds_toArray, List.set_cons_zero, List.set_cons_succ]
    refine wpAnyH_take (i := 2) (oi := _) (v := ?_) rfl (by kernel_rfl) (by kernel_rfl) (by kernel_rfl) (fun _ _ _ h => h) (Or.inl ⟨by rfl, (by (intro w hSw); (try dsimp only at hSw); go_simp; (try with_reducible rfl))⟩) (by assumption) ?_
    try simp only [Act.put, List.setIfInBounds_toArray, List.set_cons_zero, List.set_cons_succ]
    refine wpAnyH_take (i := 3) (oi := _) (v := ?_) rfl (by kernel_rfl) (by kernel_rfl) (by kernel_rfl) (fun _ _ _ h => h) (Or.inl ⟨by rfl, (by (intro w hSw); (try dsimp only at hSw); go_simp; (try with_reducible rfl))⟩) (by assumption) ?_
    try simp only [Act.put, List.setIfInBounds_toArray, List.set_cons_zero, List.set_cons_succ]
    refine wpAnyH_ready (rs := [4]) (by kernel_rfl) (by simp) ?_
    refine AllReadyH.cons (o := _) rfl (fun K hK => ?_) AllReadyH.nil
    go_simp
    skip
    refine hK.out _ _ (by exact ((below1 w2 _).cell (p := ⟨b, off, none⟩) hbh).trans x0) (fun hHeld => ?_)
    clear hK K
    try simp only [Act.put, List.setIfInBounds_toArray, List.set_cons_zero, List.set_cons_succ]
    refine wpAnyH_ready (rs := [5]) (by kernel_rfl) (by simp) ?_
    refine AllReadyH.cons (o := _) rfl (fun K hK => ?_) AllReadyH.nil
    go_simp
    refine (PK 0).mono ?_
    rintro e w4 ⟨y, rfl, hy, hc4, hg4⟩
    refine hK.out _ _ (by exact (World.cell?_of_block (a := ⟨b, off, none⟩) (hg4.block b hbh (by intro e; injection e with e; omega))).trans x0) (fun hHeld => ?_)
    clear hK K
    try simp only [Act.put, List.setIfInBounds_toArray, List.set_cons_zero, List.set_cons_succ]
    refine wpAnyH_take (i := 6) (oi := _) (v := ?_) rfl (by kernel_rfl) (by kernel_rfl) (by kernel_rfl) (fun _ _ _ h => h) (Or.inl ⟨by rfl, (by (intro w hSw); (try dsimp only at hSw); go_simp; (try with_reducible rfl))⟩) (by assumption) ?_
    try simp only [Act.put, List.setIfInBounds_toArray, List.set_cons_zero, List.set_cons_succ]
    refine wpAnyH_done (by kernel_rfl) ?_ _
    have hO4 := HO2.out.cur (grown_trans (grown_draws (World.grownBy.refl w2 (some p)) 1) hg4) hp
    obtain ⟨b', off', cap', V', e', hlo', hbh', -, -, hrw'⟩ := RowsW.of hO4.is (by rw [HL.out]; omega)
    injection e' with e1 e2 e3
    injection e1 with e1
    injection e1 with e1 e4 e5
    subst e1 e4 e3
    have hv0 : V' 0 = .slice (some ⟨br, or', none⟩) n cr := by
      have := hrw'.outer.cell (i := 0) (by rw [HL.out]; omega)
      rw [Nat.add_zero, hHeld] at this
      injection this with this; exact this.symm
    obtain ⟨R, O, c0, f0⟩ := hrw'.set (k := 0) (c := 0) (by rw [HL.out]; omega) hv0 (by rw [hl0]; omega) y
    rw [Nat.add_zero] at R c0 f0
    have B5 := Lib.hid ((Below.refl w.heap.size w4).setCell (p := ⟨br, or', none⟩) hblo (.int .i64 y))
    have HR := Lib.hid R
    have HC4 := Lib.hid hc4
    have HG4 := Lib.hid (grown_trans HG2.out (grown_trans (grown_draws (World.grownBy.refl w2 (some p)) 1) hg4))
    clear hO4 hrw' R O x0 hHeld PK HRW HO2 hc4 hg4
    rw [HL.out] at HR
    unfold lastQ
    go_simp
    go_wp2
    go_ret
    exact ⟨_, rfl, ⟨_, RQ.of ((HR.out.iss hnc hcm hlo hbh').mono (Nat.le_refl _) (by rw [World.size_setCell]; exact Nat.le_refl _)), by rw [List.length_map, List.length_range]; omega⟩, HC4.out.below B5.out hp, grown_then HG4.out B5.out⟩
  · have t0 : (x == 0) = false := by rw [beq_eq_false_iff_ne]; exact e0
    by_cases e1 : x = 1
    · subst e1
      have t1 : ((1 : Int) == 1) = true := rfl
      clear HRW hrw
      have hLn := HL.out
      subst hLn
      have cM := below1 w2 (.cells #[.int .i64 1] 3)
      obtain ⟨W2, q, hpt⟩ := HO2.out.part cM
      have HPT := Lib.hid hpt
      have HI := Lib.hid (show IS (w2.alloc (.cells #[.int .i64 1] 3)) w2.heap.size (w2.heap.size + 1) (.slice (some ⟨w2.heap.size, 0, none⟩) 1 1) [1] from IS.lit1 w2 _ (Nat.le_refl _) 1)
      have HCm := Lib.hid (HC2.out.below cM (by omega))
      have HGm := Lib.hid (grown_then HG2.out (cM.mono hsz))
      clear cM hpt
      go_wp2_with (at_builtin; refine wpList_append_own _ rfl _ _ 24 rfl w.heap.size 30 i0 (.slice none 0 0) 1 24 Try.underlying24 HI0.out HZ0.out HZ1.out HZ2.out rfl (by decide) _ _ _ rfl (HPT.out.alloc _) ⟨w2.heap.size + 1, 0, none⟩ 1 1 [.slice (some ⟨w2.heap.size, 0, none⟩) 1 1] rfl rfl ?c1 ?c2 ?c3 ?c4 ?c5 ?_)
      case c1 => have := cell_one_new (w2.alloc (.cells #[.int .i64 1] 3)) (.slice (some ⟨w2.heap.size, 0, none⟩) 1 1) 30; rwa [World.size_alloc] at this
      case c2 => first | rfl | (intro u hu; simp at hu; subst hu; rfl)
      case c3 => unfold maxLen; omega
      case c4 => omega
      case c5 => first | omega | (simp; omega)
      intro v2 w6 hown2 hgrow _
      have HO6 := Lib.hid (HPT.out.push HI.out (Nat.le_refl _) (by omega) (by simp) hgrow hown2)
      have hB6 : Below w.heap.size _ w6 := OwnLp.below (Below.refl w.heap.size _) (by simp; omega) _ hgrow HPT.out (Nat.le_refl _)
      have HC6 := Lib.hid (HCm.out.below hB6 hp)
      have HG6 := Lib.hid (grown_then HGm.out hB6)
      clear hown2 hgrow hB6
      go_wp2
      go_ret
      exact ⟨_, _, rfl, ⟨RQ.of HO6.out.is, by simp; omega⟩, HC6.out, HG6.out⟩
    · have t1 : (x == 1) = false := by rw [beq_eq_false_iff_ne]; exact e1
      by_cases e2 : x = 2
      · subst e2
        have t2 : ((2 : Int) == 2) = true := rfl
        have cM := below1 w2 (.cells #[] 30)
        go_wp2
        go_ret
        exact ⟨_, [], rfl, ⟨RQ.nil _ _ 0 _ (Nat.zero_le _), by simp⟩, HC2.out.below cM (by omega), grown_then HG2.out (cM.mono hsz)⟩
      · have t2 : (x == 2) = false := by rw [beq_eq_false_iff_ne]; exact e2
        by_cases e3 : x = 3 ∨ x = 4 ∨ x = 5
        · have BB := l1Below_any p hb 3 w2 HC2.out (by omega) (by omega)
          unfold curP at BB
          have hR3 : ∀ W : World, True := fun _ => trivial
          clear hrw HRW
          rcases e3 with rfl | rfl | rfl
          all_goals
            go_wp2_with fail
            refine BB.mono ?_
            clear BB
            rintro e w3 ⟨x, rfl, hy0, hy1, hc, hg⟩
            obtain ⟨m, hm, hm1, hm3⟩ : ∃ m : Nat, 1 + x = m ∧ 1 ≤ m ∧ m ≤ 3 := ⟨(1 + x).toNat, by omega, by omega, by omega⟩
            have HC3 := Lib.hid hc
            have HG3 := Lib.hid (grown_trans HG2.out hg)
            have BB := l3Unit_any p hb m w3 hc hm1 hm3
            unfold curP at BB
            clear hc hg
            go_wp2_with fail
            refine BB.mono ?_
            clear BB
            rintro e w4 ⟨u, ls, rfl, hr, hc, hg⟩
            have hs3 := HG3.out.size
            go_wp2
            go_ret
            exact ⟨_, ls, rfl, ⟨hr.1.lower hs3, by rw [hr.2.1]; omega⟩, hc, grown_trans HG3.out hg⟩
        · have t3 : (x == 3) = false := by rw [beq_eq_false_iff_ne]; omega
          have t4 : (x == 4) = false := by rw [beq_eq_false_iff_ne]; omega
          have t5 : (x == 5) = false := by rw [beq_eq_false_iff_ne]; omega
          have HI := Lib.hid (RQ.of HO2.out.is)
          rw [HL.out] at HI
          go_wp2
          go_ret
          exact ⟨_, ls, rfl, ⟨HI.out, by rw [HL.out]; omega⟩, HC2.out, HG2.out⟩
end Go.Proofs.Ytehhoplenloocaa

/- The draws of the statement on lattices. -/
namespace Go.Proofs.Ytehhoplenloocaa
open Go.RowKit
set_option linter.unusedVariables false
set_option linter.unusedSimpArgs false

set_option maxRecDepth 100000 in
set_option maxHeartbeats 1000000 in
theorem DrawCellPoints_any (v : Value) (l : List Int) (hb : Nat) (w : World) (h : ISb w hb v l) (hhb : hb ≤ w.heap.size) :
    Calls Try.prog 27 #[v] w fun e w' => (∃ u M, e = .returned u ∧ RQ w' w.heap.size u M) ∧ Below w.heap.size w w' := by
  have N0 := l1New_any v l hb w h hhb
  unfold curP at N0
  go_enter Try.func27, Try.ntmps27
  go_wp2_with fail
  refine N0.mono ?_
  rintro e w0 ⟨rfl, hc, hbel, hsz⟩
  have HB := Lib.hid hbel
  have hlo : w.heap.size ≤ w0.heap.size := hbel.size
  have BB := l3Bent_any w.heap.size hb w0 hc
  unfold curP at BB
  clear hc hbel hsz N0 h
  go_wp2_with fail
  refine BB.mono ?_
  clear BB
  rintro e w1 ⟨u, ls, rfl, hr, hc, hg⟩
  go_wp2
  go_ret
  exact ⟨⟨_, ls, rfl, hr.1.lower hlo⟩, HB.out.trans (grown_below hg hlo (Nat.le_refl _))⟩
set_option maxRecDepth 100000 in
set_option maxHeartbeats 2000000 in
theorem l8Case_any (v : Value) (l : List Int) (hb : Nat) (w : World) (h : ISb w hb v l) (hhb : hb ≤ w.heap.size) :
    Calls Try.prog 89 #[v] w fun e w' => (∃ u1 u2 M X, e = .returned (.tuple #[u1, u2]) ∧ RQ w' w.heap.size u1 M ∧ M.length ≤ 4 ∧ ISu w' w.heap.size u2 X ∧ X.length ≤ 5 ∧ allIn X (-30) 30 = true) ∧ Below w.heap.size w w' := by
  have N0 := l1New_any v l hb w h hhb
  unfold curP at N0
  go_enter Try.func89, Try.ntmps89
  go_wp2_with fail
  refine N0.mono ?_
  rintro e w0 ⟨rfl, hc, hbel, hsz⟩
  have HB := Lib.hid hbel
  have hp0 := hc.lt
  have hlo : w.heap.size ≤ w0.heap.size := hbel.size
  have BB := l3Bent_any w.heap.size hb w0 hc
  unfold curP at BB
  clear hc hbel hsz N0 h
  go_wp2_with fail
  refine BB.mono ?_
  clear BB
  rintro e w1 ⟨u, M, rfl, hr, hc, hg⟩
  have HM := Lib.hid hr.1
  have hM4 := hr.2
  have HC := Lib.hid hc
  have HB1 := Lib.hid (HB.out.trans (grown_below hg hlo (Nat.le_refl _)))
  have hlo1 : w0.heap.size ≤ w1.heap.size := hg.size
  obtain ⟨a1, q1, rfl, -⟩ := id HM.out
  have OB := l1Once_any w.heap.size hb 14 w1 hc (by omega) (by omega)
  unfold curP at OB
  clear hr hc hg HB
  go_wp2_with (first
    | (go_at_call 96; (with_reducible refine OB.mono ?_); rintro e w5 ⟨bb, rfl, hc5, hg5⟩; obtain ⟨nb, hnb1, hnb2⟩ : ∃ nb : Int, bitI bb = nb ∧ (0 ≤ nb ∧ nb ≤ 1) := ⟨bitI bb, rfl, by unfold bitI; split <;> omega⟩)
    | (go_at_call 126; have LB := l1Bit_any bb w5; rw [hnb1] at LB; (with_reducible refine LB.mono ?_); rintro e w6 ⟨rfl, rfl⟩)
    | (go_at_call 137; (with_reducible refine (l1Max_any _ _ _).mono ?_); rintro e w6 ⟨rfl, rfl⟩)
    | (go_at_call 99; have LD := l2DrawI_any w.heap.size hb (max 1 ((M.length : Int) + nb)) 30 w5 hc5 (by omega) (by omega); unfold curP at LD; (with_reducible refine LD.mono ?_); rintro e w7 ⟨u7, l7, rfl, ho7, hl7, ha7, hc7, hg7⟩))
  have hs5 := hg5.size
  have HM7 := ((HM.out.cur hg5 hp0).cur hg7 hp0).lower hlo
  have HX7 := IS.mono (show ISu w7 _ u7 l7 from ho7.is) (show w.heap.size ≤ w5.heap.size by omega) (Nat.le_refl _)
  have HB7 := HB1.out.trans (grown_below (grown_trans hg5 hg7) (by omega) (Nat.le_refl _))
  obtain ⟨a7, q7, rfl, -⟩ := id HX7
  go_wp2
  refine bodyPost_ret (v := .tuple #[.slice a1 M.length q1, .slice a7 l7.length q7]) (by simp [results, Try.results89, go_sem]) rfl ?_
  exact ⟨⟨_, _, M, l7, rfl, HM7, hM4, HX7, by omega, ha7⟩, HB7⟩
set_option maxRecDepth 100000 in
set_option maxHeartbeats 1000000 in
theorem DrawClassLeader_any (v : Value) (l : List Int) (hb : Nat) (w : World) (h : ISb w hb v l) (hhb : hb ≤ w.heap.size) :
    Calls Try.prog 30 #[v] w fun e w' => (∃ u1 u2 M X, e = .returned (.tuple #[u1, u2]) ∧ RQ w' w.heap.size u1 M ∧ M.length ≤ 4 ∧ ISu w' w.heap.size u2 X ∧ X.length ≤ 5 ∧ allIn X (-30) 30 = true) ∧ Below w.heap.size w w' := by
  have BB := l8Case_any v l hb w h hhb
  go_enter Try.func30, Try.ntmps30
  go_wp2_with fail
  refine BB.mono ?_
  clear BB
  rintro e w1 ⟨⟨u1, u2, M, X, rfl, h1, h2, h3, h4, h5⟩, hb1⟩
  go_wp2
  refine bodyPost_ret (v := .tuple #[u1, u2]) (by simp [results, Try.results30, go_sem]) rfl ?_
  exact ⟨⟨_, _, M, X, rfl, h1, h2, h3, h4, h5⟩, hb1⟩
set_option maxRecDepth 100000 in
set_option maxHeartbeats 4000000 in
theorem DrawSameClass_any (v : Value) (l : List Int) (hb : Nat) (w : World) (h : ISb w hb v l) (hhb : hb ≤ w.heap.size) :
    Calls Try.prog 33 #[v] w fun e w' => (∃ u1 u2 u3 M X Y, e = .returned (.tuple #[u1, u2, u3]) ∧ RQ w' w.heap.size u1 M ∧ ISu w' w.heap.size u2 X ∧ ISu w' w.heap.size u3 Y) ∧ Below w.heap.size w w' := by
  have BB := l8Case_any v l hb w h hhb
  have HI := Lib.hid h
  clear h
  go_enter Try.func33, Try.ntmps33
  go_wp2_with fail
  refine BB.mono ?_
  clear BB
  rintro e w1 ⟨⟨u1, u2, M, X, rfl, h1, h2, h3, h4, h5⟩, hb1⟩
  have N0 := l1New_any v l hb w1 (HI.out.keep hb1 hhb) (Nat.le_trans hhb hb1.size)
  unfold curP at N0
  have HM1 := Lib.hid h1
  have HX1 := Lib.hid h3
  have HB1 := Lib.hid hb1
  clear h1 h3 hb1
  go_wp2_with fail
  refine N0.mono ?_
  clear N0
  rintro e w2 ⟨rfl, hc, hbel, hsz⟩
  have hlo1 : w.heap.size ≤ w1.heap.size := HB1.out.size
  have HQ2 := Lib.hid hbel
  have HC := Lib.hid hc
  clear hc hbel HI
  obtain ⟨a1, q1, rfl, -⟩ := id HM1.out
  obtain ⟨a2, q2, rfl, -⟩ := id HX1.out
  have CM := fun W (Q : Below w1.heap.size w1 W) => specIsMatrix_any M _ _ W (HM1.out.upb Q).read
  by_cases e0 : M.length = 0
  · have d0 : decide ((M.length : Int) > 0) = false := by rw [decide_eq_false_iff_not]; omega
    have hnz : ¬ 0 < M.length := by omega
    clear e0
    go_wp2_with (first | (go_at_call 95; (with_reducible refine CM2.mono ?_); rintro e w5 ⟨rfl, d, rfl⟩) | fail)
    have HC5 := Lib.hid (HC.out)
    have HQ5 := Lib.hid (HQ2.out)
    have BB := l2DrawI_any w1.heap.size hb X.length 20 _ HC5.out (by omega) (by omega)
    unfold curP at BB
    refine BB.mono ?_
    clear BB
    rintro e w9 ⟨u9, l9, rfl, ho9, hl9, ha9, hc9, hg9⟩
    have HQ9 := HQ5.out.trans (grown_below hg9 HQ5.out.size (Nat.le_refl _))
    have HM9 := HM1.out.upb HQ9
    have HX9 := ISu.upb HX1.out HQ9
    have HY9 := IS.mono (show ISu w9 _ u9 l9 from ho9.is) (Nat.le_trans hlo1 HQ5.out.size) (Nat.le_refl _)
    obtain ⟨a9, q9, rfl, -⟩ := id HY9
    have HB9 := HB1.out.trans (HQ9.mono hlo1)
    go_wp2
    refine bodyPost_ret (v := .tuple #[.slice a1 M.length q1, .slice a2 X.length q2, .slice a9 l9.length q9]) (by simp [results, Try.results33, go_sem]) rfl ?_
    exact ⟨⟨_, _, _, M, X, l9, rfl, HM9, HX9, HY9⟩, HB9⟩
  have d0 : decide ((M.length : Int) > 0) = true := by simp; omega
  by_cases e1 : M.length = X.length
  · have d1 : ((M.length : Int) == (X.length : Int)) = true := by rw [beq_iff_eq]; omega
    have E1 := Lib.hid e1
    clear e1
    have CM2 := CM w2 HQ2.out
    cases hm : matB M
    · rw [hm] at CM2
      go_wp2_with (first | (go_at_call 95; (with_reducible refine CM2.mono ?_); rintro e w5 ⟨rfl, d, rfl⟩) | fail)
      have HC5 := Lib.hid (HC.out.below (below_draws w2.heap.size w2 d) HC.out.lt)
      have HQ5 := Lib.hid (HQ2.out.trans ((below_draws w2.heap.size w2 d).mono HQ2.out.size))
      have BB := l2DrawI_any w1.heap.size hb X.length 20 _ HC5.out (by omega) (by omega)
      unfold curP at BB
      refine BB.mono ?_
      clear BB
      rintro e w9 ⟨u9, l9, rfl, ho9, hl9, ha9, hc9, hg9⟩
      have HQ9 := HQ5.out.trans (grown_below hg9 HQ5.out.size (Nat.le_refl _))
      have HM9 := HM1.out.upb HQ9
      have HX9 := ISu.upb HX1.out HQ9
      have HY9 := IS.mono (show ISu w9 _ u9 l9 from ho9.is) (Nat.le_trans hlo1 HQ5.out.size) (Nat.le_refl _)
      obtain ⟨a9, q9, rfl, -⟩ := id HY9
      have HB9 := HB1.out.trans (HQ9.mono hlo1)
      go_wp2
      refine bodyPost_ret (v := .tuple #[.slice a1 M.length q1, .slice a2 X.length q2, .slice a9 l9.length q9]) (by simp [results, Try.results33, go_sem]) rfl ?_
      exact ⟨⟨_, _, _, M, X, l9, rfl, HM9, HX9, HY9⟩, HB9⟩
    · rw [hm] at CM2
      have hx1 := matB_len hm
      go_wp2_with (first
        | (go_at_call 95; (with_reducible refine CM2.mono ?_); rintro e w5 ⟨rfl, d, rfl⟩; have HQ5 := Lib.hid (HQ2.out.trans ((below_draws w2.heap.size w2 d).mono HQ2.out.size)); have OB := l1Once_any w1.heap.size hb 2 (w2.drewN d) (HC.out.below (below_draws w2.heap.size w2 d) HC.out.lt) (by omega) (by omega); unfold curP at OB)
        | (go_at_call 96; (with_reducible refine OB.mono ?_); rintro e w6 ⟨bb, rfl, hc6, hg6⟩; cases bb)
        | fail)
      · have HC5 := Lib.hid hc6
        have HQ6 := Lib.hid (HQ5.out.trans (grown_below hg6 HQ5.out.size (Nat.le_refl _)))
        clear HQ5
        have HQ5 := HQ6
        clear HQ6
        have BB := l2DrawI_any w1.heap.size hb X.length 20 _ HC5.out (by omega) (by omega)
        unfold curP at BB
        refine BB.mono ?_
        clear BB
        rintro e w9 ⟨u9, l9, rfl, ho9, hl9, ha9, hc9, hg9⟩
        have HQ9 := HQ5.out.trans (grown_below hg9 HQ5.out.size (Nat.le_refl _))
        have HM9 := HM1.out.upb HQ9
        have HX9 := ISu.upb HX1.out HQ9
        have HY9 := IS.mono (show ISu w9 _ u9 l9 from ho9.is) (Nat.le_trans hlo1 HQ5.out.size) (Nat.le_refl _)
        obtain ⟨a9, q9, rfl, -⟩ := id HY9
        have HB9 := HB1.out.trans (HQ9.mono hlo1)
        go_wp2
        refine bodyPost_ret (v := .tuple #[.slice a1 M.length q1, .slice a2 X.length q2, .slice a9 l9.length q9]) (by simp [results, Try.results33, go_sem]) rfl ?_
        exact ⟨⟨_, _, _, M, X, l9, rfl, HM9, HX9, HY9⟩, HB9⟩
      · have HQ6 := Lib.hid (HQ5.out.trans (grown_below hg6 HQ5.out.size (Nat.le_refl _)))
        have BB := l1Below_any w1.heap.size hb M.length w6 hc6 (by omega) (by omega)
        unfold curP at BB
        clear HQ5 OB CM CM2
        obtain ⟨_, _, hh, hcap1, hcap2, hcell⟩ := id HM1.out
        injection hh with hh1 hh2 hh3
        subst hh1 hh3
        obtain ⟨b, off, V, rfl, hlob, hbw, hcl⟩ := hcell (by intro e; rw [e] at hx1; simp at hx1)
        have hcl6 := Lib.hid (fun W (Q : Below w1.heap.size w1 W) i hi => (Q.cell (p := ⟨b, off + i, none⟩) hbw).trans (hcl i hi).1)
        have hrow := Lib.hid (fun i hi => (hcl i hi).2)
        have hRB := Lib.hid (fun i hi => matB_row hm (k := i) hi)
        have hNX : 0 < M.length := by omega
        clear hcl hh2
        go_wp2_with (first
          | (go_at_call 98; (with_reducible refine BB.mono ?_); rintro e w7 ⟨x, rfl, hx0, hx2, hc7, hg7⟩; obtain ⟨d7, rfl⟩ : ∃ d : Nat, x = d := ⟨x.toNat, by omega⟩; have hd7 : d7 < M.length := (by omega); have HQ7 := Lib.hid (HQ6.out.trans (grown_below hg7 HQ6.out.size (Nat.le_refl _))); have g7 := hcl6.out w7 HQ7.out d7 (by omega); have AD := l2Add_any X (M.getD d7 []) _ (V d7) w7.heap.size w7 ((ISu.upb HX1.out HQ7.out).read) (((hrow.out d7 (by omega)).keep HQ7.out (Nat.le_refl _)).read.upto HQ7.out.size) (Nat.le_refl _) (by omega) (by have := E1.out; rw [(hRB.out d7 (by omega)).1]; omega) (fun k hk => by have := E1.out; have p1 := allIn_at h5 k hk; have p2 := allIn_at (hRB.out d7 (by omega)).2 k (by rw [(hRB.out d7 (by omega)).1]; omega); omega))
          | (go_at_call 97; (with_reducible refine AD.mono ?_); rintro e w9 ⟨u9, rfl, ho9, hq9⟩)
          | fail)
        generalize List.zipWith (· + ·) X (M.getD d7 []) = Y at ho9
        have HQ9 := HQ7.out.trans (hq9.mono HQ7.out.size)
        have HM9 := HM1.out.upb HQ9
        have HX9 := ISu.upb HX1.out HQ9
        have HY9 := IS.mono ho9 (Nat.le_trans hlo1 HQ7.out.size) (Nat.le_refl _)
        obtain ⟨a9, q9, rfl, -⟩ := id HY9
        have HB9 := HB1.out.trans (HQ9.mono hlo1)
        go_wp2
        refine bodyPost_ret (v := .tuple #[.slice (some ⟨b, off, none⟩) M.length q1, .slice a2 X.length q2, .slice a9 Y.length q9]) (by simp [results, Try.results33, go_sem]) rfl ?_
        exact ⟨⟨_, _, _, M, X, _, rfl, HM9, HX9, HY9⟩, HB9⟩
  · have d1 : ((M.length : Int) == (X.length : Int)) = false := by rw [beq_eq_false_iff_ne]; omega
    go_wp2_with (first | (go_at_call 95; (with_reducible refine CM2.mono ?_); rintro e w5 ⟨rfl, d, rfl⟩) | fail)
    have HC5 := Lib.hid (HC.out)
    have HQ5 := Lib.hid (HQ2.out)
    have BB := l2DrawI_any w1.heap.size hb X.length 20 _ HC5.out (by omega) (by omega)
    unfold curP at BB
    refine BB.mono ?_
    clear BB
    rintro e w9 ⟨u9, l9, rfl, ho9, hl9, ha9, hc9, hg9⟩
    have HQ9 := HQ5.out.trans (grown_below hg9 HQ5.out.size (Nat.le_refl _))
    have HM9 := HM1.out.upb HQ9
    have HX9 := ISu.upb HX1.out HQ9
    have HY9 := IS.mono (show ISu w9 _ u9 l9 from ho9.is) (Nat.le_trans hlo1 HQ5.out.size) (Nat.le_refl _)
    obtain ⟨a9, q9, rfl, -⟩ := id HY9
    have HB9 := HB1.out.trans (HQ9.mono hlo1)
    go_wp2
    refine bodyPost_ret (v := .tuple #[.slice a1 M.length q1, .slice a2 X.length q2, .slice a9 l9.length q9]) (by simp [results, Try.results33, go_sem]) rfl ?_
    exact ⟨⟨_, _, _, M, X, l9, rfl, HM9, HX9, HY9⟩, HB9⟩
end Go.Proofs.Ytehhoplenloocaa
