/- B8: texts in one: DrL DrT DrB DrE DrI OwC DrU DrV DrW. -/
import Derived.Test.YtehhoplenloocaaGreatDraw
import Derived.Test.YtehhoplenloocaaGreatB2
import Derived.Handy
import Derived.Test.YtehhoplenloocaaGreatB4
import Derived.Test.YtehhoplenloocaaGreatPlace
import Derived.Test.YtehhoplenloocaaGreatB17
import Derived.Test.YtehhoplenloocaaGreatB18
import Derived.Deep.AppendLies
import Derived.Deep.DeepCutAuto
import Derived.Deep.RegionHeld3
/- Lists that are drawn: l2Draw, l15Draw. -/
namespace Go.Proofs.YtehhoplenloocaaGreat
open Go.RowKit
set_option linter.unusedVariables false
set_option linter.unusedSimpArgs false

theorem OwnI.cur {w w' : World} {B p : Nat} {v : Value} {l : List Int} (h : OwnI w B v l) (hg : w.grownBy w' (some p)) (hp : p < B) : OwnI w' B v l := by
  refine World.ownsRow.kept h (row := some p) hg ?_
  right
  intro e
  have := (World.ownsRow.lt h p e).1
  omega
theorem grown_then {w w1 w2 : World} {p : Nat} (h : w.grownBy w1 (some p)) (h2 : Below w.heap.size w1 w2) : w.grownBy w2 (some p) :=
  ⟨h2.os.trans h.os, h2.tape.trans h.tape, h2.output.trans h.output, Nat.le_trans h.size h2.size, fun k hk hne => (h2.block k hk).trans (h.block k hk hne)⟩
theorem draw_push {w w3 w4 : World} {p hb : Nat} {v : Value} {acc : List Int} {o : Obj} (hC : Cur w3 p hb) (hG : w.grownBy w3 (some p)) (hown : OwnI w3 w.heap.size v acc) (hp : p < w.heap.size) (hg : (w3.alloc o).grownBy w4 v.ownBlock) : Cur w4 p hb ∧ w.grownBy w4 (some p) := by
  have hB : Below w.heap.size w3 w4 := OwnI.below (Below.refl _ _) hG.size o hg hown (Nat.le_refl _)
  exact ⟨hC.below hB hp, grown_then hG hB⟩

set_option maxRecDepth 100000 in
set_option maxHeartbeats 4000000 in
theorem l2Draw_any (p hb : Nat) (n m : Nat) (w : World) (h : Cur w p hb) (hn : n ≤ 1000) (hm : m ≤ 1000) :
    Calls Tryz.prog 54 #[curP p, .int .i64 n, .int .i64 m] w fun e w' => ∃ u l, e = .returned u ∧ OwnI w' w.heap.size u l ∧ l.length = n ∧ allIn l (-m) m = true ∧ Cur w' p hb ∧ w.grownBy w' (some p) := by
  have hp := h.lt
  have HC0 := Lib.hid (h.below (below1 w (.cells #[] 3)) hp)
  have HG0 := Lib.hid (grown_alloc (World.grownBy.refl w (some p)) (.cells #[] 3))
  have HO0 := Lib.hid (OwnI.lit0 w w.heap.size (Nat.le_refl _))
  clear h
  unfold curP
  go_enter Tryz.func54, Tryz.ntmps54
  go_wp2
  go_loopw [7, 8] (fun s i wr => ∃ (k : Nat) (acc : List Int), k ≤ n ∧ i = .int .i64 k ∧ acc.length ≤ k ∧ Hid (acc.length = k) ∧ Hid (allIn acc (-m) m = true) ∧ Hid (OwnI wr w.heap.size s acc) ∧ Hid (Cur wr p hb) ∧ Hid (w.grownBy wr (some p))) (fun _ i _ => n - (intOf i).toNat)
  case atStart => exact ⟨0, [], by omega, rfl, Nat.le_refl _, Lib.hid rfl, Lib.hid rfl, HO0, HC0, HG0⟩
  case round =>
    obtain ⟨k, acc, hk, rfl, hal, HL, HA, HO, HC, HG⟩ := hrel
    by_cases hlt : k < n
    · have BB := l1Below_any p hb (2 * m + 1) wr HC.out (by omega) (by omega)
      unfold curP at BB
      go_wp2_with fail
      refine BB.mono ?_
      rintro e w2 ⟨x, rfl, hx0, hx1, hc, hg⟩
      have HO2 := Lib.hid (HO.out.cur hg hp)
      have HC2 := Lib.hid hc
      have HG2 := Lib.hid (grown_trans HG.out hg)
      clear hc hg BB HC HG HO
      have hsz := HG2.out.size
      go_wp2_with (at_builtin; refine wpList_append_I rfl _ _ rfl rfl rfl (HO2.out.kept (below1 w2 (.cells #[.int .i64 (x - m)] 3))) (IS.lit w2 [x - m] (by simp)).read (by simp; omega) (by simp; omega) ?_)
      intro a cap w4 ho4 hg4
      have hd := draw_push HC2.out HG2.out HO2.out hp hg4
      have HC4 := Lib.hid hd.1
      have HG4 := Lib.hid hd.2
      have HO4 := Lib.hid ho4
      have HL4 := Lib.hid (show (acc ++ [x - (m : Int)]).length = k + 1 by simp [HL.out])
      have HA4 := Lib.hid (show allIn (acc ++ [x - (m : Int)]) (-m) m = true by unfold allIn; rw [List.all_append]; simp only [Bool.and_eq_true]; exact ⟨HA.out, by simp [inB]; omega⟩)
      clear hd hg4 ho4 HC2 HG2 HO2 hsz
      go_wp2
      go_roundw
      case rel => exact ⟨k + 1, acc ++ [x - m], by omega, by go_num, by simp; omega, HL4, HA4, HO4, HC4, HG4⟩
      case measure => simp [intOf]; omega
    · obtain rfl : k = n := by omega
      go_wp2
      go_ret
      exact ⟨_, acc, rfl, HO.out, HL.out, HA.out, HC.out, HG.out⟩
end Go.Proofs.YtehhoplenloocaaGreat

/- The draws of the statement on tetrahedra. -/
namespace Go.Proofs.YtehhoplenloocaaGreat
open Go.RowKit
set_option linter.unusedVariables false
set_option linter.unusedSimpArgs false

theorem OwnL.cur {w w' : World} {B p : Nat} {v : Value} {ls : List (List Int)} (h : OwnL w B v ls) (hg : w.grownBy w' (some p)) (hp : p < B) : OwnL w' B v ls := by
  obtain ⟨V, q, h1, h2, h3, h4⟩ := h
  have h1' : w'.ownsRow B 25 1 v ls.length ((List.range ls.length).map V) := by
    refine World.ownsRow.kept h1 (row := some p) hg ?_
    right
    intro e
    have := (World.ownsRow.lt h1 p e).1
    omega
  refine ⟨V, q, h1', h2, Nat.le_trans h3 hg.size, fun i hi => ⟨(h4 i hi).1, (h4 i hi).2.cur hg ?_⟩⟩
  have := OwnL.mono (p := q) (n := ls.length) (fun i hi => (h4 i hi).1) 0 i (Nat.zero_le _) (by omega)
  left; omega
end Go.Proofs.YtehhoplenloocaaGreat

/- The draws of the statement on tetrahedra: l13Bent. -/
namespace Go.Proofs.YtehhoplenloocaaGreat
open Go.RowKit
set_option linter.unusedVariables false
set_option linter.unusedSimpArgs false

theorem RowsW.less {w : World} {lo hi b off n m : Nat} {V : Nat → Value} {cur : Nat → List Int} (h : RowsW w lo hi b off n V cur) (hm : m ≤ n) : RowsW w lo hi b off m V cur :=
  ⟨by obtain ⟨c, e, f⟩ := h.outer; exact ⟨c, e, fun i hi => f i (by omega)⟩, fun i hi => h.row i (by omega), fun i j hij hj => h.apart i j hij (by omega)⟩
theorem blw5 (w : World) (o1 o2 o3 o4 o5 : Obj) : Below w.heap.size w (((((w.alloc o1).alloc o2).alloc o3).alloc o4).alloc o5) := ((((below1 w o1).alloc (by simp) o2).alloc (by simp; omega) o3).alloc (by simp; omega) o4).alloc (by simp; omega) o5
theorem IS.lit3H (w : World) (B g : Nat) (hg : w.heap.size = g) (h : B ≤ g) (x y z : Int) : IS (w.alloc (.cells #[.int .i64 x, .int .i64 y, .int .i64 z] 3)) g (g + 1) (.slice (some ⟨g, 0, none⟩) 3 3) [x, y, z] := by
  subst hg; exact IS.lit3 w _ (Nat.le_refl _) x y z
/-- four rows, as they are laid -/
theorem lit43 (w : World) (B : Nat) (hB : B ≤ w.heap.size) {a b c d e f g h i j k l : Int} : ISS (((((w.alloc (.cells #[.int .i64 a, .int .i64 b, .int .i64 c] 3)).alloc (.cells #[.int .i64 d, .int .i64 e, .int .i64 f] 3)).alloc (.cells #[.int .i64 g, .int .i64 h, .int .i64 i] 3)).alloc (.cells #[.int .i64 j, .int .i64 k, .int .i64 l] 3)).alloc
    (.cells #[.slice (some ⟨w.heap.size, 0, none⟩) 3 3, .slice (some ⟨w.heap.size + 1, 0, none⟩) 3 3, .slice (some ⟨w.heap.size + 1 + 1, 0, none⟩) 3 3, .slice (some ⟨w.heap.size + 1 + 1 + 1, 0, none⟩) 3 3] 25)) B (w.heap.size + 1 + 1 + 1 + 1 + 1) (.slice (some ⟨w.heap.size + 1 + 1 + 1 + 1, 0, none⟩) 4 4) [[a, b, c], [d, e, f], [g, h, i], [j, k, l]] := by
  have k0 := IS.lit3H w w.heap.size _ rfl (Nat.le_refl _) a b c
  have k1 := IS.lit3H (w.alloc (.cells #[.int .i64 a, .int .i64 b, .int .i64 c] 3)) w.heap.size (w.heap.size + 1) (by simp) (by omega) d e f
  have k2 := IS.lit3H ((w.alloc (.cells #[.int .i64 a, .int .i64 b, .int .i64 c] 3)).alloc (.cells #[.int .i64 d, .int .i64 e, .int .i64 f] 3)) w.heap.size (w.heap.size + 1 + 1) (by simp) (by omega) g h i
  have k3 := IS.lit3H (((w.alloc (.cells #[.int .i64 a, .int .i64 b, .int .i64 c] 3)).alloc (.cells #[.int .i64 d, .int .i64 e, .int .i64 f] 3)).alloc (.cells #[.int .i64 g, .int .i64 h, .int .i64 i] 3)) w.heap.size (w.heap.size + 1 + 1 + 1) (by simp) (by omega) j k l
  have hb : ∀ q : Nat, blkOf (.slice (some ⟨q, 0, none⟩) 3 3) = some q := fun q => blkOf_some _ _ _ _ (by omega)
  refine ⟨some ⟨w.heap.size + 1 + 1 + 1 + 1, 0, none⟩, 4, rfl, by simp, by simp [maxLen], fun _ => ⟨w.heap.size + 1 + 1 + 1 + 1, 0, fun q => .slice (some ⟨w.heap.size + q, 0, none⟩) 3 3, rfl, by omega, by omega, ?_, fun q hq => ?_, fun q r hqr hr => ?_⟩⟩
  · refine ⟨_, by have := heap_alloc_new ((((w.alloc (.cells #[.int .i64 a, .int .i64 b, .int .i64 c] 3)).alloc (.cells #[.int .i64 d, .int .i64 e, .int .i64 f] 3)).alloc (.cells #[.int .i64 g, .int .i64 h, .int .i64 i] 3)).alloc (.cells #[.int .i64 j, .int .i64 k, .int .i64 l] 3)) (.cells #[.slice (some ⟨w.heap.size, 0, none⟩) 3 3, .slice (some ⟨w.heap.size + 1, 0, none⟩) 3 3, .slice (some ⟨w.heap.size + 1 + 1, 0, none⟩) 3 3, .slice (some ⟨w.heap.size + 1 + 1 + 1, 0, none⟩) 3 3] 25); simpa using this, fun q hq => ?_⟩
    simp at hq
    rcases (show q = 0 ∨ q = 1 ∨ q = 2 ∨ q = 3 by omega) with rfl | rfl | rfl | rfl <;> rfl
  · simp at hq
    rcases (show q = 0 ∨ q = 1 ∨ q = 2 ∨ q = 3 by omega) with rfl | rfl | rfl | rfl
    · exact ((((k0.keep (below1 _ _) (by simp)).keep (below1 _ _) (by simp)).keep (below1 _ _) (by simp)).keep (below1 _ _) (by simp)).mono hB (by omega)
    · exact (((k1.keep (below1 _ _) (by simp)).keep (below1 _ _) (by simp)).keep (below1 _ _) (by simp)).mono (by omega) (by omega)
    · exact ((k2.keep (below1 _ _) (by simp)).keep (below1 _ _) (by simp)).mono (by omega) (by omega)
    · exact (k3.keep (below1 _ _) (by simp)).mono (by omega) (by omega)
  · right
    rw [hb, hb]
    intro e; injection e with e; omega
end Go.Proofs.YtehhoplenloocaaGreat

/- The draws of the statement on tetrahedra. -/
namespace Go.Proofs.YtehhoplenloocaaGreat
open Go.RowKit
set_option linter.unusedVariables false
set_option linter.unusedSimpArgs false

theorem ISS.cur {w w' : World} {lo p : Nat} {v : Value} {ls : List (List Int)} (h : ISS w lo w.heap.size v ls) (hg : w.grownBy w' (some p)) (hp : p < lo) : ISS w' lo w'.heap.size v ls :=
  (h.of_blocks fun b h1 h2 h3 => hg.block b h3 (by intro e; injection e with e; omega)).mono (Nat.le_refl _) hg.size
theorem ISS.upb {w w' : World} {lo : Nat} {v : Value} {ls : List (List Int)} (h : ISS w lo w.heap.size v ls) (hb : Below w.heap.size w w') : ISS w' lo w'.heap.size v ls := (h.of_blocks fun b _ _ h3 => hb.block b h3).mono (Nat.le_refl _) hb.size
def ISu (w : World) (lo : Nat) (v : Value) (l : List Int) : Prop := IS w lo w.heap.size v l
theorem ISu.cur {w w' : World} {lo p : Nat} {v : Value} {l : List Int} (h : ISu w lo v l) (hg : w.grownBy w' (some p)) (hp : p < lo) : ISu w' lo v l := (IS.cur h hg (.inl hp)).mono (Nat.le_refl _) hg.size
theorem ISu.upb {w w' : World} {lo : Nat} {v : Value} {l : List Int} (h : ISu w lo v l) (hb : Below w.heap.size w w') : ISu w' lo v l := (IS.of_blocks h fun b _ _ h3 => hb.block b h3).mono (Nat.le_refl _) hb.size

end Go.Proofs.YtehhoplenloocaaGreat

/- Cones that are drawn: the draws of the statements. -/
namespace Go.Proofs.YtehhoplenloocaaGreat
open Go.RowKit
set_option linter.unusedVariables false
set_option linter.unusedSimpArgs false

theorem l2DrawI_any (p hb : Nat) (n m : Int) (w : World) (h : Cur w p hb) (hn : 0 ≤ n ∧ n ≤ 1000) (hm : 0 ≤ m ∧ m ≤ 1000) :
    Calls Tryz.prog 54 #[curP p, .int .i64 n, .int .i64 m] w fun e w' => ∃ u l, e = .returned u ∧ OwnI w' w.heap.size u l ∧ (l.length : Int) = n ∧ allIn l (-m) m = true ∧ Cur w' p hb ∧ w.grownBy w' (some p) := by
  have h := l2Draw_any p hb n.toNat m.toNat w h (by omega) (by omega)
  rw [show ((n.toNat : Nat) : Int) = n by omega, show ((m.toNat : Nat) : Int) = m by omega] at h
  refine h.mono ?_
  rintro e w' ⟨u, l, he, ho, hl, hr⟩
  exact ⟨u, l, he, ho, by omega, hr⟩




end Go.Proofs.YtehhoplenloocaaGreat

/- Owned rows beside a cursor. -/
namespace Go.Proofs.YtehhoplenloocaaGreat
open Go.RowKit
set_option linter.unusedVariables false
set_option linter.unusedSimpArgs false

theorem OwnLp.cur {w w' : World} {B p m : Nat} {v : Value} {ls : List (List Int)} {V : Nat → Value} {q : Nat → Nat} (h : OwnLp w B v ls V q m) (hg : w.grownBy w' (some p)) (hp : p < B) : OwnLp w' B v ls V q m := by
  obtain ⟨h1, h2, h3, h4⟩ := h
  have h1' : w'.ownsRow B 25 1 v ls.length ((List.range ls.length).map V) := by
    refine World.ownsRow.kept h1 (row := some p) hg ?_
    right
    intro e
    have := (World.ownsRow.lt h1 p e).1
    omega
  refine ⟨h1', h2, h3, fun i hi => ⟨(h4 i hi).1, (h4 i hi).2.cur hg ?_⟩⟩
  have := OwnL.mono (p := q) (n := ls.length) (fun i hi => (h4 i hi).1) 0 i (Nat.zero_le _) (by omega)
  left; omega
theorem OwnL.setN {w : World} {B n i : Nat} {v : Value} {ls : List (List Int)} (h : OwnL w B v ls) (hn : n < B) (x : Value) : OwnL (w.setCell ⟨n, i, none⟩ x) B v ls := h.cur (grown_set (World.grownBy.refl w (some n)) i x) hn
end Go.Proofs.YtehhoplenloocaaGreat

/- Matrices that are drawn: l3Draw, l3Unit. -/
namespace Go.Proofs.YtehhoplenloocaaGreat
open Go Go.RowKit
set_option linter.unusedVariables false
set_option linter.unusedSimpArgs false

/-- rows that read, in blocks from lo on -/
def RQ (w : World) (lo : Nat) (v : Value) (ls : List (List Int)) : Prop :=
  ∃ a cap, v = .slice a ls.length cap ∧ ls.length ≤ cap ∧ cap ≤ maxLen ∧ (ls ≠ [] → ∃ b off, ∃ V : Nat → Value, a = some ⟨b, off, none⟩ ∧ lo ≤ b ∧ b < w.heap.size ∧ ∀ i, i < ls.length → w.cell? ⟨b, off + i, none⟩ = some (V i) ∧ IS w lo w.heap.size (V i) (ls.getD i []))
theorem RQ.read {w : World} {lo : Nat} {v : Value} {ls : List (List Int)} (h : RQ w lo v ls) : ISSr w w.heap.size v ls := by
  obtain ⟨a, cap, h1, h2, h3, h4⟩ := h
  refine ⟨a, cap, h1, h2, h3, fun hl => ?_⟩
  obtain ⟨b, off, V, e, -, hb, hc⟩ := h4 hl
  exact ⟨b, off, V, e, hb, fun i hi => ⟨(hc i hi).1, (hc i hi).2.read⟩⟩
theorem RQ.cur {w w' : World} {lo p : Nat} {v : Value} {ls : List (List Int)} (h : RQ w lo v ls) (hg : w.grownBy w' (some p)) (hp : p < lo) : RQ w' lo v ls := by
  obtain ⟨a, cap, h1, h2, h3, h4⟩ := h
  refine ⟨a, cap, h1, h2, h3, fun hl => ?_⟩
  obtain ⟨b, off, V, e, hlo, hb, hc⟩ := h4 hl
  exact ⟨b, off, V, e, hlo, Nat.lt_of_lt_of_le hb hg.size, fun i hi => ⟨(World.cell?_of_block (a := ⟨b, off + i, none⟩) (hg.block b hb (by intro e; injection e with e; omega))).trans (hc i hi).1, ((hc i hi).2.cur hg (.inl hp)).mono (Nat.le_refl _) hg.size⟩⟩
theorem RQ.upb {w w' : World} {lo : Nat} {v : Value} {ls : List (List Int)} (h : RQ w lo v ls) (hb' : Below w.heap.size w w') : RQ w' lo v ls := by
  obtain ⟨a, cap, h1, h2, h3, h4⟩ := h
  refine ⟨a, cap, h1, h2, h3, fun hl => ?_⟩
  obtain ⟨b, off, V, e, hlo, hb, hc⟩ := h4 hl
  exact ⟨b, off, V, e, hlo, Nat.lt_of_lt_of_le hb hb'.size, fun i hi => ⟨(hb'.cell (p := ⟨b, off + i, none⟩) hb).trans (hc i hi).1, ((hc i hi).2.keep hb' (Nat.le_refl _)).mono (Nat.le_refl _) hb'.size⟩⟩
theorem RQ.of {w : World} {lo : Nat} {v : Value} {ls : List (List Int)} (h : ISS w lo w.heap.size v ls) : RQ w lo v ls := by
  obtain ⟨a, cap, h1, h2, h3, h4⟩ := h
  refine ⟨a, cap, h1, h2, h3, fun hl => ?_⟩
  obtain ⟨b, off, V, e, g1, g2, g3, g4, -⟩ := h4 hl
  exact ⟨b, off, V, e, g1, g2, fun i hi => ⟨g3.cell hi, g4 i hi⟩⟩
theorem RQ.lower {w : World} {lo lo' : Nat} {v : Value} {ls : List (List Int)} (h : RQ w lo v ls) (hl : lo' ≤ lo) : RQ w lo' v ls := by
  obtain ⟨a, cap, h1, h2, h3, h4⟩ := h
  refine ⟨a, cap, h1, h2, h3, fun hn => ?_⟩
  obtain ⟨b, off, V, e, g1, g2, g3⟩ := h4 hn
  exact ⟨b, off, V, e, Nat.le_trans hl g1, g2, fun i hi => ⟨(g3 i hi).1, (g3 i hi).2.mono hl (Nat.le_refl _)⟩⟩
theorem RQ.ofMO {w : World} {lo b off n cap : Nat} {M : List (List Int)} (h : MO w lo b off n M) (hn : M.length = n) (hc : n ≤ cap) (hm : cap ≤ maxLen) (hlo : lo ≤ b) : RQ w lo (.slice (some ⟨b, off, none⟩) n cap) M := by
  obtain ⟨V, h⟩ := h
  subst hn
  exact ⟨_, cap, rfl, hc, hm, fun _ => ⟨b, off, V, rfl, hlo, h.outer.lt, fun i hi => ⟨h.outer.cell hi, h.row i hi⟩⟩⟩
theorem MO.cur {w w' : World} {lo b off n p : Nat} {M : List (List Int)} (h : MO w lo b off n M) (hg : w.grownBy w' (some p)) (hp : p < lo) (hb : lo ≤ b) : MO w' lo b off n M := by
  obtain ⟨V, h⟩ := h
  exact ⟨V, h.outer.of_block (hg.block b h.outer.lt (by intro e; injection e with e; omega)), fun i hi => ((h.row i hi).cur hg (.inl hp)).mono (Nat.le_refl _) hg.size⟩
theorem OwnLp.curA {w w' : World} {B p m : Nat} {v : Value} {ls : List (List Int)} {V : Nat → Value} {q : Nat → Nat} (h : OwnLp w B v ls V q m) (hg : w.grownBy w' (some p)) (hm : m ≤ p) (hv : ∀ g, v.ownBlock = some g → g < p) : OwnLp w' B v ls V q m := by
  obtain ⟨h1, h2, h3, h4⟩ := h
  have h1' : w'.ownsRow B 25 1 v ls.length ((List.range ls.length).map V) := by
    refine World.ownsRow.kept h1 (row := some p) hg ?_
    right
    intro e
    have := hv p e
    omega
  refine ⟨h1', h2, h3, fun i hi => ⟨(h4 i hi).1, (h4 i hi).2.cur hg ?_⟩⟩
  have := OwnL.mono (p := q) (n := ls.length) (fun i hi => (h4 i hi).1) (i + 1) ls.length hi (Nat.le_refl _)
  right; omega
theorem OwnL.bnd {w : World} {B : Nat} {v : Value} {ls : List (List Int)} (h : OwnL w B v ls) : ∀ g, v.ownBlock = some g → g < w.heap.size := by
  obtain ⟨V, p, h1, -⟩ := h
  exact fun g e => (World.ownsRow.lt h1 g e).2
def SqL (n : Nat) (B : Int) (M : List (List Int)) : Prop := M.length = n ∧ ∀ i, i < n → (M.getD i []).length = n ∧ allIn (M.getD i []) (-B) B = true
theorem SqL.mono {n : Nat} {B B' : Int} {M : List (List Int)} (h : SqL n B M) (hb : B ≤ B') : SqL n B' M := ⟨h.1, fun i hi => ⟨(h.2 i hi).1, by
  have := (h.2 i hi).2
  unfold allIn at this ⊢
  rw [List.all_eq_true] at this ⊢
  intro y hy
  have := this y hy
  simp [inB] at this ⊢; omega⟩⟩
theorem SqL.set {n a : Nat} {B B' : Int} {M : List (List Int)} {x : List Int} (h : SqL n B M) (ha : a < n) (hb : B ≤ B') (hx : x.length = n ∧ allIn x (-B') B' = true) : SqL n B' (M.set a x) :=
  ⟨by rw [List.length_set]; exact h.1, fun i hi => by
    rw [getD_setR (by rw [h.1]; exact ha)]
    split
    · exact hx
    · exact (h.mono hb).2 i hi⟩
def bU : Nat → Int
  | 0 => 1
  | k + 1 => 3 * bU k
theorem bU_bd {k : Nat} (h : k ≤ 3) : 1 ≤ bU k ∧ bU k ≤ 27 := by
  rcases (show k = 0 ∨ k = 1 ∨ k = 2 ∨ k = 3 by omega) with rfl | rfl | rfl | rfl <;> decide
def unitRow (n k : Nat) (s : Int) : List Int := (List.range n).map fun i => if i = k then s else 0
theorem unitRow_len (n k : Nat) (s : Int) : (unitRow n k s).length = n := by simp [unitRow]
theorem unitRow_at (n k : Nat) (s : Int) {i : Nat} (hi : i < n) : (unitRow n k s).getD i 0 = if i = k then s else 0 := by
  unfold unitRow; rw [List.getD_eq_getElem?_getD, List.getElem?_map, List.getElem?_range hi]; rfl
theorem unitRow_in (n k : Nat) {s : Int} (hs : -1 ≤ s ∧ s ≤ 1) : allIn (unitRow n k s) (-1) 1 = true := by
  unfold allIn unitRow
  rw [List.all_eq_true]
  intro y hy
  obtain ⟨i, -, rfl⟩ := List.mem_map.1 hy
  split <;> simp [inB] <;> omega
theorem rows_snoc {P : List Int → Prop} {acc : List (List Int)} {r : List Int} (h : ∀ i, i < acc.length → P (acc.getD i [])) (hr : P r) : ∀ i, i < (acc ++ [r]).length → P ((acc ++ [r]).getD i []) := fun i hi => by
  rcases Nat.lt_or_ge i acc.length with g | g
  · rw [List.getD_eq_getElem?_getD, List.getElem?_append_left g, ← List.getD_eq_getElem?_getD]; exact h i g
  · rw [List.length_append] at hi
    have : i = acc.length := by simp at hi; omega
    rw [this, List.getD_eq_getElem?_getD, List.getElem?_append_right (Nat.le_refl _)]; simpa using hr
theorem add_in {a b : List Int} {n : Nat} {t B : Int} (ha : a.length = n) (hb : b.length = n) (h1 : allIn a (-B) B = true) (h2 : allIn b (-B) B = true) (ht : -2 ≤ t ∧ t ≤ 2) (hB : 1 ≤ B ∧ B ≤ 27) :
    (∀ k, k < b.length → -9223372036854775808 ≤ b.getD k 0 * t ∧ b.getD k 0 * t ≤ 9223372036854775807) ∧ (∀ k, k < a.length → -9223372036854775808 ≤ a.getD k 0 + (b.map (· * t)).getD k 0 ∧ a.getD k 0 + (b.map (· * t)).getD k 0 ≤ 9223372036854775807) ∧
    (List.zipWith (· + ·) a (b.map (· * t))).length = n ∧ allIn (List.zipWith (· + ·) a (b.map (· * t))) (-(3 * B)) (3 * B) = true := by
  have hm : ∀ k, k < n → -(2 * B) ≤ b.getD k 0 * t ∧ b.getD k 0 * t ≤ 2 * B := fun k hk => by
    have := mul_bdH (M := B) (N := 2) (allIn_at h2 k (by omega)) ht
    omega
  have hmt : ∀ k, k < n → (b.map (· * t)).getD k 0 = b.getD k 0 * t := fun k hk => by
    rw [List.getD_eq_getElem?_getD, List.getElem?_map, List.getElem?_eq_getElem (by omega), List.getD_eq_getElem?_getD, List.getElem?_eq_getElem (by omega)]; rfl
  refine ⟨fun k hk => by have := hm k (by omega); omega, fun k hk => ?_, by simp; omega, ?_⟩
  · have := hm k (by omega)
    have := allIn_at h1 k hk
    rw [hmt k (by omega)]; omega
  · unfold allIn
    rw [List.all_eq_true]
    intro y hy
    obtain ⟨i, hi, rfl⟩ := List.getElem_of_mem hy
    simp only [List.length_zipWith, List.length_map] at hi
    have e1 := hm i (by omega)
    have e2 := allIn_at h1 i (by omega)
    rw [List.getD_eq_getElem?_getD, List.getElem?_eq_getElem (by omega)] at e1 e2
    simp only [Option.getD_some] at e1 e2
    simp only [List.getElem_zipWith, List.getElem_map]
    simp [inB]; omega

set_option maxRecDepth 100000 in
set_option maxHeartbeats 4000000 in
theorem l3Draw_any (p hb : Nat) (n : Nat) (m : Int) (w : World) (h : Cur w p hb) (hn : n ≤ 10) (hm : 0 ≤ m ∧ m ≤ 1000) :
    Calls Tryz.prog 99 #[curP p, .int .i64 n, .int .i64 m] w fun e w' => ∃ u ls, e = .returned u ∧ OwnL w' w.heap.size u ls ∧ SqL n m ls ∧ Cur w' p hb ∧ w.grownBy w' (some p) := by
  obtain ⟨i0, hi0, hz0, hz1, hz2⟩ := info_parts info_ints
  have HI0 := Lib.hid hi0; clear hi0
  have HZ0 := Lib.hid hz0; clear hz0
  have HZ1 := Lib.hid hz1; clear hz1
  have HZ2 := Lib.hid hz2; clear hz2
  have hp := h.lt
  have HC0 := Lib.hid (h.below (below1 w (.cells #[] 25)) hp)
  have HG0 := Lib.hid (grown_alloc (World.grownBy.refl w (some p)) (.cells #[] 25))
  have HO0 := Lib.hid (OwnL.lit0 w w.heap.size (Nat.le_refl _))
  clear h
  unfold curP
  go_enter Tryz.func99, Tryz.ntmps99
  go_wp2
  go_loopw [7, 8] (fun s i wr => ∃ (k : Nat) (acc : List (List Int)), k ≤ n ∧ i = .int .i64 k ∧ acc.length ≤ k ∧ Hid (acc.length = k) ∧ Hid (∀ i, i < acc.length → (acc.getD i []).length = n ∧ allIn (acc.getD i []) (-m) m = true) ∧ Hid (OwnL wr w.heap.size s acc) ∧ Hid (Cur wr p hb) ∧ Hid (w.grownBy wr (some p))) (fun _ i _ => n - (intOf i).toNat)
  case atStart => exact ⟨0, [], by omega, rfl, Nat.le_refl _, Lib.hid rfl, Lib.hid (fun i hi => by simp at hi), HO0, HC0, HG0⟩
  case round =>
    clear HO0 HC0 HG0
    obtain ⟨k, acc, hk, rfl, hal, HL, HA, HO, HC, HG⟩ := hrel
    by_cases hlt : k < n
    · have BB := l2DrawI_any p hb n m wr HC.out (by omega) hm
      unfold curP at BB
      go_wp2_with fail
      refine BB.mono ?_
      clear BB
      rintro e w4 ⟨u4, l4, rfl, ho4, hl4, ha4, hc4, hg4⟩
      obtain ⟨a4, c4, rfl⟩ := ho4.form
      obtain ⟨V, q, hpt⟩ := HO.out.part (Below.refl _ _)
      have HPT := Lib.hid (hpt.cur hg4 hp)
      have hsz := HG.out.size
      have hsz4 := hg4.size
      have HC4 := Lib.hid hc4
      have HG4 := Lib.hid (grown_trans HG.out hg4)
      have HK := Lib.hid (show IS w4 wr.heap.size w4.heap.size (.slice a4 l4.length c4) l4 from ho4.is)
      have HA4 := Lib.hid (show l4.length = n ∧ allIn l4 (-m) m = true from ⟨by omega, ha4⟩)
      clear ho4 hl4 ha4 hc4 hg4 HC HG HO hpt
      go_wp2_with (at_builtin; refine wpList_append_own _ rfl _ _ 24 rfl w.heap.size 25 i0 (.slice none 0 0) 1 24 Tryz.underlying24 HI0.out HZ0.out HZ1.out HZ2.out rfl (by decide) _ _ _ rfl (HPT.out.alloc _) ⟨w4.heap.size, 0, none⟩ 1 1 [.slice a4 l4.length c4] rfl rfl ?c1 ?c2 ?c3 ?c4 ?c5 ?_)
      case c1 => exact cell_one_new _ _ _
      case c2 => first | rfl | (intro u hu; simp at hu; subst hu; rfl)
      case c3 => unfold maxLen; omega
      case c4 => omega
      case c5 => first | omega | (simp; omega)
      intro v2 w6 hown2 hgrow _
      have HO6 := Lib.hid (HPT.out.push HK.out (Nat.le_refl _) hsz4 (Nat.le_refl _) hgrow hown2)
      have hB6 : Below w.heap.size w4 w6 := OwnLp.below (Below.refl w.heap.size w4) (by omega) _ hgrow HPT.out (Nat.le_refl _)
      have HC6 := Lib.hid (HC4.out.below hB6 hp)
      have HG6 := Lib.hid (grown_then HG4.out hB6)
      have HL6 := Lib.hid (show (acc ++ [l4]).length = k + 1 by simp [HL.out])
      have HA6 := Lib.hid (rows_snoc (P := fun r => r.length = n ∧ allIn r (-m) m = true) HA.out HA4.out)
      clear hown2 hgrow hB6
      go_wp2
      go_roundw
      case rel => exact ⟨k + 1, _, by omega, by go_num, by simp; omega, HL6, HA6, HO6, HC6, HG6⟩
      case measure => simp [intOf]; omega
    · obtain rfl : k = n := by omega
      go_wp2
      go_ret
      exact ⟨_, acc, rfl, HO.out, ⟨HL.out, fun i hi => HA.out i (by rw [HL.out]; exact hi)⟩, HC.out, HG.out⟩
set_option maxRecDepth 100000 in
set_option maxHeartbeats 8000000 in
theorem l3Unit_any (p hb : Nat) (n : Nat) (w : World) (h : Cur w p hb) (h1 : 1 ≤ n) (h3 : n ≤ 3) :
    Calls Tryz.prog 53 #[curP p, .int .i64 n] w fun e w' => ∃ u ls, e = .returned u ∧ (RQ w' w.heap.size u ls ∧ SqL n 27 ls) ∧ Cur w' p hb ∧ w.grownBy w' (some p) := by
  obtain ⟨i0, hi0, hz0, hz1, hz2⟩ := info_parts info_ints
  have HI0 := Lib.hid hi0; clear hi0
  have HZ0 := Lib.hid hz0; clear hz0
  have HZ1 := Lib.hid hz1; clear hz1
  have HZ2 := Lib.hid hz2; clear hz2
  have hmk := run_make_row' (P := Tryz.prog) 25 3 (.int .i64 0) 8 Tryz.underlying25 info_int rfl .i64 .i64 n (by omega) (by omega)
  have hp := h.lt
  have HC0 := Lib.hid (h.below (below1 w (.cells #[] 25)) hp)
  have HG0 := Lib.hid (grown_alloc (World.grownBy.refl w (some p)) (.cells #[] 25))
  have HO0 := Lib.hid (OwnL.lit0 w w.heap.size (Nat.le_refl _))
  clear h
  unfold curP
  go_enter Tryz.func53, Tryz.ntmps53
  go_wp2
  go_loopw [5, 6] (fun s i wr => ∃ (k : Nat) (acc : List (List Int)), k ≤ n ∧ i = .int .i64 k ∧ acc.length ≤ k ∧ Hid (acc.length = k) ∧ Hid (∀ i, i < acc.length → (acc.getD i []).length = n ∧ allIn (acc.getD i []) (-1) 1 = true) ∧ Hid (OwnL wr w.heap.size s acc) ∧ Hid (Cur wr p hb) ∧ Hid (w.grownBy wr (some p))) (fun _ i _ => n - (intOf i).toNat)
  case atStart => exact ⟨0, [], by omega, rfl, Nat.le_refl _, Lib.hid rfl, Lib.hid (fun i hi => by simp at hi), HO0, HC0, HG0⟩
  case round =>
    clear HO0 HC0 HG0
    obtain ⟨k, acc, hk, rfl, hal, HL, HA, HO, HC, HG⟩ := hrel
    by_cases hlt : k < n
    · have hdec : decide ((k : Int) < (n : Int)) = true := by simp; omega
      have cM := below1 wr (.cells (madeCells #[.int .i64 0] n) 3)
      have HC1 := Lib.hid (HC.out.below cM HC.out.lt)
      have HG1 := Lib.hid (grown_alloc HG.out (.cells (madeCells #[.int .i64 0] n) 3))
      have b1 := BK.of_rowIs (World.rowIs_made wr (.int .i64 0) n 3)
      have HBK := Lib.hid b1
      have HOB := Lib.hid HO.out.bnd
      obtain ⟨V, q, hpt⟩ := HO.out.part cM
      have HPT := Lib.hid hpt
      have hsz := HG.out.size
      have hzM : (wr.alloc (.cells (madeCells #[.int .i64 0] n) 3)).heap.size = wr.heap.size + 1 := by simp
      have HZM := Lib.hid hzM
      clear b1 hpt HO HC HG cM hzM
      have BB := l1Once_any p hb 4 _ HC1.out (by omega) (by omega)
      unfold curP at BB
      go_wp2_with fail
      refine BB.mono ?_
      clear BB
      rintro e w2 ⟨bb, rfl, hc, hg⟩
      have HC2 := Lib.hid hc
      have HG2 := Lib.hid (grown_trans HG1.out hg)
      have HPT2 := Lib.hid (HPT.out.cur hg hp)
      have HBK2 := Lib.hid (HBK.out.of_block (hg.block wr.heap.size HBK.out.lt (by intro e; injection e with e; omega)))
      have hz2 : wr.heap.size < w2.heap.size := HBK2.out.lt
      obtain ⟨nb, hnb1, hnb2⟩ : ∃ nb : Int, bitI bb = nb ∧ 0 ≤ nb ∧ nb ≤ 1 := ⟨bitI bb, rfl, by unfold bitI; split <;> omega⟩
      have LB := fun W => l1Bit_any bb W
      rw [hnb1] at LB
      clear hnb1 hc hg HC1 HG1 HPT HBK
      have cc : w2.cell? ⟨wr.heap.size, k, none⟩ = some (.int .i64 0) := by
        have := HBK2.out.cell hlt
        rwa [Nat.zero_add] at this
      have fz := HBK2.out.frozen k
      have hst := HBK2.out.set hlt (.int .i64 (1 - 2 * nb))
      rw [Nat.zero_add] at hst
      have HIS := Lib.hid (show IS (w2.setCell ⟨wr.heap.size, k, none⟩ (.int .i64 (1 - 2 * nb))) wr.heap.size (wr.heap.size + 1) (.slice (some ⟨wr.heap.size, 0, none⟩) n n) (unitRow n k (1 - 2 * nb)) from by
        have := IS.of_BK (l := unitRow n k (1 - 2 * nb)) (w := w2.setCell ⟨wr.heap.size, k, none⟩ (.int .i64 (1 - 2 * nb))) (b := wr.heap.size) (off := 0) (cap := n) (lo := wr.heap.size) (hi := wr.heap.size + 1) (by
          rw [unitRow_len]
          exact hst.congr fun i hi => by
            rw [unitRow_at _ _ _ hi]; split <;> rfl) (by rw [unitRow_len]; exact Nat.le_refl _) (by unfold maxLen; omega) (Nat.le_refl _) (by omega)
        rwa [unitRow_len] at this)
      have cS : Below (wr.heap.size) w2 (w2.setCell ⟨wr.heap.size, k, none⟩ (.int .i64 (1 - 2 * nb))) := (Below.refl _ _).setCell (p := ⟨wr.heap.size, k, none⟩) (Nat.le_refl _) _
      have HC3 := Lib.hid (HC2.out.below cS (by omega))
      have HG3 := Lib.hid (grown_then HG2.out (cS.mono hsz))
      have HPT3 := Lib.hid (HPT2.out.curA (grown_set (World.grownBy.refl w2 (some wr.heap.size)) k (.int .i64 (1 - 2 * nb))) (Nat.le_refl _) HOB.out)
      have hz3 : wr.heap.size + 1 ≤ (w2.setCell ⟨wr.heap.size, k, none⟩ (.int .i64 (1 - 2 * nb))).heap.size := by simp; omega
      clear cS hst HC2 HG2 HPT2 HBK2 HOB
      have HA4 := Lib.hid (show (unitRow n k (1 - 2 * nb)).length = n ∧ allIn (unitRow n k (1 - 2 * nb)) (-1) 1 = true from ⟨unitRow_len _ _ _, unitRow_in _ _ (by omega)⟩)
      go_wp2_with (first | (go_at_call 57; (with_reducible refine (LB _).mono ?_); rintro e w' ⟨rfl, rfl⟩) | (at_builtin; refine wpList_append_own _ rfl _ _ 24 rfl w.heap.size 25 i0 (.slice none 0 0) 1 24 Tryz.underlying24 HI0.out HZ0.out HZ1.out HZ2.out rfl (by decide) _ _ _ rfl (HPT3.out.alloc _) ⟨w2.heap.size, 0, none⟩ 1 1 [.slice (some ⟨wr.heap.size, 0, none⟩) n n] rfl rfl ?c1 ?c2 ?c3 ?c4 ?c5 ?_) | fail)
      case c1 => have := cell_one_new (w2.setCell ⟨wr.heap.size, k, none⟩ (.int .i64 (1 - 2 * nb))) (.slice (some ⟨wr.heap.size, 0, none⟩) n n) 25; rwa [World.size_setCell] at this
      case c2 => first | rfl | (intro u hu; simp at hu; subst hu; rfl)
      case c3 => unfold maxLen; omega
      case c4 => omega
      case c5 => first | omega | (simp; omega)
      intro v2 w6 hown2 hgrow _
      have HO6 := Lib.hid (HPT3.out.push HIS.out (Nat.le_refl _) (by omega) hz3 hgrow hown2)
      have hB6 : Below w.heap.size _ w6 := OwnLp.below (Below.refl w.heap.size _) (by simp; omega) _ hgrow HPT3.out (Nat.le_refl _)
      have HC6 := Lib.hid (HC3.out.below hB6 hp)
      have HG6 := Lib.hid (grown_then HG3.out hB6)
      have HL6 := Lib.hid (show (acc ++ [unitRow n k (1 - 2 * nb)]).length = k + 1 by simp [HL.out])
      have HA6 := Lib.hid (rows_snoc (P := fun r => r.length = n ∧ allIn r (-1) 1 = true) HA.out HA4.out)
      clear hown2 hgrow hB6
      go_wp2
      go_roundw
      case rel => exact ⟨k + 1, _, by omega, by go_num, by simp; omega, HL6, HA6, HO6, HC6, HG6⟩
      case measure => simp [intOf]; omega
    · obtain rfl : k = n := by omega
      obtain ⟨b, off, cap, rfl, hlo, hbh, hnc, hcm, hmo⟩ := MO.of HO.out.is (by rw [HL.out]; omega)
      rw [HL.out] at hmo hnc ⊢
      have HM := Lib.hid hmo
      have HS := Lib.hid (show SqL k 1 acc from ⟨HL.out, fun i hi => HA.out i (by rw [HL.out]; exact hi)⟩)
      have hsz := HG.out.size
      have BB := l1Below_any p hb 4 wr HC.out (by omega) (by omega)
      unfold curP at BB
      clear hmo HO HA HL hmk
      go_wp2_with fail
      refine BB.mono ?_
      clear BB
      rintro e w2 ⟨x, rfl, hx0, hx1, hc, hg⟩
      obtain ⟨q, rfl⟩ : ∃ q : Nat, x = q := ⟨x.toNat, by omega⟩
      have HC2 := Lib.hid hc
      have HG2 := Lib.hid (grown_trans HG.out hg)
      have HM2 := Lib.hid (HM.out.cur hg hp hlo)
      clear hc hg HC HG HM hsz
      have FIN : ∀ (W : World) (M : List (List Int)) (r : Nat), r ≤ 3 → SqL k (bU r) M → MO W w.heap.size b off k M → RQ W w.heap.size (.slice (some ⟨b, off, none⟩) k cap) M ∧ SqL k 27 M := fun W M r hr hs hm => ⟨RQ.ofMO hm hs.1 hnc hcm hlo, hs.mono (bU_bd hr).2⟩
      go_wp2_with fail
      go_loopw [9] (fun i ws => ∃ (r : Nat) (M : List (List Int)), r ≤ q ∧ i = .int .i64 r ∧ Hid (SqL k (bU r) M) ∧ Hid (MO ws w.heap.size b off k M) ∧ Hid (Cur ws p hb) ∧ Hid (w.grownBy ws (some p))) (fun i _ => q - (intOf i).toNat)
      case atStart => exact ⟨0, acc, by omega, rfl, HS, HM2, HC2, HG2⟩
      case round =>
        clear HS HM2 HC2 HG2
        obtain ⟨r, M, hr, rfl, HS, HM, HC, HG⟩ := hrel
        obtain ⟨nat3, -⟩ : r ≤ 3 ∧ True := ⟨by omega, trivial⟩
        by_cases hrq : r < q
        · have hd0 : decide ((r : Int) < (q : Int)) = true := by simp; omega
          by_cases hk1 : 1 < k
          · have hd1 : decide ((k : Int) > 1) = true := by simp; omega
            have hd1' : decide ((1 : Int) < k) = true := by simp; omega
            have BB := l1Below_any p hb k wr HC.out (by omega) (by omega)
            unfold curP at BB
            go_wp2_with fail
            refine BB.mono ?_
            clear BB
            rintro e w3 ⟨x, rfl, hy0, hy1, hc, hg⟩
            obtain ⟨a, rfl⟩ : ∃ a : Nat, x = a := ⟨x.toNat, by omega⟩
            have HC3 := Lib.hid hc
            have HG3 := Lib.hid (grown_trans HG.out hg)
            have HM3 := Lib.hid (HM.out.cur hg hp hlo)
            have BB := l1Below_any p hb ((k : Int) - 1) w3 hc (by omega) (by omega)
            unfold curP at BB
            clear hc hg HC HG HM
            go_wp2_with fail
            refine BB.mono ?_
            clear BB
            rintro e w4 ⟨y, rfl, hz0, hz1, hc, hg⟩
            obtain ⟨d, rfl⟩ : ∃ d : Nat, y = d := ⟨y.toNat, by omega⟩
            have HC4 := Lib.hid hc
            have HG4 := Lib.hid (grown_trans HG3.out hg)
            have HM4 := Lib.hid (HM3.out.cur hg hp hlo)
            clear hc hg HC3 HG3 HM3
            obtain ⟨c, hc1, hc2⟩ : ∃ c : Nat, c < k ∧ ((a : Int) + 1 + d).tmod (k : Int) = (c : Int) := ⟨((a : Int) + 1 + d).tmod (k : Int) |>.toNat, by
              rw [Int.tmod_eq_emod_of_nonneg (by omega)]
              have := Int.emod_nonneg ((a : Int) + 1 + d) (b := (k : Int)) (by omega)
              have := Int.emod_lt_of_pos ((a : Int) + 1 + d) (b := (k : Int)) (by omega)
              omega, by
              rw [Int.tmod_eq_emod_of_nonneg (by omega)]
              have := Int.emod_nonneg ((a : Int) + 1 + d) (b := (k : Int)) (by omega)
              omega⟩
            have hk0 : (k : Int) ≠ 0 := by omega
            obtain ⟨V, ro⟩ := HM4.out
            have hbh4 : b < w4.heap.size := ro.outer.lt
            obtain ⟨nak, hac⟩ : a < k ∧ True := ⟨by omega, trivial⟩
            have x0 : w4.drew.cell? ⟨b, off + a, none⟩ = some (V a) ∧ w4.drew.cell? ⟨b, off + c, none⟩ = some (V c) := ⟨ro.outer.cell nak, ro.outer.cell hc1⟩
            have HRA := Lib.hid (ro.row a nak)
            have HRC := Lib.hid (ro.row c hc1)
            have hAI := fun (t : Int) (ht : -2 ≤ t ∧ t ≤ 2) => add_in (a := M.getD a []) (b := M.getD c []) (n := k) (t := t) (B := bU r) (HS.out.2 a nak).1 (HS.out.2 c hc1).1 (HS.out.2 a nak).2 (HS.out.2 c hc1).2 ht (bU_bd nat3)
            have BB := l1Below_any p hb 5 w4.drew (show Cur w4.drew p hb from HC4.out) (by omega) (by omega)
            unfold curP at BB
            clear ro hac
            go_upto_region 14 with fail
            refine wp_region_last (S := fun (w' : World) => w'.cell? ⟨b, off + a, none⟩ = some (V a) ∧ w'.cell? ⟨b, off + c, none⟩ = some (V c)) 16 _ (by kernel_rfl) rfl rfl (by kernel_rfl) ?_
            simp only [List.take_succ_cons, List.take_zero]
            have hHeld : (fun (w' : World) => w'.cell? ⟨b, off + a, none⟩ = some (V a) ∧ w'.cell? ⟨b, off + c, none⟩ = some (V c)) _ := x0
            refine wpAnyH_take (i := 0) (oi := _) (v := ?_) rfl (by kernel_rfl) (by kernel_rfl) (by kernel_rfl) (fun _ _ _ h => h) (Or.inl ⟨by rfl, (by (intro w hSw); (try dsimp only at hSw); go_simp; (try with_reducible rfl))⟩) (by assumption) ?_
            try simp only [Act.put, List.setIfInBounds_toArray, List.set_cons_zero, List.set_cons_succ]
            refine wpAnyH_take (i := 1) (oi := _) (v := ?_) rfl (by kernel_rfl) (by kernel_rfl) (by kernel_rfl) (fun _ _ _ h => h) (Or.inl ⟨by rfl, (by (intro w hSw); (try dsimp only at hSw); go_simp; (try with_reducible rfl))⟩) (by assumption) ?_
            try simp only [Act.put, List.setIfInBounds_toArray, List.set_cons_zero, List.set_cons_succ]
            refine wpAnyH_take (i := 2) (oi := _) (v := ?_) rfl (by kernel_rfl) (by kernel_rfl) (by kernel_rfl) (fun _ _ _ h => h) (Or.inl ⟨by rfl, (by (intro w hSw); (try dsimp only at hSw); go_simp; (try with_reducible rfl))⟩) (by assumption) ?_
            try simp only [Act.put, List.setIfInBounds_toArray, List.set_cons_zero, List.set_cons_succ]
            refine wpAnyH_take (i := 3) (oi := _) (v := ?_) rfl (by kernel_rfl) (by kernel_rfl) (by kernel_rfl) (fun _ _ _ h => h) (Or.inl ⟨by rfl, (by (intro w hSw); (try dsimp only at hSw); go_simp; (try with_reducible rfl))⟩) (by assumption) ?_
            try simp only [Act.put, List.setIfInBounds_toArray, List.set_cons_zero, List.set_cons_succ]
            refine wpAnyH_take (i := 4) (oi := _) (v := ?_) rfl (by kernel_rfl) (by kernel_rfl) (by kernel_rfl) (fun _ _ _ h => h) (Or.inl ⟨by rfl, (by (intro w hSw); (try dsimp only at hSw); go_simp; (try with_reducible rfl))⟩) (by assumption) ?_
            try simp only [Act.put, List.setIfInBounds_toArray, List.set_cons_zero, List.set_cons_succ]
            refine wpAnyH_take (i := 5) (oi := _) (v := ?_) rfl (by kernel_rfl) (by kernel_rfl) (by kernel_rfl) (fun _ _ _ h => h) (Or.inl ⟨by rfl, (by (intro w hSw); (try dsimp only at hSw); go_simp; (try with_reducible rfl))⟩) (by assumption) ?_
            try simp only [Act.put, List.setIfInBounds_toArray, List.set_cons_zero, List.set_cons_succ]
            refine wpAnyH_take (i := 6) (oi := _) (v := ?_) rfl (by kernel_rfl) (by kernel_rfl) (by kernel_rfl) (fun _ _ _ h => h) (Or.inl ⟨by rfl, (by (intro w hSw); (try dsimp only at hSw); go_simp; (try with_reducible rfl))⟩) (by assumption) ?_
            try simp only [Act.put, List.setIfInBounds_toArray, List.set_cons_zero, List.set_cons_succ]
            refine wpAnyH_take (i := 7) (oi := _) (v := ?_) rfl (by kernel_rfl) (by kernel_rfl) (by kernel_rfl) (fun _ _ _ h => h) (Or.inl ⟨by rfl, (by (intro w hSw); (try dsimp only at hSw); go_simp; (try with_reducible rfl))⟩) (by assumption) ?_
            try simp only [Act.put, List.setIfInBounds_toArray, List.set_cons_zero, List.set_cons_succ]
            refine wpAnyH_take (i := 8) (oi := _) (v := ?_) rfl (by kernel_rfl) (by kernel_rfl) (by kernel_rfl) (fun _ _ _ h => h) (Or.inl ⟨by rfl, (by (intro w hSw); (try dsimp only at hSw); go_simp; (try with_reducible rfl))⟩) (by assumption) ?_
            try simp only [Act.put, List.setIfInBounds_toArray, List.set_cons_zero, List.set_cons_succ]
            refine wpAnyH_take (i := 9) (oi := _) (v := ?_) rfl (by kernel_rfl) (by kernel_rfl) (by kernel_rfl) (fun _ _ _ h => h) (Or.inl ⟨by rfl, (by (intro w hSw); (try dsimp only at hSw); go_simp; (try with_reducible rfl))⟩) (by assumption) ?_
            try simp only [Act.put, List.setIfInBounds_toArray, List.set_cons_zero, List.set_cons_succ]
            refine wpAnyH_take (i := 10) (oi := _) (v := ?_) rfl (by kernel_rfl) (by kernel_rfl) (by kernel_rfl) (fun _ _ _ h => h) (Or.inl ⟨by rfl, (by (intro w hSw); (try dsimp only at hSw); go_simp; (try with_reducible rfl))⟩) (by assumption) ?_
            try simp only [Act.put, List.setIfInBounds_toArray, List.set_cons_zero, List.set_cons_succ]
            refine wpAnyH_ready (rs := [11]) (by kernel_rfl) (by simp) ?_
            refine AllReadyH.cons (o := _) rfl (fun K hK => ?_) AllReadyH.nil
            go_simp
            refine BB.mono ?_
            clear BB
            rintro e w5 ⟨z, rfl, hz5, hz6, hc5, hg5⟩
            have hwz : IntKind.i64.wrap (z - 2) = z - 2 := wr64 _ (by omega)
            obtain ⟨q1, q2, q3, q4⟩ := hAI (z - 2) (by omega)
            have G5 := grown_trans (grown_draws (World.grownBy.refl w4 (some p)) 1) hg5
            have I5 := HRC.out.cur G5 (.inl hp)
            have J5 := HRA.out.cur G5 (.inl hp)
            have hs45 := G5.size
            have SC := l2Scale_any _ _ (z - 2) w5.heap.size w5 (I5.read.upto hs45) (Nat.le_refl _) (by rw [(HS.out.2 c hc1).1]; omega) q1
            refine hK.out _ _ (by exact ⟨(World.cell?_of_block (a := ⟨b, off + a, none⟩) (hg5.block b (hbh4) (by intro e; injection e with e; omega))).trans x0.1, (World.cell?_of_block (a := ⟨b, off + c, none⟩) (hg5.block b (hbh4) (by intro e; injection e with e; omega))).trans x0.2⟩) (fun hHeld => ?_)
            clear hK K
            try simp only [Act.put, List.setIfInBounds_toArray, List.set_cons_zero, List.set_cons_succ]
            refine wpAnyH_take (i := 12) (oi := _) (v := ?_) rfl (by kernel_rfl) (by kernel_rfl) (by kernel_rfl) (fun _ _ _ h => h) (Or.inl ⟨by rfl, (by (intro w hSw); (try dsimp only at hSw); go_simp; (try with_reducible rfl))⟩) (by assumption) ?_
            try simp only [Act.put, List.setIfInBounds_toArray, List.set_cons_zero, List.set_cons_succ]
            refine wpAnyH_ready (rs := [13]) (by kernel_rfl) (by simp) ?_
            refine AllReadyH.cons (o := _) rfl (fun K hK => ?_) AllReadyH.nil
            go_simp
            refine SC.mono ?_
            clear SC
            rintro e w6 ⟨v6, rfl, k6, c6⟩
            have hs56 := c6.size
            have AD := l2Add_any _ _ _ v6 w6.heap.size w6 ((J5.keep c6 hs45).read.upto (by omega)) k6.read (Nat.le_refl _) (by rw [(HS.out.2 a nak).1]; omega) (by rw [List.length_map, (HS.out.2 a nak).1, (HS.out.2 c hc1).1]; exact Nat.le_refl _) q2
            refine hK.out _ _ (by exact ⟨(c6.cell (p := ⟨b, off + a, none⟩) (by show b < _; omega)).trans hHeld.1, (c6.cell (p := ⟨b, off + c, none⟩) (by show b < _; omega)).trans hHeld.2⟩) (fun hHeld => ?_)
            clear hK K
            try simp only [Act.put, List.setIfInBounds_toArray, List.set_cons_zero, List.set_cons_succ]
            refine wpAnyH_ready (rs := [14]) (by kernel_rfl) (by simp) ?_
            refine AllReadyH.cons (o := _) rfl (fun K hK => ?_) AllReadyH.nil
            go_simp
            refine AD.mono ?_
            clear AD
            rintro e w7 ⟨v7, rfl, k7, c7⟩
            obtain ⟨a7, q7, rfl, -⟩ := id k7
            rw [q3] at k7 ⊢
            refine hK.out _ _ (by exact ⟨(c7.cell (p := ⟨b, off + a, none⟩) (by show b < _; omega)).trans hHeld.1, (c7.cell (p := ⟨b, off + c, none⟩) (by show b < _; omega)).trans hHeld.2⟩) (fun hHeld => ?_)
            clear hK K
            try simp only [Act.put, List.setIfInBounds_toArray, List.set_cons_zero, List.set_cons_succ]
            refine wpAnyH_take (i := 15) (oi := _) (v := ?_) rfl (by kernel_rfl) (by kernel_rfl) (by kernel_rfl) (fun _ _ _ h => h) (Or.inl ⟨by rfl, (by (intro w hSw); (try dsimp only at hSw); go_simp; (try with_reducible rfl))⟩) (by assumption) ?_
            try simp only [Act.put, List.setIfInBounds_toArray, List.set_cons_zero, List.set_cons_succ]
            refine wpAnyH_done (by kernel_rfl) ?_ _
            obtain ⟨V7, ro7⟩ := ((HM4.out.cur G5 hp hlo).keep c6).keep c7
            have x0' := ro7.outer.cell (i := a) nak
            have fz := ro7.outer.frozen (off + a)
            have hrow := ro7.set nak (k7.mono (show w.heap.size ≤ w6.heap.size by omega) (Nat.le_refl _))
            have B8 := Lib.hid ((Below.refl w.heap.size w7).setCell (p := ⟨b, off + a, none⟩) hlo (.slice a7 k q7))
            have HM8 := Lib.hid (show MO (w7.setCell ⟨b, off + a, none⟩ (.slice a7 k q7)) w.heap.size b off k (M.set a (List.zipWith (· + ·) (M.getD a []) ((M.getD c []).map (· * (z - 2))))) from ⟨_, hrow.congr fun i hi => by rw [getD_setR (by rw [HS.out.1]; exact nak)]⟩)
            have HS8 := Lib.hid (show SqL k (bU (r + 1)) (M.set a (List.zipWith (· + ·) (M.getD a []) ((M.getD c []).map (· * (z - 2))))) from HS.out.set nak (by have := bU_bd nat3; show bU r ≤ 3 * bU r; omega) ⟨q3, q4⟩)
            have B57 : Below w5.heap.size w5 w7 := c6.trans (c7.mono hs56)
            have hs4 := HG4.out.size
            have HC7 := Lib.hid ((hc5.below B57 (by omega)).below B8.out hp)
            have HG7 := Lib.hid (grown_then (grown_then (grown_trans HG4.out G5) (B57.mono (by omega))) B8.out)
            clear hrow ro7 HRA HRC hAI B57 k6 k7 c6 c7 I5 J5 q1 q2 q3 q4 G5 hg5 hc5 HM4 HS HC4 HG4 FIN B8
            unfold lastQ
            go_simp
            go_wp2
            go_roundw
            case rel => exact ⟨r + 1, _, by omega, by go_num, HS8, HM8, HC7, HG7⟩
            case measure => simp [intOf]; omega
          · have hd1 : decide ((k : Int) > 1) = false := by simp; omega
            have hd1' : decide ((1 : Int) < k) = false := by simp; omega
            go_wp2
            go_ret
            exact ⟨_, M, rfl, FIN _ M r nat3 HS.out HM.out, HC.out, HG.out⟩
        · have hd0 : decide ((r : Int) < (q : Int)) = false := by simp; omega
          go_wp2
          go_ret
          exact ⟨_, M, rfl, FIN _ M r nat3 HS.out HM.out, HC.out, HG.out⟩
end Go.Proofs.YtehhoplenloocaaGreat

/- Matrices that are bent: l3Bent. -/
namespace Go.Proofs.YtehhoplenloocaaGreat
open Go Go.RowKit
set_option linter.unusedVariables false
set_option linter.unusedSimpArgs false

theorem OwnL.down {w : World} {B B' : Nat} {v : Value} {ls : List (List Int)} (h : OwnL w B v ls) (hb : B' ≤ B) : OwnL w B' v ls := by
  obtain ⟨V, p, h1, h2, h3⟩ := h
  exact ⟨V, p, h1.mono hb, by omega, h3⟩
theorem IS.lit1 (w : World) (B : Nat) (h : B ≤ w.heap.size) (x : Int) : IS (w.alloc (.cells #[.int .i64 x] 3)) B (w.heap.size + 1) (.slice (some ⟨w.heap.size, 0, Option.none⟩) 1 1) [x] := by
  refine IS.of_BK (l := [x]) ⟨_, heap_alloc_new w _, fun i hi => ?_⟩ (Nat.le_refl _) (by simp [maxLen]) h (by omega)
  match i, hi with
  | 0, _ => rfl
theorem RQ.nil (w : World) (lo cap : Nat) (a : Option Addr) (hc : cap ≤ maxLen) : RQ w lo (.slice a 0 cap) [] := ⟨a, cap, rfl, Nat.zero_le _, hc, fun h => absurd rfl h⟩
set_option maxRecDepth 100000 in
set_option maxHeartbeats 1000000 in
theorem l3Bent_any (p hb : Nat) (w : World) (h : Cur w p hb) :
    Calls Tryz.prog 55 #[curP p] w fun e w' => ∃ u ls, e = .returned u ∧ (RQ w' w.heap.size u ls ∧ ls.length ≤ 4) ∧ Cur w' p hb ∧ w.grownBy w' (some p) := by
  obtain ⟨i0, hi0, hz0, hz1, hz2⟩ := info_parts info_ints
  have HI0 := Lib.hid hi0; clear hi0
  have HZ0 := Lib.hid hz0; clear hz0
  have HZ1 := Lib.hid hz1; clear hz1
  have HZ2 := Lib.hid hz2; clear hz2
  have hp := h.lt
  have BB := l1Below_any p hb 3 w h (by omega) (by omega)
  clear h
  unfold curP at *
  go_enter Tryz.func55, Tryz.ntmps55
  go_wp2_with fail
  refine BB.mono ?_
  clear BB
  rintro e w0 ⟨x, rfl, hx0, hx1, hc, hg⟩
  obtain ⟨n, hn, hn1, hn3⟩ : ∃ n : Nat, 1 + x = n ∧ 1 ≤ n ∧ n ≤ 3 := ⟨(1 + x).toNat, by omega, by omega, by omega⟩
  have HC0 := Lib.hid hc
  have HG0 := Lib.hid hg
  have BB := l3Draw_any p hb n 5 w0 hc (by omega) (by omega)
  unfold curP at BB
  clear hc hg
  go_wp2_with fail
  refine BB.mono ?_
  clear BB
  rintro e w1 ⟨u, ls, rfl, ho, hl, hc, hg⟩
  have HO := Lib.hid (ho.down HG0.out.size)
  have HC := Lib.hid hc
  have HG := Lib.hid (grown_trans HG0.out hg)
  have HL := Lib.hid hl.1
  have HR := Lib.hid hl.2
  have BB := l1Below_any p hb 12 w1 hc (by omega) (by omega)
  unfold curP at BB
  clear ho hc hg hl HC0 HG0 hx0 hx1 hn
  go_wp2_with fail
  refine BB.mono ?_
  clear BB
  rintro e w2 ⟨x, rfl, hx0, hx1, hc, hg⟩
  have HO2 := Lib.hid (HO.out.cur hg hp)
  have HC2 := Lib.hid hc
  have HG2 := Lib.hid (grown_trans HG.out hg)
  clear hc hg HC HG HO
  have hsz := HG2.out.size
  obtain ⟨b, off, cap, V, rfl, hlo, hbh, hnc, hcm, hrw⟩ := RowsW.of HO2.out.is (by rw [HL.out]; omega)
  rw [HL.out] at hrw hnc ⊢
  have HRW := Lib.hid hrw
  by_cases e0 : x = 0
  · subst e0
    have t0 : ((0 : Int) == 0) = true := rfl
    have hn0 : 0 < n := hn1
    have hl0 : (ls.getD 0 []).length = n := (HR.out 0 (by omega)).1
    obtain ⟨br, or', cr, hV0, hblo, hbhi, hbne, hbk⟩ := HRW.out.at (k := 0) (by omega) (by omega)
    rw [hl0] at hV0
    have x0 : w2.drew.cell? ⟨b, off, none⟩ = some (.slice (some ⟨br, or', none⟩) n cr) := by
      have := HRW.out.outer.cell (i := 0) (by omega)
      rw [hV0] at this; exact this
    have HV0 := Lib.hid hV0
    have PK := fun (k : Nat) => pick_lit p hb [100, 101, -100, -101] w2.drew (show Cur w2.drew p hb from HC2.out) (by simp) (by simp)
    unfold curP at PK
    clear hV0 hbk hrw
    go_wp2_with fail
    refine wp_region_last (S := fun (w' : World) => w'.cell? ⟨b, off, none⟩ = some (.slice (some ⟨br, or', none⟩) n cr)) 7 _ (by kernel_rfl) rfl rfl (by kernel_rfl) ?_
    simp only [List.take_succ_cons, List.take_zero]
    have hHeld : (fun (w' : World) => w'.cell? ⟨b, off, none⟩ = some (.slice (some ⟨br, or', none⟩) n cr)) _ := x0
    refine wpAnyH_take (i := 0) (oi := _) (v := ?_) rfl (by kernel_rfl) (by kernel_rfl) (by kernel_rfl) (fun _ _ _ h => h) (Or.inl ⟨by rfl, (by (intro w hSw); (try dsimp only at hSw); go_simp; (try with_reducible rfl))⟩) (by assumption) ?_
    try simp only [Act.put, List.setIfInBounds_toArray, List.set_cons_zero, List.set_cons_succ]
    refine wpAnyH_take (i := 1) (oi := _) (v := ?_) rfl (by kernel_rfl) (by kernel_rfl) (by kernel_rfl) (fun _ _ _ h => h) (Or.inl ⟨by rfl, (by (intro w hSw); (try dsimp only at hSw); go_simp; (try with_reducible rfl))⟩) (by assumption) ?_
    try simp only [Act.put, List.setIfInBounds_toArray, List.set_cons_zero, List.set_cons_succ]
    refine wpAnyH_take (i := 2) (oi := _) (v := ?_) rfl (by kernel_rfl) (by kernel_rfl) (by kernel_rfl) (fun _ _ _ h => h) (Or.inl ⟨by rfl, (by (intro w hSw); (try dsimp only at hSw); go_simp; (try with_reducible rfl))⟩) (by assumption) ?_
    try simp only [Act.put, List.setIfInBounds_toArray, List.set_cons_zero, List.set_cons_succ]
    refine wpAnyH_take (i := 3) (oi := _) (v := ?_) rfl (by kernel_rfl) (by kernel_rfl) (by kernel_rfl) (fun _ _ _ h => h) (Or.inl ⟨by rfl, (by (intro w hSw); (try dsimp only at hSw); go_simp; (try with_reducible rfl))⟩) (by assumption) ?_
    try simp only [Act.put, List.setIfInBounds_toArray, List.set_cons_zero, List.set_cons_succ]
    refine wpAnyH_ready (rs := [4]) (by kernel_rfl) (by simp) ?_
    refine AllReadyH.cons (o := _) rfl (fun K hK => ?_) AllReadyH.nil
    go_simp
    skip
    refine hK.out _ _ (by exact ((below1 w2 _).cell (p := ⟨b, off, none⟩) hbh).trans x0) (fun hHeld => ?_)
    clear hK K
    try simp only [Act.put, List.setIfInBounds_toArray, List.set_cons_zero, List.set_cons_succ]
    refine wpAnyH_ready (rs := [5]) (by kernel_rfl) (by simp) ?_
    refine AllReadyH.cons (o := _) rfl (fun K hK => ?_) AllReadyH.nil
    go_simp
    refine (PK 0).mono ?_
    rintro e w4 ⟨y, rfl, hy, hc4, hg4⟩
    refine hK.out _ _ (by exact (World.cell?_of_block (a := ⟨b, off, none⟩) (hg4.block b hbh (by intro e; injection e with e; omega))).trans x0) (fun hHeld => ?_)
    clear hK K
    try simp only [Act.put, List.setIfInBounds_toArray, List.set_cons_zero, List.set_cons_succ]
    refine wpAnyH_take (i := 6) (oi := _) (v := ?_) rfl (by kernel_rfl) (by kernel_rfl) (by kernel_rfl) (fun _ _ _ h => h) (Or.inl ⟨by rfl, (by (intro w hSw); (try dsimp only at hSw); go_simp; (try with_reducible rfl))⟩) (by assumption) ?_
    try simp only [Act.put, List.setIfInBounds_toArray, List.set_cons_zero, List.set_cons_succ]
    refine wpAnyH_done (by kernel_rfl) ?_ _
    have hO4 := HO2.out.cur (grown_trans (grown_draws (World.grownBy.refl w2 (some p)) 1) hg4) hp
    obtain ⟨b', off', cap', V', e', hlo', hbh', -, -, hrw'⟩ := RowsW.of hO4.is (by rw [HL.out]; omega)
    injection e' with e1 e2 e3
    injection e1 with e1
    injection e1 with e1 e4 e5
    subst e1 e4 e3
    have hv0 : V' 0 = .slice (some ⟨br, or', none⟩) n cr := by
      have := hrw'.outer.cell (i := 0) (by rw [HL.out]; omega)
      rw [Nat.add_zero, hHeld] at this
      injection this with this; exact this.symm
    obtain ⟨R, O, c0, f0⟩ := hrw'.set (k := 0) (c := 0) (by rw [HL.out]; omega) hv0 (by rw [hl0]; omega) y
    rw [Nat.add_zero] at R c0 f0
    have B5 := Lib.hid ((Below.refl w.heap.size w4).setCell (p := ⟨br, or', none⟩) hblo (.int .i64 y))
    have HR := Lib.hid R
    have HC4 := Lib.hid hc4
    have HG4 := Lib.hid (grown_trans HG2.out (grown_trans (grown_draws (World.grownBy.refl w2 (some p)) 1) hg4))
    clear hO4 hrw' R O x0 hHeld PK HRW HO2 hc4 hg4
    rw [HL.out] at HR
    unfold lastQ
    go_simp
    go_wp2
    go_ret
    exact ⟨_, rfl, ⟨_, RQ.of ((HR.out.iss hnc hcm hlo hbh').mono (Nat.le_refl _) (by rw [World.size_setCell]; exact Nat.le_refl _)), by rw [List.length_map, List.length_range]; omega⟩, HC4.out.below B5.out hp, grown_then HG4.out B5.out⟩
  · have t0 : (x == 0) = false := by rw [beq_eq_false_iff_ne]; exact e0
    by_cases e1 : x = 1
    · subst e1
      have t1 : ((1 : Int) == 1) = true := rfl
      clear HRW hrw
      have hLn := HL.out
      subst hLn
      have cM := below1 w2 (.cells #[.int .i64 1] 3)
      obtain ⟨W2, q, hpt⟩ := HO2.out.part cM
      have HPT := Lib.hid hpt
      have HI := Lib.hid (show IS (w2.alloc (.cells #[.int .i64 1] 3)) w2.heap.size (w2.heap.size + 1) (.slice (some ⟨w2.heap.size, 0, none⟩) 1 1) [1] from IS.lit1 w2 _ (Nat.le_refl _) 1)
      have HCm := Lib.hid (HC2.out.below cM (by omega))
      have HGm := Lib.hid (grown_then HG2.out (cM.mono hsz))
      clear cM hpt
      go_wp2_with (at_builtin; refine wpList_append_own _ rfl _ _ 24 rfl w.heap.size 25 i0 (.slice none 0 0) 1 24 Tryz.underlying24 HI0.out HZ0.out HZ1.out HZ2.out rfl (by decide) _ _ _ rfl (HPT.out.alloc _) ⟨w2.heap.size + 1, 0, none⟩ 1 1 [.slice (some ⟨w2.heap.size, 0, none⟩) 1 1] rfl rfl ?c1 ?c2 ?c3 ?c4 ?c5 ?_)
      case c1 => have := cell_one_new (w2.alloc (.cells #[.int .i64 1] 3)) (.slice (some ⟨w2.heap.size, 0, none⟩) 1 1) 25; rwa [World.size_alloc] at this
      case c2 => first | rfl | (intro u hu; simp at hu; subst hu; rfl)
      case c3 => unfold maxLen; omega
      case c4 => omega
      case c5 => first | omega | (simp; omega)
      intro v2 w6 hown2 hgrow _
      have HO6 := Lib.hid (HPT.out.push HI.out (Nat.le_refl _) (by omega) (by simp) hgrow hown2)
      have hB6 : Below w.heap.size _ w6 := OwnLp.below (Below.refl w.heap.size _) (by simp; omega) _ hgrow HPT.out (Nat.le_refl _)
      have HC6 := Lib.hid (HCm.out.below hB6 hp)
      have HG6 := Lib.hid (grown_then HGm.out hB6)
      clear hown2 hgrow hB6
      go_wp2
      go_ret
      exact ⟨_, _, rfl, ⟨RQ.of HO6.out.is, by simp; omega⟩, HC6.out, HG6.out⟩
    · have t1 : (x == 1) = false := by rw [beq_eq_false_iff_ne]; exact e1
      by_cases e2 : x = 2
      · subst e2
        have t2 : ((2 : Int) == 2) = true := rfl
        have cM := below1 w2 (.cells #[] 25)
        go_wp2
        go_ret
        exact ⟨_, [], rfl, ⟨RQ.nil _ _ 0 _ (Nat.zero_le _), by simp⟩, HC2.out.below cM (by omega), grown_then HG2.out (cM.mono hsz)⟩
      · have t2 : (x == 2) = false := by rw [beq_eq_false_iff_ne]; exact e2
        by_cases e3 : x = 3 ∨ x = 4 ∨ x = 5
        · have BB := l1Below_any p hb 3 w2 HC2.out (by omega) (by omega)
          unfold curP at BB
          have hR3 : ∀ W : World, True := fun _ => trivial
          clear hrw HRW
          rcases e3 with rfl | rfl | rfl
          all_goals
            go_wp2_with fail
            refine BB.mono ?_
            clear BB
            rintro e w3 ⟨x, rfl, hy0, hy1, hc, hg⟩
            obtain ⟨m, hm, hm1, hm3⟩ : ∃ m : Nat, 1 + x = m ∧ 1 ≤ m ∧ m ≤ 3 := ⟨(1 + x).toNat, by omega, by omega, by omega⟩
            have HC3 := Lib.hid hc
            have HG3 := Lib.hid (grown_trans HG2.out hg)
            have BB := l3Unit_any p hb m w3 hc hm1 hm3
            unfold curP at BB
            clear hc hg
            go_wp2_with fail
            refine BB.mono ?_
            clear BB
            rintro e w4 ⟨u, ls, rfl, hr, hc, hg⟩
            have hs3 := HG3.out.size
            go_wp2
            go_ret
            exact ⟨_, ls, rfl, ⟨hr.1.lower hs3, by rw [hr.2.1]; omega⟩, hc, grown_trans HG3.out hg⟩
        · have t3 : (x == 3) = false := by rw [beq_eq_false_iff_ne]; omega
          have t4 : (x == 4) = false := by rw [beq_eq_false_iff_ne]; omega
          have t5 : (x == 5) = false := by rw [beq_eq_false_iff_ne]; omega
          have HI := Lib.hid (RQ.of HO2.out.is)
          rw [HL.out] at HI
          go_wp2
          go_ret
          exact ⟨_, ls, rfl, ⟨HI.out, by rw [HL.out]; omega⟩, HC2.out, HG2.out⟩
end Go.Proofs.YtehhoplenloocaaGreat

/- The draws of the statement on lattices. -/
namespace Go.Proofs.YtehhoplenloocaaGreat
open Go.RowKit
set_option linter.unusedVariables false
set_option linter.unusedSimpArgs false

end Go.Proofs.YtehhoplenloocaaGreat
