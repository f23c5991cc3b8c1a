/- Moves that are drawn: the draws of the statement on moved polygons. -/
import Derived.Test.YtehhoplenloocaaGreatB13
import Derived.Test.YtehhoplenloocaaGreatB8
import Derived.Test.YtehhoplenloocaaGreatMvP
import Derived.Deep.RegionHeld3
import Derived.Deep.DeepCutAuto
namespace Go.Proofs.YtehhoplenloocaaGreat
open Go Go.RowKit
set_option linter.unusedVariables false
set_option linter.unusedSimpArgs false

/-- block n is a move's box -/
def MB (w : World) (n : Nat) (x y : Value) : Prop := w.heap[n]? = some (.cells #[x, y] 27 (0, 0))
theorem MB.lt {w : World} {n : Nat} {x y : Value} (h : MB w n x y) : n < w.heap.size := by
  rcases Nat.lt_or_ge n w.heap.size with h' | h'
  · exact h'
  · unfold MB at h; rw [Array.getElem?_eq_none h'] at h; cases h
theorem MB.c0 {w : World} {n : Nat} {x y : Value} (h : MB w n x y) : w.cell? ⟨n, 0, none⟩ = some x := by unfold MB at h; simp [World.cell?, h]
theorem MB.c1 {w : World} {n : Nat} {x y : Value} (h : MB w n x y) : w.cell? ⟨n, 1, none⟩ = some y := by unfold MB at h; simp [World.cell?, h]
theorem MB.fr {w : World} {n : Nat} {x y : Value} (h : MB w n x y) (i : Nat) : w.frozen? ⟨n, i, none⟩ = false := blk_frozen h i
theorem MB.cur {w w' : World} {n p : Nat} {x y : Value} (h : MB w n x y) (hg : w.grownBy w' (some p)) (hp : n ≠ p) : MB w' n x y :=
  (hg.block n h.lt (by intro e; injection e with e; exact hp e)).trans h
theorem MB.below {w w' : World} {n : Nat} {x y : Value} (h : MB w n x y) (hb : Below w.heap.size w w') : MB w' n x y := (hb.block n h.lt).trans h
theorem MB.new (w : World) (x y : Value) : MB (w.alloc (.cells #[x, y] 27)) w.heap.size x y := heap_alloc_new w _
theorem MB.set0 {w : World} {n : Nat} {x y : Value} (h : MB w n x y) (u : Value) : MB (w.setCell ⟨n, 0, none⟩ u) n u y := by
  unfold MB at *; simp [World.setCell, Array.getElem?_modify, h]
theorem MB.set1 {w : World} {n : Nat} {x y : Value} (h : MB w n x y) (u : Value) : MB (w.setCell ⟨n, 1, none⟩ u) n x u := by
  unfold MB at *; simp [World.setCell, Array.getElem?_modify, h]
theorem MB.other {w : World} {n m i : Nat} {x y : Value} (h : MB w n x y) (hm : m ≠ n) (u : Value) : MB (w.setCell ⟨m, i, none⟩ u) n x y := by
  unfold MB at *
  rw [Below.heap_setCell _ _ _ _ (fun e => hm e.symm)]; exact h
theorem below_set2m (w : World) (n : Nat) (x y : Value) : Below n w ((w.setCell ⟨n, 0, none⟩ x).setCell ⟨n, 1, none⟩ y) :=
  ((Below.refl n w).setCell (p := ⟨n, 0, none⟩) (Nat.le_refl _) x).setCell (p := ⟨n, 1, none⟩) (Nat.le_refl _) y
theorem Cur.setNm {w : World} {p hb n i : Nat} (h : Cur w p hb) (hp : p < n) (x : Value) : Cur (w.setCell ⟨n, i, none⟩ x) p hb :=
  h.below (B := n) ((Below.refl n w).setCell (Nat.le_refl _) x) hp
theorem IS.setNm {w : World} {lo hi n i : Nat} {v : Value} {l : List Int} (h : IS w lo hi v l) (hn : n < lo ∨ hi ≤ n) (x : Value) : IS (w.setCell ⟨n, i, Option.none⟩ x) lo hi v l :=
  h.of_blocks fun b h1 h2 _ => Below.heap_setCell _ _ _ _ (by intro e; have e : b = n := e; omega)
/-- rows that read, in blocks between two numbers -/
def RH (w : World) (lo hi : Nat) (v : Value) (ls : List (List Int)) : Prop :=
  ∃ a cap, v = .slice a ls.length cap ∧ ls.length ≤ cap ∧ cap ≤ maxLen ∧ (ls ≠ [] → ∃ b off, ∃ V : Nat → Value, a = some ⟨b, off, none⟩ ∧ lo ≤ b ∧ b < hi ∧ ∀ i, i < ls.length → w.cell? ⟨b, off + i, none⟩ = some (V i) ∧ IS w lo hi (V i) (ls.getD i []))
theorem RH.of {w : World} {lo : Nat} {v : Value} {ls : List (List Int)} (h : RQ w lo v ls) : RH w lo w.heap.size v ls := h
theorem RH.blocks {w w' : World} {lo hi : Nat} {v : Value} {ls : List (List Int)} (h : RH w lo hi v ls) (hb : ∀ b, lo ≤ b → b < hi → b < w.heap.size → w'.heap[b]? = w.heap[b]?) : RH w' lo hi v ls := by
  obtain ⟨a, cap, h1, h2, h3, h4⟩ := h
  refine ⟨a, cap, h1, h2, h3, fun hl => ?_⟩
  obtain ⟨b, off, V, e, g1, g2, hc⟩ := h4 hl
  refine ⟨b, off, V, e, g1, g2, fun i hi => ⟨?_, (hc i hi).2.of_blocks hb⟩⟩
  exact (World.cell?_of_block (a := ⟨b, off + i, none⟩) (hb b g1 g2 (World.block_lt_of_cell? w _ (hc i hi).1))).trans (hc i hi).1
theorem RH.cur {w w' : World} {lo hi p : Nat} {v : Value} {ls : List (List Int)} (h : RH w lo hi v ls) (hg : w.grownBy w' (some p)) (hp : p < lo) : RH w' lo hi v ls :=
  h.blocks fun b h1 _ h3 => hg.block b h3 (by intro e; injection e with e; omega)
theorem RH.keep {w w' : World} {lo hi B : Nat} {v : Value} {ls : List (List Int)} (h : RH w lo hi v ls) (hb : Below B w w') (hB : hi ≤ B) : RH w' lo hi v ls :=
  h.blocks fun b _ h2 _ => hb.block b (by omega)
theorem RH.setNm {w : World} {lo hi n i : Nat} {v : Value} {ls : List (List Int)} (h : RH w lo hi v ls) (hn : n < lo ∨ hi ≤ n) (x : Value) : RH (w.setCell ⟨n, i, none⟩ x) lo hi v ls :=
  h.blocks fun b h1 h2 _ => Below.heap_setCell _ _ _ _ (by intro e; have e : b = n := e; omega)
theorem RH.mono {w : World} {lo hi lo' hi' : Nat} {v : Value} {ls : List (List Int)} (h : RH w lo hi v ls) (h1 : lo' ≤ lo) (h2 : hi ≤ hi') : RH w lo' hi' v ls := by
  obtain ⟨a, cap, g1, g2, g3, g4⟩ := h
  refine ⟨a, cap, g1, g2, g3, fun hl => ?_⟩
  obtain ⟨b, off, V, e, k1, k2, hc⟩ := g4 hl
  exact ⟨b, off, V, e, by omega, by omega, fun i hi => ⟨(hc i hi).1, (hc i hi).2.mono h1 h2⟩⟩
theorem RH.form {w : World} {lo hi : Nat} {v : Value} {ls : List (List Int)} (h : RH w lo hi v ls) : ∃ a cap, v = .slice a ls.length cap := by
  obtain ⟨a, cap, e, -⟩ := h; exact ⟨a, cap, e⟩
theorem RH.read {w : World} {lo hi : Nat} {v : Value} {ls : List (List Int)} (h : RH w lo hi v ls) (hh : hi ≤ w.heap.size) : ISSr w w.heap.size v ls :=
  RQ.read (lo := lo) (h.mono (Nat.le_refl _) hh)

set_option maxRecDepth 100000 in
set_option maxHeartbeats 4000000 in
theorem l17Draw_any (p hb : Nat) (w : World) (h : Cur w p hb) :
    Calls Tryz.prog 26 #[curP p] w fun e w' => ∃ u1 u2 U V, e = .returned (.agg #[u1, u2]) ∧ RH w' w.heap.size w'.heap.size u1 U ∧ IS w' w.heap.size w'.heap.size u2 V ∧ Cur w' p hb ∧ w.grownBy w' (some p) := by
  have hp := h.lt
  have HC0 := Lib.hid (h.below (below1 w (.cells #[.slice none 0 0, .slice none 0 0] 27)) hp)
  have HG0 := Lib.hid (grown_alloc (World.grownBy.refl w (some p)) (.cells #[.slice none 0 0, .slice none 0 0] 27))
  have S0 := Lib.hid (MB.new w (.slice none 0 0) (.slice none 0 0))
  have hnp : w.heap.size ≠ p := by omega
  have BB := l3Unit_any p hb 2 _ HC0.out (by omega) (by omega)
  rw [show ((2 : Nat) : Int) = 2 from rfl] at BB
  clear h
  unfold curP at *
  go_enter Tryz.func26, Tryz.ntmps26
  go_wp2_with fail
  refine BB.mono ?_
  clear BB
  rintro e w1 ⟨u1, U, rfl, ⟨hr, -⟩, hc, hg⟩
  rw [World.size_alloc] at hr
  have S1 := Lib.hid (S0.out.cur hg hnp)
  have I1 := Lib.hid (RH.of hr)
  have HG1 := Lib.hid (grown_trans HG0.out hg)
  have LD := l2Draw_any p hb 2 5 w1 hc (by omega) (by omega)
  rw [show ((2 : Nat) : Int) = 2 from rfl, show ((5 : Nat) : Int) = 5 from rfl] at LD
  unfold curP at LD
  have hz1 := S1.out.lt
  clear hr hc hg S0 HG0 HC0
  go_wp2_with fail
  refine LD.mono ?_
  clear LD
  rintro e w2 ⟨u2, V, rfl, ho, -, -, hc, hg⟩
  have I2 := Lib.hid (I1.out.cur hg (by omega))
  have J2 := Lib.hid (show IS w2 w1.heap.size w2.heap.size u2 V from ho.is)
  have S2 := Lib.hid (S1.out.cur hg hnp)
  have HC2 := Lib.hid hc
  have HG2 := Lib.hid (grown_trans HG1.out hg)
  obtain ⟨a1, c1, rfl⟩ := I2.out.form
  obtain ⟨a2, c2, rfl, -⟩ := id J2.out
  have z12 := hg.size
  have hn3p : w2.heap.size ≠ p := by omega
  have cA := below1 w2 (.cells #[.slice a1 U.length c1, .slice a2 V.length c2] 27)
  have I3 := Lib.hid ((I2.out.keep cA z12).mono (Nat.le_refl _) z12)
  have J3 := Lib.hid ((J2.out.keep cA (Nat.le_refl _)).mono (show w.heap.size + 1 ≤ w1.heap.size by omega) (Nat.le_refl _))
  have X3 := Lib.hid (MB.new w2 (.slice a1 U.length c1) (.slice a2 V.length c2))
  have S3 := Lib.hid (S2.out.below cA)
  have HC3 := Lib.hid (HC2.out.below cA HC2.out.lt)
  have HG3 := Lib.hid (grown_then HG2.out (cA.mono (by omega)))
  clear ho hc hg I1 I2 J2 S1 S2 HC2 HG1 HG2 cA
  go_upto_region 2 with fail
  have hz : w2.heap.size < (w2.alloc (.cells #[.slice a1 U.length c1, .slice a2 V.length c2] 27)).heap.size := by simp
  have hn0 : w.heap.size < w2.heap.size := by omega
  generalize w2.heap.size = n3 at *
  generalize w2.alloc (.cells #[.slice a1 U.length c1, .slice a2 V.length c2] 27) = w3 at *
  have BB := l1Once_any p hb 12 w3 HC3.out (by omega) (by omega)
  unfold curP at BB
  go_wp2_with fail
  refine BB.mono ?_
  clear BB
  rintro e w4 ⟨bb, rfl, hc, hg⟩
  have I4 := Lib.hid (I3.out.cur hg (by omega))
  have J4 := Lib.hid (J3.out.cur hg (.inl (by omega)))
  have S4 := Lib.hid (S3.out.cur hg hnp)
  have X4 := Lib.hid (X3.out.cur hg hn3p)
  have HC4 := Lib.hid hc
  have HG4 := Lib.hid (grown_trans HG3.out hg)
  have hz4 := X4.out.lt
  clear hc hg I3 J3 S3 X3 HC3 HG3
  cases bb
  · have y0 := X4.out.c0
    have y1 := X4.out.c1
    have z0 := S4.out.c0
    have z1 := S4.out.c1
    have g0 := S4.out.fr 0
    have g1' := S4.out.fr 1
    have r0 := World.cell?_setCell_same w4 ⟨w.heap.size, 0, none⟩ (.slice a1 U.length c1) z0
    have SF := (S4.out.set0 (.slice a1 U.length c1)).set1 (.slice a2 V.length c2)
    have r1 := SF.c1
    have HF := Lib.hid ((HC4.out.setNm (i := 0) hp (.slice a1 U.length c1)).setNm (i := 1) hp (.slice a2 V.length c2))
    have HGF := Lib.hid (grown_then HG4.out (below_set2m w4 w.heap.size (.slice a1 U.length c1) (.slice a2 V.length c2)))
    have hh : ((w4.setCell ⟨w.heap.size, 0, none⟩ (.slice a1 U.length c1)).setCell ⟨w.heap.size, 1, none⟩ (.slice a2 V.length c2)).heap.size = w4.heap.size := by simp
    have HA := Lib.hid ((((I4.out).setNm (n := w.heap.size) (i := 0) (.inl (Nat.lt_succ_self _)) (.slice a1 U.length c1)).setNm (n := w.heap.size) (i := 1) (.inl (Nat.lt_succ_self _)) (.slice a2 V.length c2)).mono (Nat.le_succ _) (show n3 ≤ ((w4.setCell ⟨w.heap.size, 0, none⟩ (.slice a1 U.length c1)).setCell ⟨w.heap.size, 1, none⟩ (.slice a2 V.length c2)).heap.size by rw [hh]; omega))
    have HB := Lib.hid ((((J4.out).setNm (n := w.heap.size) (i := 0) (.inl (Nat.lt_succ_self _)) (.slice a1 U.length c1)).setNm (n := w.heap.size) (i := 1) (.inl (Nat.lt_succ_self _)) (.slice a2 V.length c2)).mono (Nat.le_succ _) (show n3 ≤ ((w4.setCell ⟨w.heap.size, 0, none⟩ (.slice a1 U.length c1)).setCell ⟨w.heap.size, 1, none⟩ (.slice a2 V.length c2)).heap.size by rw [hh]; omega))
    clear SF hh
    go_wp2
    refine bodyPost_ret (v := .agg #[.slice a1 U.length c1, .slice a2 V.length c2]) (by simp [results, Tryz.results26, go_sem, r0, r1]) rfl ?_
    exact ⟨_, _, U, V, rfl, HA.out, HB.out, HF.out, HGF.out⟩
  · have LB := l3Bent_any p hb w4 HC4.out
    unfold curP at LB
    go_wp2_with fail
    refine LB.mono ?_
    clear LB
    rintro e w5 ⟨u5, M, rfl, ⟨hr, -⟩, hc, hg⟩
    have K5 := Lib.hid (RH.of hr)
    obtain ⟨a5, c5, rfl⟩ := K5.out.form
    have J5 := Lib.hid (J4.out.cur hg (.inl (by omega)))
    have S5 := Lib.hid (S4.out.cur hg hnp)
    have X5 := Lib.hid (X4.out.cur hg hn3p)
    have HC5 := Lib.hid hc
    have HG5 := Lib.hid (grown_trans HG4.out hg)
    have hz5 := hg.size
    clear hr hc hg I4 J4 S4 X4 HC4 HG4
    have yy := X5.out.c0
    have ff := X5.out.fr 0
    have S6 := Lib.hid (S5.out.other (m := n3) (i := 0) (by omega) (.slice a5 M.length c5))
    have X6 := Lib.hid (X5.out.set0 (.slice a5 M.length c5))
    have HC6 := Lib.hid (HC5.out.setNm (n := n3) (i := 0) (by omega) (.slice a5 M.length c5))
    have HG6 := Lib.hid (grown_then HG5.out (show Below w.heap.size w5 (w5.setCell ⟨n3, 0, none⟩ (.slice a5 M.length c5)) from (Below.refl _ _).setCell (p := ⟨n3, 0, none⟩) (show w.heap.size ≤ n3 by omega) _))
    have J6 := Lib.hid (J5.out.setNm (n := n3) (i := 0) (.inr (Nat.le_refl _)) (.slice a5 M.length c5))
    have K6 := Lib.hid (K5.out.setNm (n := n3) (i := 0) (.inl (by omega)) (.slice a5 M.length c5))
    go_upto_region 4 with fail
    have hz6 : w5.heap.size = (w5.setCell ⟨n3, 0, none⟩ (.slice a5 M.length c5)).heap.size := by simp
    generalize w5.setCell ⟨n3, 0, none⟩ (.slice a5 M.length c5) = w6 at *
    clear yy ff S5 X5 HC5 HG5 J5 K5
    have y0 := X6.out.c0
    have y1 := X6.out.c1
    have z0 := S6.out.c0
    have z1 := S6.out.c1
    have g0 := S6.out.fr 0
    have g1' := S6.out.fr 1
    have r0 := World.cell?_setCell_same w6 ⟨w.heap.size, 0, none⟩ (.slice a5 M.length c5) z0
    have SF := (S6.out.set0 (.slice a5 M.length c5)).set1 (.slice a2 V.length c2)
    have r1 := SF.c1
    have HF := Lib.hid ((HC6.out.setNm (i := 0) hp (.slice a5 M.length c5)).setNm (i := 1) hp (.slice a2 V.length c2))
    have HGF := Lib.hid (grown_then HG6.out (below_set2m w6 w.heap.size (.slice a5 M.length c5) (.slice a2 V.length c2)))
    have hh : ((w6.setCell ⟨w.heap.size, 0, none⟩ (.slice a5 M.length c5)).setCell ⟨w.heap.size, 1, none⟩ (.slice a2 V.length c2)).heap.size = w6.heap.size := by simp
    have HA := Lib.hid ((((K6.out).setNm (n := w.heap.size) (i := 0) (.inl (by omega)) (.slice a5 M.length c5)).setNm (n := w.heap.size) (i := 1) (.inl (by omega)) (.slice a2 V.length c2)).mono (show w.heap.size ≤ w4.heap.size by omega) (show w5.heap.size ≤ ((w6.setCell ⟨w.heap.size, 0, none⟩ (.slice a5 M.length c5)).setCell ⟨w.heap.size, 1, none⟩ (.slice a2 V.length c2)).heap.size by rw [hh]; omega))
    have HB := Lib.hid ((((J6.out).setNm (n := w.heap.size) (i := 0) (.inl (Nat.lt_succ_self _)) (.slice a5 M.length c5)).setNm (n := w.heap.size) (i := 1) (.inl (Nat.lt_succ_self _)) (.slice a2 V.length c2)).mono (Nat.le_succ _) (show n3 ≤ ((w6.setCell ⟨w.heap.size, 0, none⟩ (.slice a5 M.length c5)).setCell ⟨w.heap.size, 1, none⟩ (.slice a2 V.length c2)).heap.size by rw [hh]; omega))
    have hz6' := Lib.hid hz6
    clear SF hh hz6
    go_wp2
    refine bodyPost_ret (v := .agg #[.slice a5 M.length c5, .slice a2 V.length c2]) (by simp [results, Tryz.results26, go_sem, r0, r1]) rfl ?_
    exact ⟨_, _, M, V, rfl, HA.out, HB.out, HF.out, HGF.out⟩
set_option maxRecDepth 100000 in
set_option maxHeartbeats 2000000 in
theorem DrawInverseMove_any (v : Value) (l : List Int) (hb : Nat) (w : World) (h : ISb w hb v l) (hhb : hb ≤ w.heap.size) :
    Calls Tryz.prog 8 #[v] w fun e w' => (∃ u1 u2 U V, e = .returned (.agg #[u1, u2]) ∧ ISSr w' w'.heap.size u1 U ∧ ISr w' w'.heap.size u2 V) ∧ Below w.heap.size w w' := by
  have HB0 := Lib.hid (below1 w (.cells #[.slice none 0 0, .slice none 0 0] 27))
  have S0 := Lib.hid (MB.new w (.slice none 0 0) (.slice none 0 0))
  have N0 := l1New_any v l hb _ (h.keep HB0.out hhb) (by have := HB0.out.size; omega)
  have hz : (w.alloc (.cells #[.slice none 0 0, .slice none 0 0] 27)).heap.size = w.heap.size + 1 := by simp
  rw [hz] at N0
  unfold curP at *
  go_enter Tryz.func8, Tryz.ntmps8
  go_wp2_with fail
  refine N0.mono ?_
  rintro e w1 ⟨rfl, hc, hbel, hsz⟩
  have S1 := Lib.hid ((hbel.block w.heap.size (by omega)).trans S0.out)
  have HB1 := Lib.hid (below_then HB0.out (by rw [hz]; omega) (hbel.mono (by rw [hz]; exact Nat.le_refl _)))
  have DD := l17Draw_any _ hb w1 hc
  have hs1 : w.heap.size + 1 < w1.heap.size := by omega
  clear hc hbel hsz N0 HB0 S0 hz h
  unfold curP at DD
  go_wp2_with fail
  refine DD.mono ?_
  clear DD
  rintro e w4 ⟨u1, u2, U, V, rfl, i1, i2, hc, hg⟩
  have S4 := Lib.hid (MB.cur S1.out hg (by omega))
  have HB4 := Lib.hid (HB1.out.trans (grown_below hg HB1.out.size (by omega)))
  have z14 := hg.size
  obtain ⟨a1, c1, rfl⟩ := i1.form
  obtain ⟨a2, c2, rfl, -⟩ := id i2
  have z0 := S4.out.c0
  have z1 := S4.out.c1
  have g0 := S4.out.fr 0
  have g1' := S4.out.fr 1
  have r0 := World.cell?_setCell_same w4 ⟨w.heap.size, 0, none⟩ (.slice a1 U.length c1) z0
  have SF := (S4.out.set0 (.slice a1 U.length c1)).set1 (.slice a2 V.length c2)
  have r1 := SF.c1
  have hh : ((w4.setCell ⟨w.heap.size, 0, none⟩ (.slice a1 U.length c1)).setCell ⟨w.heap.size, 1, none⟩ (.slice a2 V.length c2)).heap.size = w4.heap.size := by simp
  have HF := Lib.hid (HB4.out.trans (below_set2m w4 w.heap.size (.slice a1 U.length c1) (.slice a2 V.length c2)))
  have HA := Lib.hid (RH.read ((i1.setNm (n := w.heap.size) (i := 0) (.inl (by omega)) (.slice a1 U.length c1)).setNm (n := w.heap.size) (i := 1) (.inl (by omega)) (.slice a2 V.length c2)) (by rw [hh]; exact Nat.le_refl _))
  have HB := Lib.hid (((i2.setNm (n := w.heap.size) (i := 0) (.inl (by omega)) (.slice a1 U.length c1)).setNm (n := w.heap.size) (i := 1) (.inl (by omega)) (.slice a2 V.length c2)).read.upto (show w4.heap.size ≤ ((w4.setCell ⟨w.heap.size, 0, none⟩ (.slice a1 U.length c1)).setCell ⟨w.heap.size, 1, none⟩ (.slice a2 V.length c2)).heap.size by rw [hh]; exact Nat.le_refl _))
  clear SF hh i1 i2 hc hg
  go_wp2
  refine bodyPost_ret (v := .agg #[.slice a1 U.length c1, .slice a2 V.length c2]) (by simp [results, Tryz.results8, go_sem, r0, r1]) rfl ?_
  exact ⟨⟨_, _, U, V, rfl, HA.out, HB.out⟩, HF.out⟩
set_option maxRecDepth 100000 in
set_option maxHeartbeats 1000000 in
theorem DrawNormalPolygon_any (v : Value) (l : List Int) (hb : Nat) (w : World) (h : ISb w hb v l) (hhb : hb ≤ w.heap.size) :
    Calls Tryz.prog 11 #[v] w fun e w' => (∃ u M, e = .returned u ∧ RQ w' w.heap.size u M) ∧ Below w.heap.size w w' := by
  have N0 := l1New_any v l hb w h hhb
  unfold curP at N0
  go_enter Tryz.func11, Tryz.ntmps11
  go_wp2_with fail
  refine N0.mono ?_
  rintro e w0 ⟨rfl, hc, hbel, hsz⟩
  have HB := Lib.hid hbel
  have hlo : w.heap.size ≤ w0.heap.size := hbel.size
  have BB := l7Bent_any w.heap.size hb w0 hc
  unfold curP at BB
  clear hc hbel hsz N0 h
  go_wp2_with fail
  refine BB.mono ?_
  clear BB
  rintro e w1 ⟨u, ls, rfl, hr, hc, hg⟩
  go_wp2
  go_ret
  exact ⟨⟨_, ls, rfl, hr.lower hlo⟩, HB.out.trans (grown_below hg hlo (Nat.le_refl _))⟩
set_option maxRecDepth 100000 in
set_option maxHeartbeats 2000000 in
theorem DrawAreMoved_any (v : Value) (l : List Int) (hb : Nat) (w : World) (h : ISb w hb v l) (hhb : hb ≤ w.heap.size) :
    Calls Tryz.prog 14 #[v] w fun e w' => (∃ u1 u2 P Q, e = .returned (.tuple #[u1, u2]) ∧ ISSr w' w'.heap.size u1 P ∧ ISSr w' w'.heap.size u2 Q) ∧ Below w.heap.size w w' := by
  have N0 := l1New_any v l hb w h hhb
  unfold curP at N0
  go_enter Tryz.func14, Tryz.ntmps14
  go_wp2_with fail
  refine N0.mono ?_
  rintro e w0 ⟨rfl, hc, hbel, hsz⟩
  have HB := Lib.hid hbel
  have hlo : w.heap.size < w0.heap.size := hc.lt
  have BB := l7Draw_any w.heap.size hb 3 w0 hc (by omega)
  unfold curP at BB
  clear hc hbel hsz N0 h
  go_wp2_with fail
  refine BB.mono ?_
  clear BB
  rintro e w1 ⟨u, P, rfl, ⟨hr, -⟩, hc, hg⟩
  have R1 := Lib.hid (RH.of (RQ.of hr))
  obtain ⟨a1, c1, rfl⟩ := R1.out.form
  have HG1 := Lib.hid hg
  have z01 := hg.size
  have OB := l1Once_any w.heap.size hb 3 w1 hc (by omega) (by omega)
  unfold curP at OB
  clear hr hc hg
  go_wp2_with fail
  refine OB.mono ?_
  clear OB
  rintro e w2 ⟨bb, rfl, hc, hg⟩
  have R2 := Lib.hid (R1.out.cur hg (by omega))
  have HG2 := Lib.hid (grown_trans HG1.out hg)
  have HC2 := Lib.hid hc
  have z12 := hg.size
  clear hc hg R1 HG1
  cases bb
  · have DD := l17Draw_any _ hb w2 HC2.out
    unfold curP at DD
    go_wp2_with fail
    refine DD.mono ?_
    clear DD
    rintro e w3 ⟨u3, u4, U, V, rfl, i3, i4, hc, hg⟩
    obtain ⟨a3, c3, rfl⟩ := i3.form
    obtain ⟨a4, c4, rfl, -⟩ := id i4
    have z23 := hg.size
    have R3 := Lib.hid ((R2.out.cur hg (by omega)).read (by omega))
    have HG3 := Lib.hid (grown_trans HG2.out hg)
    have MP := specMovePolygon_any U V P (.slice a3 U.length c3) (.slice a4 V.length c4) (.slice a1 P.length c1) w3.heap.size w3 (i3.read (Nat.le_refl _)) i4.read R3.out (Nat.le_refl _)
    clear i3 i4 hc hg R2 HG2 HC2
    generalize (mvV U V P).1 = Q at *
    generalize (mvV U V P).2 = ok at *
    go_wp2_with fail
    refine MP.mono ?_
    clear MP
    rintro e w4 ⟨u5, rfl, k5, c5⟩
    have hR := Lib.hid ((R3.out.keep c5 (Nat.le_refl _)).upto c5.size)
    have hQ := Lib.hid k5.read
    obtain ⟨a5, q5, rfl, -⟩ := id hQ.out
    have HF := Lib.hid (HB.out.trans ((grown_below HG3.out (show w.heap.size ≤ w0.heap.size by omega) (Nat.le_refl _)).trans (c5.mono (by omega))))
    clear k5 c5 R3 HG3
    go_wp2
    refine bodyPost_ret (v := .tuple #[.slice a1 P.length c1, .slice a5 Q.length q5]) (by simp [results, Tryz.results14, go_sem]) rfl ?_
    exact ⟨⟨_, _, P, Q, rfl, hR.out, hQ.out⟩, HF.out⟩
  · have BB := l7Bent_any w.heap.size hb w2 HC2.out
    unfold curP at BB
    go_wp2_with fail
    refine BB.mono ?_
    clear BB
    rintro e w3 ⟨u3, Q, rfl, hr, hc, hg⟩
    have z23 := hg.size
    have hR := Lib.hid ((R2.out.cur hg (by omega)).read (by omega))
    have hQ := Lib.hid hr.read
    obtain ⟨a5, q5, rfl, -⟩ := id hQ.out
    have HF := Lib.hid (HB.out.trans (grown_below (grown_trans HG2.out hg) (show w.heap.size ≤ w0.heap.size by omega) (Nat.le_refl _)))
    clear hr hc hg R2 HG2 HC2
    go_wp2
    refine bodyPost_ret (v := .tuple #[.slice a1 P.length c1, .slice a5 Q.length q5]) (by simp [results, Tryz.results14, go_sem]) rfl ?_
    exact ⟨⟨_, _, P, Q, rfl, hR.out, hQ.out⟩, HF.out⟩
set_option maxRecDepth 100000 in
set_option maxHeartbeats 4000000 in
theorem DrawMovePolygon_any (v : Value) (l : List Int) (hb : Nat) (w : World) (h : ISb w hb v l) (hhb : hb ≤ w.heap.size) :
    Calls Tryz.prog 5 #[v] w fun e w' => (∃ u1 u2 u3 U V P, e = .returned (.tuple #[.agg #[u1, u2], u3]) ∧ ISSr w' w'.heap.size u1 U ∧ ISr w' w'.heap.size u2 V ∧ ISSr w' w'.heap.size u3 P) ∧ Below w.heap.size w w' := by
  have HB0 := Lib.hid (below1 w (.cells #[.slice none 0 0, .slice none 0 0] 27))
  have S0 := Lib.hid (MB.new w (.slice none 0 0) (.slice none 0 0))
  have N0 := l1New_any v l hb _ (h.keep HB0.out hhb) (by have := HB0.out.size; omega)
  have hz : (w.alloc (.cells #[.slice none 0 0, .slice none 0 0] 27)).heap.size = w.heap.size + 1 := by simp
  rw [hz] at N0
  unfold curP at *
  go_enter Tryz.func5, Tryz.ntmps5
  go_wp2_with fail
  refine N0.mono ?_
  rintro e w1 ⟨rfl, hc, hbel, hsz⟩
  have S1 := Lib.hid ((hbel.block w.heap.size (by omega)).trans S0.out)
  have HB1 := Lib.hid (below_then HB0.out (by rw [hz]; omega) (hbel.mono (by rw [hz]; exact Nat.le_refl _)))
  have DD := l17Draw_any _ hb w1 hc
  have hs1 : w.heap.size + 1 < w1.heap.size := by omega
  clear hc hbel hsz N0 HB0 S0 hz h
  unfold curP at DD
  go_wp2_with fail
  refine DD.mono ?_
  clear DD
  rintro e w2 ⟨u1, u2, U, V, rfl, i1, i2, hc, hg⟩
  have S2 := Lib.hid (MB.cur S1.out hg (by omega))
  have HB2 := Lib.hid (HB1.out.trans (grown_below hg HB1.out.size (by omega)))
  obtain ⟨a1, c1, rfl⟩ := i1.form
  obtain ⟨a2, c2, rfl, -⟩ := id i2
  have cA := below1 w2 (.cells #[.slice a1 U.length c1, .slice a2 V.length c2] 27)
  have HC3 := Lib.hid (hc.below cA hc.lt)
  have X3 := Lib.hid (MB.new w2 (.slice a1 U.length c1) (.slice a2 V.length c2))
  have S3 := Lib.hid (S2.out.below cA)
  have HB3 := Lib.hid (HB2.out.trans (cA.mono HB2.out.size))
  have I3 := Lib.hid (i1.keep cA (Nat.le_refl _))
  have J3 := Lib.hid (i2.keep cA (Nat.le_refl _))
  have hw12 : w1.heap.size ≤ w2.heap.size := hg.size
  have hz3 : (w2.alloc (.cells #[.slice a1 U.length c1, .slice a2 V.length c2] 27)).heap.size = w2.heap.size + 1 := by simp
  clear hc hg HB1 S1 S2 HB2 i1 i2 cA
  go_upto_region 3 with fail
  generalize w2.alloc (.cells #[.slice a1 U.length c1, .slice a2 V.length c2] 27) = w3 at *
  generalize hn5 : w2.heap.size = n5 at *
  have hz3' : n5 < w3.heap.size := by omega
  clear hz3 hn5
  have LD := l7Bent_any (w.heap.size + 1) hb w3.drew (show Cur w3.drew _ hb from HC3.out)
  unfold curP at LD
  have y0 := X3.out.c0
  have y1 := X3.out.c1
  go_cut [3] (fun x wx => ∃ P, Hid (ISSr wx wx.heap.size x P) ∧ Hid (ISSr wx wx.heap.size (.slice a1 U.length c1) U) ∧ Hid (ISr wx wx.heap.size (.slice a2 V.length c2) V) ∧ Hid (MB wx w.heap.size (.slice a1 U.length c1) (.slice a2 V.length c2)) ∧ Hid (Below w.heap.size w wx))
  case first =>
    go_region_held3 (fun w' => w'.cell? ⟨n5, 0, none⟩ = some (.slice a1 U.length c1) ∧ w'.cell? ⟨n5, 1, none⟩ = some (.slice a2 V.length c2))
      (first | exact ⟨y0, y1⟩ | exact ⟨TT.c0, TT.c1⟩ | exact ⟨((TT.other hne _).other hne _).c0, ((TT.other hne _).other hne _).c1⟩ | go_keep)
      ((go_at_call 27; (with_reducible refine LD.mono ?_); rintro e w7 ⟨u7, P7, rfl, hr7, hc7, hg7⟩; have gg7 := grown_trans (grown_draws (World.grownBy.refl w3 (some (w.heap.size + 1))) 1) hg7; have TT := X3.out.cur gg7 (by omega); have SS := S3.out.cur gg7 (by omega); have hne : w.heap.size ≠ n5 := (by omega); have z0 := SS.c0; have z1 := SS.c1; have g0 := SS.fr 0; have g1 := SS.fr 1; have z57 : w3.heap.size ≤ w7.heap.size := gg7.size))
    have hh : ((w7.setCell ⟨w.heap.size, 0, none⟩ (.slice a1 U.length c1)).setCell ⟨w.heap.size, 1, none⟩ (.slice a2 V.length c2)).heap.size = w7.heap.size := by simp
    have IA := Lib.hid (RH.read (((I3.out.cur gg7 (by omega)).setNm (n := w.heap.size) (i := 0) (.inl (by omega)) (.slice a1 U.length c1)).setNm (n := w.heap.size) (i := 1) (.inl (by omega)) (.slice a2 V.length c2)) (by rw [hh]; omega))
    have JA := Lib.hid ((((J3.out.cur gg7 (.inl (by omega))).setNm (n := w.heap.size) (i := 0) (.inl (by omega)) (.slice a1 U.length c1)).setNm (n := w.heap.size) (i := 1) (.inl (by omega)) (.slice a2 V.length c2)).read.upto (show n5 ≤ ((w7.setCell ⟨w.heap.size, 0, none⟩ (.slice a1 U.length c1)).setCell ⟨w.heap.size, 1, none⟩ (.slice a2 V.length c2)).heap.size by rw [hh]; omega))
    have KA := Lib.hid (RH.read (((RH.of hr7).setNm (n := w.heap.size) (i := 0) (.inl (show w.heap.size < w3.heap.size by omega)) (.slice a1 U.length c1)).setNm (n := w.heap.size) (i := 1) (.inl (show w.heap.size < w3.heap.size by omega)) (.slice a2 V.length c2)) (by rw [hh]; exact Nat.le_refl _))
    have SA := Lib.hid ((SS.set0 (.slice a1 U.length c1)).set1 (.slice a2 V.length c2))
    have HF := Lib.hid ((HB3.out.trans (grown_below gg7 HB3.out.size (by omega))).trans (below_set2m w7 w.heap.size (.slice a1 U.length c1) (.slice a2 V.length c2)))
    clear hh TT SS hr7 hc7 hg7 gg7 LD y0 y1 z0 z1 g0 g1
    go_wp2_with fail
    go_meet
    exact ⟨P7, KA, IA, JA, SA, HF⟩
  case rest =>
  obtain ⟨P7, HX7, HI7, HJ7, HS7, HB7⟩ := hcut
  obtain ⟨a7, c7, rfl, -⟩ := id HX7.out
  have r0 := HS7.out.c0
  have r1 := HS7.out.c1
  go_wp2
  refine bodyPost_ret (v := .tuple #[.agg #[.slice a1 U.length c1, .slice a2 V.length c2], .slice a7 P7.length c7]) (by simp [results, Tryz.results5, go_sem, r0, r1]) rfl ?_
  exact ⟨⟨_, _, _, U, V, P7, rfl, HI7.out, HJ7.out, HX7.out⟩, HB7.out⟩
end Go.Proofs.YtehhoplenloocaaGreat
