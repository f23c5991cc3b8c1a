/- Segments that are drawn. -/
import Derived.Test.YtfncikbmdaameaaDrL
import Derived.Test.YtfncikbmdaameaaSeg
import Derived.Handy
import Derived.Deep.DeepCutAuto
import Derived.Deep.RegionHeld3
namespace Go.Proofs.Ytfncikbmdaameaa
open Go.RowKit
set_option linter.unusedVariables false
set_option linter.unusedSimpArgs false

/-- block n is a segment's box -/
def SB (w : World) (n : Nat) (a b c d : Int) : Prop := w.heap[n]? = some (.cells #[.int .i64 a, .int .i64 b, .int .i64 c, .int .i64 d] 26 (0, 0))
theorem SB.lt {w : World} {n : Nat} {a b c d : Int} (h : SB w n a b c d) : n < w.heap.size := by
  rcases Nat.lt_or_ge n w.heap.size with h' | h'
  · exact h'
  · unfold SB at h; rw [Array.getElem?_eq_none h'] at h; cases h
theorem SB.c0 {w : World} {n : Nat} {a b c d : Int} (h : SB w n a b c d) : w.cell? ⟨n, 0, none⟩ = some (.int .i64 a) := by unfold SB at h; simp [World.cell?, h]
theorem SB.c1 {w : World} {n : Nat} {a b c d : Int} (h : SB w n a b c d) : w.cell? ⟨n, 1, none⟩ = some (.int .i64 b) := by unfold SB at h; simp [World.cell?, h]
theorem SB.c2 {w : World} {n : Nat} {a b c d : Int} (h : SB w n a b c d) : w.cell? ⟨n, 2, none⟩ = some (.int .i64 c) := by unfold SB at h; simp [World.cell?, h]
theorem SB.c3 {w : World} {n : Nat} {a b c d : Int} (h : SB w n a b c d) : w.cell? ⟨n, 3, none⟩ = some (.int .i64 d) := by unfold SB at h; simp [World.cell?, h]
theorem SB.fr {w : World} {n : Nat} {a b c d : Int} (h : SB w n a b c d) (i : Nat) : w.frozen? ⟨n, i, none⟩ = false := blk_frozen h i
theorem SB.cur {w w' : World} {n p : Nat} {a b c d : Int} (h : SB w n a b c d) (hg : w.grownBy w' (some p)) (hp : n ≠ p) : SB w' n a b c d :=
  (hg.block n h.lt (by intro e; injection e with e; exact hp e)).trans h
theorem SB.below {w w' : World} {n : Nat} {a b c d : Int} (h : SB w n a b c d) (hb : Below w.heap.size w w') : SB w' n a b c d := (hb.block n h.lt).trans h
theorem SB.new (w : World) (a b c d : Int) : SB (w.alloc (.cells #[.int .i64 a, .int .i64 b, .int .i64 c, .int .i64 d] 26)) w.heap.size a b c d := heap_alloc_new w _
theorem SB.set1 {w : World} {n : Nat} {a b c d : Int} (h : SB w n a b c d) (x : Int) : SB (w.setCell ⟨n, 1, none⟩ (.int .i64 x)) n a x c d := by
  unfold SB at *; simp [World.setCell, Array.getElem?_modify, h]
theorem SB.set2 {w : World} {n : Nat} {a b c d : Int} (h : SB w n a b c d) (x : Int) : SB (w.setCell ⟨n, 2, none⟩ (.int .i64 x)) n a b x d := by
  unfold SB at *; simp [World.setCell, Array.getElem?_modify, h]
theorem SB.set0 {w : World} {n : Nat} {a b c d : Int} (h : SB w n a b c d) (x : Int) : SB (w.setCell ⟨n, 0, none⟩ (.int .i64 x)) n x b c d := by
  unfold SB at *; simp [World.setCell, Array.getElem?_modify, h]
theorem SB.set3 {w : World} {n : Nat} {a b c d : Int} (h : SB w n a b c d) (x : Int) : SB (w.setCell ⟨n, 3, none⟩ (.int .i64 x)) n a b c x := by
  unfold SB at *; simp [World.setCell, Array.getElem?_modify, h]
theorem SB.other {w : World} {n m i : Nat} {a b c d : Int} (h : SB w n a b c d) (hm : m ≠ n) (x : Value) : SB (w.setCell ⟨m, i, none⟩ x) n a b c d := by
  unfold SB at *
  rw [Below.heap_setCell _ _ _ _ (fun e => hm e.symm)]; exact h
theorem Cur.set {w : World} {p hb n i : Nat} (h : Cur w p hb) (hp : p < n) (x : Value) : Cur (w.setCell ⟨n, i, none⟩ x) p hb :=
  h.below (B := n) ((Below.refl n w).setCell (Nat.le_refl _) x) hp

theorem SB.four {w : World} {n m : Nat} {a b c d : Int} (h : SB w n a b c d) (hm : m ≠ n) (x y z u : Value) : SB ((((w.setCell ⟨m, 0, none⟩ x).setCell ⟨m, 1, none⟩ y).setCell ⟨m, 2, none⟩ z).setCell ⟨m, 3, none⟩ u) n a b c d :=
  (((h.other hm x).other hm y).other hm z).other hm u
theorem below_set4 (w : World) (n : Nat) (x y z u : Value) : Below n w ((((w.setCell ⟨n, 0, none⟩ x).setCell ⟨n, 1, none⟩ y).setCell ⟨n, 2, none⟩ z).setCell ⟨n, 3, none⟩ u) := by
  have h1 : Below n w (w.setCell ⟨n, 0, none⟩ x) := (Below.refl n w).setCell (Nat.le_refl _) x
  have h2 : Below n w ((w.setCell ⟨n, 0, none⟩ x).setCell ⟨n, 1, none⟩ y) := h1.setCell (Nat.le_refl _) y
  have h3 : Below n w (((w.setCell ⟨n, 0, none⟩ x).setCell ⟨n, 1, none⟩ y).setCell ⟨n, 2, none⟩ z) := h2.setCell (Nat.le_refl _) z
  exact h3.setCell (Nat.le_refl _) u
set_option maxRecDepth 100000 in
set_option maxHeartbeats 8000000 in
theorem l14Draw_any (p hb : Nat) (w : World) (h : Cur w p hb) :
    Calls Try.prog 115 #[curP p] w fun e w' => ∃ a b c d : Int, e = .returned (segV a b c d) ∧ (-10 ≤ a ∧ a ≤ 10 ∧ 0 ≤ b ∧ b ≤ 13 ∧ 1 ≤ d ∧ d ≤ 6 ∧ -100 ≤ c ∧ c ≤ 100) ∧ Cur w' p hb ∧ w.grownBy w' (some p) := by
  have hp := h.lt
  have HC0 := Lib.hid (h.below (below1 w (.cells #[.int .i64 0, .int .i64 0, .int .i64 0, .int .i64 0] 26)) hp)
  have HG0 := Lib.hid (grown_alloc (World.grownBy.refl w (some p)) (.cells #[.int .i64 0, .int .i64 0, .int .i64 0, .int .i64 0] 26))
  have S0 := Lib.hid (SB.new w 0 0 0 0)
  have hnp : w.heap.size ≠ p := by omega
  clear h
  have B1 := l1Below_any p hb 21 _ HC0.out (by omega) (by omega)
  unfold curP at *
  go_enter Try.func115, Try.ntmps115
  go_wp2_with fail
  refine B1.mono ?_
  rintro e w1 ⟨x1, rfl, h10, h11, hc, hg⟩
  have HC1 := Lib.hid hc
  have HG1 := Lib.hid (grown_trans HG0.out hg)
  have S1 := Lib.hid (S0.out.cur hg hnp)
  clear hc hg HC0 HG0 S0 B1
  have B1 := l1Below_any p hb 6 w1 HC1.out (by omega) (by omega)
  unfold curP at *
  go_wp2_with fail
  refine B1.mono ?_
  rintro e w2 ⟨x2, rfl, h20, h21, hc, hg⟩
  have HC2 := Lib.hid hc
  have HG2 := Lib.hid (grown_trans HG1.out hg)
  have S2 := Lib.hid (S1.out.cur hg hnp)
  clear hc hg HC1 HG1 S1 B1
  have B1 := l1Below_any p hb 6 w2 HC2.out (by omega) (by omega)
  unfold curP at *
  go_wp2_with fail
  refine B1.mono ?_
  rintro e w3 ⟨x3, rfl, h30, h31, hc, hg⟩
  have HC3 := Lib.hid hc
  have HG3 := Lib.hid (grown_trans HG2.out hg)
  have S3 := Lib.hid (S2.out.cur hg hnp)
  clear hc hg HC2 HG2 S2 B1
  have mb := mul_bd2 (a := x1 - 10) (b := 1 + x3) (M := 10) (N := 6) (by omega) (by omega) (by omega) (by omega) (by omega)
  have q1 := div_bd2 (x := (x1 - 10) * (1 + x3)) (d := 1 + x2) 60 (by omega) (by omega) (by omega)
  have FL := fun W => l3Floor_any ((x1 - 10) * (1 + x3)) (1 + x2) W (by omega) (by omega) (by omega) (by omega)
  have HC4 := Lib.hid (HC3.out.below (below1 w3 (.cells #[.int .i64 (x1 - 10), .int .i64 (1 + x2), .int .i64 0, .int .i64 (1 + x3)] 26)) HC3.out.lt)
  have HG4 := Lib.hid (grown_alloc HG3.out (.cells #[.int .i64 (x1 - 10), .int .i64 (1 + x2), .int .i64 0, .int .i64 (1 + x3)] 26))
  have S4 := Lib.hid (S3.out.below (below1 w3 (.cells #[.int .i64 (x1 - 10), .int .i64 (1 + x2), .int .i64 0, .int .i64 (1 + x3)] 26)))
  have T4 := Lib.hid (SB.new w3 (x1 - 10) (1 + x2) 0 (1 + x3))
  have hn3 : w3.heap.size ≠ p := by have := HC3.out.lt; omega
  have hn30 : w3.heap.size ≠ w.heap.size := by have := S3.out.lt; omega
  have hp3 : p < w3.heap.size := HC3.out.lt
  have hwz : w.heap.size ≤ w3.heap.size := HG3.out.size
  have B1 := l1Below_any p hb 12 _ HC4.out (by omega) (by omega)
  unfold curP at B1
  generalize hA : x1 - 10 = A at *
  generalize hB : 1 + x2 = Bv at *
  generalize hD : 1 + x3 = D at *
  generalize hF : A * D / Bv = F at *
  have e1 : wrap64 (A * D) = A * D := IntWalk.wrap64_in _ (by omega)
  clear hF HC3 HG3 S3
  go_wp2_with (go_at_call 123; (with_reducible refine (FL _).mono ?_); rintro e w' ⟨rfl, rfl⟩)
  clear e1 mb
  refine B1.mono ?_
  clear B1 FL
  rintro e w5 ⟨x4, rfl, h40, h41, hc, hg⟩
  have S5 := Lib.hid (S4.out.cur hg hnp)
  have T5 := Lib.hid (T4.out.cur hg hn3)
  have HG5 := Lib.hid (grown_trans HG4.out hg)
  have HC5 := Lib.hid hc
  clear hc hg HC4 HG4 S4 T4
  have S6 := Lib.hid (S5.out.other (i := 2) hn30 (.int .i64 (F + x4)))
  have T6 := Lib.hid (T5.out.set2 (F + x4))
  have HC6 := Lib.hid (HC5.out.set (i := 2) hp3 (.int .i64 (F + x4)))
  have HG6 := Lib.hid (grown_then HG5.out (show Below w.heap.size w5 (w5.setCell ⟨w3.heap.size, 2, none⟩ (.int .i64 (F + x4))) from (Below.refl _ _).setCell hwz _))
  have y2 := T5.out.c2
  have f2 := T5.out.fr 2
  have B1 := l1Once_any p hb 14 _ HC6.out (by omega) (by omega)
  unfold curP at B1
  have HFx := Lib.hid (show -100 ≤ F + x4 ∧ F + x4 ≤ 100 by omega)
  have HAB := Lib.hid (show -10 ≤ A ∧ A ≤ 10 ∧ 1 ≤ Bv ∧ Bv ≤ 6 ∧ 1 ≤ D ∧ D ≤ 6 by omega)
  clear hA hB hD
  go_wp2_with fail
  refine B1.mono ?_
  clear B1 y2 f2 S5 T5 HC5 HG5 q1
  rintro e w7 ⟨bb, rfl, hc, hg⟩
  have S7 := Lib.hid (S6.out.cur hg hnp)
  have T7 := Lib.hid (T6.out.cur hg hn3)
  have HG7 := Lib.hid (grown_trans HG6.out hg)
  have HC7 := Lib.hid hc
  clear hc hg HC6 HG6 S6 T6
  generalize F + x4 = C at *
  cases bb
  · have y0 := T7.out.c0
    have y1 := T7.out.c1
    have y2 := T7.out.c2
    have y3 := T7.out.c3
    have z0 := S7.out.c0
    have z1 := S7.out.c1
    have z2 := S7.out.c2
    have z3 := S7.out.c3
    have g0 := S7.out.fr 0
    have g1 := S7.out.fr 1
    have g2 := S7.out.fr 2
    have g3 := S7.out.fr 3
    have r0 := World.cell?_setCell_same w7 ⟨w.heap.size, 0, none⟩ (.int .i64 A) z0
    have SF := ((((S7.out.set0 A).set1 Bv).set2 C).set3 D)
    have r1 := SF.c1
    have r2 := SF.c2
    have r3 := SF.c3
    have HF := Lib.hid ((((HC7.out.set (i := 0) hp (.int .i64 A)).set (i := 1) hp (.int .i64 Bv)).set (i := 2) hp (.int .i64 C)).set (i := 3) hp (.int .i64 D))
    have HGF := Lib.hid (grown_then HG7.out (below_set4 w7 w.heap.size (.int .i64 A) (.int .i64 Bv) (.int .i64 C) (.int .i64 D)))
    clear SF
    go_wp2
    refine bodyPost_ret (v := .agg #[.int .i64 A, .int .i64 Bv, .int .i64 C, .int .i64 D]) (by simp [results, Try.results115, go_sem, r0, r1, r2, r3]) rfl ?_
    exact ⟨A, Bv, C, D, rfl, ⟨HAB.out.1, HAB.out.2.1, by have := HAB.out; omega, by have := HAB.out; omega, by have := HAB.out; omega, by have := HAB.out; omega, HFx.out.1, HFx.out.2⟩, HF.out, HGF.out⟩
  · go_wp2_with fail
    have BB := pick_lit p hb [0, 13, 12] w7 HC7.out (by simp) (by simp)
    unfold curP at BB
    refine BB.mono ?_
    clear BB
    rintro e w8 ⟨nb, rfl, hnb, hc, hg⟩
    simp only [List.mem_cons, List.not_mem_nil, or_false] at hnb
    have S8 := Lib.hid (S7.out.cur hg hnp)
    have T8 := Lib.hid (T7.out.cur hg hn3)
    have HG8 := Lib.hid (grown_trans HG7.out hg)
    have HC8 := Lib.hid hc
    clear hc hg HC7 HG7 S7 T7
    have yy := T8.out.c1
    have ff := T8.out.fr 1
    have S9 := Lib.hid (S8.out.other (i := 1) hn30 (.int .i64 nb))
    have T9 := Lib.hid (T8.out.set1 nb)
    have HC9 := Lib.hid (HC8.out.set (i := 1) hp3 (.int .i64 nb))
    have HG9 := Lib.hid (grown_then HG8.out (show Below w.heap.size w8 (w8.setCell ⟨w3.heap.size, 1, none⟩ (.int .i64 nb)) from (Below.refl _ _).setCell hwz _))
    go_upto_region 5 with fail
    generalize w8.setCell ⟨w3.heap.size, 1, none⟩ (.int .i64 nb) = w9 at *
    clear yy ff S8 T8 HC8 HG8
    have y0 := T9.out.c0
    have y1 := T9.out.c1
    have y2 := T9.out.c2
    have y3 := T9.out.c3
    have z0 := S9.out.c0
    have z1 := S9.out.c1
    have z2 := S9.out.c2
    have z3 := S9.out.c3
    have g0 := S9.out.fr 0
    have g1 := S9.out.fr 1
    have g2 := S9.out.fr 2
    have g3 := S9.out.fr 3
    have r0 := World.cell?_setCell_same w9 ⟨w.heap.size, 0, none⟩ (.int .i64 A) z0
    have SF := ((((S9.out.set0 A).set1 nb).set2 C).set3 D)
    have r1 := SF.c1
    have r2 := SF.c2
    have r3 := SF.c3
    have HF := Lib.hid ((((HC9.out.set (i := 0) hp (.int .i64 A)).set (i := 1) hp (.int .i64 nb)).set (i := 2) hp (.int .i64 C)).set (i := 3) hp (.int .i64 D))
    have HGF := Lib.hid (grown_then HG9.out (below_set4 w9 w.heap.size (.int .i64 A) (.int .i64 nb) (.int .i64 C) (.int .i64 D)))
    clear SF
    go_wp2
    refine bodyPost_ret (v := .agg #[.int .i64 A, .int .i64 nb, .int .i64 C, .int .i64 D]) (by simp [results, Try.results115, go_sem, r0, r1, r2, r3]) rfl ?_
    exact ⟨A, nb, C, D, rfl, ⟨HAB.out.1, HAB.out.2.1, by have := HAB.out; omega, by have := HAB.out; omega, by have := HAB.out; omega, by have := HAB.out; omega, HFx.out.1, HFx.out.2⟩, HF.out, HGF.out⟩
set_option maxRecDepth 100000 in
set_option maxHeartbeats 8000000 in
theorem DrawSegmentPieces_any (v : Value) (l : List Int) (hb : Nat) (w : World) (h : ISb w hb v l) (hhb : hb ≤ w.heap.size) :
    Calls Try.prog 23 #[v] w fun e w' => (∃ a b c d : Int, e = .returned (segV a b c d) ∧ (-10 ≤ a ∧ a ≤ 10 ∧ 0 ≤ b ∧ b ≤ 13 ∧ 1 ≤ d ∧ d ≤ 6 ∧ -100 ≤ c ∧ c ≤ 100)) ∧ Below w.heap.size w w' := by
  have HB0 := Lib.hid (below1 w (.cells #[.int .i64 0, .int .i64 0, .int .i64 0, .int .i64 0] 26))
  have S0 := Lib.hid (SB.new w 0 0 0 0)
  have N0 := l1New_any v l hb _ (h.keep HB0.out hhb) (by have := HB0.out.size; omega)
  have hz : (w.alloc (.cells #[.int .i64 0, .int .i64 0, .int .i64 0, .int .i64 0] 26)).heap.size = w.heap.size + 1 := by simp
  rw [hz] at N0
  unfold curP segV at *
  go_enter Try.func23, Try.ntmps23
  go_wp2_with fail
  refine N0.mono ?_
  rintro e w1 ⟨rfl, hc, hbel, hsz⟩
  have S1 := Lib.hid ((hbel.block w.heap.size (by omega)).trans S0.out)
  have HB1 := Lib.hid (below_then HB0.out (by rw [hz]; omega) (hbel.mono (by rw [hz]; exact Nat.le_refl _)))
  have DD := l14Draw_any _ hb w1 hc
  clear hc hbel hsz N0 HB0 S0 hz h
  unfold curP segV at DD
  go_wp2_with fail
  refine DD.mono ?_
  rintro e w2 ⟨a, b, c, d, rfl, hbd, hc, hg⟩
  have S2 : SB w2 w.heap.size 0 0 0 0 := SB.cur S1.out hg (by omega)
  have HB2 := Lib.hid (HB1.out.trans (grown_below hg HB1.out.size (by omega)))
  have z0 := S2.c0
  have z1 := S2.c1
  have z2 := S2.c2
  have z3 := S2.c3
  have g0 := S2.fr 0
  have g1 := S2.fr 1
  have g2 := S2.fr 2
  have g3 := S2.fr 3
  have r0 := World.cell?_setCell_same w2 ⟨w.heap.size, 0, none⟩ (.int .i64 a) z0
  have SF := (((S2.set0 a).set1 b).set2 c).set3 d
  have r1 := SF.c1
  have r2 := SF.c2
  have r3 := SF.c3
  have HBD := Lib.hid hbd
  clear SF hc hg DD HB1 S1 hbd
  go_wp2
  refine bodyPost_ret (v := .agg #[.int .i64 a, .int .i64 b, .int .i64 c, .int .i64 d]) (by simp [results, Try.results23, go_sem, r0, r1, r2, r3]) rfl ?_
  exact ⟨⟨a, b, c, d, rfl, HBD.out⟩, HB2.out.trans (below_set4 w2 w.heap.size (.int .i64 a) (.int .i64 b) (.int .i64 c) (.int .i64 d))⟩
set_option maxRecDepth 100000 in
set_option maxHeartbeats 8000000 in
theorem DrawSegmentCount_any (v : Value) (l : List Int) (hb : Nat) (w : World) (h : ISb w hb v l) (hhb : hb ≤ w.heap.size) :
    Calls Try.prog 24 #[v] w fun e w' => (∃ a b c d t : Int, e = .returned (.tuple #[segV a b c d, .int .i64 t])) ∧ Below w.heap.size w w' := by
  have HB0 := Lib.hid (below1 w (.cells #[.int .i64 0, .int .i64 0, .int .i64 0, .int .i64 0] 26))
  have S0 := Lib.hid (SB.new w 0 0 0 0)
  have N0 := l1New_any v l hb _ (h.keep HB0.out hhb) (by have := HB0.out.size; omega)
  have hz : (w.alloc (.cells #[.int .i64 0, .int .i64 0, .int .i64 0, .int .i64 0] 26)).heap.size = w.heap.size + 1 := by simp
  rw [hz] at N0
  unfold curP segV at *
  go_enter Try.func24, Try.ntmps24
  go_wp2_with fail
  refine N0.mono ?_
  rintro e w1 ⟨rfl, hc, hbel, hsz⟩
  have S1 := Lib.hid ((hbel.block w.heap.size (by omega)).trans S0.out)
  have HB1 := Lib.hid (below_then HB0.out (by rw [hz]; omega) (hbel.mono (by rw [hz]; exact Nat.le_refl _)))
  have DD := l14Draw_any _ hb w1 hc
  clear hc hbel hsz N0 HB0 S0 hz h
  unfold curP segV at DD
  go_wp2_with fail
  refine DD.mono ?_
  rintro e w2 ⟨a, b, c, d, rfl, hbd, hc, hg⟩
  have S2 : SB w2 w.heap.size 0 0 0 0 := SB.cur S1.out hg (by omega)
  have HS2 := Lib.hid S2
  have HC2 := Lib.hid hc
  have HB2 := Lib.hid (HB1.out.trans (grown_below hg HB1.out.size (by omega)))
  clear hc hg DD HB1 S1 hbd S2
  have HC3 := HC2.out.below (below1 w2 (.cells #[.int .i64 a, .int .i64 b, .int .i64 c, .int .i64 d] 26)) HC2.out.lt
  have T3 := SB.new w2 a b c d
  have S3 := HS2.out.below (below1 w2 (.cells #[.int .i64 a, .int .i64 b, .int .i64 c, .int .i64 d] 26))
  have hn5 : w2.heap.size ≠ w.heap.size + 1 := by have := HC2.out.lt; omega
  have hn6 : w.heap.size ≠ w2.heap.size := by have := HC2.out.lt; omega
  have hn7 : w.heap.size ≠ w.heap.size + 1 := by omega
  have hwz : w.heap.size ≤ w2.heap.size := HB2.out.size
  have HB3 := Lib.hid (HB2.out.trans ((below1 w2 (.cells #[.int .i64 a, .int .i64 b, .int .i64 c, .int .i64 d] 26)).mono hwz))
  go_upto_region 3 with fail
  have hs3 : w2.heap.size < (w2.alloc (.cells #[.int .i64 a, .int .i64 b, .int .i64 c, .int .i64 d] 26)).heap.size := by simp
  generalize w2.alloc (.cells #[.int .i64 a, .int .i64 b, .int .i64 c, .int .i64 d] 26) = w3 at *
  generalize w2.heap.size = n5 at *
  go_cut [3] (fun s wx => ∃ t : Int, s = .int .i64 t ∧ Hid (SB wx w.heap.size a b c d) ∧ Hid (Below w.heap.size w wx))
  case first =>
    have k0 := T3.c0
    have k1 := T3.c1
    have k2 := T3.c2
    have k3 := T3.c3
    go_region_held3 (fun w' => w'.cell? ⟨n5, 0, none⟩ = some (.int .i64 a) ∧ w'.cell? ⟨n5, 1, none⟩ = some (.int .i64 b) ∧ w'.cell? ⟨n5, 2, none⟩ = some (.int .i64 c) ∧ w'.cell? ⟨n5, 3, none⟩ = some (.int .i64 d))
      (first | go_keep | exact ⟨T5.c0, T5.c1, T5.c2, T5.c3⟩ | exact ⟨(T5.four hn6 _ _ _ _).c0, (T5.four hn6 _ _ _ _).c1, (T5.four hn6 _ _ _ _).c2, (T5.four hn6 _ _ _ _).c3⟩)
      ((go_at_call 117; have PP : Calls Try.prog 117 #[.pointer (some ⟨w.heap.size + 1, 0, none⟩), .slice (some ⟨w3.heap.size, 0, none⟩) 9 9] ((w3.alloc (.cells #[.int .i64 0, .int .i64 1, .int .i64 2, .int .i64 3, .int .i64 5, .int .i64 12, .int .i64 1000, .int .i64 1001, .int .i64 (-1)] 3)).drew) (fun e w' => ∃ x, e = .returned (.int .i64 x) ∧ x ∈ [0, 1, 2, 3, 5, 12, 1000, 1001, -1] ∧ Cur w' (w.heap.size + 1) hb ∧ w3.drew.grownBy w' (some (w.heap.size + 1))) := pick_lit _ hb [0, 1, 2, 3, 5, 12, 1000, 1001, -1] w3.drew (HC3.below (below_draws w3.heap.size w3 1) HC3.lt) (by simp) (by simp); (with_reducible refine PP.mono ?_); rintro e w5 ⟨t, rfl, -, hc, hg⟩; have S5 := SB.cur (w := w3.drew) S3 hg hn7; have T5 := SB.cur (w := w3.drew) T3 hg hn5; have z0 := S5.c0; have z1 := S5.c1; have z2 := S5.c2; have z3 := S5.c3; have g0 := S5.fr 0; have g1 := S5.fr 1; have g2 := S5.fr 2; have g3 := S5.fr 3))
    have HB5 := HB3.out.trans ((below_draws w.heap.size w3 1).trans (grown_below (w := w3.drew) hg HB3.out.size (by omega)))
    have HB6 := Lib.hid (HB5.trans (below_set4 w5 w.heap.size (.int .i64 a) (.int .i64 b) (.int .i64 c) (.int .i64 d)))
    have HS6 := Lib.hid ((((S5.set0 a).set1 b).set2 c).set3 d)
    clear HB5 T5 S5 z0 z1 z2 z3 g0 g1 g2 g3 hc hg
    go_wp2_with fail
    go_meet
    exact ⟨t, rfl, HS6, HB6⟩
  case rest =>
    obtain ⟨t, rfl, HS, HB⟩ := hcut
    have r0 := HS.out.c0
    have r1 := HS.out.c1
    have r2 := HS.out.c2
    have r3 := HS.out.c3
    go_wp2
    refine bodyPost_ret (v := .tuple #[.agg #[.int .i64 a, .int .i64 b, .int .i64 c, .int .i64 d], .int .i64 t]) (by simp [results, Try.results24, go_sem, r0, r1, r2, r3]) rfl ?_
    exact ⟨⟨a, b, c, d, t, rfl⟩, HB.out⟩
end Go.Proofs.Ytfncikbmdaameaa
