/- The draws of the statement on corners. -/
import Derived.Test.YtehhoplenloocaaB13
import Derived.Test.YtehhoplenloocaaDrN
import Derived.Test.YtehhoplenloocaaB14
namespace Go.Proofs.Ytehhoplenloocaa
open Go Go.RowKit
set_option linter.unusedVariables false
set_option linter.unusedSimpArgs false

theorem polV_len (ls : List (List Int)) : (polV ls).length ≤ 10201 := by
  unfold polV
  split
  · rename_i h
    rw [Bool.and_eq_true] at h
    obtain ⟨h3, h12, hf⟩ := isPoly_parts h.1
    have hx := ext_bd h3 hf ls.length (Nat.le_refl _)
    have hc := col7_len ls (loF ls ls.length) (hiF ls ls.length - loF ls ls.length + 1).toNat (laF ls ls.length - fiF ls + 1).toNat
    have hfi : -50 ≤ fiF ls := by
      obtain ⟨l, a⟩ := flat_at hf (k := 0) (by omega)
      have := allIn_at a 0 (by omega)
      unfold fiF; omega
    have hm := Nat.mul_le_mul (show (laF ls ls.length - fiF ls + 1).toNat ≤ 101 by omega) (show (hiF ls ls.length - loF ls ls.length + 1).toNat ≤ 101 by omega)
    unfold polL
    omega
  · simp
set_option maxRecDepth 100000 in
set_option maxHeartbeats 1000000 in
theorem l11Two_any (p hb : Nat) (w : World) (h : Cur w p hb) :
    Calls Try.prog 111 #[curP p] w fun e w' => ∃ s u, e = .returned (.tuple #[.int .i64 s, .int .i64 u]) ∧ (-1 ≤ s ∧ s ≤ 10007) ∧ (2 ≤ u ∧ u ≤ 9001) ∧ Cur w' p hb ∧ w.grownBy w' (some p) := by
  have BB := l1Below_any p hb 9000 w h (by omega) (by omega)
  unfold curP at *
  clear h
  go_enter Try.func111, Try.ntmps111
  go_wp2_with fail
  refine BB.mono ?_
  clear BB
  rintro e w1 ⟨x, rfl, hx0, hx1, hc1, hg1⟩
  have BB := l1Once_any p hb 14 w1 hc1 (by omega) (by omega)
  unfold curP at BB
  have HG1 := Lib.hid hg1
  clear hc1 hg1
  go_wp2_with fail
  refine BB.mono ?_
  clear BB
  rintro e w2 ⟨b, rfl, hc2, hg2⟩
  have HC2 := Lib.hid hc2
  have HG2 := Lib.hid (grown_trans HG1.out hg2)
  clear hc2 hg2 HG1
  cases b
  · have BB := l1Below_any p hb 9000 w2 HC2.out (by omega) (by omega)
    unfold curP at BB
    go_wp2_with fail
    refine BB.mono ?_
    clear BB
    rintro e w3 ⟨y, rfl, hy0, hy1, hc3, hg3⟩
    have HC3 := Lib.hid hc3
    have HG3 := Lib.hid (grown_trans HG2.out hg3)
    clear hc3 hg3 HG2 HC2
    go_wp2
    go_ret2
    exact ⟨_, _, rfl, by omega, by omega, HC3.out, HG3.out⟩
  · have BB := pick_lit p hb [0, 10007, 1, -1] w2 HC2.out (by simp) (by simp)
    unfold curP at BB
    go_wp2_with fail
    refine BB.mono ?_
    clear BB
    rintro e w3 ⟨z, rfl, hz, hc3, hg3⟩
    have hz2 : -1 ≤ z ∧ z ≤ 10007 := by
      simp only [List.mem_cons, List.not_mem_nil, or_false] at hz
      omega
    have HC3 := Lib.hid hc3
    have HG3 := Lib.hid (grown_trans HG2.out hg3)
    clear hc3 hg3 HG2 HC2 hz
    have BB := l1Below_any p hb 9000 w3 HC3.out (by omega) (by omega)
    unfold curP at BB
    go_wp2_with fail
    refine BB.mono ?_
    clear BB
    rintro e w4 ⟨y, rfl, hy0, hy1, hc4, hg4⟩
    have HC4 := Lib.hid hc4
    have HG4 := Lib.hid (grown_trans HG3.out hg4)
    clear hc4 hg4 HG3 HC3
    go_wp2
    go_ret2
    exact ⟨_, _, rfl, by omega, by omega, HC4.out, HG4.out⟩
set_option maxRecDepth 100000 in
set_option maxHeartbeats 1000000 in
theorem DrawPowerMod_any (v : Value) (l : List Int) (hb : Nat) (w : World) (h : ISb w hb v l) (hhb : hb ≤ w.heap.size) :
    Calls Try.prog 56 #[v] w fun e w' => (∃ s t, e = .returned (.tuple #[.int .i64 s, .int .i64 t]) ∧ (0 ≤ s ∧ s ≤ 10007) ∧ (-1000000 ≤ t ∧ t ≤ 1000001)) ∧ Below w.heap.size w w' := by
  have N0 := l1New_any v l hb w h hhb
  unfold curP at N0
  go_enter Try.func56, Try.ntmps56
  go_wp2_with fail
  refine N0.mono ?_
  rintro e w0 ⟨rfl, hc, hbel, hsz⟩
  have HB := Lib.hid hbel
  have hlo : w.heap.size ≤ w0.heap.size := hbel.size
  have BB := pick_lit w.heap.size hb [1, 2, 3, 5, 10006, 0, 10007, 77] w0 hc (by simp) (by simp)
  unfold curP at BB
  clear hc hbel hsz N0 h
  go_wp2_with fail
  refine BB.mono ?_
  clear BB
  rintro e w1 ⟨s, rfl, hs, hc, hg⟩
  have hs2 : 0 ≤ s ∧ s ≤ 10007 := by
    simp only [List.mem_cons, List.not_mem_nil, or_false] at hs
    omega
  have HB1 := Lib.hid (HB.out.trans (grown_below hg hlo (Nat.le_refl _)))
  have hlo1 : w.heap.size ≤ w1.heap.size := HB1.out.size
  have BB := pick_lit w.heap.size hb [0, 1, -1, 5, -7, 10006, 1000000, 1000001, -1000000] w1 hc (by simp) (by simp)
  unfold curP at BB
  clear hc hg HB hs
  go_wp2_with fail
  refine BB.mono ?_
  clear BB
  rintro e w2 ⟨t, rfl, ht, hc, hg⟩
  have ht2 : -1000000 ≤ t ∧ t ≤ 1000001 := by
    simp only [List.mem_cons, List.not_mem_nil, or_false] at ht
    omega
  have HB2 := Lib.hid (HB1.out.trans (grown_below hg hlo1 (Nat.le_refl _)))
  clear ht hc hg HB1
  go_wp2
  go_ret2
  exact ⟨⟨_, _, rfl, by omega, by omega⟩, HB2.out⟩
set_option maxRecDepth 100000 in
set_option maxHeartbeats 1000000 in
theorem DrawCornerTerms_any (v : Value) (l : List Int) (hb : Nat) (w : World) (h : ISb w hb v l) (hhb : hb ≤ w.heap.size) :
    Calls Try.prog 41 #[v] w fun e w' => (∃ u M, e = .returned u ∧ RQ w' w.heap.size u M) ∧ Below w.heap.size w w' := by
  have N0 := l1New_any v l hb w h hhb
  unfold curP at N0
  go_enter Try.func41, Try.ntmps41
  go_wp2_with fail
  refine N0.mono ?_
  rintro e w0 ⟨rfl, hc, hbel, hsz⟩
  have HB := Lib.hid hbel
  have hlo : w.heap.size ≤ w0.heap.size := hbel.size
  have BB := l7Bent_any w.heap.size hb w0 hc
  unfold curP at BB
  clear hc hbel hsz N0 h
  go_wp2_with fail
  refine BB.mono ?_
  clear BB
  rintro e w1 ⟨u, ls, rfl, hr, hc, hg⟩
  go_wp2
  go_ret
  exact ⟨⟨_, ls, rfl, hr.lower hlo⟩, HB.out.trans (grown_below hg hlo (Nat.le_refl _))⟩
set_option maxRecDepth 100000 in
set_option maxHeartbeats 1000000 in
theorem DrawCornerCone_any (v : Value) (l : List Int) (hb : Nat) (w : World) (h : ISb w hb v l) (hhb : hb ≤ w.heap.size) :
    Calls Try.prog 53 #[v] w fun e w' => (∃ u t M, e = .returned (.tuple #[u, .int .i64 t]) ∧ RQ w' w.heap.size u M ∧ -1 ≤ t ∧ t ≤ 5) ∧ Below w.heap.size w w' := by
  have N0 := l1New_any v l hb w h hhb
  unfold curP at N0
  go_enter Try.func53, Try.ntmps53
  go_wp2_with fail
  refine N0.mono ?_
  rintro e w0 ⟨rfl, hc, hbel, hsz⟩
  have HB := Lib.hid hbel
  have hp0 := hc.lt
  have hlo : w.heap.size ≤ w0.heap.size := hbel.size
  have BB := l7Bent_any w.heap.size hb w0 hc
  unfold curP at BB
  clear hc hbel hsz N0 h
  go_wp2_with fail
  refine BB.mono ?_
  clear BB
  rintro e w1 ⟨u, ls, rfl, hr, hc, hg⟩
  have HR := Lib.hid hr
  have HB1 := Lib.hid (HB.out.trans (grown_below hg hlo (Nat.le_refl _)))
  have hlo1 : w.heap.size ≤ w1.heap.size := HB1.out.size
  have BB := l1Below_any w.heap.size hb 7 w1 hc (by omega) (by omega)
  unfold curP at BB
  clear hr hc hg HB
  go_wp2_with fail
  refine BB.mono ?_
  clear BB
  rintro e w2 ⟨t, rfl, ht0, ht1, hc, hg⟩
  have HR2 := Lib.hid ((HR.out.cur hg hp0).lower hlo)
  have HB2 := Lib.hid (HB1.out.trans (grown_below hg hlo1 (Nat.le_refl _)))
  clear hc hg HR HB1
  go_wp2
  refine bodyPost_ret (v := .tuple #[u, .int .i64 (t - 1)]) (by simp [results, Try.results53, go_sem]) rfl ?_
  exact ⟨⟨_, t - 1, ls, rfl, HR2.out, by omega, by omega⟩, HB2.out⟩
set_option maxRecDepth 100000 in
set_option maxHeartbeats 2000000 in
theorem DrawTermValue_any (v : Value) (l : List Int) (hb : Nat) (w : World) (h : ISb w hb v l) (hhb : hb ≤ w.heap.size) :
    Calls Try.prog 44 #[v] w fun e w' => (∃ s u1 u2 x y U G, e = .returned (.tuple #[.agg #[.int .i64 s, u1, u2], .int .i64 x, .int .i64 y]) ∧ (-1 ≤ s ∧ s ≤ 2) ∧ (-1 ≤ x ∧ x ≤ 10007) ∧ (2 ≤ y ∧ y ≤ 9001) ∧ ISr w' w'.heap.size u1 U ∧ ISSr w' w'.heap.size u2 G) ∧ Below w.heap.size w w' := by
  have HB0 := Lib.hid (below1 w (.cells #[.int .i64 0, .slice none 0 0, .slice none 0 0] 50))
  have S0 := Lib.hid (TB.new w 0 (.slice none 0 0) (.slice none 0 0))
  have N0 := l1New_any v l hb _ (h.keep HB0.out hhb) (by have := HB0.out.size; omega)
  have hz : (w.alloc (.cells #[.int .i64 0, .slice none 0 0, .slice none 0 0] 50)).heap.size = w.heap.size + 1 := by simp
  rw [hz] at N0
  unfold curP at *
  go_enter Try.func44, Try.ntmps44
  go_wp2_with fail
  refine N0.mono ?_
  rintro e w1 ⟨rfl, hc, hbel, hsz⟩
  have S1 := Lib.hid ((hbel.block w.heap.size (by omega)).trans S0.out)
  have HB1 := Lib.hid (below_then HB0.out (by rw [hz]; omega) (hbel.mono (by rw [hz]; exact Nat.le_refl _)))
  have DD := l10Term_any _ hb w1 hc
  have hs1 : w.heap.size + 1 < w1.heap.size := by omega
  clear hc hbel hsz N0 HB0 S0 hz h
  unfold curP at DD
  go_wp2_with fail
  refine DD.mono ?_
  clear DD
  rintro e w2 ⟨s, u1, u2, U, G, rfl, hsb, -, ⟨m, hm1, hm2, i1, i2⟩, hc, hg⟩
  have S2 := Lib.hid (TB.cur S1.out hg (by omega))
  have HB2 := Lib.hid (HB1.out.trans (grown_below hg HB1.out.size (by omega)))
  obtain ⟨a1, c1, rfl, -⟩ := id i1
  obtain ⟨a2, c2, rfl, -⟩ := id i2
  have cA := below1 w2 (.cells #[.int .i64 s, .slice a1 U.length c1, .slice a2 G.length c2] 50)
  have HC3 := Lib.hid (hc.below cA hc.lt)
  have X3 := Lib.hid (TB.new w2 s (.slice a1 U.length c1) (.slice a2 G.length c2))
  have S3 := Lib.hid (S2.out.below cA)
  have HB3 := Lib.hid (HB2.out.trans (cA.mono HB2.out.size))
  have I3 := Lib.hid (i1.keep cA hm2)
  have J3 := Lib.hid (i2.keep cA (Nat.le_refl _))
  have hw12 : w1.heap.size ≤ w2.heap.size := hg.size
  have hz3 : (w2.alloc (.cells #[.int .i64 s, .slice a1 U.length c1, .slice a2 G.length c2] 50)).heap.size = w2.heap.size + 1 := by simp
  clear hc hg HB1 S1 S2 HB2 i1 i2 cA
  go_upto_region 3 with fail
  generalize w2.alloc (.cells #[.int .i64 s, .slice a1 U.length c1, .slice a2 G.length c2] 50) = w3 at *
  generalize hn5 : w2.heap.size = n5 at *
  have hpp := hs1
  have hz3' : n5 < w3.heap.size := by omega
  clear hz3 hn5
  have LL := l11Two_any (w.heap.size + 1) hb w3 HC3.out
  unfold curP at LL
  go_wp2_with fail
  refine LL.mono ?_
  clear LL
  rintro e w5 ⟨x, y, rfl, hx, hy, hc5, hg5⟩
  have HT5 := Lib.hid (X3.out.cur hg5 (by omega))
  have HS5 := Lib.hid (S3.out.cur hg5 (by omega))
  have HI5 := Lib.hid (I3.out.cur hg5 (.inl (by omega)))
  have HJ5 := Lib.hid (J3.out.curP hg5 (by omega))
  have HB5 := Lib.hid (HB3.out.trans (grown_below hg5 HB3.out.size (by omega)))
  have z35 := hg5.size
  clear hc5 hg5 X3 S3 I3 J3 HB3 HC3
  have y0 := HT5.out.c0
  have y1 := HT5.out.c1
  have y2 := HT5.out.c2
  have z0 := HS5.out.c0
  have z1 := HS5.out.c1
  have z2 := HS5.out.c2
  have g0 := HS5.out.fr 0
  have g1 := HS5.out.fr 1
  have g2 := HS5.out.fr 2
  have r0 := World.cell?_setCell_same w5 ⟨w.heap.size, 0, none⟩ (.int .i64 s) z0
  have SF := HS5.out.all s (.slice a1 U.length c1) (.slice a2 G.length c2)
  have r1 := SF.c1
  have r2 := SF.c2
  have hh : (((w5.setCell ⟨w.heap.size, 0, none⟩ (.int .i64 s)).setCell ⟨w.heap.size, 1, none⟩ (.slice a1 U.length c1)).setCell ⟨w.heap.size, 2, none⟩ (.slice a2 G.length c2)).heap.size = w5.heap.size := by simp
  have IA := Lib.hid (show ISr (((w5.setCell ⟨w.heap.size, 0, none⟩ (.int .i64 s)).setCell ⟨w.heap.size, 1, none⟩ (.slice a1 U.length c1)).setCell ⟨w.heap.size, 2, none⟩ (.slice a2 G.length c2)) (((w5.setCell ⟨w.heap.size, 0, none⟩ (.int .i64 s)).setCell ⟨w.heap.size, 1, none⟩ (.slice a1 U.length c1)).setCell ⟨w.heap.size, 2, none⟩ (.slice a2 G.length c2)).heap.size _ _ by rw [hh]; exact ((HI5.out.set3 (n := w.heap.size) (.inl (by omega)) (.int .i64 s) (.slice a1 U.length c1) (.slice a2 G.length c2))).read.upto (by omega))
  have JA := Lib.hid (show ISSr (((w5.setCell ⟨w.heap.size, 0, none⟩ (.int .i64 s)).setCell ⟨w.heap.size, 1, none⟩ (.slice a1 U.length c1)).setCell ⟨w.heap.size, 2, none⟩ (.slice a2 G.length c2)) (((w5.setCell ⟨w.heap.size, 0, none⟩ (.int .i64 s)).setCell ⟨w.heap.size, 1, none⟩ (.slice a1 U.length c1)).setCell ⟨w.heap.size, 2, none⟩ (.slice a2 G.length c2)).heap.size _ _ by rw [hh]; exact ((HJ5.out.set3 (n := w.heap.size) (.inl (by omega)) (.int .i64 s) (.slice a1 U.length c1) (.slice a2 G.length c2))).read.upto (by omega))
  have HF := Lib.hid (HB5.out.trans (below_set3 w5 w.heap.size (.int .i64 s) (.slice a1 U.length c1) (.slice a2 G.length c2)))
  clear SF hh
  go_wp2
  refine bodyPost_ret (v := .tuple #[.agg #[.int .i64 s, .slice a1 U.length c1, .slice a2 G.length c2], .int .i64 x, .int .i64 y]) (by simp [results, Try.results44, go_sem, r0, r1, r2]) rfl ?_
  exact ⟨⟨s, _, _, x, y, U, G, rfl, hsb, hx, hy, IA.out, JA.out⟩, HF.out⟩
set_option maxRecDepth 100000 in
set_option maxHeartbeats 2000000 in
theorem DrawSeriesValue_any (v : Value) (l : List Int) (hb : Nat) (w : World) (h : ISb w hb v l) (hhb : hb ≤ w.heap.size) :
    Calls Try.prog 47 #[v] w fun e w' => (∃ u x y ts, e = .returned (.tuple #[u, .int .i64 x, .int .i64 y]) ∧ (-1 ≤ x ∧ x ≤ 10007) ∧ (2 ≤ y ∧ y ≤ 9001) ∧ TSr w' w'.heap.size u ts) ∧ Below w.heap.size w w' := by
  have D0 := DrawSeriesAt_any v l hb w h hhb
  have HH := Lib.hid h
  clear h
  go_enter Try.func47, Try.ntmps47
  go_wp2_with fail
  refine D0.mono ?_
  clear D0
  rintro e w1 ⟨⟨u, u3, ts, X, rfl, ht, hx⟩, hbel⟩
  have HT := Lib.hid ht
  have HB := Lib.hid hbel
  obtain ⟨a1, c1, rfl, -⟩ := id ht
  have hlo := hbel.size
  have N0 := l1New_any v l hb w1 (HH.out.keep hbel hhb) (by omega)
  unfold curP at N0
  clear ht hbel hx
  go_wp2_with fail
  refine N0.mono ?_
  clear N0
  rintro e w2 ⟨rfl, hc, hbel, hsz⟩
  have HT2 := Lib.hid (HT.out.keep hbel (Nat.le_refl _))
  have HB2 := Lib.hid (HB.out.trans (hbel.mono hlo))
  have LL := l11Two_any w1.heap.size hb w2 hc
  unfold curP at LL
  clear hc hbel HB HT
  go_wp2_with fail
  refine LL.mono ?_
  clear LL
  rintro e w3 ⟨x, y, rfl, hx, hy, hc, hg⟩
  have hg' := grown_below hg (B := w1.heap.size) (by omega) (Nat.le_refl _)
  have z23 := hg.size
  have HT3 := Lib.hid ((HT2.out.keep hg' (Nat.le_refl _)).upto (show w1.heap.size ≤ w3.heap.size by omega))
  have HB3 := Lib.hid (HB2.out.trans (hg'.mono hlo))
  clear hc hg hg' HT2 HB2
  go_wp2
  refine bodyPost_ret (v := .tuple #[.slice a1 ts.length c1, .int .i64 x, .int .i64 y]) (by simp [results, Try.results47, go_sem]) rfl ?_
  exact ⟨⟨_, x, y, ts, rfl, hx, hy, HT3.out⟩, HB3.out⟩
set_option maxRecDepth 100000 in
set_option maxHeartbeats 4000000 in
theorem DrawPointsValue_any (v : Value) (l : List Int) (hb : Nat) (w : World) (h : ISb w hb v l) (hhb : hb ≤ w.heap.size) :
    Calls Try.prog 50 #[v] w fun e w' => (∃ u x y ls, e = .returned (.tuple #[u, .int .i64 x, .int .i64 y]) ∧ (-1 ≤ x ∧ x ≤ 10007) ∧ (2 ≤ y ∧ y ≤ 9001) ∧ ISSr w' w'.heap.size u ls) ∧ Below w.heap.size w w' := by
  obtain ⟨i0, hi0, hz0, hz1, hz2⟩ := info_parts info_ints
  have HI0 := Lib.hid hi0; clear hi0
  have HZ0 := Lib.hid hz0; clear hz0
  have HZ1 := Lib.hid hz1; clear hz1
  have HZ2 := Lib.hid hz2; clear hz2
  have N0 := l1New_any v l hb w h hhb
  unfold curP at N0
  go_enter Try.func50, Try.ntmps50
  go_wp2_with fail
  refine N0.mono ?_
  rintro e w0 ⟨rfl, hc, hbel, hsz⟩
  have HB := Lib.hid hbel
  have hlo : w.heap.size < w0.heap.size := hc.lt
  have BB := l7Draw_any w.heap.size hb 4 w0 hc (by omega)
  unfold curP at BB
  clear hc hbel hsz N0 h
  go_wp2_with fail
  refine BB.mono ?_
  clear BB
  rintro e w1 ⟨u, ls, rfl, ⟨hr, -⟩, hc, hg⟩
  have HG1 := Lib.hid hg
  have z01 := hg.size
  have PP := polygonPoints_own ls u w1.heap.size w1 hr.read (Nat.le_refl _)
  have HC1 := Lib.hid hc
  clear hr hc hg
  go_wp2_with fail
  refine PP.mono ?_
  clear PP
  rintro e w2 ⟨u2, rfl, ho, c2⟩
  have HO2 := Lib.hid ho
  have z12 := c2.size
  have HC2 := Lib.hid (HC1.out.below c2 (by omega))
  have HG2 := Lib.hid (grown_then HG1.out (c2.mono z01))
  have hPL := polV_len ls
  generalize polV ls = P at *
  clear ho c2 HC1 HG1
  have BB := l1Once_any w.heap.size hb 12 w2 HC2.out (by omega) (by omega)
  unfold curP at BB
  go_wp2_with fail
  refine BB.mono ?_
  clear BB
  rintro e w3 ⟨b, rfl, hc, hg⟩
  have HO3 := Lib.hid (HO2.out.cur hg (by omega))
  have HC3 := Lib.hid hc
  have HG3 := Lib.hid (grown_trans HG2.out hg)
  have z23 := hg.size
  clear hc hg HO2 HC2 HG2
  obtain ⟨a3, c3, hform⟩ := HO3.out.form
  subst hform
  cases b
  · have LL := l11Two_any w.heap.size hb w3 HC3.out
    unfold curP at LL
    go_wp2_with fail
    refine LL.mono ?_
    clear LL
    rintro e w7 ⟨x, y, rfl, hx, hy, hc, hg⟩
    have HO7 := Lib.hid ((HO3.out.cur hg (by omega)).is.read)
    have HF := Lib.hid (HB.out.trans (grown_below (grown_trans HG3.out hg) (by omega) (Nat.le_refl _)))
    clear hc hg HO3 HC3 HG3
    go_wp2
    refine bodyPost_ret (v := .tuple #[.slice a3 P.length c3, .int .i64 x, .int .i64 y]) (by simp [results, Try.results50, go_sem]) rfl ?_
    exact ⟨⟨_, x, y, P, rfl, hx, hy, HO7.out⟩, HF.out⟩
  · obtain ⟨V, q, hpt⟩ := HO3.out.part (Below.refl _ w3)
    have HPT := Lib.hid hpt
    clear hpt HO3
    have LD := l2DrawI_any w.heap.size hb 3 2 w3 HC3.out (by omega) (by omega)
    unfold curP at LD
    go_wp2_with fail
    refine LD.mono ?_
    clear LD
    rintro e w4 ⟨u4, R, rfl, ho4, hl4, ha4, hc4, hg4⟩
    have HPT4 := Lib.hid (HPT.out.cur hg4 (by omega))
    have K4 := Lib.hid (show IS w4 w3.heap.size w4.heap.size u4 R from ho4.is)
    obtain ⟨a4, c4, rfl, -⟩ := id K4.out
    have HC4 := Lib.hid hc4
    have HG4 := Lib.hid (grown_trans HG3.out hg4)
    have z34 := hg4.size
    clear ho4 hc4 hg4 HPT HC3 HG3 ha4 hl4
    go_wp2_with (first
      | (at_builtin; refine wpList_append_own _ rfl _ _ 24 rfl w1.heap.size 30 i0 (.slice none 0 0) 1 24 Try.underlying24 HI0.out HZ0.out HZ1.out HZ2.out rfl (by decide) _ _ _ rfl (HPT4.out.alloc _) ⟨w4.heap.size, 0, none⟩ 1 1 [.slice a4 R.length c4] rfl rfl ?c1 ?c2 ?c3 ?c4 ?c5 ?_)
      | fail)
    case c1 => exact cell_one_new w4 (.slice a4 R.length c4) 30
    case c2 => first | rfl | (intro u hu; simp at hu; subst hu; rfl)
    case c3 => unfold maxLen; omega
    case c4 => omega
    case c5 => first | omega | (simp; omega)
    intro v2 w6 hown2 hgrow _
    have HO6 := Lib.hid (HPT4.out.push K4.out (Nat.le_refl _) (by omega) (Nat.le_refl _) hgrow hown2)
    have hB6 : Below w1.heap.size w4 w6 := OwnLp.below (Below.refl w1.heap.size w4) (by omega) _ hgrow HPT4.out (Nat.le_refl _)
    have HC6 := Lib.hid (HC4.out.below hB6 (by omega))
    have HG6 := Lib.hid (grown_then HG4.out (hB6.mono (by omega)))
    have z46 := hB6.size
    clear hown2 hgrow hB6 HPT4 K4 HC4 HG4
    obtain ⟨PP, hPP⟩ : ∃ PP, P ++ [R] = PP := ⟨_, rfl⟩
    rw [hPP] at HO6
    clear hPP
    obtain ⟨a6, c6, hform⟩ := HO6.out.form
    subst hform
    have LL := l11Two_any w.heap.size hb w6 HC6.out
    unfold curP at LL
    go_wp2_with fail
    refine LL.mono ?_
    clear LL
    rintro e w7 ⟨x, y, rfl, hx, hy, hc, hg⟩
    have HO7 := Lib.hid ((HO6.out.cur hg (by omega)).is.read)
    have HF := Lib.hid (HB.out.trans (grown_below (grown_trans HG6.out hg) (by omega) (Nat.le_refl _)))
    clear hc hg HO6 HC6 HG6
    go_wp2
    refine bodyPost_ret (v := .tuple #[.slice a6 PP.length c6, .int .i64 x, .int .i64 y]) (by simp [results, Try.results50, go_sem]) rfl ?_
    exact ⟨⟨_, x, y, PP, rfl, hx, hy, HO7.out⟩, HF.out⟩
end Go.Proofs.Ytehhoplenloocaa
