/- Cones that are drawn: the draws of the statements. -/
import Derived.Test.YtfncikbmdaameaaDrK
namespace Go.Proofs.Ytfncikbmdaameaa
open Go.RowKit
set_option linter.unusedVariables false
set_option linter.unusedSimpArgs false

theorem l2DrawI_any (p hb : Nat) (n m : Int) (w : World) (h : Cur w p hb) (hn : 0 ≤ n ∧ n ≤ 1000) (hm : 0 ≤ m ∧ m ≤ 1000) :
    Calls Try.prog 144 #[curP p, .int .i64 n, .int .i64 m] w fun e w' => ∃ u l, e = .returned u ∧ OwnI w' w.heap.size u l ∧ (l.length : Int) = n ∧ allIn l (-m) m = true ∧ Cur w' p hb ∧ w.grownBy w' (some p) := by
  have h := l2Draw_any p hb n.toNat m.toNat w h (by omega) (by omega)
  rw [show ((n.toNat : Nat) : Int) = n by omega, show ((m.toNat : Nat) : Int) = m by omega] at h
  refine h.mono ?_
  rintro e w' ⟨u, l, he, ho, hl, hr⟩
  exact ⟨u, l, he, ho, by omega, hr⟩
theorem CB.two {w : World} {n m : Nat} {x y : Value} (h : CB w n x y) (hm : m ≠ n) (u v : Value) : CB ((w.setCell ⟨m, 0, none⟩ u).setCell ⟨m, 1, none⟩ v) n x y := (h.other hm u).other hm v

set_option maxRecDepth 100000 in
set_option maxHeartbeats 8000000 in
theorem DrawSplitCone_any (v : Value) (l : List Int) (hb : Nat) (w : World) (h : ISb w hb v l) (hhb : hb ≤ w.heap.size) :
    Calls Try.prog 59 #[v] w fun e w' => (∃ u1 u2 U V, e = .returned (.agg #[u1, u2]) ∧ ISu w' w.heap.size u1 U ∧ ISu w' w.heap.size u2 V) ∧ Below w.heap.size w w' := by
  have HB0 := Lib.hid (below1 w (.cells #[.slice none 0 0, .slice none 0 0] 64))
  have S0 := Lib.hid (CB.new w (.slice none 0 0) (.slice none 0 0))
  have N0 := l1New_any v l hb _ (h.keep HB0.out hhb) (by have := HB0.out.size; omega)
  have hz : (w.alloc (.cells #[.slice none 0 0, .slice none 0 0] 64)).heap.size = w.heap.size + 1 := by simp
  rw [hz] at N0
  unfold curP at *
  go_enter Try.func59, Try.ntmps59
  go_wp2_with fail
  refine N0.mono ?_
  rintro e w1 ⟨rfl, hc, hbel, hsz⟩
  have S1 := Lib.hid ((hbel.block w.heap.size (by omega)).trans S0.out)
  have HB1 := Lib.hid (below_then HB0.out (by rw [hz]; omega) (hbel.mono (by rw [hz]; exact Nat.le_refl _)))
  have DD := l9Bent_any _ hb w1 hc
  have HZ1 := Lib.hid hsz
  have hs1 : w.heap.size < w1.heap.size := by omega
  have hs11 : w.heap.size + 1 < w1.heap.size := by omega
  have hs10 : w.heap.size + 1 ≤ w1.heap.size := by omega
  clear hc hbel hsz N0 HB0 S0 hz h
  unfold curP at DD
  go_wp2_with fail
  refine DD.mono ?_
  clear DD
  rintro e w2 ⟨u1, u2, U, V, rfl, i1, i2, hc, hg⟩
  have S2 := Lib.hid (CB.cur S1.out hg (by omega))
  have HB2 := Lib.hid (HB1.out.trans (grown_below hg HB1.out.size (by omega)))
  obtain ⟨a1, c1, rfl⟩ := i1.form
  obtain ⟨a2, c2, rfl⟩ := i2.form
  have z0 := S2.out.c0
  have z1 := S2.out.c1
  have g0 := S2.out.fr 0
  have g1 := S2.out.fr 1
  have r0 := World.cell?_setCell_same w2 ⟨w.heap.size, 0, none⟩ (.slice a1 U.length c1) z0
  have SF := (S2.out.set0 (.slice a1 U.length c1)).set1 (.slice a2 V.length c2)
  have r1 := SF.c1
  have HA := Lib.hid ((i1.setN (n := w.heap.size) (i := 0) hs1 (.slice a1 U.length c1)).setN (n := w.heap.size) (i := 1) hs1 (.slice a2 V.length c2))
  have HBB := Lib.hid ((i2.setN (n := w.heap.size) (i := 0) hs1 (.slice a1 U.length c1)).setN (n := w.heap.size) (i := 1) hs1 (.slice a2 V.length c2))
  clear SF hc hg HB1 S1 i1 i2
  go_wp2
  refine bodyPost_ret (v := .agg #[.slice a1 U.length c1, .slice a2 V.length c2]) (by simp [results, Try.results59, go_sem, r0, r1]) rfl ?_
  exact ⟨⟨_, _, U, V, rfl, HA.out.lo (Nat.le_of_lt hs1), HBB.out.lo (Nat.le_of_lt hs1)⟩, HB2.out.trans (below_set2 w2 w.heap.size (.slice a1 U.length c1) (.slice a2 V.length c2))⟩

set_option maxRecDepth 100000 in
set_option maxHeartbeats 8000000 in
theorem DrawConeOfTurns_any (v : Value) (l : List Int) (hb : Nat) (w : World) (h : ISb w hb v l) (hhb : hb ≤ w.heap.size) :
    Calls Try.prog 63 #[v] w fun e w' => (∃ u t, e = .returned u ∧ IS w' w.heap.size w'.heap.size u t) ∧ Below w.heap.size w w' := by
  have N0 := l1New_any v l hb w h hhb
  unfold curP at N0
  go_enter Try.func63, Try.ntmps63
  go_wp2_with fail
  refine N0.mono ?_
  rintro e w0 ⟨rfl, hc, hbel, hsz⟩
  have hp0 := hc.lt
  have cA := below1 w0 (.cells #[] 3)
  have HC0 := Lib.hid (hc.below cA hp0)
  have HG0 := Lib.hid (grown_alloc (World.grownBy.refl w0 (some w.heap.size)) (.cells #[] 3))
  have HO0 := Lib.hid (OwnI.lit0 w0 w0.heap.size (Nat.le_refl _))
  have HB := Lib.hid hbel
  have HZ := Lib.hid hsz
  clear hc hbel hsz N0 h cA
  have BB := l1Below_any w.heap.size hb 5 _ HC0.out (by omega) (by omega)
  unfold curP at BB
  go_wp2_with fail
  refine BB.mono ?_
  clear BB
  rintro e w1 ⟨n', rfl, hn0, hn1, hc, hg⟩
  obtain ⟨n, rfl⟩ : ∃ n : Nat, n' = n := ⟨n'.toNat, by omega⟩
  have HC1 := Lib.hid hc
  have HG1 := Lib.hid (grown_trans HG0.out hg)
  have HO1 := Lib.hid (HO0.out.cur hg hp0)
  clear hc hg HC0 HG0 HO0
  go_wp2_with fail
  go_loopw [4, 6] (fun s i wr => ∃ (k : Nat) (acc : List Int), k ≤ n ∧ i = .int .i64 k ∧ acc.length ≤ k ∧ Hid (OwnI wr w0.heap.size s acc) ∧ Hid (Cur wr w.heap.size hb) ∧ Hid (w0.grownBy wr (some w.heap.size))) (fun _ i _ => n - (intOf i).toNat)
  case atStart => exact ⟨0, [], by omega, rfl, Nat.le_refl _, HO1, HC1, HG1⟩
  case round =>
    clear HO1 HC1 HG1
    obtain ⟨k, acc, hk, rfl, hal, HO, HC, HG⟩ := hrel
    by_cases hlt : k < n
    · have hkn : decide ((k : Int) < (n : Int)) = true := by simpa using hlt
      go_wp2_with fail
      have BB := pick_lit w.heap.size hb [2, 2, 3, 2, 4, 1, 31] wr HC.out (by simp) (by simp)
      unfold curP at BB
      refine BB.mono ?_
      clear BB
      rintro e w3 ⟨z, rfl, hz, hc, hg⟩
      have HO3 := Lib.hid (HO.out.cur hg hp0)
      have HC3 := Lib.hid hc
      have HG3 := Lib.hid (grown_trans HG.out hg)
      clear hc hg HC HG HO hz
      have hsz := HG3.out.size
      go_wp2_with (at_builtin; refine wpList_append_I rfl _ _ rfl rfl rfl (HO3.out.kept (below1 w3 (.cells #[.int .i64 z] 3))) (IS.lit w3 [z] (by simp)).read (by simp; omega) (by simp; omega) ?_)
      intro a cap w4 ho4 hg4
      have hd := draw_push HC3.out HG3.out HO3.out hp0 hg4
      have HC4 := Lib.hid hd.1
      have HG4 := Lib.hid hd.2
      have HO4 := Lib.hid ho4
      clear hd hg4 ho4 HC3 HG3 HO3 hsz
      go_wp2
      go_roundw
      case rel => exact ⟨k + 1, acc ++ [z], by omega, by go_num, by simp; omega, HO4, HC4, HG4⟩
      case measure => simp [intOf]; omega
    · obtain rfl : k = n := by omega
      go_wp2
      go_ret
      exact ⟨⟨_, acc, rfl, HO.out.is.mono (by have := HZ.out; omega) (Nat.le_refl _)⟩, Below.trans HB.out (grown_below HG.out (by have := HZ.out; omega) (Nat.le_refl _))⟩

set_option maxRecDepth 100000 in
set_option maxHeartbeats 8000000 in
theorem DrawInCone_any (v : Value) (l : List Int) (hb : Nat) (w : World) (h : ISb w hb v l) (hhb : hb ≤ w.heap.size) :
    Calls Try.prog 62 #[v] w fun e w' => (∃ u1 u2 u3 U V X, e = .returned (.tuple #[.agg #[u1, u2], u3]) ∧ ISu w' w.heap.size u1 U ∧ ISu w' w.heap.size u2 V ∧ ISu w' w.heap.size u3 X ∧ X.length ≤ 3 ∧ allIn X (-9) 9 = true) ∧ Below w.heap.size w w' := by
  have HB0 := Lib.hid (below1 w (.cells #[.slice none 0 0, .slice none 0 0] 64))
  have S0 := Lib.hid (CB.new w (.slice none 0 0) (.slice none 0 0))
  have N0 := l1New_any v l hb _ (h.keep HB0.out hhb) (by have := HB0.out.size; omega)
  have hz : (w.alloc (.cells #[.slice none 0 0, .slice none 0 0] 64)).heap.size = w.heap.size + 1 := by simp
  rw [hz] at N0
  unfold curP at *
  go_enter Try.func62, Try.ntmps62
  go_wp2_with fail
  refine N0.mono ?_
  rintro e w1 ⟨rfl, hc, hbel, hsz⟩
  have S1 := Lib.hid ((hbel.block w.heap.size (by omega)).trans S0.out)
  have HB1 := Lib.hid (below_then HB0.out (by rw [hz]; omega) (hbel.mono (by rw [hz]; exact Nat.le_refl _)))
  have DD := l9Bent_any _ hb w1 hc
  have HZ1 := Lib.hid hsz
  have hs1 : w.heap.size < w1.heap.size := by omega
  have hs11 : w.heap.size + 1 < w1.heap.size := by omega
  have hs10 : w.heap.size + 1 ≤ w1.heap.size := by omega
  clear hc hbel hsz N0 HB0 S0 hz h
  unfold curP at DD
  go_wp2_with fail
  refine DD.mono ?_
  clear DD
  rintro e w2 ⟨u1, u2, U, V, rfl, i1, i2, hc, hg⟩
  have S2 := Lib.hid (CB.cur S1.out hg (by omega))
  have HB2 := Lib.hid (HB1.out.trans (grown_below hg HB1.out.size (by omega)))
  obtain ⟨a1, c1, rfl⟩ := i1.form
  obtain ⟨a2, c2, rfl⟩ := i2.form
  have cA := below1 w2 (.cells #[.slice a1 U.length c1, .slice a2 V.length c2] 64)
  have HC3 := hc.below cA hc.lt
  have T3 := CB.new w2 (.slice a1 U.length c1) (.slice a2 V.length c2)
  have S3 := S2.out.below cA
  have hn5 : w2.heap.size ≠ w.heap.size + 1 := by have := hc.lt; omega
  have hn6 : w.heap.size ≠ w2.heap.size := by have := hc.lt; omega
  have hn7 : w.heap.size ≠ w.heap.size + 1 := by omega
  have hwz : w.heap.size ≤ w2.heap.size := HB2.out.size
  have HB3 := Lib.hid (HB2.out.trans (cA.mono hwz))
  have I3 := i1.upb cA
  have J3 := i2.upb cA
  clear hc hg HB1 S1 S2 HB2 i1 i2 cA
  go_upto_region 3 with fail
  have hs3 : w2.heap.size < (w2.alloc (.cells #[.slice a1 U.length c1, .slice a2 V.length c2] 64)).heap.size := by simp
  have hs13 : w.heap.size + 2 ≤ w2.heap.size := by omega
  generalize w2.alloc (.cells #[.slice a1 U.length c1, .slice a2 V.length c2] 64) = w3 at *
  generalize w2.heap.size = n5 at *
  go_cut [3] (fun s wx => ∃ X, Hid (ISu wx (w.heap.size + 1) s X) ∧ Hid (X.length ≤ 3 ∧ allIn X (-9) 9 = true) ∧ Hid (ISu wx (w.heap.size + 1) (.slice a1 U.length c1) U) ∧ Hid (ISu wx (w.heap.size + 1) (.slice a2 V.length c2) V) ∧ Hid (CB wx w.heap.size (.slice a1 U.length c1) (.slice a2 V.length c2)) ∧ Hid (Below w.heap.size w wx))
  case first =>
    have k0 := T3.c0
    have k1 := T3.c1
    have OA := Lib.hid (l1Once_any (w.heap.size + 1) hb 14 w3.drew (HC3.below (below_draws w3.heap.size w3 1) HC3.lt) (by omega) (by omega))
    have OB := OA.out
    unfold curP at OB
    go_region_held3 (fun w' => w'.cell? ⟨n5, 0, none⟩ = some (.slice a1 U.length c1) ∧ w'.cell? ⟨n5, 1, none⟩ = some (.slice a2 V.length c2))
      (first | go_keep | exact ⟨TT.c0, TT.c1⟩ | exact ⟨(TT.two hn6 _ _).c0, (TT.two hn6 _ _).c1⟩)
      (first
        | (go_at_call 127; (with_reducible refine OB.mono ?_); rintro e w5 ⟨bb, rfl, hc5, hg5⟩; obtain ⟨nb, hnb1, hnb2⟩ : ∃ nb : Int, bitI bb = nb ∧ (0 ≤ nb ∧ nb ≤ 1) := ⟨bitI bb, rfl, by unfold bitI; split <;> omega⟩; have S5 := CB.cur (w := w3.drew) S3 hg5 hn7; have TT := CB.cur (w := w3.drew) T3 hg5 hn5; have I5 := ISu.cur (w := w3.drew) I3 hg5 (by omega); have J5 := ISu.cur (w := w3.drew) J3 hg5 (by omega); have z5 := hg5.size; have hg5' := grown_trans (grown_draws (World.grownBy.refl w3 (some (w.heap.size + 1))) 1) hg5)
        | (go_at_call 112; have LB := l1Bit_any bb w5; rw [hnb1] at LB; (with_reducible refine LB.mono ?_); rintro e w6 ⟨rfl, rfl⟩; have hw2 := wr64 (2 + nb) (by omega))
        | (go_at_call 144; have LD := l2DrawI_any (w.heap.size + 1) hb (2 + nb) 9 w5 hc5 (by omega) (by omega); unfold curP at LD; (with_reducible refine LD.mono ?_); rintro e w7 ⟨u7, l7, rfl, ho7, hl7, ha7, hc7, hg7⟩; have TT := TT.cur hg7 hn5; have S7 := S5.cur hg7 hn7; have z0 := S7.c0; have z1 := S7.c1; have g0 := S7.fr 0; have g1 := S7.fr 1))
    have z7 := hg7.size
    have z53 : n5 < w5.heap.size := Nat.lt_of_lt_of_le hs3 z5
    have HI7 := Lib.hid (((I5.cur hg7 hs11).setN (n := w.heap.size) (i := 0) hs1 (.slice a1 U.length c1)).setN (n := w.heap.size) (i := 1) hs1 (.slice a2 V.length c2))
    have HJ7 := Lib.hid (((J5.cur hg7 hs11).setN (n := w.heap.size) (i := 0) hs1 (.slice a1 U.length c1)).setN (n := w.heap.size) (i := 1) hs1 (.slice a2 V.length c2))
    have HX7 := Lib.hid (((show ISu w7 w5.heap.size u7 l7 from ho7.is).setN (n := w.heap.size) (i := 0) (by omega) (.slice a1 U.length c1)).setN (n := w.heap.size) (i := 1) (by omega) (.slice a2 V.length c2))
    have HS7 := Lib.hid ((S7.set0 (.slice a1 U.length c1)).set1 (.slice a2 V.length c2))
    have HB7 := Lib.hid ((HB3.out.trans (grown_below (grown_trans hg5' hg7) (by omega) (by omega))).trans (below_set2 w7 w.heap.size (.slice a1 U.length c1) (.slice a2 V.length c2)))
    have HL7 := Lib.hid (show l7.length ≤ 3 ∧ allIn l7 (-9) 9 = true from ⟨by omega, ha7⟩)
    clear hnb1 hw2 hl7 ha7 hc7 hg7 hg5 hg5' hc5 I5 J5 S5 TT S7 z0 z1 g0 g1 ho7 LD LB OA OB k0 k1 I3 J3 S3 T3 HC3 HB3
    go_wp2_with fail
    go_meet
    exact ⟨l7, HX7.out.lo (by omega), HL7, HI7.out.lo hs10, HJ7.out.lo hs10, HS7, HB7⟩
  case rest =>
    obtain ⟨X, HX, HL, HU, HV, HS, HB⟩ := hcut
    obtain ⟨a3, c3, rfl⟩ := HX.out.form
    have r0 := HS.out.c0
    have r1 := HS.out.c1
    go_wp2
    refine bodyPost_ret (v := .tuple #[.agg #[.slice a1 U.length c1, .slice a2 V.length c2], .slice a3 X.length c3]) (by simp [results, Try.results62, go_sem, r0, r1]) rfl ?_
    exact ⟨⟨_, _, _, U, V, X, rfl, HU.out.lo (Nat.le_succ _), HV.out.lo (Nat.le_succ _), HX.out.lo (Nat.le_succ _), HL.out.1, HL.out.2⟩, HB.out⟩

set_option maxRecDepth 100000 in
set_option maxHeartbeats 8000000 in
theorem DrawSeriesOfCone_any (v : Value) (l : List Int) (hb : Nat) (w : World) (h : ISb w hb v l) (hhb : hb ≤ w.heap.size) :
    Calls Try.prog 95 #[v] w fun e w' => (∃ u1 u2 u3 U V X, e = .returned (.tuple #[.agg #[u1, u2], u3]) ∧ ISu w' w.heap.size u1 U ∧ ISu w' w.heap.size u2 V ∧ ISu w' w.heap.size u3 X ∧ X.length ≤ 3 ∧ allIn X (-5) 5 = true) ∧ Below w.heap.size w w' := by
  have HB0 := Lib.hid (below1 w (.cells #[.slice none 0 0, .slice none 0 0] 64))
  have S0 := Lib.hid (CB.new w (.slice none 0 0) (.slice none 0 0))
  have N0 := l1New_any v l hb _ (h.keep HB0.out hhb) (by have := HB0.out.size; omega)
  have hz : (w.alloc (.cells #[.slice none 0 0, .slice none 0 0] 64)).heap.size = w.heap.size + 1 := by simp
  rw [hz] at N0
  unfold curP at *
  go_enter Try.func95, Try.ntmps95
  go_wp2_with fail
  refine N0.mono ?_
  rintro e w1 ⟨rfl, hc, hbel, hsz⟩
  have S1 := Lib.hid ((hbel.block w.heap.size (by omega)).trans S0.out)
  have HB1 := Lib.hid (below_then HB0.out (by rw [hz]; omega) (hbel.mono (by rw [hz]; exact Nat.le_refl _)))
  have DD := l9Bent_any _ hb w1 hc
  have HZ1 := Lib.hid hsz
  have hs1 : w.heap.size < w1.heap.size := by omega
  have hs11 : w.heap.size + 1 < w1.heap.size := by omega
  have hs10 : w.heap.size + 1 ≤ w1.heap.size := by omega
  clear hc hbel hsz N0 HB0 S0 hz h
  unfold curP at DD
  go_wp2_with fail
  refine DD.mono ?_
  clear DD
  rintro e w2 ⟨u1, u2, U, V, rfl, i1, i2, hc, hg⟩
  have S2 := Lib.hid (CB.cur S1.out hg (by omega))
  have HB2 := Lib.hid (HB1.out.trans (grown_below hg HB1.out.size (by omega)))
  obtain ⟨a1, c1, rfl⟩ := i1.form
  obtain ⟨a2, c2, rfl⟩ := i2.form
  have cA := below1 w2 (.cells #[.slice a1 U.length c1, .slice a2 V.length c2] 64)
  have HC3 := hc.below cA hc.lt
  have T3 := CB.new w2 (.slice a1 U.length c1) (.slice a2 V.length c2)
  have S3 := S2.out.below cA
  have hn5 : w2.heap.size ≠ w.heap.size + 1 := by have := hc.lt; omega
  have hn6 : w.heap.size ≠ w2.heap.size := by have := hc.lt; omega
  have hn7 : w.heap.size ≠ w.heap.size + 1 := by omega
  have hwz : w.heap.size ≤ w2.heap.size := HB2.out.size
  have HB3 := Lib.hid (HB2.out.trans (cA.mono hwz))
  have I3 := i1.upb cA
  have J3 := i2.upb cA
  clear hc hg HB1 S1 S2 HB2 i1 i2 cA
  go_upto_region 3 with fail
  have hs3 : w2.heap.size < (w2.alloc (.cells #[.slice a1 U.length c1, .slice a2 V.length c2] 64)).heap.size := by simp
  have hs13 : w.heap.size + 2 ≤ w2.heap.size := by omega
  generalize w2.alloc (.cells #[.slice a1 U.length c1, .slice a2 V.length c2] 64) = w3 at *
  generalize w2.heap.size = n5 at *
  go_cut [3] (fun s wx => ∃ X, Hid (ISu wx (w.heap.size + 1) s X) ∧ Hid (X.length ≤ 3 ∧ allIn X (-5) 5 = true) ∧ Hid (ISu wx (w.heap.size + 1) (.slice a1 U.length c1) U) ∧ Hid (ISu wx (w.heap.size + 1) (.slice a2 V.length c2) V) ∧ Hid (CB wx w.heap.size (.slice a1 U.length c1) (.slice a2 V.length c2)) ∧ Hid (Below w.heap.size w wx))
  case first =>
    have k0 := T3.c0
    have k1 := T3.c1
    have OA := Lib.hid (l1Once_any (w.heap.size + 1) hb 14 w3.drew (HC3.below (below_draws w3.heap.size w3 1) HC3.lt) (by omega) (by omega))
    have OB := OA.out
    unfold curP at OB
    go_region_held3 (fun w' => w'.cell? ⟨n5, 0, none⟩ = some (.slice a1 U.length c1) ∧ w'.cell? ⟨n5, 1, none⟩ = some (.slice a2 V.length c2))
      (first | go_keep | exact ⟨TT.c0, TT.c1⟩ | exact ⟨(TT.two hn6 _ _).c0, (TT.two hn6 _ _).c1⟩)
      (first
        | (go_at_call 127; (with_reducible refine OB.mono ?_); rintro e w5 ⟨bb, rfl, hc5, hg5⟩; obtain ⟨nb, hnb1, hnb2⟩ : ∃ nb : Int, bitI bb = nb ∧ (0 ≤ nb ∧ nb ≤ 1) := ⟨bitI bb, rfl, by unfold bitI; split <;> omega⟩; have S5 := CB.cur (w := w3.drew) S3 hg5 hn7; have TT := CB.cur (w := w3.drew) T3 hg5 hn5; have I5 := ISu.cur (w := w3.drew) I3 hg5 (by omega); have J5 := ISu.cur (w := w3.drew) J3 hg5 (by omega); have z5 := hg5.size; have hg5' := grown_trans (grown_draws (World.grownBy.refl w3 (some (w.heap.size + 1))) 1) hg5)
        | (go_at_call 112; have LB := l1Bit_any bb w5; rw [hnb1] at LB; (with_reducible refine LB.mono ?_); rintro e w6 ⟨rfl, rfl⟩; have hw2 := wr64 (2 + nb) (by omega))
        | (go_at_call 144; have LD := l2DrawI_any (w.heap.size + 1) hb (2 + nb) 5 w5 hc5 (by omega) (by omega); unfold curP at LD; (with_reducible refine LD.mono ?_); rintro e w7 ⟨u7, l7, rfl, ho7, hl7, ha7, hc7, hg7⟩; have TT := TT.cur hg7 hn5; have S7 := S5.cur hg7 hn7; have z0 := S7.c0; have z1 := S7.c1; have g0 := S7.fr 0; have g1 := S7.fr 1))
    have z7 := hg7.size
    have z53 : n5 < w5.heap.size := Nat.lt_of_lt_of_le hs3 z5
    have HI7 := Lib.hid (((I5.cur hg7 hs11).setN (n := w.heap.size) (i := 0) hs1 (.slice a1 U.length c1)).setN (n := w.heap.size) (i := 1) hs1 (.slice a2 V.length c2))
    have HJ7 := Lib.hid (((J5.cur hg7 hs11).setN (n := w.heap.size) (i := 0) hs1 (.slice a1 U.length c1)).setN (n := w.heap.size) (i := 1) hs1 (.slice a2 V.length c2))
    have HX7 := Lib.hid (((show ISu w7 w5.heap.size u7 l7 from ho7.is).setN (n := w.heap.size) (i := 0) (by omega) (.slice a1 U.length c1)).setN (n := w.heap.size) (i := 1) (by omega) (.slice a2 V.length c2))
    have HS7 := Lib.hid ((S7.set0 (.slice a1 U.length c1)).set1 (.slice a2 V.length c2))
    have HB7 := Lib.hid ((HB3.out.trans (grown_below (grown_trans hg5' hg7) (by omega) (by omega))).trans (below_set2 w7 w.heap.size (.slice a1 U.length c1) (.slice a2 V.length c2)))
    have HL7 := Lib.hid (show l7.length ≤ 3 ∧ allIn l7 (-5) 5 = true from ⟨by omega, ha7⟩)
    clear hnb1 hw2 hl7 ha7 hc7 hg7 hg5 hg5' hc5 I5 J5 S5 TT S7 z0 z1 g0 g1 ho7 LD LB OA OB k0 k1 I3 J3 S3 T3 HC3 HB3
    go_wp2_with fail
    go_meet
    exact ⟨l7, HX7.out.lo (by omega), HL7, HI7.out.lo hs10, HJ7.out.lo hs10, HS7, HB7⟩
  case rest =>
    obtain ⟨X, HX, HL, HU, HV, HS, HB⟩ := hcut
    obtain ⟨a3, c3, rfl⟩ := HX.out.form
    have r0 := HS.out.c0
    have r1 := HS.out.c1
    go_wp2
    refine bodyPost_ret (v := .tuple #[.agg #[.slice a1 U.length c1, .slice a2 V.length c2], .slice a3 X.length c3]) (by simp [results, Try.results95, go_sem, r0, r1]) rfl ?_
    exact ⟨⟨_, _, _, U, V, X, rfl, HU.out.lo (Nat.le_succ _), HV.out.lo (Nat.le_succ _), HX.out.lo (Nat.le_succ _), HL.out.1, HL.out.2⟩, HB.out⟩
end Go.Proofs.Ytfncikbmdaameaa
