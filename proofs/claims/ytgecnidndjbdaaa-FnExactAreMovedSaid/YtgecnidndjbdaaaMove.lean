/- Moves as the laws copy, compare and mark them. -/
import Derived.Test.YtgecnidndjbdaaaB2
import Derived.Test.YtgecnidndjbdaaaB1
namespace Go.Proofs.Ytgecnidndjbdaaa
open Go.RowKit
set_option linter.unusedVariables false
set_option linter.unusedSimpArgs false

theorem ISS.setOther {w : World} {lo hi : Nat} {v : Value} {l : List (List Int)} (h : ISS w lo hi v l) {a : Addr} (ha : a.block < lo ∨ hi ≤ a.block) (u : Value) : ISS (w.setCell a u) lo hi v l :=
  h.of_blocks fun b h1 h2 h3 => Below.heap_setCell w a u b (by omega)
set_option maxHeartbeats 2000000 in
theorem toMove_any (U : List (List Int)) (V : List Int) (v1 v2 : Value) (hb : Nat) (w : World) (i1 : ISSr w hb v1 U) (i2 : ISr w hb v2 V) (hhb : hb ≤ w.heap.size) (hl1 : U.length ≤ 1048576) (hl1' : ∀ i, i < U.length → (U.getD i []).length ≤ 1048576) (hl2 : V.length ≤ 1048576) :
    Calls Try.prog 12 #[.agg #[v1, v2]] w fun e w' => ∃ u1 u2, e = .returned (.agg #[u1, u2]) ∧ ISS w' (w.heap.size + 3) (w.heap.size + 3 + 1 + U.length) u1 U ∧ IS w' (w.heap.size + 3 + 1 + U.length) (w.heap.size + 3 + 1 + U.length + 1) u2 V ∧ Below w.heap.size w w' ∧ w'.heap.size = w.heap.size + 3 + 1 + U.length + 1 := by
  obtain ⟨n, hn⟩ : ∃ n, n = w.heap.size := ⟨_, rfl⟩
  have hB0 := below3 w (.cells #[v1, v2] 25) (.cells #[.slice none 0 0, .slice none 0 0] 28) (.cells #[.slice none 0 0, .slice none 0 0] 28)
  have hb1 := ((box2_new w v1 v2 25).keep (below1 _ (.cells #[.slice none 0 0, .slice none 0 0] 28))).keep (below1 _ (.cells #[.slice none 0 0, .slice none 0 0] 28))
  have hb2 := (box2_new (w.alloc (.cells #[v1, v2] 25)) (.slice none 0 0) (.slice none 0 0) 28).keep (below1 _ (.cells #[.slice none 0 0, .slice none 0 0] 28))
  have hb3 := box2_new ((w.alloc (.cells #[v1, v2] 25)).alloc (.cells #[.slice none 0 0, .slice none 0 0] 28)) (.slice none 0 0) (.slice none 0 0) 28
  simp only [World.size_alloc] at hb2 hb3
  have hs : (((w.alloc (.cells #[v1, v2] 25)).alloc (.cells #[.slice none 0 0, .slice none 0 0] 28)).alloc (.cells #[.slice none 0 0, .slice none 0 0] 28)).heap.size = w.heap.size + 3 := by simp
  have hj1 := i1.keep hB0 hhb
  have hj2 := i2.keep hB0 hhb
  have HT := fun w' (h' : ISSr w' hb v1 U) (hh : hb ≤ w'.heap.size) => toIntSS_any U v1 hb w' h' hh hl1 hl1'
  have HT2 := fun w' (h' : ISr w' hb v2 V) (hh : hb ≤ w'.heap.size) => toIntS_any V v2 hb w' h' hh hl2
  have x0 := hb1.c0
  clear i1 i2
  go_enter Try.func12, Try.ntmps12
  go_wp2_with fail
  have H1 := HT _ hj1 (by rw [hs]; omega)
  refine H1.mono ?_
  rintro e w1 ⟨u1, rfl, k1, bel1, sz1⟩
  have B1 := below_then hB0 (by rw [hs]; omega) bel1
  have c2 := hb2.keep bel1
  have c1 := hb1.keep bel1
  have c3 := hb3.keep bel1
  have j2 := hj2.keep bel1 (by rw [hs]; omega)
  rw [hs] at k1 sz1
  clear HT x0 hb1 hb2 hb3 hj1 hj2 H1 bel1 hs hB0
  obtain ⟨a1, cp1, hu1, -⟩ := id k1
  subst hu1
  generalize hv1 : Value.slice a1 U.length cp1 = u1 at *
  have y0 := c3.c0
  have y1 := c3.f0
  have D1 := Lib.hid (c1.other (a := ⟨w.heap.size + 1 + 1, 0, none⟩) (by show w.heap.size + 1 + 1 ≠ w.heap.size; omega) u1)
  have D2 := Lib.hid (c2.other (a := ⟨w.heap.size + 1 + 1, 0, none⟩) (by show w.heap.size + 1 + 1 ≠ w.heap.size + 1; omega) u1)
  have D3 := Lib.hid (c3.set0 u1)
  have K1 := Lib.hid (k1.setOther (a := ⟨w.heap.size + 1 + 1, 0, none⟩) (.inl (by show w.heap.size + 1 + 1 < w.heap.size + 3; omega)) u1)
  have BB := B1.setCell (p := ⟨w.heap.size + 1 + 1, 0, none⟩) (by show w.heap.size ≤ w.heap.size + 1 + 1; omega) u1
  have JJ := Lib.hid (j2.keep ((Below.refl w.heap.size w1).setCell (p := ⟨w.heap.size + 1 + 1, 0, none⟩) (by show w.heap.size ≤ w.heap.size + 1 + 1; omega) u1) hhb)
  have SZ : (w1.setCell ⟨w.heap.size + 1 + 1, 0, none⟩ u1).heap.size = w.heap.size + 3 + 1 + U.length := by simp; exact sz1
  have HSZ := Lib.hid SZ
  have HBB := Lib.hid BB
  clear k1 j2 sz1 SZ BB
  have z1 := D1.out.c1
  subst hv1
  go_wp2_with fail
  clear y0 y1 z1 c1 c2 c3
  generalize w1.setCell ⟨w.heap.size + 1 + 1, 0, none⟩ (.slice a1 U.length cp1) = w2 at *
  have H2 := HT2 w2 JJ.out (by rw [HSZ.out]; omega)
  refine H2.mono ?_
  rintro e w3 ⟨u2, rfl, k2, bel2, sz2⟩
  have K1' := K1.out.keep bel2 (by rw [HSZ.out]; omega)
  have B2 := below_then HBB.out (by rw [HSZ.out]; omega) bel2
  have c2 := D2.out.keep bel2
  have c3 := D3.out.keep bel2
  rw [HSZ.out] at k2 sz2
  clear HT2 H2 D1 D2 D3 K1 JJ HSZ HBB bel2 B1
  obtain ⟨a2, cp2, hu2, -⟩ := id k2
  subst hu2
  generalize hv2 : Value.slice a2 V.length cp2 = u2 at *
  generalize hv1 : Value.slice a1 U.length cp1 = u1 at *
  have y0 := c3.c1
  have y1 := c3.f1
  have y2 := c3.c0
  have D2 := c2.other (a := ⟨w.heap.size + 1 + 1, 1, none⟩) (by show w.heap.size + 1 + 1 ≠ w.heap.size + 1; omega) u2
  have D3 := c3.set1 u2
  have K1 := K1'.setOther (a := ⟨w.heap.size + 1 + 1, 1, none⟩) (.inl (by show w.heap.size + 1 + 1 < w.heap.size + 3; omega)) u2
  have K2 := k2.setOther (a := ⟨w.heap.size + 1 + 1, 1, none⟩) (.inl (by show w.heap.size + 1 + 1 < w.heap.size + 3 + 1 + U.length; omega)) u2
  have BB := B2.setCell (p := ⟨w.heap.size + 1 + 1, 1, none⟩) (by show w.heap.size ≤ w.heap.size + 1 + 1; omega) u2
  have SZ : (w3.setCell ⟨w.heap.size + 1 + 1, 1, none⟩ u2).heap.size = w.heap.size + 3 + 1 + U.length + 1 := by simp; exact sz2
  clear K1' k2 B2 sz2 c2 c3
  obtain ⟨w4, hw4⟩ : ∃ w4, w4 = w3.setCell ⟨w.heap.size + 1 + 1, 1, none⟩ u2 := ⟨_, rfl⟩
  rw [← hw4] at D2 D3 K1 K2 BB SZ
  have q0 := D3.c0
  have q1 := D3.c1
  have r0 := D2.c0
  have r1 := D2.c1
  have s0 := D2.f0
  have s1 := D2.f1
  have E1 := D2.set0 u1
  have E2 := E1.set1 u2
  have L1 := (K1.setOther (a := ⟨w.heap.size + 1, 0, none⟩) (.inl (by show w.heap.size + 1 < w.heap.size + 3; omega)) u1).setOther (a := ⟨w.heap.size + 1, 1, none⟩) (.inl (by show w.heap.size + 1 < w.heap.size + 3; omega)) u2
  have L2 := (K2.setOther (a := ⟨w.heap.size + 1, 0, none⟩) (.inl (by show w.heap.size + 1 < w.heap.size + 3 + 1 + U.length; omega)) u1).setOther (a := ⟨w.heap.size + 1, 1, none⟩) (.inl (by show w.heap.size + 1 < w.heap.size + 3 + 1 + U.length; omega)) u2
  have LB := (BB.setCell (p := ⟨w.heap.size + 1, 0, none⟩) (by show w.heap.size ≤ w.heap.size + 1; omega) u1).setCell (p := ⟨w.heap.size + 1, 1, none⟩) (by show w.heap.size ≤ w.heap.size + 1; omega) u2
  have LS : ((w4.setCell ⟨w.heap.size + 1, 0, none⟩ u1).setCell ⟨w.heap.size + 1, 1, none⟩ u2).heap.size = w.heap.size + 3 + 1 + U.length + 1 := by simp; exact SZ
  have L1 := Lib.hid L1
  have L2 := Lib.hid L2
  have LB := Lib.hid LB
  have LS := Lib.hid LS
  have E1c := E1.c1
  have E1f := E1.f1
  have E2a := E2.c0
  have E2b := E2.c1
  clear K1 K2 BB SZ E1 E2 D2 D3
  subst hv1
  subst hv2
  subst hw4
  go_wp2_with fail
  exact bodyPost_ret (v := .agg #[.slice a1 U.length cp1, .slice a2 V.length cp2]) (by simp [results, Try.results12, go_sem, E2a, E2b]) rfl ⟨_, _, rfl, L1.out, L2.out, LB.out, LS.out⟩
set_option maxHeartbeats 1000000 in
theorem szMove_any (U : List (List Int)) (V : List Int) (v1 v2 : Value) (hb : Nat) (w : World) (i1 : ISSr w hb v1 U) (i2 : ISr w hb v2 V) (hhb : hb ≤ w.heap.size) :
    Calls Try.prog 10 #[.agg #[v1, v2], .int .i64 1048576] w fun e w' => e = .returned (.int .i64 (szTot (totS U + V.length))) ∧ Below w.heap.size w w' := by
  have B0 := below1 w (.cells #[v1, v2] 25)
  have j1 := i1.keep B0 hhb
  have j2 := i2.keep B0 hhb
  have bx := box2_new w v1 v2 25
  have x0 := bx.c0
  have x1 := bx.c1
  have S1 := szIntSS_any U v1 1048576 hb _ j1 (by omega) (by omega)
  generalize totS U = q at *
  by_cases hc : 1048576 < q
  · have e1 : szL q 1048576 = -1 := by unfold szL; rw [if_pos (by omega)]
    rw [e1] at S1
    have e2 : szTot (q + V.length) = -1 := by unfold szTot; rw [if_neg (by omega)]
    rw [e2]
    clear e1 e2
    go_enter Try.func10, Try.ntmps10
    go_wp2_with (go_at_call 19; (with_reducible refine S1.mono ?_); rintro e w' ⟨rfl, rfl⟩)
    go_ret
    exact ⟨rfl, B0⟩
  · have e1 : szL q 1048576 = 1048576 - (q : Int) := by unfold szL; rw [if_neg (by omega)]
    rw [e1] at S1
    clear e1
    have S2 := szIntS_any V v2 (1048576 - (q : Int)) hb _ j2 (by omega) (by omega)
    have hu : (0 : Int) ≤ 1048576 - (q : Int) := by omega
    by_cases h2 : q + V.length ≤ 1048576
    · have e2 : szL V.length (1048576 - (q : Int)) = 1048576 - (q : Int) - V.length := by unfold szL; rw [if_neg (by omega)]
      have e3 : szTot (q + V.length) = 1048576 - (q : Int) - V.length := by unfold szTot; rw [if_pos h2]; omega
      rw [e2] at S2
      rw [e3]
      have hr : 0 ≤ 1048576 - (q : Int) - V.length := by omega
      clear e2 e3
      generalize 1048576 - (q : Int) - V.length = r at *
      generalize hm : 1048576 - (q : Int) = m at *
      clear hm hc h2
      go_enter Try.func10, Try.ntmps10
      go_wp2_with (first | (go_at_call 19; (with_reducible refine S1.mono ?_); rintro e w' ⟨rfl, rfl⟩) | (go_at_call 34; (with_reducible refine S2.mono ?_); rintro e w' ⟨rfl, rfl⟩))
      go_ret
      exact ⟨rfl, B0⟩
    · have e2 : szL V.length (1048576 - (q : Int)) = -1 := by unfold szL; rw [if_pos (by omega)]
      have e3 : szTot (q + V.length) = -1 := by unfold szTot; rw [if_neg h2]
      rw [e2] at S2
      rw [e3]
      clear e2 e3
      generalize hm : 1048576 - (q : Int) = m at *
      clear hm hc h2
      go_enter Try.func10, Try.ntmps10
      go_wp2_with (first | (go_at_call 19; (with_reducible refine S1.mono ?_); rintro e w' ⟨rfl, rfl⟩) | (go_at_call 34; (with_reducible refine S2.mono ?_); rintro e w' ⟨rfl, rfl⟩))
      go_ret
      exact ⟨rfl, B0⟩
set_option maxHeartbeats 1000000 in
theorem eqMove_any (U : List (List Int)) (V : List Int) (v1 v2 u1 u2 : Value) (h1 h2 : Nat) (w : World) (i1 : ISSr w h1 v1 U) (i2 : ISr w h1 v2 V) (j1 : ISSr w h2 u1 U) (j2 : ISr w h2 u2 V) (hb1 : h1 ≤ w.heap.size) (hb2 : h2 ≤ w.heap.size) :
    Calls Try.prog 14 #[.agg #[v1, v2], .agg #[u1, u2]] w fun e w' => e = .returned (.bool true) ∧ Below w.heap.size w w' := by
  have B0 := below2 w (.cells #[v1, v2] 28) (.cells #[u1, u2] 28)
  have bx := (box2_new w v1 v2 28).keep (below1 _ (.cells #[u1, u2] 28))
  have by' := box2_new (w.alloc (.cells #[v1, v2] 28)) u1 u2 28
  have x0 := bx.c0
  have x1 := bx.c1
  have y0 := by'.c0
  have y1 := by'.c1
  simp only [World.size_alloc] at y0 y1
  have E1 := eqIntSS_any U U v1 u1 h1 h2 _ (i1.keep B0 hb1) (j1.keep B0 hb2)
  have E2 := fun n => eqIntS_any V V v2 u2 h1 h2 _ ((i2.keep B0 hb1).draws n) ((j2.keep B0 hb2).draws n)
  have t1 : decide (U = U) = true := by simp
  have t2 : decide (V = V) = true := by simp
  rw [t1] at E1
  simp only [t2] at E2
  clear t1 t2
  go_enter Try.func14, Try.ntmps14
  go_wp2_with (first | (go_at_call 23; (with_reducible refine E1.mono ?_); rintro e w' ⟨rfl, d1, rfl⟩) | (go_at_call 40; (with_reducible refine (E2 _).mono ?_); rintro e w' ⟨rfl, d2, rfl⟩))
  go_ret
  exact ⟨rfl, B0.trans (below_draws _ _ _)⟩
/-- a matrix and a list of the call's own, in blocks of their own -/
def MoveO (w : World) (lo hi : Nat) (u1 u2 : Value) (U : List (List Int)) (V : List Int) : Prop :=
  ∃ a b c d, ISS w a b u1 U ∧ IS w c d u2 V ∧ (b ≤ c ∨ d ≤ a) ∧ lo ≤ a ∧ b ≤ hi ∧ lo ≤ c ∧ d ≤ hi
theorem MoveO.fstR {w : World} {lo hi : Nat} {u1 u2 : Value} {U : List (List Int)} {V : List Int} (h : MoveO w lo hi u1 u2 U V) : ISSr w hi u1 U := by
  obtain ⟨a, b, c, d, h1, h2, h3, h4, h5, h6, h7⟩ := h; exact h1.read.upto h5
theorem MoveO.sndR {w : World} {lo hi : Nat} {u1 u2 : Value} {U : List (List Int)} {V : List Int} (h : MoveO w lo hi u1 u2 U V) : ISr w hi u2 V := by
  obtain ⟨a, b, c, d, h1, h2, h3, h4, h5, h6, h7⟩ := h; exact h2.read.upto h7
theorem MoveO.nil (w : World) (lo hi : Nat) (h : lo ≤ hi) : MoveO w lo hi (.slice none 0 0) (.slice none 0 0) [] [] := ⟨lo, lo, lo, lo, ISS.nil _ _ _, IS.nil _ _ _, .inl (Nat.le_refl _), Nat.le_refl _, h, Nat.le_refl _, h⟩
theorem MoveO.keep {w w' : World} {lo hi B : Nat} {u1 u2 : Value} {U : List (List Int)} {V : List Int} (h : MoveO w lo hi u1 u2 U V) (hb : Below B w w') (hB : hi ≤ B) : MoveO w' lo hi u1 u2 U V := by
  obtain ⟨a, b, c, d, h1, h2, h3, h4, h5, h6, h7⟩ := h
  exact ⟨a, b, c, d, h1.keep hb (by omega), h2.keep hb (by omega), h3, h4, h5, h6, h7⟩
theorem MoveO.only {w w' : World} {lo hi lo2 hi2 : Nat} {u1 u2 : Value} {U : List (List Int)} {V : List Int} (h : MoveO w lo2 hi2 u1 u2 U V) (ho : Only lo hi w w') (hd : hi2 ≤ lo ∨ hi ≤ lo2) : MoveO w' lo2 hi2 u1 u2 U V := by
  obtain ⟨a, b, c, d, h1, h2, h3, h4, h5, h6, h7⟩ := h
  exact ⟨a, b, c, d, h1.only ho (by omega), h2.only ho (by omega), h3, h4, h5, h6, h7⟩
theorem MoveO.of {w : World} {a b c d lo hi : Nat} {u1 u2 : Value} {U : List (List Int)} {V : List Int} (h1 : ISS w a b u1 U) (h2 : IS w c d u2 V) (h : b ≤ c ∨ d ≤ a) (ha : lo ≤ a) (hb : b ≤ hi) (hc : lo ≤ c) (hd : d ≤ hi) : MoveO w lo hi u1 u2 U V := ⟨a, b, c, d, h1, h2, h, ha, hb, hc, hd⟩
theorem MoveO.mono {w : World} {lo hi lo' hi' : Nat} {u1 u2 : Value} {U : List (List Int)} {V : List Int} (h : MoveO w lo hi u1 u2 U V) (g1 : lo' ≤ lo) (g2 : hi ≤ hi') : MoveO w lo' hi' u1 u2 U V := by
  obtain ⟨a, b, c, d, h1, h2, h3, h4, h5, h6, h7⟩ := h
  exact ⟨a, b, c, d, h1, h2, h3, by omega, by omega, by omega, by omega⟩
set_option maxHeartbeats 1000000 in
theorem markMove_any (U : List (List Int)) (V : List Int) (u1 u2 : Value) (lo hi : Nat) (k : Int) (w : World) (h : MoveO w lo hi u1 u2 U V) (hh : hi ≤ w.heap.size) (hk : 0 ≤ k) (hk' : k + totL U U.length + V.length ≤ 4611686018427387904) :
    Calls Try.prog 17 #[.agg #[u1, u2], .int .i64 k] w fun e w' => e = .returned (.int .i64 (k + totL U U.length + V.length)) ∧ MoveO w' lo hi u1 u2 (markLL U k) (markL V.length (k + totL U U.length)) ∧ Only lo hi w w' := by
  have b0 := below1 w (.cells #[u1, u2] 28)
  obtain ⟨a, b, c, d, i1, i2, hd, g1, g2, g3, g4⟩ := h.keep b0 hh
  have M1 := markIntSS_any U u1 a b k _ i1 hk (by omega)
  have O0 := Only.of_below (lo := lo) (hi := hi) b0
  have bx := box2_new w u1 u2 28
  have x0 := bx.c0
  have x1 := bx.c1
  have hb2 : k + (totL U U.length : Int) + V.length ≤ 4611686018427387904 := hk'
  have hsz : hi ≤ w.heap.size := hh
  have hab : b ≤ w.heap.size := by omega
  go_enter Try.func17, Try.ntmps17
  go_wp2_with fail
  refine M1.mono ?_
  rintro e w1 ⟨rfl, k1, o1⟩
  have O1 := o1.mono g1 g2
  have j2 := i2.only o1 hd.symm
  have M2 := markIntS_any V u2 c d (k + totL U U.length) w1 j2 (by omega) (by omega)
  have x1' : w1.cell? ⟨w.heap.size, 1, none⟩ = some u2 := by
    rw [World.cell?_of_block (w := w.alloc (.cells #[u1, u2] 28)) (o1.block w.heap.size (by simp) (.inr hab))]; exact x1
  clear M1 x0 x1
  go_wp2_with fail
  refine M2.mono ?_
  rintro e w2 ⟨rfl, k2, gr⟩
  have o2 := Only.of_grown (lo := c) (hi := d) gr j2.blkIn
  have O2 := o2.mono g3 g4
  have k1' := k1.only o2 hd
  have HK := Lib.hid k1'
  have HK2 := Lib.hid k2
  have HO := Lib.hid ((O0.trans O1).trans O2)
  clear k1' k2 O0 O1 O2 o1 o2 gr M2 x1'
  go_wp2
  go_ret
  exact ⟨rfl, ⟨a, b, c, d, HK.out, HK2.out, hd, g1, g2, g3, g4⟩, HO.out⟩
set_option maxHeartbeats 1000000 in
theorem heldMove_any (U : List (List Int)) (n : Nat) (u1 u2 : Value) (hb : Nat) (k : Int) (w : World) (i1 : ISSr w hb u1 (markLL U k)) (i2 : ISr w hb u2 (markL n (k + totL U U.length))) (hh : hb ≤ w.heap.size) (hk : 0 ≤ k) (hk' : k + totL U U.length + n ≤ 4611686018427387904) :
    Calls Try.prog 18 #[.agg #[u1, u2], .int .i64 k] w fun e w' => e = .returned (.int .i64 (k + totL U U.length + n)) ∧ Below w.heap.size w w' := by
  have b0 := below1 w (.cells #[u1, u2] 28)
  have j1 := i1.keep b0 hh
  have j2 := i2.keep b0 hh
  have M1 := heldIntSS_any U u1 hb k _ j1 hk (by omega)
  have M2 := heldIntS_any n u2 hb (k + totL U U.length) _ j2 (by omega) (by omega)
  have bx := box2_new w u1 u2 28
  have x0 := bx.c0
  have x1 := bx.c1
  generalize totL U U.length = m at *
  have h1 : 0 ≤ k + (m : Int) := by omega
  have h2 : 0 ≤ k + (m : Int) + n := by omega
  have d1 : decide (k + (m : Int) < 0) = false := by rw [decide_eq_false_iff_not]; omega
  have d2 : decide (k + (m : Int) + n < 0) = false := by rw [decide_eq_false_iff_not]; omega
  go_enter Try.func18, Try.ntmps18
  go_wp2_with (first | (go_at_call 25; (with_reducible refine M1.mono ?_); rintro e w' ⟨rfl, rfl⟩) | (go_at_call 47; (with_reducible refine M2.mono ?_); rintro e w' ⟨rfl, rfl⟩))
  go_ret
  exact ⟨rfl, b0⟩
end Go.Proofs.Ytgecnidndjbdaaa
