/- Terms and series that are drawn: the draws of the statements. -/
import Derived.Test.YtfncikbmdaameaaDrM
import Derived.Test.YtfncikbmdaameaaAppT
namespace Go.Proofs.Ytfncikbmdaameaa
open Go.RowKit
set_option linter.unusedVariables false
set_option linter.unusedSimpArgs false

theorem TB.three {w : World} {n m : Nat} {s : Int} {x y : Value} (h : TB w n s x y) (hm : m ≠ n) (a b c : Value) : TB (((w.setCell ⟨m, 0, none⟩ a).setCell ⟨m, 1, none⟩ b).setCell ⟨m, 2, none⟩ c) n s x y := ((h.other hm a).other hm b).other hm c
theorem TB.all {w : World} {n : Nat} {s : Int} {x y : Value} (h : TB w n s x y) (s' : Int) (x' y' : Value) : TB (((w.setCell ⟨n, 0, none⟩ (.int .i64 s')).setCell ⟨n, 1, none⟩ x').setCell ⟨n, 2, none⟩ y') n s' x' y' := ((h.set0 s').set1 x').set2 y'
theorem IS.set3 {w : World} {lo hi n : Nat} {v : Value} {l : List Int} (h : IS w lo hi v l) (hn : n < lo ∨ hi ≤ n) (a b c : Value) : IS (((w.setCell ⟨n, 0, Option.none⟩ a).setCell ⟨n, 1, Option.none⟩ b).setCell ⟨n, 2, Option.none⟩ c) lo hi v l := ((h.setO hn a).setO hn b).setO hn c
theorem ISS.set3 {w : World} {lo hi n : Nat} {v : Value} {l : List (List Int)} (h : ISS w lo hi v l) (hn : n < lo ∨ hi ≤ n) (a b c : Value) : ISS (((w.setCell ⟨n, 0, Option.none⟩ a).setCell ⟨n, 1, Option.none⟩ b).setCell ⟨n, 2, Option.none⟩ c) lo hi v l := by
  have k : ∀ (w : World) (i : Nat) (x : Value), ISS w lo hi v l → ISS (w.setCell ⟨n, i, Option.none⟩ x) lo hi v l := fun w i x h => h.of_blocks fun b h1 h2 _ => Below.heap_setCell _ _ _ _ (by intro e; have e : b = n := e; omega)
  exact k _ 2 c (k _ 1 b (k _ 0 a h))
theorem ISS.curP {w w' : World} {lo hi p : Nat} {v : Value} {ls : List (List Int)} (h : ISS w lo hi v ls) (hg : w.grownBy w' (some p)) (hp : p < lo) : ISS w' lo hi v ls :=
  h.of_blocks fun b h1 h2 h3 => hg.block b h3 (by intro e; injection e with e; omega)
theorem rows3_at {G : List (List Int)} (h : rows3 G) {i : Nat} (hi : i < G.length) : ∃ a b, G.getD i [] = [a, b] ∧ (-3 ≤ a ∧ a ≤ 3) ∧ (-3 ≤ b ∧ b ≤ 3) := by
  obtain ⟨l, hb⟩ := h.2 i hi
  obtain ⟨a, b, e⟩ := len2k l
  have b0 := allIn_at hb 0 (by omega)
  have b1 := allIn_at hb 1 (by omega)
  rw [e] at b0 b1
  exact ⟨a, b, e, b0, b1⟩

set_option maxRecDepth 100000 in
set_option maxHeartbeats 8000000 in
theorem DrawTermAt_any (v : Value) (l : List Int) (hb : Nat) (w : World) (h : ISb w hb v l) (hhb : hb ≤ w.heap.size) :
    Calls Try.prog 98 #[v] w fun e w' => (∃ s u1 u2 u3 U G X, e = .returned (.tuple #[.agg #[.int .i64 s, u1, u2], u3]) ∧ (-1 ≤ s ∧ s ≤ 2) ∧ ISr w' w'.heap.size u1 U ∧ ISSr w' w'.heap.size u2 G ∧ ISr w' w'.heap.size u3 X) ∧ Below w.heap.size w w' := by
  have HB0 := Lib.hid (below1 w (.cells #[.int .i64 0, .slice none 0 0, .slice none 0 0] 92))
  have S0 := Lib.hid (TB.new w 0 (.slice none 0 0) (.slice none 0 0))
  have N0 := l1New_any v l hb _ (h.keep HB0.out hhb) (by have := HB0.out.size; omega)
  have hz : (w.alloc (.cells #[.int .i64 0, .slice none 0 0, .slice none 0 0] 92)).heap.size = w.heap.size + 1 := by simp
  rw [hz] at N0
  unfold curP at *
  go_enter Try.func98, Try.ntmps98
  go_wp2_with fail
  refine N0.mono ?_
  rintro e w1 ⟨rfl, hc, hbel, hsz⟩
  have S1 := Lib.hid ((hbel.block w.heap.size (by omega)).trans S0.out)
  have HB1 := Lib.hid (below_then HB0.out (by rw [hz]; omega) (hbel.mono (by rw [hz]; exact Nat.le_refl _)))
  have DD := l10Term_any _ hb w1 hc
  have hs1 : w.heap.size + 1 < w1.heap.size := by omega
  clear hc hbel hsz N0 HB0 S0 hz h
  unfold curP at DD
  go_wp2_with fail
  refine DD.mono ?_
  clear DD
  rintro e w2 ⟨s, u1, u2, U, G, rfl, hsb, hUG, ⟨m, hm1, hm2, i1, i2⟩, hc, hg⟩
  have S2 := Lib.hid (TB.cur S1.out hg (by omega))
  have HB2 := Lib.hid (HB1.out.trans (grown_below hg HB1.out.size (by omega)))
  obtain ⟨a1, c1, rfl, -⟩ := id i1
  obtain ⟨a2, c2, rfl, -⟩ := id i2
  have cA := below1 w2 (.cells #[.int .i64 s, .slice a1 U.length c1, .slice a2 G.length c2] 92)
  have HC3 := Lib.hid (hc.below cA hc.lt)
  have X3 := Lib.hid (TB.new w2 s (.slice a1 U.length c1) (.slice a2 G.length c2))
  have S3 := Lib.hid (S2.out.below cA)
  have HB3 := Lib.hid (HB2.out.trans (cA.mono HB2.out.size))
  have I3 := Lib.hid (i1.keep cA hm2)
  have J3 := Lib.hid (i2.keep cA (Nat.le_refl _))
  have hw12 : w1.heap.size ≤ w2.heap.size := hg.size
  have hz3 : (w2.alloc (.cells #[.int .i64 s, .slice a1 U.length c1, .slice a2 G.length c2] 92)).heap.size = w2.heap.size + 1 := by simp
  have HUG := Lib.hid hUG
  clear hc hg HB1 S1 S2 HB2 i1 i2 cA hUG
  go_upto_region 3 with fail
  generalize w2.alloc (.cells #[.int .i64 s, .slice a1 U.length c1, .slice a2 G.length c2] 92) = w3 at *
  generalize hn5 : w2.heap.size = n5 at *
  have hpp := hs1
  have hz3' : n5 < w3.heap.size := by omega
  have HZ3 := Lib.hid hz3
  clear hz3 hn5
  have y1 := X3.out.c1
  have cB := below1 w3 (.cells #[] 3)
  go_wp2_with (at_builtin; refine wpList_append_I rfl _ _ rfl rfl rfl (OwnI.lit0 w3 w3.heap.size (Nat.le_refl _)) (I3.out.read.keep cB (by omega)) (by have := HUG.out.1; simp; omega) (by simp) ?_)
  intro a3 c3 w4 ho4 hg4
  have B4 := (below1 w3 (.cells #[] 3)).grown hg4 (by simp) (fun k hk => by simp [Value.ownBlock] at hk; omega)
  have HC4 := Lib.hid (HC3.out.below B4 HC3.out.lt)
  have X4 := Lib.hid (X3.out.below B4)
  have S4 := Lib.hid (S3.out.below B4)
  have HB4 := Lib.hid (HB3.out.trans (B4.mono HB3.out.size))
  have I4 := Lib.hid (I3.out.keep B4 (by omega))
  have J4 := Lib.hid (J3.out.keep B4 (by omega))
  have hz4 := B4.size
  have K4 := Lib.hid (show IS w4 w3.heap.size w4.heap.size (.slice a3 U.length c3) U from ho4.is)
  clear ho4 hg4 B4 y1 cB HC3 X3 S3 HB3 I3 J3
  obtain ⟨hU2, hUb, hG⟩ := HUG.out
  have hU0 := allIn_at hUb 0 (by omega)
  have hU1 := allIn_at hUb 1 (by omega)
  have HG3 := Lib.hid hG
  have hGl := hG.1
  have HUL := Lib.hid hU2
  clear hUb hG hU2
  go_wp2_with fail
  go_loopw [6, 7] (fun x i wr => ∃ (k : Nat) (X : List Int), k ≤ G.length ∧ i = .int .i64 k ∧ Hid (X.length = 2 ∧ ∀ j, j < 2 → -3 - 9 * (k : Int) ≤ X.getD j 0 ∧ X.getD j 0 ≤ 3 + 9 * k) ∧ Hid (IS wr w3.heap.size wr.heap.size x X) ∧ Hid (Cur wr (w.heap.size + 1) hb) ∧ Hid (TB wr n5 s (.slice a1 U.length c1) (.slice a2 G.length c2)) ∧ Hid (TB wr w.heap.size 0 (.slice none 0 0) (.slice none 0 0)) ∧ Hid (Below w.heap.size w wr) ∧ Hid (IS wr w1.heap.size m (.slice a1 U.length c1) U) ∧ Hid (ISS wr m n5 (.slice a2 G.length c2) G) ∧ w3.heap.size ≤ wr.heap.size) (fun _ i _ => G.length - (intOf i).toNat)
  case atStart => exact ⟨0, U, Nat.zero_le _, rfl, Lib.hid ⟨HUL.out, fun j hj => by
    rcases (show j = 0 ∨ j = 1 by omega) with rfl | rfl <;> omega⟩, K4, HC4, X4, S4, HB4, I4, J4, hz4⟩
  case round =>
    clear K4 HC4 X4 S4 HB4 I4 J4 hU0 hU1 hz4
    obtain ⟨k, X, hk, rfl, HX, K, HC, HT, HS, HB, I, J, hz⟩ := hrel
    obtain ⟨ax, cx, hx, -⟩ := id K.out
    subst hx
    have hcur : ∀ {wa wb : World}, wa.grownBy wb (some (w.heap.size + 1)) → True := fun _ => trivial
    clear hcur
    by_cases hlt : k < G.length
    · have hkn : decide ((k : Int) < (G.length : Int)) = true := by simp; omega
      have t2 := HT.out.c2
      rcases J.out.cases with ⟨e, -⟩ | ⟨-, -, bg, og, cg, Vg, hve, hlb, hbb, hbk, hrow, -⟩
      · rw [e] at hlt; exact absurd hlt (Nat.not_lt_zero _)
      injection hve with ee1 ee2 ee3
      subst ee1
      clear ee2 ee3
      have hgc := hbk.cell hlt
      have hgr := hrow k hlt
      obtain ⟨p0, r0, e0, bp, br⟩ := rows3_at HG3.out hlt
      rw [e0] at hgr
      obtain ⟨x0, x1, eX⟩ := len2k HX.out.1
      have hx0 := HX.out.2 0 (by omega)
      have hx1 := HX.out.2 1 (by omega)
      rw [eX] at hx0 hx1
      simp only [List.getD_cons_zero, List.getD_cons_succ] at hx0 hx1
      have hxl : X.length = 2 := HX.out.1
      rw [hxl] at K ⊢
      have HKX := Lib.hid (show IS wr w3.heap.size wr.heap.size (.slice ax 2 cx) [x0, x1] by rw [← eX]; exact K.out)
      have HGR := Lib.hid hgr
      have HGC := Lib.hid hgc
      have hbw : bg < wr.heap.size := World.block_lt_of_cell? wr _ hgc
      have hkG : k < G.length := hlt
      have q1 : (0 : Int) ≤ (k : Int) := by omega
      have q2 : (k : Int) < (G.length : Int) := by omega
      have LB := l1Below_any (w.heap.size + 1) hb 4 wr.drew (show Cur wr.drew _ hb from HC.out) (by omega) (by omega)
      unfold curP at LB
      obtain ⟨ug, hug⟩ : ∃ u, Vg k = u := ⟨_, rfl⟩
      rw [hug] at hgc HGC HGR
      have hzw : wr.drew.heap.size = wr.heap.size := rfl
      clear hgr hrow hbk e0 hug K HX eX
      go_wp2_with fail
      skip
      go_region_held3 (fun w' => w'.cell? ⟨n5, 2, none⟩ = some (.slice (some ⟨bg, og, none⟩) G.length c2) ∧ w'.cell? ⟨bg, og + k, none⟩ = some ug)
        (first | exact ⟨t2, hgc⟩ | exact ⟨TT.c2, gq⟩ | go_keep)
        (first
          | (go_at_call 126; (with_reducible refine LB.mono ?_); rintro e w5 ⟨y, rfl, hy0, hy1, hc5, hg5⟩; have gg5 := grown_trans (grown_draws (World.grownBy.refl wr (some (w.heap.size + 1))) 1) hg5; have TT := HT.out.cur gg5 (by omega); have SS := HS.out.cur gg5 (by omega); have BG5 := gg5.size; have I5 := I.out.cur gg5 (.inl (by omega)); have J5 := J.out.curP gg5 (by omega); have K5 := HKX.out.cur gg5 (.inl (by omega)); have R5 := HGR.out.cur gg5 (.inl (by omega)); have gq := (World.cell?_of_block (a := ⟨bg, og + k, none⟩) (gg5.block bg hbw (by intro e; injection e with e; omega))).trans HGC.out; have HB5 := HB.out.trans (grown_below gg5 HB.out.size (by omega)); have m1 := mul_bd2 (a := p0) (b := y) (M := 3) (N := 3) (by omega) (by omega) (by omega) (by omega) (by omega); have m2 := mul_bd2 (a := r0) (b := y) (M := 3) (N := 3) (by omega) (by omega) (by omega) (by omega) (by omega); have SC := l2Scale_any [p0, r0] ug y _ w5 R5.read (by omega) (by simp) (fun k hk => by rcases (show k = 0 ∨ k = 1 by simp at hk; omega) with rfl | rfl; (show _ ≤ p0 * y ∧ p0 * y ≤ _; omega); (show _ ≤ r0 * y ∧ r0 * y ≤ _; omega)))
          | (go_at_call 146; (with_reducible refine SC.mono ?_); rintro e w6 ⟨v6, rfl, k6, c6⟩; have TT := TT.below c6; have SS := SS.below c6; have I6 := I5.keep c6 (by omega); have J6 := J5.keep c6 (by omega); have K6 := K5.keep c6 (by omega); have hc6 := hc5.below c6 hc5.lt; have HB6 := HB5.trans (c6.mono HB5.size); have gq := (c6.cell (p := ⟨bg, og + k, none⟩) (by have := BG5; show bg < _; omega)).trans gq; have AD := l2Add_any [x0, x1] ([p0, r0].map (· * y)) (.slice ax 2 cx) v6 w6.heap.size w6 (K6.read.upto (Nat.le_trans BG5 c6.size)) k6.read (Nat.le_refl _) (by simp) (by simp) (fun k hk => by rcases (show k = 0 ∨ k = 1 by simp at hk; omega) with rfl | rfl; (show _ ≤ x0 + p0 * y ∧ x0 + p0 * y ≤ _; omega); (show _ ≤ x1 + r0 * y ∧ x1 + r0 * y ≤ _; omega)))
          | (go_at_call 150; (with_reducible refine AD.mono ?_); rintro e w7 ⟨v7, rfl, k7, c7⟩; have TT := TT.below c7; have SS := SS.below c7; have I7 := I6.keep c7 (by have := c6.size; omega); have J7 := J6.keep c7 (by have := c6.size; omega); have hc7 := hc6.below c7 hc6.lt; have HB7 := HB6.trans (c7.mono HB6.size); have gq := (c7.cell (p := ⟨bg, og + k, none⟩) (by have := BG5; have := c6.size; show bg < _; omega)).trans gq))
      have K7 := k7.mono (show w3.heap.size ≤ w6.heap.size by have := c6.size; omega) (Nat.le_refl _)
      have HK7 := Lib.hid K7
      have HX7 := Lib.hid (show (List.zipWith (· + ·) [x0, x1] ([p0, r0].map (· * y))).length = 2 ∧ ∀ j, j < 2 → -3 - 9 * ((k + 1 : Nat) : Int) ≤ (List.zipWith (· + ·) [x0, x1] ([p0, r0].map (· * y))).getD j 0 ∧ (List.zipWith (· + ·) [x0, x1] ([p0, r0].map (· * y))).getD j 0 ≤ 3 + 9 * ((k + 1 : Nat) : Int) from ⟨rfl, fun j hj => by
        rcases (show j = 0 ∨ j = 1 by omega) with rfl | rfl
        · show _ ≤ x0 + p0 * y ∧ x0 + p0 * y ≤ _; omega
        · show _ ≤ x1 + r0 * y ∧ x1 + r0 * y ≤ _; omega⟩)
      have HC7 := Lib.hid hc7
      have HT7 := Lib.hid TT
      have HS7 := Lib.hid SS
      have HBB7 := Lib.hid HB7
      have HI7 := Lib.hid I7
      have HJ7 := Lib.hid J7
      have hz7 : w3.heap.size ≤ w7.heap.size := by have := c6.size; have := c7.size; omega
      clear K7 k7 hc7 hc6 hc5 TT SS HB7 HB6 HB5 I7 I6 I5 J7 J6 J5 K6 K5 R5 gq m1 m2 SC AD k6 c6 c7 hg5 gg5 LB t2 hgc

      go_wp2
      go_roundw
      case rel => exact ⟨k + 1, _, by omega, by go_num, HX7, HK7, HC7, HT7, HS7, HBB7, HI7, HJ7, hz7⟩
      case measure => simp [intOf]; omega
    · obtain rfl : k = G.length := by omega
      have t2 := HT.out.c2
      have hkn : decide ((G.length : Int) < (G.length : Int)) = false := by simp
      have BB := l1Once_any (w.heap.size + 1) hb 3 wr HC.out (by omega) (by omega)
      unfold curP at BB
      go_wp2_with fail
      refine BB.mono ?_
      clear BB t2
      rintro e w5 ⟨b5, rfl, hc, hg⟩
      have HK5 := Lib.hid (show IS _ _ w5.heap.size _ _ from (K.out.cur hg (.inl (by omega))).mono (Nat.le_refl _) hg.size)
      have HT5 := Lib.hid (HT.out.cur hg (by omega))
      have HS5 := Lib.hid (HS.out.cur hg (by omega))
      have HI5 := Lib.hid (I.out.cur hg (.inl (by omega)))
      have HJ5 := Lib.hid (J.out.curP hg (by omega))
      have HC5 := Lib.hid hc
      have HB5 := Lib.hid (HB.out.trans (grown_below hg HB.out.size (by omega)))
      have hz5 : w3.heap.size ≤ w5.heap.size := Nat.le_trans hz hg.size
      clear hc hg K HT HS I J HC HB
      have y0 := HT5.out.c0
      have y1 := HT5.out.c1
      have y2 := HT5.out.c2
      cases b5
      · have z0 := HS5.out.c0
        have z1 := HS5.out.c1
        have z2 := HS5.out.c2
        have g0 := HS5.out.fr 0
        have g1 := HS5.out.fr 1
        have g2 := HS5.out.fr 2
        have r0 := World.cell?_setCell_same w5 ⟨w.heap.size, 0, none⟩ (.int .i64 s) z0
        have SF := HS5.out.all s (.slice a1 U.length c1) (.slice a2 G.length c2)
        have r1 := SF.c1
        have r2 := SF.c2
        have hh : (((w5.setCell ⟨w.heap.size, 0, none⟩ (.int .i64 s)).setCell ⟨w.heap.size, 1, none⟩ (.slice a1 U.length c1)).setCell ⟨w.heap.size, 2, none⟩ (.slice a2 G.length c2)).heap.size = w5.heap.size := by simp
        have IA := Lib.hid (show ISr (((w5.setCell ⟨w.heap.size, 0, none⟩ (.int .i64 s)).setCell ⟨w.heap.size, 1, none⟩ (.slice a1 U.length c1)).setCell ⟨w.heap.size, 2, none⟩ (.slice a2 G.length c2)) (((w5.setCell ⟨w.heap.size, 0, none⟩ (.int .i64 s)).setCell ⟨w.heap.size, 1, none⟩ (.slice a1 U.length c1)).setCell ⟨w.heap.size, 2, none⟩ (.slice a2 G.length c2)).heap.size _ _ by rw [hh]; exact ((HI5.out.set3 (n := w.heap.size) (.inl (by omega)) (.int .i64 s) (.slice a1 U.length c1) (.slice a2 G.length c2))).read.upto (by omega))
        have JA := Lib.hid (show ISSr (((w5.setCell ⟨w.heap.size, 0, none⟩ (.int .i64 s)).setCell ⟨w.heap.size, 1, none⟩ (.slice a1 U.length c1)).setCell ⟨w.heap.size, 2, none⟩ (.slice a2 G.length c2)) (((w5.setCell ⟨w.heap.size, 0, none⟩ (.int .i64 s)).setCell ⟨w.heap.size, 1, none⟩ (.slice a1 U.length c1)).setCell ⟨w.heap.size, 2, none⟩ (.slice a2 G.length c2)).heap.size _ _ by rw [hh]; exact ((HJ5.out.set3 (n := w.heap.size) (.inl (by omega)) (.int .i64 s) (.slice a1 U.length c1) (.slice a2 G.length c2))).read.upto (by omega))
        have KA := Lib.hid (show ISr (((w5.setCell ⟨w.heap.size, 0, none⟩ (.int .i64 s)).setCell ⟨w.heap.size, 1, none⟩ (.slice a1 U.length c1)).setCell ⟨w.heap.size, 2, none⟩ (.slice a2 G.length c2)) (((w5.setCell ⟨w.heap.size, 0, none⟩ (.int .i64 s)).setCell ⟨w.heap.size, 1, none⟩ (.slice a1 U.length c1)).setCell ⟨w.heap.size, 2, none⟩ (.slice a2 G.length c2)).heap.size _ _ by rw [hh]; exact ((HK5.out.set3 (n := w.heap.size) (.inl (by omega)) (.int .i64 s) (.slice a1 U.length c1) (.slice a2 G.length c2))).read.upto (by exact Nat.le_refl _))
        have HF := Lib.hid (HB5.out.trans (below_set3 w5 w.heap.size (.int .i64 s) (.slice a1 U.length c1) (.slice a2 G.length c2)))
        clear SF hh
        go_wp2
        refine bodyPost_ret (v := .tuple #[.agg #[.int .i64 s, .slice a1 U.length c1, .slice a2 G.length c2], .slice ax X.length cx]) (by simp [results, Try.results98, go_sem, r0, r1, r2]) rfl ?_
        exact ⟨⟨s, _, _, _, U, G, X, rfl, hsb, IA.out, JA.out, KA.out⟩, HF.out⟩
      · go_upto_region 9 with fail
        have HCX := Lib.hid HC5.out
        have LD := l2DrawI_any (w.heap.size + 1) hb 2 6 w5.drew (show Cur w5.drew _ hb from HC5.out) (by omega) (by omega)
        unfold curP at LD
        go_cut [3] (fun x wx => ∃ X, Hid (ISr wx wx.heap.size x X) ∧ Hid (ISr wx wx.heap.size (.slice a1 U.length c1) U) ∧ Hid (ISSr wx wx.heap.size (.slice a2 G.length c2) G) ∧ Hid (TB wx w.heap.size s (.slice a1 U.length c1) (.slice a2 G.length c2)) ∧ Hid (Below w.heap.size w wx))
        case first =>
          go_region_held3 (fun w' => w'.cell? ⟨n5, 0, none⟩ = some (.int .i64 s) ∧ w'.cell? ⟨n5, 1, none⟩ = some (.slice a1 U.length c1) ∧ w'.cell? ⟨n5, 2, none⟩ = some (.slice a2 G.length c2))
            (first | exact ⟨y0, y1, y2⟩ | exact ⟨TT.c0, TT.c1, TT.c2⟩ | exact ⟨(TT.three hne _ _ _).c0, (TT.three hne _ _ _).c1, (TT.three hne _ _ _).c2⟩ | go_keep)
            ((go_at_call 144; (with_reducible refine LD.mono ?_); rintro e w7 ⟨u7, l7, rfl, ho7, hl7, ha7, hc7, hg7⟩; have gg7 := grown_trans (grown_draws (World.grownBy.refl w5 (some (w.heap.size + 1))) 1) hg7; have TT := HT5.out.cur gg7 (by omega); have SS := HS5.out.cur gg7 (by omega); have hne : w.heap.size ≠ n5 := (by omega); have z0 := SS.c0; have z1 := SS.c1; have z2 := SS.c2; have g0 := SS.fr 0; have g1 := SS.fr 1; have g2 := SS.fr 2; have z57 : w5.heap.size ≤ w7.heap.size := gg7.size))
          have hh : (((w7.setCell ⟨w.heap.size, 0, none⟩ (.int .i64 s)).setCell ⟨w.heap.size, 1, none⟩ (.slice a1 U.length c1)).setCell ⟨w.heap.size, 2, none⟩ (.slice a2 G.length c2)).heap.size = w7.heap.size := by simp
          have IA := Lib.hid (show ISr (((w7.setCell ⟨w.heap.size, 0, none⟩ (.int .i64 s)).setCell ⟨w.heap.size, 1, none⟩ (.slice a1 U.length c1)).setCell ⟨w.heap.size, 2, none⟩ (.slice a2 G.length c2)) (((w7.setCell ⟨w.heap.size, 0, none⟩ (.int .i64 s)).setCell ⟨w.heap.size, 1, none⟩ (.slice a1 U.length c1)).setCell ⟨w.heap.size, 2, none⟩ (.slice a2 G.length c2)).heap.size _ _ by rw [hh]; exact (((HI5.out.cur gg7 (.inl (by omega))).set3 (n := w.heap.size) (.inl (by omega)) (.int .i64 s) (.slice a1 U.length c1) (.slice a2 G.length c2))).read.upto (by omega))
          have JA := Lib.hid (show ISSr (((w7.setCell ⟨w.heap.size, 0, none⟩ (.int .i64 s)).setCell ⟨w.heap.size, 1, none⟩ (.slice a1 U.length c1)).setCell ⟨w.heap.size, 2, none⟩ (.slice a2 G.length c2)) (((w7.setCell ⟨w.heap.size, 0, none⟩ (.int .i64 s)).setCell ⟨w.heap.size, 1, none⟩ (.slice a1 U.length c1)).setCell ⟨w.heap.size, 2, none⟩ (.slice a2 G.length c2)).heap.size _ _ by rw [hh]; exact (((HJ5.out.curP gg7 (by omega)).set3 (n := w.heap.size) (.inl (by omega)) (.int .i64 s) (.slice a1 U.length c1) (.slice a2 G.length c2))).read.upto (by omega))
          have KA := Lib.hid (show ISr (((w7.setCell ⟨w.heap.size, 0, none⟩ (.int .i64 s)).setCell ⟨w.heap.size, 1, none⟩ (.slice a1 U.length c1)).setCell ⟨w.heap.size, 2, none⟩ (.slice a2 G.length c2)) (((w7.setCell ⟨w.heap.size, 0, none⟩ (.int .i64 s)).setCell ⟨w.heap.size, 1, none⟩ (.slice a1 U.length c1)).setCell ⟨w.heap.size, 2, none⟩ (.slice a2 G.length c2)).heap.size _ _ by rw [hh]; exact (((show IS w7 w5.heap.size w7.heap.size u7 l7 from ho7.is).set3 (n := w.heap.size) (.inl (by omega)) (.int .i64 s) (.slice a1 U.length c1) (.slice a2 G.length c2))).read.upto (by exact Nat.le_refl _))
          have SA := Lib.hid (SS.all s (.slice a1 U.length c1) (.slice a2 G.length c2))
          have HF := Lib.hid ((HB5.out.trans (grown_below gg7 HB5.out.size (by omega))).trans (below_set3 w7 w.heap.size (.int .i64 s) (.slice a1 U.length c1) (.slice a2 G.length c2)))
          clear hh TT SS ho7 hl7 ha7 hc7 hg7 gg7 LD y0 y1 y2 z0 z1 z2 g0 g1 g2
          go_wp2_with fail
          go_meet
          exact ⟨l7, KA, IA, JA, SA, HF⟩
        case rest =>
        obtain ⟨X7, HX7, HI7, HJ7, HS7, HB7⟩ := hcut
        obtain ⟨a7, c7, rfl, -⟩ := id HX7.out
        have r0 := HS7.out.c0
        have r1 := HS7.out.c1
        have r2 := HS7.out.c2
        go_wp2
        refine bodyPost_ret (v := .tuple #[.agg #[.int .i64 s, .slice a1 U.length c1, .slice a2 G.length c2], .slice a7 X7.length c7]) (by simp [results, Try.results98, go_sem, r0, r1, r2]) rfl ?_
        exact ⟨⟨s, _, _, _, U, G, X7, rfl, hsb, HI7.out, HJ7.out, HX7.out⟩, HB7.out⟩
theorem OwnTp.cur {w w' : World} {B m p : Nat} {v : Value} {ts : List TermL} {V2 V3 : Nat → Value} (h : OwnTp w B v ts V2 V3 m) (hg : w.grownBy w' (some p)) (hp : p < B) : OwnTp w' B v ts V2 V3 m := by
  obtain ⟨P, q, r, h1, h2, h3, h4, h5⟩ := h
  refine ⟨P, q, r, ?_, h2, Nat.le_trans h3 hg.size, fun i hi => ⟨(h4 i hi).1, (h4 i hi).2.1, (h4 i hi).2.2.of_blocks fun b b1 b2 b3 => hg.block b b3 (by intro e; injection e with e; have := (h4 i hi).1.1; omega)⟩, h5⟩
  refine World.ownsRow.kept h1 (row := some p) hg ?_
  right
  intro e
  have := (World.ownsRow.lt h1 p e).1
  omega
theorem TS.curP {w w' : World} {lo hi p : Nat} {v : Value} {ts : List TermL} (h : TS w lo hi v ts) (hg : w.grownBy w' (some p)) (hp : p < lo) : TS w' lo hi v ts :=
  h.of_blocks fun b h1 h2 h3 => hg.block b h3 (by intro e; injection e with e; omega)
theorem TS.lit1 {w : World} {p q r : Nat} {s : Int} {u1 u2 : Value} {U : List Int} {G : List (List Int)} (h1 : IS w p q u1 U) (h2 : ISS w q r u2 G) (hpq : p ≤ q) (hqr : q ≤ r) (hs : -9223372036854775808 ≤ s ∧ s ≤ 9223372036854775807) (hr : r ≤ w.heap.size) :
    TS (w.alloc (.cells #[.int .i64 s, u1, u2] 92)) p (w.heap.size + 1) (.slice (some ⟨w.heap.size, 0, none⟩) 1 1) [(s, U, G)] := by
  have cA := below1 w (.cells #[.int .i64 s, u1, u2] 92)
  refine ⟨_, 1, rfl, by simp, by simp [maxLen], fun _ => ⟨w.heap.size, 0, fun _ => u1, fun _ => u2, fun _ => p, fun _ => q, fun _ => r, rfl, by omega, by omega, ⟨_, heap_alloc_new w _, fun i hi => ?_⟩, fun i hi => ?_, fun i j hij hj => ?_⟩⟩
  · have hi : i < 3 := hi
    rcases (show i = 0 ∨ i = 1 ∨ i = 2 by omega) with rfl | rfl | rfl <;> rfl
  · have hi : i < 1 := hi
    obtain rfl : i = 0 := by omega
    exact ⟨⟨Nat.le_refl _, by show r ≤ w.heap.size + 1; omega⟩, .inr hr, hpq, hqr, hs, h1.keep cA (by omega), h2.keep cA hr⟩
  · have hj : j < 1 := hj
    omega
set_option maxRecDepth 100000 in
set_option maxHeartbeats 8000000 in
theorem DrawSeriesAt_any (v : Value) (l : List Int) (hb : Nat) (w : World) (h : ISb w hb v l) (hhb : hb ≤ w.heap.size) :
    Calls Try.prog 99 #[v] w fun e w' => (∃ u u3 ts X, e = .returned (.tuple #[u, u3]) ∧ TSr w' w'.heap.size u ts ∧ ISr w' w'.heap.size u3 X) ∧ Below w.heap.size w w' := by
  have N0 := l1New_any v l hb w h hhb
  unfold curP at N0
  go_enter Try.func99, Try.ntmps99
  go_wp2_with fail
  refine N0.mono ?_
  rintro e w0 ⟨rfl, hc, hbel, hsz⟩
  have hz0 : w.heap.size < w0.heap.size := by omega
  have HB := Lib.hid hbel
  have DD := l9Draw_any w.heap.size hb w0 hc
  unfold curP at DD
  clear hbel hsz N0 h
  go_wp2_with fail
  refine DD.mono ?_
  clear DD
  rintro e w1 ⟨u1, u2, U, V, rfl, i1, i2, hc1, hg1⟩
  obtain ⟨a1, c1, rfl⟩ := i1.form
  obtain ⟨a2, c2, rfl⟩ := i2.form
  have HG1 := Lib.hid hg1
  have LD := l2DrawI_any w.heap.size hb 2 3 w1 hc1 (by omega) (by omega)
  unfold curP at LD
  have z01 := hg1.size
  clear hc hg1
  go_wp2_with fail
  refine LD.mono ?_
  clear LD
  rintro e w2 ⟨u3, S, rfl, ho3, hl3, ha3, hc2, hg2⟩
  have I2 := Lib.hid (i1.cur hg2 hz0)
  have J2 := Lib.hid (i2.cur hg2 hz0)
  have K2 := Lib.hid (show ISu w2 w1.heap.size u3 S from ho3.is)
  obtain ⟨a3, c3, rfl⟩ := K2.out.form
  have HG2 := Lib.hid (grown_trans HG1.out hg2)
  have HC2 := Lib.hid hc2
  have z12 := hg2.size
  have SO := specSeriesOfCone_own U V S _ _ _ _ w2 I2.out.read J2.out.read K2.out.read (Nat.le_refl _)
  have hts := (serC_tot U V S).2
  generalize (serC U V S).2 = ok at *
  generalize (serC U V S).1 = ts at *
  clear ho3 hl3 ha3 hc2 hg2 hc1 i1 i2 HG1
  go_wp2_with fail
  refine SO.mono ?_
  clear SO
  rintro e w3 ⟨u4, rfl, ⟨V2, V3, m, hown⟩, d3⟩
  have HC3 := Lib.hid (HC2.out.below d3 HC2.out.lt)
  have HG3 := Lib.hid (grown_then HG2.out (d3.mono (by omega)))
  have O3 := Lib.hid hown
  obtain ⟨a4, c4, rfl⟩ := hown.form
  have z23 := d3.size
  clear hown d3 HC2 HG2 I2 J2 K2
  have BB := l1Once_any w.heap.size hb 4 w3 HC3.out (by omega) (by omega)
  unfold curP at BB
  go_wp2_with fail
  refine BB.mono ?_
  clear BB
  rintro e w4 ⟨b4, rfl, hc4, hg4⟩
  have O4 := Lib.hid (O3.out.cur hg4 (by omega))
  have HC4 := Lib.hid hc4
  have HG4 := Lib.hid (grown_trans HG3.out hg4)
  have z34 := hg4.size
  clear hc4 hg4 O3 HC3 HG3
  cases b4
  · have LD := l2DrawI_any w.heap.size hb 2 8 w4 HC4.out (by omega) (by omega)
    unfold curP at LD
    go_wp2_with fail
    refine LD.mono ?_
    clear LD
    rintro e w7 ⟨u7, X, rfl, ho7, hl7, ha7, hc7, hg7⟩
    have TT := Lib.hid ((O4.out.is.curP hg7 (by omega)).read.upto hg7.size)
    have K7 := Lib.hid (show ISr w7 w7.heap.size u7 X from ho7.is.read)
    obtain ⟨a7, c7, rfl, -⟩ := id K7.out
    have HF := Lib.hid (HB.out.trans (grown_below (grown_trans HG4.out hg7) (by omega) (Nat.le_refl _)))
    clear ho7 hl7 ha7 hc7 hg7
    go_wp2
    go_returns
    exact ⟨⟨_, _, ts, X, rfl, TT.out, K7.out⟩, HF.out⟩
  · have DD := l10Term_any w.heap.size hb w4 HC4.out
    unfold curP at DD
    go_wp2_with fail
    refine DD.mono ?_
    clear DD
    rintro e w5 ⟨s, u5, u6, U5, G5, rfl, hs, -, ⟨m5, hm51, hm52, i5, i6⟩, hc5, hg5⟩
    obtain ⟨a5, c5, rfl, -⟩ := id i5
    obtain ⟨a6, c6, rfl, -⟩ := id i6
    have O5 := Lib.hid (O4.out.cur hg5 (by omega))
    have HG5 := Lib.hid (grown_trans HG4.out hg5)
    have SRC := Lib.hid (TS.lit1 i5 i6 hm51 hm52 (by omega) (Nat.le_refl _) (s := s))
    have cA := below1 w5 (.cells #[.int .i64 s, .slice a5 U5.length c5, .slice a6 G5.length c6] 92)
    have z45 := hg5.size
    have hm4 := O4.out.le
    have O6 := Lib.hid (O5.out.keep (cA.mono (by omega)))
    have HC6 := Lib.hid (hc5.below cA hc5.lt)
    have HG6 := Lib.hid (grown_then HG5.out (cA.mono (by omega)))
    have hz6 : (w5.alloc (.cells #[.int .i64 s, .slice a5 U5.length c5, .slice a6 G5.length c6] 92)).heap.size = w5.heap.size + 1 := by simp
    have HZ6 := Lib.hid hz6
    clear i5 i6 hc5 hg5 O4 HC4 HG4 O5 HG5 cA hz6
    go_wp2_with (at_builtin; refine wpList_append_T rfl _ _ rfl rfl rfl O6.out SRC.out (by omega) (by omega) (by rw [HZ6.out]; exact Nat.le_refl _) (by simp; omega) (by rw [HZ6.out]; omega) ?_)
    intro a7 c7 w7 V2' V3' ho7 hg7
    have B7 : Below w2.heap.size (w5.alloc (.cells #[.int .i64 s, .slice a5 U5.length c5, .slice a6 G5.length c6] 92)) w7 := (Below.refl w2.heap.size _).grown hg7 (by rw [HZ6.out]; omega) (fun k hk => (O6.out.blk k hk).1)
    have HC7 := Lib.hid (HC6.out.below B7 (by omega))
    have HG7 := Lib.hid (grown_then HG6.out (B7.mono (by omega)))
    have z67 := B7.size
    have O7 := Lib.hid ho7
    have hz57 : w5.heap.size ≤ w7.heap.size := by rw [HZ6.out] at z67; omega
    clear B7 hg7 ho7 O6 SRC HC6 HG6 z67
    obtain ⟨tt, htt⟩ : ∃ tt, ts ++ [(s, U5, G5)] = tt := ⟨_, rfl⟩
    try rw [htt]
    rw [htt] at O7
    clear htt
    have LD := l2DrawI_any w.heap.size hb 2 8 w7 HC7.out (by omega) (by omega)
    unfold curP at LD
    go_wp2_with fail
    refine LD.mono ?_
    clear LD
    rintro e w8 ⟨u8, X, rfl, ho8, hl8, ha8, hc8, hg8⟩
    have TT := Lib.hid ((O7.out.is.curP hg8 (by omega)).read.upto hg8.size)
    have K8 := Lib.hid (show ISr w8 w8.heap.size u8 X from ho8.is.read)
    obtain ⟨a8, c8, rfl, -⟩ := id K8.out
    have HF := Lib.hid (HB.out.trans (grown_below (grown_trans HG7.out hg8) (by omega) (Nat.le_refl _)))
    clear ho8 hl8 ha8 hc8 hg8
    go_wp2
    go_returns
    exact ⟨⟨_, _, _, X, rfl, TT.out, K8.out⟩, HF.out⟩
end Go.Proofs.Ytfncikbmdaameaa
