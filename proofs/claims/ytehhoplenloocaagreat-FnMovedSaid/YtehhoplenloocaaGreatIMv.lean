/- InverseMove: the walks. -/
import Derived.Test.YtehhoplenloocaaGreatInS
import Derived.Test.YtehhoplenloocaaGreatApl
import Derived.Deep.RegionHeld3
namespace Go.Proofs.YtehhoplenloocaaGreat
open Go.RowKit
set_option linter.unusedVariables false
set_option linter.unusedSimpArgs false

def ngV (N : List (List Int)) (V : List Int) : List Int := [-(dotI (N.getD 0 []) V), -(dotI (N.getD 1 []) V)]
def imvOk (U : List (List Int)) (V : List Int) : Bool := moveB U V && ((invV U).2 && moveB (invM U) (ngV (invM U) V))
def imvV (U : List (List Int)) (V : List Int) : (List (List Int) × List Int) × Bool := if imvOk U V then ((invM U, ngV (invM U) V), true) else (([], []), false)
theorem imvV_no {U : List (List Int)} {V : List Int} (h : imvOk U V = false) : imvV U V = (([], []), false) := by unfold imvV; rw [h]; rfl
theorem imvV_yes {U : List (List Int)} {V : List Int} (h : imvOk U V = true) : imvV U V = ((invM U, ngV (invM U) V), true) := by unfold imvV; rw [h]; rfl
theorem invV_mat {m : List (List Int)} (h : (invV m).2 = true) : matB (invM m) = true ∧ (invV m).1 = invM m := by
  unfold invV at h ⊢
  split at h
  · rename_i h1; rw [if_pos h1]; simp only [Bool.and_eq_true] at h1; exact ⟨h1.2, rfl⟩
  · cases h
theorem MoveO.setOther {w : World} {lo hi : Nat} {u1 u2 : Value} {U : List (List Int)} {V : List Int} (h : MoveO w lo hi u1 u2 U V) {a : Addr} (ha : a.block < lo ∨ hi ≤ a.block) (u : Value) : MoveO (w.setCell a u) lo hi u1 u2 U V := by
  obtain ⟨a1, b, c, d, h1, h2, h3, h4, h5, h6, h7⟩ := h
  exact ⟨a1, b, c, d, h1.setOther (by omega) u, h2.setOther (by omega) u, h3, h4, h5, h6, h7⟩
theorem IS.lit2g (w : World) (B g : Nat) (hg : w.heap.size = g) (h : B ≤ g) (x y : Int) : IS (w.alloc (.cells #[.int .i64 x, .int .i64 y] 3)) B (g + 1) (.slice (some ⟨g, 0, Option.none⟩) 2 2) [x, y] := by
  subst hg; exact IS.lit2 w B h x y
theorem moveB_pt {U : List (List Int)} {V : List Int} (h : moveB U V = true) : PtS V := by
  unfold moveB at h
  simp only [Bool.and_eq_true, decide_eq_true_eq] at h
  exact ptB_len h.2.2
set_option maxRecDepth 100000 in
set_option maxHeartbeats 8000000 in
theorem implInverseMove_any (U : List (List Int)) (V : List Int) (v1 v2 : Value) (hb : Nat) (w : World) (i1 : ISSr w hb v1 U) (i2 : ISr w hb v2 V) (hhb : hb ≤ w.heap.size) :
    Calls Tryz.prog 9 #[.agg #[v1, v2]] w fun e w' => ∃ u1 u2, e = .returned (.tuple #[.agg #[u1, u2], .bool (imvV U V).2]) ∧ MoveO w' w.heap.size w'.heap.size u1 u2 (imvV U V).1.1 (imvV U V).1.2 ∧ Below w.heap.size w w' := by
  obtain ⟨w0, hw0⟩ : ∃ w0, w0 = (w.alloc (.cells #[v1, v2] 27)).alloc (.cells #[.slice none 0 0, .slice none 0 0] 27) := ⟨_, rfl⟩
  have b0 : Below w.heap.size w w0 := by rw [hw0]; exact below2 w _ _
  have hs0 : w0.heap.size = w.heap.size + 2 := by rw [hw0]; simp
  have P0 : Box2 w0 w.heap.size v1 v2 := by rw [hw0]; exact (box2_new w _ _ _).keep (below1 _ _)
  have X0 : Box2 w0 (w.heap.size + 1) (.slice none 0 0) (.slice none 0 0) := by rw [hw0]; have := box2_new (w.alloc (.cells #[v1, v2] 27)) (.slice none 0 0) (.slice none 0 0) 27; simpa using this
  have HS0 := Lib.hid hs0
  have IM := implIsMove_any U V v1 v2 hb w0 (i1.keep b0 hhb) (i2.keep b0 hhb) (by omega)
  have p0 := P0.c0
  cases hm : moveB U V
  case false =>
    have HT := Lib.hid (imvV_no (show imvOk U V = false by unfold imvOk; rw [hm]; rfl))
    rw [hm] at IM
    clear i1 i2 hm p0
    go_enter Tryz.func9, Tryz.ntmps9
    go_wp2_with fail
    rw [← hw0]
    clear hw0
    with_reducible refine IM.mono ?_
    rintro e w1 ⟨rfl, c1⟩
    have X1 := X0.keep c1
    have B1 := Lib.hid (below_then b0 b0.size c1)
    clear X0 P0 c1 b0 IM
    have q0 := X1.c0
    have q1 := X1.c1
    have f0 := X1.f0
    have f1 := X1.f1
    clear X1
    go_wp2
    refine bodyPost_ret (v := .tuple #[.agg #[.slice none 0 0, .slice none 0 0], .bool false]) (by simp [results, Tryz.results9, go_sem, q0, q1]) rfl ⟨.slice none 0 0, .slice none 0 0, by rw [HT.out], by rw [HT.out]; exact MoveO.nil _ _ _ (by have h1 := B1.out.size; first | exact h1 | (simp only [World.size_setCell]; exact h1)), ?_⟩
    first | exact B1.out | exact (B1.out.setCell (Nat.le_succ _) _).setCell (Nat.le_succ _) _
  rw [hm] at IM
  have INV := Lib.hid (fun W (B : Below w.heap.size w W) => implInverse_any U v1 hb W (i1.keep B hhb) (Nat.le_trans hhb B.size))
  cases hi : (invV U).2
  case false =>
    have HT := Lib.hid (imvV_no (show imvOk U V = false by unfold imvOk; rw [hm, hi]; rfl))
    clear i1 i2 hm
    go_enter Tryz.func9, Tryz.ntmps9
    go_wp2_with fail
    rw [← hw0]
    clear hw0
    with_reducible refine IM.mono ?_
    rintro e w1 ⟨rfl, c1⟩
    have X1 := Lib.hid (X0.keep c1)
    have B1 := Lib.hid (below_then b0 b0.size c1)
    have p1 := (P0.keep c1).c0
    have I1 := INV.out w1 B1.out
    rw [hi] at I1
    clear X0 P0 c1 b0 IM INV p0 hi
    go_wp2_with fail
    with_reducible refine I1.mono ?_
    rintro e w2 ⟨u, rfl, -, c2⟩
    have X2 := X1.out.keep c2
    have B2 := Lib.hid (below_then B1.out B1.out.size c2)
    clear X1 c2
    have q0 := X2.c0
    have q1 := X2.c1
    have f0 := X2.f0
    have f1 := X2.f1
    clear X2
    go_wp2
    refine bodyPost_ret (v := .tuple #[.agg #[.slice none 0 0, .slice none 0 0], .bool false]) (by simp [results, Tryz.results9, go_sem, q0, q1]) rfl ⟨.slice none 0 0, .slice none 0 0, by rw [HT.out], by rw [HT.out]; exact MoveO.nil _ _ _ (by have h1 := B2.out.size; first | exact h1 | (simp only [World.size_setCell]; exact h1)), ?_⟩
    first | exact B2.out | exact (B2.out.setCell (Nat.le_succ _) _).setCell (Nat.le_succ _) _
  obtain ⟨hnm, hn1⟩ := invV_mat hi
  have hmv := moveB_mv hm
  have hNl : (invM U).length = 2 := by simp [invM, hmv.len]
  have hsq : ∀ i, i < 2 → ((invM U).getD i []).length = 2 ∧ allIn ((invM U).getD i []) (-100) 100 = true := fun i hi => by
    have := matB_row hnm (k := i) (by omega)
    exact ⟨this.1.trans hNl, this.2⟩
  have hvb := hmv.vin
  have hvl := hmv.vlen
  have hOK : imvOk U V = moveB (invM U) (ngV (invM U) V) := by unfold imvOk; rw [hm, hi]; rfl
  have HNO := Lib.hid (fun e => imvV_no (hOK.trans e))
  have HYES := Lib.hid (fun e => imvV_yes (hOK.trans e))
  have hd0 := dotS_bd ⟨(hsq 0 (by omega)).1, allIn_up (hsq 0 (by omega)).2 (by omega) (by omega)⟩ (moveB_pt hm)
  have hd1 := dotS_bd ⟨(hsq 1 (by omega)).1, allIn_up (hsq 1 (by omega)).2 (by omega) (by omega)⟩ (moveB_pt hm)
  rw [hi, hn1] at INV
  have I2 := Lib.hid i2
  have HNG := Lib.hid (show ngV (invM U) V = [-(dotI ((invM U).getD 0 []) V), -(dotI ((invM U).getD 1 []) V)] from rfl)
  have HSQ := Lib.hid hsq
  have HVB := Lib.hid hvb
  have HVL := Lib.hid hvl
  have HNL := Lib.hid hNl
  clear hm hi hOK i1 i2 hnm hn1 hmv hsq hvb hvl hNl
  generalize imvV U V = R at *
  generalize invM U = N at *
  generalize ngV N V = G at *
  go_enter Tryz.func9, Tryz.ntmps9
  go_wp2_with fail
  rw [← hw0]
  clear hw0
  with_reducible refine IM.mono ?_
  rintro e w1 ⟨rfl, c1⟩
  have X1 := Lib.hid (X0.keep c1)
  have P1 := Lib.hid (P0.keep c1)
  have B1 := Lib.hid (below_then b0 b0.size c1)
  have p1 := P1.out.c0
  have I1 := INV.out w1 B1.out
  have HZ1 := Lib.hid c1.size
  clear X0 P0 c1 b0 IM INV p0
  go_upto_region 6 with (go_at_call 34; (with_reducible refine I1.mono ?_); rintro e w2 ⟨u, rfl, ku, c2⟩)
  obtain ⟨b, off, cap, VV, rfl, hbb, hcell⟩ := ku.read.two HNL.out
  have B2 := Lib.hid (below_then B1.out B1.out.size c2)
  have X2 := X1.out.keep c2
  have P2 := P1.out.keep c2
  have z1 : w0.heap.size ≤ w1.heap.size := HZ1.out
  have z2 : w1.heap.size ≤ w2.heap.size := c2.size
  have hs0' := HS0.out
  have hzw : w.heap.size ≤ w2.heap.size := B2.out.size
  have HC0 := Lib.hid (fun W (B : Below w2.heap.size w2 W) => (B.cell (p := ⟨b, off, none⟩) hbb).trans (show w2.cell? ⟨b, off, none⟩ = some (VV 0) from (hcell 0 (by omega)).1))
  have HC1 := Lib.hid (fun W (B : Below w2.heap.size w2 W) => (B.cell (p := ⟨b, off + 1, none⟩) hbb).trans (hcell 1 (by omega)).1)
  have HP1 := Lib.hid (fun W (B : Below w2.heap.size w2 W) => (P2.keep B).c1)
  have h0 := (hcell 0 (by omega)).2
  have h1 := (hcell 1 (by omega)).2
  generalize VV 0 = r0 at *
  generalize VV 1 = r1 at *
  clear X1 P1 p1 c2 hcell I1 HZ1
  have V2 := Lib.hid (fun W (B : Below w2.heap.size w2 W) => (I2.out.keep (B2.out.trans (B.mono hzw)) hhb))
  have DA := Lib.hid (fun W (B : Below w2.heap.size w2 W) => dot_any (N.getD 0 []) V r0 v2 w2.heap.size hb W (h0.keep B (Nat.le_refl _)) (V2.out W B) (by rw [(HSQ.out 0 (by omega)).1, HVL.out]; omega) (by rw [(HSQ.out 0 (by omega)).1]; omega) (allIn_up (HSQ.out 0 (by omega)).2 (by omega) (by omega)) HVB.out)
  have DB := Lib.hid (fun W (B : Below w2.heap.size w2 W) => dot_any (N.getD 1 []) V r1 v2 w2.heap.size hb W (h1.keep B (Nat.le_refl _)) (V2.out W B) (by rw [(HSQ.out 1 (by omega)).1, HVL.out]; omega) (by rw [(HSQ.out 1 (by omega)).1]; omega) (allIn_up (HSQ.out 1 (by omega)).2 (by omega) (by omega)) HVB.out)
  have HNL2 := Lib.hid HNL.out
  generalize dotI (N.getD 0 []) V = x at *
  generalize dotI (N.getD 1 []) V = y at *
  have g0 := wr64 (-x) (by omega)
  have g1 := wr64 (-y) (by omega)
  have Bd : Below w2.heap.size w2 w2.drew := below_draws _ _ 1
  have cA := HC0.out _ (Below.refl _ w2)
  have cB := HC1.out _ (Below.refl _ w2)
  have cC := HP1.out _ (Below.refl _ w2)
  have KU := Lib.hid ku
  have X2' := Lib.hid X2
  have zz : w2.drew.heap.size = w2.heap.size := rfl
  clear hd0 hd1 ku h0 h1 X2 P2 HSQ HVB HVL I2 V2
  go_cut [6] (fun s wx => ∃ (M g : Nat), s = .pointer (some ⟨M, 0, none⟩) ∧ Hid (w.heap.size + 1 < M) ∧ Hid (Box2 wx M (.slice (some ⟨b, off, none⟩) 2 cap) (.slice (some ⟨g, 0, none⟩) 2 2)) ∧ Hid (MoveO wx w0.heap.size wx.heap.size (.slice (some ⟨b, off, none⟩) 2 cap) (.slice (some ⟨g, 0, none⟩) 2 2) N [-x, -y]) ∧ Hid (Box2 wx (w.heap.size + 1) (.slice none 0 0) (.slice none 0 0)) ∧ Hid (Below w.heap.size w wx))
  case first =>
    go_region_held3 (fun w' => w'.cell? ⟨b, off, none⟩ = some r0 ∧ w'.cell? ⟨b, off + 1, none⟩ = some r1 ∧ w'.cell? ⟨w.heap.size, 1, none⟩ = some v2)
      (first | exact ⟨cA, cB, cC⟩ | exact ⟨HC0.out _ B4, HC1.out _ B4, HP1.out _ B4⟩ | exact ⟨HC0.out _ B3, HC1.out _ B3, HP1.out _ B3⟩ | (refine ⟨HC0.out _ ?_, HC1.out _ ?_, HP1.out _ ?_⟩ <;> first | exact B4.alloc B4.size _ | exact (B4.alloc B4.size _).alloc (Nat.le_trans B4.size (by simp)) _ | exact ((B4.alloc B4.size _).setCell (by dsimp only; omega) _).setCell (by dsimp only; omega) _ | exact (((B4.alloc B4.size _).alloc (Nat.le_trans B4.size (by simp)) _).setCell (by dsimp only; omega) _).setCell (by dsimp only; omega) _) | go_keep)
      (first
        | (go_at_call 29; have Yq := Y3; (with_reducible refine (DB.out _ B3).mono ?_); rintro e w4 ⟨rfl, d4, hw4⟩; have c4 := below_draws w3.heap.size w3 d4; rw [← hw4] at c4; clear hw4; have B4 := below_then B3 B3.size c4; have Y4 := Yq.keep c4; have y0 := Y4.c0; have y1 := Y4.c1; have y2 := Y4.f0; have y3 := Y4.f1; have Y5 := Y4.keep (below1 w4 (.cells #[.int .i64 (-x), .int .i64 (-y)] 3)); have y4 := Y5.c0; have y5 := Y5.c1; have y6 := Y5.f0; have y7 := Y5.f1; have z4 := c4.size; have z3 := B3.size)
        | (go_at_call 29; have f := below1 w3 (.cells #[.slice none 0 0, .slice none 0 0] 27); have BB := below_then B3 B3.size f; (with_reducible refine (DB.out _ BB).mono ?_); rintro e w4 ⟨rfl, d4, hw4⟩; have c4 := below_draws (w3.alloc (.cells #[.slice none 0 0, .slice none 0 0] 27)).heap.size (w3.alloc (.cells #[.slice none 0 0, .slice none 0 0] 27)) d4; rw [← hw4] at c4; clear hw4; have B4 := below_then BB BB.size c4; have Y4 := (box2_new w3 (.slice none 0 0) (.slice none 0 0) 27).keep c4; have y0 := Y4.c0; have y1 := Y4.c1; have y2 := Y4.f0; have y3 := Y4.f1; have Y5 := Y4.keep (below1 w4 (.cells #[.int .i64 (-x), .int .i64 (-y)] 3)); have y4 := Y5.c0; have y5 := Y5.c1; have y6 := Y5.f0; have y7 := Y5.f1; have z4 := c4.size; have z3 := B3.size; have zf : (w3.alloc (.cells #[.slice none 0 0, .slice none 0 0] 27)).heap.size = w3.heap.size + 1 := World.size_alloc _ _)
        | (go_at_call 29; (with_reducible refine (DB.out _ B3).mono ?_); rintro e w4 ⟨rfl, d4, hw4⟩; have c4 := below_draws w3.heap.size w3 d4; rw [← hw4] at c4; clear hw4; have B4 := below_then B3 B3.size c4; have z4 := c4.size; have z3 := B3.size; have Y5 := (box2_new w4 (.slice none 0 0) (.slice none 0 0) 27).keep (below1 _ (.cells #[.int .i64 (-x), .int .i64 (-y)] 3)); have y4 := Y5.c0; have y5 := Y5.c1; have y6 := Y5.f0; have y7 := Y5.f1)
        | (go_at_call 29; have f : Below w2.heap.size w2 (w2.alloc (.cells #[.slice none 0 0, .slice none 0 0] 27)).drew := (below1 w2 (.cells #[.slice none 0 0, .slice none 0 0] 27)).trans (below_draws _ _ 1); (with_reducible refine (DA.out _ f).mono ?_); rintro e w3 ⟨rfl, d3, hw3⟩; have c3 := below_draws (w2.alloc (.cells #[.slice none 0 0, .slice none 0 0] 27)).drew.heap.size (w2.alloc (.cells #[.slice none 0 0, .slice none 0 0] 27)).drew d3; rw [← hw3] at c3; clear hw3; have B3 := below_then f f.size c3; have Y3 := ((box2_new w2 (.slice none 0 0) (.slice none 0 0) 27).keep (below_draws _ _ 1)).keep c3; have zf : (w2.alloc (.cells #[.slice none 0 0, .slice none 0 0] 27)).drew.heap.size = w2.heap.size + 1 := World.size_alloc _ _; have zg := c3.size)
        | (go_at_call 29; (with_reducible refine (DA.out _ Bd).mono ?_); rintro e w3 ⟨rfl, d3, hw3⟩; have c3 := below_draws w2.drew.heap.size w2.drew d3; rw [← hw3] at c3; clear hw3; have B3 := below_then Bd Bd.size c3))
    all_goals clear DA DB HC0 HC1 HP1 HNO HYES g0 g1 cA cB cC
    all_goals go_wp2_with fail
    all_goals go_meet
    all_goals
      have K4 := KU.out.keep B4 (Nat.le_refl _)
      have X4 := X2'.out.keep B4
      have BB4 : Below w.heap.size w w4 := B2.out.trans (B4.mono hzw)
      have zb := B4.size
      have zc := BB4.size
      have IL := IS.lit2 w4 w4.heap.size (Nat.le_refl _) (-x) (-y)
      have ze : (w4.alloc (.cells #[.int .i64 (-x), .int .i64 (-y)] 3)).heap.size = w4.heap.size + 1 := World.size_alloc _ _
    all_goals first
      | exact ⟨_, _, rfl, Lib.hid (by omega), Lib.hid (by have := box2_new (w4.alloc (.cells #[.int .i64 (-x), .int .i64 (-y)] 3)) (.slice (some ⟨b, off, none⟩) 2 cap) (.slice (some ⟨w4.heap.size, 0, none⟩) 2 2) 27; rw [ze] at this; exact this), Lib.hid (MoveO.of (K4.keep (below2 w4 _ _) zb) (IL.keep (below1 (w4.alloc (.cells #[.int .i64 (-x), .int .i64 (-y)] 3)) _) (Nat.le_of_eq ze.symm)) (.inl zb) (by omega) (by simp; omega) (by omega) (by simp)), Lib.hid (X4.keep (below2 w4 _ _)), Lib.hid (BB4.trans ((below2 w4 _ _).mono zc))⟩
      | (have yl := Y4.lt; exact ⟨_, _, rfl, Lib.hid (by omega), Lib.hid (((Y4.keep (below1 w4 _)).set0 _).set1 _), Lib.hid (MoveO.of (((K4.keep (below1 w4 _) zb).setOther (.inr (by dsimp only; omega)) _).setOther (.inr (by dsimp only; omega)) _) ((IL.setOther (.inl (by dsimp only; omega)) _).setOther (.inl (by dsimp only; omega)) _) (.inl zb) (by omega) (by simp; omega) (by omega) (by simp)), Lib.hid (((X4.keep (below1 w4 _)).other (by dsimp only; omega) _).other (by dsimp only; omega) _), Lib.hid (((BB4.alloc zc _).setCell (by dsimp only; omega) _).setCell (by dsimp only; omega) _)⟩)
      | exact ⟨_, _, rfl, Lib.hid (by omega), Lib.hid ((box2_new w4 _ _ _).keep (below1 _ _)), Lib.hid (MoveO.of (K4.keep (below2 w4 _ _) zb) (IS.lit2g (w4.alloc _) w4.heap.size (w4.heap.size + 1) (World.size_alloc _ _) (by omega) (-x) (-y)) (.inl zb) (by omega) (by simp; omega) (by omega) (by simp)), Lib.hid (X4.keep (below2 w4 _ _)), Lib.hid (BB4.trans ((below2 w4 _ _).mono zc))⟩
  case rest =>
    obtain ⟨M, g, rfl, hN, HY, HCO, HX, HB⟩ := hcut
    rw [← HNG.out] at HCO
    have v0 := HY.out.c0
    have v1' := HY.out.c1
    have C := implIsMove_any N G _ _ _ _ HCO.out.fstR HCO.out.sndR (Nat.le_refl _)
    have hs2 := HS0.out
    clear X2' KU zz Bd g0 g1 DA DB HC0 HC1 HP1 cA cB cC
    go_wp2_with fail
    cases hc : moveB N G
    all_goals
      rw [hc] at C
      with_reducible refine C.mono ?_
      rintro e w7 ⟨rfl, c7⟩
      have X7 := HX.out.keep c7
      have Y7 := HY.out.keep c7
      have B7 := Lib.hid (below_then HB.out HB.out.size c7)
      have CO7 := Lib.hid (HCO.out.keep c7 (Nat.le_refl _))
      have Z7 := Lib.hid c7.size
      have hN7 := hN.out
      clear c7 C v0 v1'
    · have HT := Lib.hid (HNO.out hc)
      clear Y7
      have q0 := X7.c0
      have q1 := X7.c1
      have f0 := X7.f0
      have f1 := X7.f1
      clear X7
      go_wp2
      refine bodyPost_ret (v := .tuple #[.agg #[.slice none 0 0, .slice none 0 0], .bool false]) (by simp [results, Tryz.results9, go_sem, q0, q1]) rfl ⟨.slice none 0 0, .slice none 0 0, by rw [HT.out], by rw [HT.out]; exact MoveO.nil _ _ _ (by have h1 := B7.out.size; first | exact h1 | (simp only [World.size_setCell]; exact h1)), ?_⟩
      first | exact B7.out | exact (B7.out.setCell (Nat.le_succ _) _).setCell (Nat.le_succ _) _
    · have HT := Lib.hid (HYES.out hc)
      have q0 := X7.c0
      have q1 := X7.c1
      have f0 := X7.f0
      have f1 := X7.f1
      have y0 := Y7.c0
      have y1 := Y7.c1
      clear X7 Y7
      go_wp2
      refine bodyPost_ret (v := .tuple #[.agg #[.slice (some ⟨b, off, none⟩) 2 cap, .slice (some ⟨g, 0, none⟩) 2 2], .bool true]) (by simp [results, Tryz.results9, go_sem, q0, q1]) rfl ⟨_, _, by rw [HT.out], ?_, ?_⟩
      · rw [HT.out]
        have h3 := Z7.out
        exact ((CO7.out.setOther (a := ⟨w.heap.size + 1, 0, none⟩) (.inl (by dsimp only; omega)) _).setOther (a := ⟨w.heap.size + 1, 1, none⟩) (.inl (by dsimp only; omega)) _).mono (by omega) (by simp only [World.size_setCell]; exact h3)
      · exact (B7.out.setCell (Nat.le_succ _) _).setCell (Nat.le_succ _) _
set_option maxRecDepth 100000 in
set_option maxHeartbeats 8000000 in
theorem specInverseMove_any (U : List (List Int)) (V : List Int) (v1 v2 : Value) (hb : Nat) (w : World) (i1 : ISSr w hb v1 U) (i2 : ISr w hb v2 V) (hhb : hb ≤ w.heap.size) :
    Calls Tryz.prog 10 #[.agg #[v1, v2]] w fun e w' => ∃ u1 u2, e = .returned (.tuple #[.agg #[u1, u2], .bool (imvV U V).2]) ∧ MoveO w' w.heap.size w'.heap.size u1 u2 (imvV U V).1.1 (imvV U V).1.2 ∧ Below w.heap.size w w' := by
  obtain ⟨w0, hw0⟩ : ∃ w0, w0 = (w.alloc (.cells #[v1, v2] 27)).alloc (.cells #[.slice none 0 0, .slice none 0 0] 27) := ⟨_, rfl⟩
  have b0 : Below w.heap.size w w0 := by rw [hw0]; exact below2 w _ _
  have hs0 : w0.heap.size = w.heap.size + 2 := by rw [hw0]; simp
  have P0 : Box2 w0 w.heap.size v1 v2 := by rw [hw0]; exact (box2_new w _ _ _).keep (below1 _ _)
  have X0 : Box2 w0 (w.heap.size + 1) (.slice none 0 0) (.slice none 0 0) := by rw [hw0]; have := box2_new (w.alloc (.cells #[v1, v2] 27)) (.slice none 0 0) (.slice none 0 0) 27; simpa using this
  have HS0 := Lib.hid hs0
  have IM := specIsMove_any U V v1 v2 hb w0 (i1.keep b0 hhb) (i2.keep b0 hhb) (by omega)
  have p0 := P0.c0
  cases hm : moveB U V
  case false =>
    have HT := Lib.hid (imvV_no (show imvOk U V = false by unfold imvOk; rw [hm]; rfl))
    rw [hm] at IM
    clear i1 i2 hm p0
    go_enter Tryz.func10, Tryz.ntmps10
    go_wp2_with fail
    rw [← hw0]
    clear hw0
    with_reducible refine IM.mono ?_
    rintro e w1 ⟨rfl, c1⟩
    have X1 := X0.keep c1
    have B1 := Lib.hid (below_then b0 b0.size c1)
    clear X0 P0 c1 b0 IM
    have q0 := X1.c0
    have q1 := X1.c1
    have f0 := X1.f0
    have f1 := X1.f1
    clear X1
    go_wp2
    refine bodyPost_ret (v := .tuple #[.agg #[.slice none 0 0, .slice none 0 0], .bool false]) (by simp [results, Tryz.results10, go_sem, q0, q1]) rfl ⟨.slice none 0 0, .slice none 0 0, by rw [HT.out], by rw [HT.out]; exact MoveO.nil _ _ _ (by have h1 := B1.out.size; first | exact h1 | (simp only [World.size_setCell]; exact h1)), ?_⟩
    first | exact B1.out | exact (B1.out.setCell (Nat.le_succ _) _).setCell (Nat.le_succ _) _
  rw [hm] at IM
  have INV := Lib.hid (fun W (B : Below w.heap.size w W) => specInverse_any U v1 hb W (i1.keep B hhb) (Nat.le_trans hhb B.size))
  cases hi : (invV U).2
  case false =>
    have HT := Lib.hid (imvV_no (show imvOk U V = false by unfold imvOk; rw [hm, hi]; rfl))
    clear i1 i2 hm
    go_enter Tryz.func10, Tryz.ntmps10
    go_wp2_with fail
    rw [← hw0]
    clear hw0
    with_reducible refine IM.mono ?_
    rintro e w1 ⟨rfl, c1⟩
    have X1 := Lib.hid (X0.keep c1)
    have B1 := Lib.hid (below_then b0 b0.size c1)
    have p1 := (P0.keep c1).c0
    have I1 := INV.out w1 B1.out
    rw [hi] at I1
    clear X0 P0 c1 b0 IM INV p0 hi
    go_wp2_with fail
    with_reducible refine I1.mono ?_
    rintro e w2 ⟨u, rfl, -, c2⟩
    have X2 := X1.out.keep c2
    have B2 := Lib.hid (below_then B1.out B1.out.size c2)
    clear X1 c2
    have q0 := X2.c0
    have q1 := X2.c1
    have f0 := X2.f0
    have f1 := X2.f1
    clear X2
    go_wp2
    refine bodyPost_ret (v := .tuple #[.agg #[.slice none 0 0, .slice none 0 0], .bool false]) (by simp [results, Tryz.results10, go_sem, q0, q1]) rfl ⟨.slice none 0 0, .slice none 0 0, by rw [HT.out], by rw [HT.out]; exact MoveO.nil _ _ _ (by have h1 := B2.out.size; first | exact h1 | (simp only [World.size_setCell]; exact h1)), ?_⟩
    first | exact B2.out | exact (B2.out.setCell (Nat.le_succ _) _).setCell (Nat.le_succ _) _
  obtain ⟨hnm, hn1⟩ := invV_mat hi
  have hmv := moveB_mv hm
  have hNl : (invM U).length = 2 := by simp [invM, hmv.len]
  have hsq : ∀ i, i < 2 → ((invM U).getD i []).length = 2 ∧ allIn ((invM U).getD i []) (-100) 100 = true := fun i hi => by
    have := matB_row hnm (k := i) (by omega)
    exact ⟨this.1.trans hNl, this.2⟩
  have hvb := hmv.vin
  have hvl := hmv.vlen
  have hOK : imvOk U V = moveB (invM U) (ngV (invM U) V) := by unfold imvOk; rw [hm, hi]; rfl
  have HNO := Lib.hid (fun e => imvV_no (hOK.trans e))
  have HYES := Lib.hid (fun e => imvV_yes (hOK.trans e))
  have hd0 := dotS_bd ⟨(hsq 0 (by omega)).1, allIn_up (hsq 0 (by omega)).2 (by omega) (by omega)⟩ (moveB_pt hm)
  have hd1 := dotS_bd ⟨(hsq 1 (by omega)).1, allIn_up (hsq 1 (by omega)).2 (by omega) (by omega)⟩ (moveB_pt hm)
  rw [hi, hn1] at INV
  have I2 := Lib.hid i2
  have HNG := Lib.hid (show ngV (invM U) V = [-(dotI ((invM U).getD 0 []) V), -(dotI ((invM U).getD 1 []) V)] from rfl)
  have HSQ := Lib.hid hsq
  have HVB := Lib.hid hvb
  have HVL := Lib.hid hvl
  have HNL := Lib.hid hNl
  clear hm hi hOK i1 i2 hnm hn1 hmv hsq hvb hvl hNl
  generalize imvV U V = R at *
  generalize invM U = N at *
  generalize ngV N V = G at *
  go_enter Tryz.func10, Tryz.ntmps10
  go_wp2_with fail
  rw [← hw0]
  clear hw0
  with_reducible refine IM.mono ?_
  rintro e w1 ⟨rfl, c1⟩
  have X1 := Lib.hid (X0.keep c1)
  have P1 := Lib.hid (P0.keep c1)
  have B1 := Lib.hid (below_then b0 b0.size c1)
  have p1 := P1.out.c0
  have I1 := INV.out w1 B1.out
  have HZ1 := Lib.hid c1.size
  clear X0 P0 c1 b0 IM INV p0
  go_upto_region 6 with (go_at_call 35; (with_reducible refine I1.mono ?_); rintro e w2 ⟨u, rfl, ku, c2⟩)
  obtain ⟨b, off, cap, VV, rfl, hbb, hcell⟩ := ku.read.two HNL.out
  have B2 := Lib.hid (below_then B1.out B1.out.size c2)
  have X2 := X1.out.keep c2
  have P2 := P1.out.keep c2
  have z1 : w0.heap.size ≤ w1.heap.size := HZ1.out
  have z2 : w1.heap.size ≤ w2.heap.size := c2.size
  have hs0' := HS0.out
  have hzw : w.heap.size ≤ w2.heap.size := B2.out.size
  have HC0 := Lib.hid (fun W (B : Below w2.heap.size w2 W) => (B.cell (p := ⟨b, off, none⟩) hbb).trans (show w2.cell? ⟨b, off, none⟩ = some (VV 0) from (hcell 0 (by omega)).1))
  have HC1 := Lib.hid (fun W (B : Below w2.heap.size w2 W) => (B.cell (p := ⟨b, off + 1, none⟩) hbb).trans (hcell 1 (by omega)).1)
  have HP1 := Lib.hid (fun W (B : Below w2.heap.size w2 W) => (P2.keep B).c1)
  have h0 := (hcell 0 (by omega)).2
  have h1 := (hcell 1 (by omega)).2
  generalize VV 0 = r0 at *
  generalize VV 1 = r1 at *
  clear X1 P1 p1 c2 hcell I1 HZ1
  have cC := HP1.out _ (Below.refl _ w2)
  have A1 := l3Apply_any N V (.slice (some ⟨b, off, none⟩) 2 cap) v2 w2.heap.size w2 ku.read ((I2.out.keep B2.out hhb).upto (by omega)) (Nat.le_refl _) HNL.out (fun i hi => ⟨(HSQ.out i hi).1, allIn_up (HSQ.out i hi).2 (by omega) (by omega)⟩) HVL.out HVB.out
  generalize dotI (N.getD 0 []) V = x at *
  generalize dotI (N.getD 1 []) V = y at *
  have KU := Lib.hid ku
  have X2' := Lib.hid X2
  clear ku h0 h1 X2 P2 HSQ HVB HVL I2
  go_wp2_with fail
  with_reducible refine A1.mono ?_
  rintro e w3 ⟨u3, rfl, k3, c3⟩
  have S1 := l2Scale_any [x, y] u3 (-1) w3.heap.size w3 k3.read (Nat.le_refl _) (by simp) (fun k hk => by
    match k, hk with
    | 0, _ => show -9223372036854775808 ≤ x * -1 ∧ x * -1 ≤ 9223372036854775807; omega
    | 1, _ => show -9223372036854775808 ≤ y * -1 ∧ y * -1 ≤ 9223372036854775807; omega)
  have z3 := c3.size
  clear A1 k3
  go_wp2_with fail
  with_reducible refine S1.mono ?_
  rintro e w4 ⟨u4, rfl, k4, c4⟩
  rw [show ([x, y].map (· * -1)) = [-x, -y] by simp] at k4
  have z4 := c4.size
  obtain ⟨a4, cp4, hu4, -⟩ := id k4
  obtain rfl : u4 = .slice a4 2 cp4 := hu4
  have c24 := c3.trans (c4.mono z3)
  have X4 := X2'.out.keep c24
  have K4 := KU.out.keep c24 (Nat.le_refl _)
  have BB4 := below_then B2.out B2.out.size c24
  have b6 := below1 w4 (.cells #[.slice (some ⟨b, off, none⟩) 2 cap, .slice a4 2 cp4] 27)
  have hM := Lib.hid (rfl : w4.heap.size = w4.heap.size)
  have HY := Lib.hid (box2_new w4 (.slice (some ⟨b, off, none⟩) 2 cap) (.slice a4 2 cp4) 27)
  have HX := Lib.hid (X4.keep b6)
  have HCO := Lib.hid (MoveO.of (lo := w0.heap.size) (hi := (w4.alloc (.cells #[.slice (some ⟨b, off, none⟩) 2 cap, .slice a4 2 cp4] 27)).heap.size) (K4.keep b6 (by omega)) (k4.keep b6 (Nat.le_refl _)) (.inl z3) (by omega) (by simp; omega) (by omega) (by simp))
  have HB := Lib.hid (BB4.trans (b6.mono (by omega)))
  have hN := Lib.hid (show w.heap.size + 1 < w4.heap.size by omega)
  rw [← HNG.out] at HCO
  clear k4 c4 c3 c24 X4 K4 BB4 b6 S1 hM KU X2' HC0 HC1 HP1 cC hd0 hd1
  have v0 := HY.out.c0
  have v1' := HY.out.c1
  have C := specIsMove_any N G _ _ _ _ HCO.out.fstR HCO.out.sndR (Nat.le_refl _)
  have hs2 := HS0.out
  clear z3
  go_wp2_with fail
  cases hc : moveB N G
  all_goals
    rw [hc] at C
    with_reducible refine C.mono ?_
    rintro e w7 ⟨rfl, c7⟩
    have X7 := HX.out.keep c7
    have Y7 := HY.out.keep c7
    have B7 := Lib.hid (below_then HB.out HB.out.size c7)
    have CO7 := Lib.hid (HCO.out.keep c7 (Nat.le_refl _))
    have Z7 := Lib.hid c7.size
    have hN7 := hN.out
    clear c7 C v0 v1'
  · have HT := Lib.hid (HNO.out hc)
    clear Y7
    have q0 := X7.c0
    have q1 := X7.c1
    have f0 := X7.f0
    have f1 := X7.f1
    clear X7
    go_wp2
    refine bodyPost_ret (v := .tuple #[.agg #[.slice none 0 0, .slice none 0 0], .bool false]) (by simp [results, Tryz.results10, go_sem, q0, q1]) rfl ⟨.slice none 0 0, .slice none 0 0, by rw [HT.out], by rw [HT.out]; exact MoveO.nil _ _ _ (by have h1 := B7.out.size; first | exact h1 | (simp only [World.size_setCell]; exact h1)), ?_⟩
    first | exact B7.out | exact (B7.out.setCell (Nat.le_succ _) _).setCell (Nat.le_succ _) _
  · have HT := Lib.hid (HYES.out hc)
    have q0 := X7.c0
    have q1 := X7.c1
    have f0 := X7.f0
    have f1 := X7.f1
    have y0 := Y7.c0
    have y1 := Y7.c1
    clear X7 Y7
    go_wp2
    refine bodyPost_ret (v := .tuple #[.agg #[.slice (some ⟨b, off, none⟩) 2 cap, .slice a4 2 cp4], .bool true]) (by simp [results, Tryz.results10, go_sem, q0, q1]) rfl ⟨_, _, by rw [HT.out], ?_, ?_⟩
    · rw [HT.out]
      have h3 := Z7.out
      exact ((CO7.out.setOther (a := ⟨w.heap.size + 1, 0, none⟩) (.inl (by dsimp only; omega)) _).setOther (a := ⟨w.heap.size + 1, 1, none⟩) (.inl (by dsimp only; omega)) _).mono (by omega) (by simp only [World.size_setCell]; exact h3)
    · exact (B7.out.setCell (Nat.le_succ _) _).setCell (Nat.le_succ _) _
end Go.Proofs.YtehhoplenloocaaGreat
