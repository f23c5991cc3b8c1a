/- l17Frame: the model's walk. -/
import Derived.Test.YtehhoplenloocaaGreatFrmA
import Derived.Test.YtehhoplenloocaaGreatB17
import Derived.Test.YtehhoplenloocaaGreatB18
namespace Go.Proofs.YtehhoplenloocaaGreat
open Go.RowKit
set_option linter.unusedVariables false
set_option linter.unusedSimpArgs false

theorem BK.row2 (w : World) (r0 r1 : Value) : BK (w.alloc (.cells #[r0, r1] 25)) w.heap.size 0 2 25 (fun i => if i = 0 then r0 else r1) := ⟨_, heap_alloc_new w _, fun i hi => by
  match i, hi with
  | 0, _ => rfl
  | 1, _ => rfl⟩
theorem MO.lit22 (w : World) (x y z t : Int) : MO (((w.alloc (.cells #[.int .i64 x, .int .i64 y] 3)).alloc (.cells #[.int .i64 z, .int .i64 t] 3)).alloc (.cells #[.slice (some ⟨w.heap.size, 0, none⟩) 2 2, .slice (some ⟨w.heap.size + 1, 0, none⟩) 2 2] 25)) w.heap.size (w.heap.size + 1 + 1) 0 2 [[x, y], [z, t]] := by
  have bk := BK.row2 ((w.alloc (.cells #[.int .i64 x, .int .i64 y] 3)).alloc (.cells #[.int .i64 z, .int .i64 t] 3)) (.slice (some ⟨w.heap.size, 0, none⟩) 2 2) (.slice (some ⟨w.heap.size + 1, 0, none⟩) 2 2)
  rw [World.size_alloc, World.size_alloc] at bk
  refine ⟨_, bk, fun i hi => ?_⟩
  match i, hi with
  | 0, _ => exact (((IS.lit2 w w.heap.size (Nat.le_refl _) x y).keep (below1 _ _) (by simp)).keep (below1 _ _) (by simp)).mono (Nat.le_refl _) (by simp)
  | 1, _ => exact ((IS.lit2H (w.alloc (.cells #[.int .i64 x, .int .i64 y] 3)) w.heap.size (w.heap.size + 1) (by simp) (by omega) z t).keep (below1 _ _) (by simp)).mono (Nat.le_refl _) (by simp)
theorem MO.lit22' (w : World) (x y z t : Int) : MO (((w.alloc (.cells #[.int .i64 z, .int .i64 t] 3)).alloc (.cells #[.int .i64 x, .int .i64 y] 3)).alloc (.cells #[.slice (some ⟨w.heap.size + 1, 0, none⟩) 2 2, .slice (some ⟨w.heap.size, 0, none⟩) 2 2] 25)) w.heap.size (w.heap.size + 1 + 1) 0 2 [[x, y], [z, t]] := by
  have bk := BK.row2 ((w.alloc (.cells #[.int .i64 z, .int .i64 t] 3)).alloc (.cells #[.int .i64 x, .int .i64 y] 3)) (.slice (some ⟨w.heap.size + 1, 0, none⟩) 2 2) (.slice (some ⟨w.heap.size, 0, none⟩) 2 2)
  rw [World.size_alloc, World.size_alloc] at bk
  refine ⟨_, bk, fun i hi => ?_⟩
  match i, hi with
  | 1, _ => exact (((IS.lit2 w w.heap.size (Nat.le_refl _) z t).keep (below1 _ _) (by simp)).keep (below1 _ _) (by simp)).mono (Nat.le_refl _) (by simp)
  | 0, _ => exact ((IS.lit2H (w.alloc (.cells #[.int .i64 z, .int .i64 t] 3)) w.heap.size (w.heap.size + 1) (by simp) (by omega) x y).keep (below1 _ _) (by simp)).mono (Nat.le_refl _) (by simp)
theorem sq22 (x y z t : Int) : Sq 2 [[x, y], [z, t]] := ⟨rfl, fun i hi => by
  match i, hi with
  | 0, _ => rfl
  | 1, _ => rfl⟩
theorem quo_bd {P Q : Int} (hQ : 1 ≤ Q) (hP : -20000 ≤ P ∧ P ≤ 20000) : -20000 ≤ P / Q ∧ P / Q ≤ 20000 := by
  constructor
  · rw [Int.le_ediv_iff_mul_le (by omega)]
    have : 20000 * Q ≥ 20000 * 1 := Int.mul_le_mul_of_nonneg_left hQ (by omega)
    omega
  · have h9 : P < 20001 * Q := by
      have : 20001 * Q ≥ 20001 * 1 := Int.mul_le_mul_of_nonneg_left hQ (by omega)
      omega
    have := Int.ediv_lt_of_lt_mul (by omega) h9
    omega
theorem IS.aside {w : World} {lo hi : Nat} {v : Value} {l : List Int} (h : IS w lo hi v l) {a : Addr} (ha : a.block < lo) (x : Value) : IS (w.setCell a x) lo hi v l := h.of_blocks (fun b h1 _ _ => Below.heap_setCell _ _ _ _ (by intro e; omega))
theorem MO.aside {w : World} {lo b off n : Nat} {M : List (List Int)} (h : MO w lo b off n M) (hlo : lo ≤ b) {a : Addr} (ha : a.block < lo) (x : Value) : MO (w.setCell a x) lo b off n M := by
  obtain ⟨V, h⟩ := h
  exact ⟨V, h.outer.of_block (Below.heap_setCell _ _ _ _ (by intro e; omega)), fun i hi => ((h.row i hi).aside ha x).mono (Nat.le_refl _) (by simp)⟩
theorem dotF_bd {a r : List Int} (ha : a.length = 2 ∧ allIn a (-3000000) 3000000 = true) (hr : Two 50 r) : -300000000 ≤ dotI a r ∧ dotI a r ≤ 300000000 := by
  rw [dotI_two ha.1 hr.1]
  have a0 := allIn_at ha.2 0 (by omega)
  have a1 := allIn_at ha.2 1 (by omega)
  have r0 := hr.at.1
  have r1 := hr.at.2
  have m0 := mulM (M := 3000000) (N := 50) a0 r0 (by omega) (by omega)
  have m1 := mulM (M := 3000000) (N := 50) a1 r1 (by omega) (by omega)
  omega
theorem MO.lower {w : World} {lo lo' b off n : Nat} {M : List (List Int)} (h : MO w lo b off n M) (hl : lo' ≤ lo) : MO w lo' b off n M := by
  obtain ⟨V, h⟩ := h
  exact ⟨V, h.outer, fun i hi => (h.row i hi).mono hl (Nat.le_refl _)⟩
theorem MO.bk {w : World} {lo b off n : Nat} {M : List (List Int)} (h : MO w lo b off n M) : b < w.heap.size := by obtain ⟨V, h⟩ := h; exact h.outer.lt
set_option maxRecDepth 100000 in
set_option maxHeartbeats 8000000 in
theorem l17Frame_any (a b c : List Int) (st : Int) (va vb vc : Value) (hb : Nat) (w : World) (ia : ISr w hb va a) (ib : ISr w hb vb b) (ic : ISr w hb vc c) (hhb : hb ≤ w.heap.size) (ba : Two 50 a) (bb : Two 50 b) (bc : Two 50 c) (hs : st = 1 ∨ st = -1)
    (hg : Int.gcd ((primQ (minusI b a)).getD 0 0) ((primQ (minusI b a)).getD 1 0) = 1) (hpos : 0 < st * crossI (primQ (minusI b a)) (minusI c a)) :
    Calls Tryz.prog 41 #[va, vb, vc] w fun e w' => ∃ v1 v2 U V ww, e = .returned (.agg #[v1, v2]) ∧ (∃ bM, v1 = .slice (some ⟨bM, 0, none⟩) 2 2 ∧ w.heap.size ≤ bM ∧ MO w' w.heap.size bM 0 2 U) ∧ IS w' w.heap.size w'.heap.size v2 V ∧ MvB U V ∧ crossI (primQ (minusI b a)) ww = 1 ∧ (∀ x : List Int, x.length = 2 → mvP U V x = frR (primQ (minusI b a)) ww st a c x) ∧ Below w.heap.size w w' := by
  have bv : Two 100 (minusI b a) := bb.minus ba rfl
  have BU : Two 100 (primQ (minusI b a)) := two_prim bv
  have BV : Two 100 (minusI c a) := bc.minus ba rfl
  have HLB := less_minus bb.1 ba.1
  have HLC := less_minus bc.1 ba.1
  obtain ⟨w0, hw0⟩ : ∃ w0, w0 = w.alloc (.cells #[.slice none 0 0, .slice none 0 0] 27) := ⟨_, rfl⟩
  have B0 : Below w.heap.size w w0 := by rw [hw0]; exact below1 w _
  have hs0 : w0.heap.size = w.heap.size + 1 := by rw [hw0]; simp
  have X0 : Box2 w0 w.heap.size (.slice none 0 0) (.slice none 0 0) := by rw [hw0]; exact box2_new w _ _ _
  have LB := l2Less_any b a vb va hb w0 (ib.keep B0 hhb) (ia.keep B0 hhb) (by omega) (by rw [bb.1]; omega) (by rw [bb.1, ba.1]; omega) (fun k hk => by
    have := bb.at; have := ba.at
    rw [bb.1] at hk
    rcases (show k = 0 ∨ k = 1 by omega) with rfl | rfl <;> omega)
  rw [HLB] at LB
  go_enter Tryz.func41, Tryz.ntmps41
  go_wp2_with fail
  rw [← hw0]
  clear hw0
  with_reducible refine LB.mono ?_
  rintro e w1 ⟨u1, rfl, k1, c1⟩
  have LP := l2Prime_any (minusI b a) u1 w1.heap.size w1 k1.read (Nat.le_refl _) (by rw [bv.1]; omega) (fun k hk => by
    have := bv.at
    rw [bv.1] at hk
    rcases (show k = 0 ∨ k = 1 by omega) with rfl | rfl <;> omega)
  clear k1 LB
  go_wp2_with fail
  with_reducible refine LP.mono ?_
  rintro e w2 ⟨u2, rfl, k2, c2⟩
  have HU1 := bv
  clear LP HLB bv HU1
  generalize hu : primQ (minusI b a) = u at *
  have HU := Lib.hid hu
  clear hu
  obtain ⟨a9, b9, M9, h9a, h9b, h9c⟩ := bez_small _ _ BU.at.1 BU.at.2 hg
  have LW := l9BezoutH_any (u.getD 0 0) (u.getD 1 0) u2 w2.heap.size w2 (by rw [← two_form BU.1]; exact k2.read) (Nat.le_refl _) BU.at.1 BU.at.2 a9 b9 M9 h9a h9b h9c
  go_wp2_with fail
  with_reducible refine LW.mono ?_
  rintro e w3 ⟨u3, p, q, rfl, hdet, hp, hq, k3, c3⟩
  clear LW h9a h9b h9c
  have B1 := below_then B0 B0.size c1
  have B2 := below_then B1 B1.size c2
  have B3 := below_then B2 B2.size c3
  have C13 := below_then (below_then c1 c1.size c2) (by have := c1.size; have := c2.size; omega) c3
  have X3 := X0.keep C13
  have k23 := k2.keep c3 (Nat.le_refl _)
  have HK2 := Lib.hid (k23.mono (show w.heap.size ≤ w1.heap.size from B1.size) c3.size)
  obtain ⟨b2, o2, cp2, rfl, hlo2, hb2, z20, z21⟩ := k23.two BU.1
  obtain ⟨b3, o3, cp3, rfl, hlo3, hb3, z30, z31⟩ := k3.two rfl
  simp only [List.getD_cons_zero, List.getD_cons_succ] at z30 z31
  have HDET := Lib.hid (show crossI u [p, q] = 1 from hdet)
  obtain ⟨x, hx⟩ : ∃ x, x = u.getD 0 0 := ⟨_, rfl⟩
  obtain ⟨y, hy⟩ : ∃ y, y = u.getD 1 0 := ⟨_, rfl⟩
  have hu0 := BU.at.1
  have hu1 := BU.at.2
  rw [← hx] at hu0 z20
  rw [← hy] at hu1 z21
  have HX := Lib.hid hx
  have HY := Lib.hid hy
  have HB3 := Lib.hid B3
  have hb2 := Nat.lt_of_lt_of_le hb2 c3.size
  clear k2 k3 k23 hdet c1 c2 c3 C13 B1 B2 B3 X0 B0 hs0 hx hy
  have g0 : IntKind.i64.wrap (-p) = -p := wr64 _ (by omega)
  have g1 : IntKind.i64.wrap (-y) = -y := wr64 _ (by omega)
  have y0 : w3.drew.cell? ⟨b2, o2, none⟩ = some (.int .i64 x) := z20
  have y1 : w3.drew.cell? ⟨b2, o2 + 1, none⟩ = some (.int .i64 y) := z21
  have y2 : w3.drew.cell? ⟨b3, o3, none⟩ = some (.int .i64 p) := z30
  have y3 : w3.drew.cell? ⟨b3, o3 + 1, none⟩ = some (.int .i64 q) := z31
  have HKP := Lib.hid (show ∀ W, Below w3.heap.size w3 W → (W.cell? ⟨b2, o2, none⟩ = some (.int .i64 x) ∧ W.cell? ⟨b2, o2 + 1, none⟩ = some (.int .i64 y)) ∧ W.cell? ⟨b3, o3, none⟩ = some (.int .i64 p) ∧ W.cell? ⟨b3, o3 + 1, none⟩ = some (.int .i64 q) from fun W B =>
    ⟨⟨(B.cell (p := ⟨b2, o2, none⟩) hb2).trans z20, (B.cell (p := ⟨b2, o2 + 1, none⟩) hb2).trans z21⟩, (B.cell (p := ⟨b3, o3, none⟩) hb3).trans z30, (B.cell (p := ⟨b3, o3 + 1, none⟩) hb3).trans z31⟩)
  go_upto_region 3 with fail
  go_cut [9] (fun s wx => ∃ (bM : Nat), s = .slice (some ⟨bM, 0, none⟩) 2 2 ∧ Hid (w3.heap.size ≤ bM) ∧ Hid (MO wx w3.heap.size bM 0 2 [[q, -p], [-y, x]]) ∧ Hid (Below w3.heap.size w3 wx))
  case first =>
    go_region_held3 (fun (w' : World) => (w'.cell? ⟨b2, o2, none⟩ = some (.int .i64 x) ∧ w'.cell? ⟨b2, o2 + 1, none⟩ = some (.int .i64 y)) ∧ w'.cell? ⟨b3, o3, none⟩ = some (.int .i64 p) ∧ w'.cell? ⟨b3, o3 + 1, none⟩ = some (.int .i64 q))
      (first | exact ⟨⟨y0, y1⟩, y2, y3⟩ | exact HKP.out _ (by repeat (first | exact Below.refl _ _ | refine Below.trans ?_ (below_draws _ _ 1) | refine Below.alloc ?_ (by first | (simp; done) | (simp; omega)) _))) (fail)
    all_goals go_wp2_with fail
    all_goals go_meet
    all_goals refine ⟨w3.heap.size + 1 + 1, rfl, Lib.hid (by omega), Lib.hid ?_, Lib.hid (by repeat (first | exact Below.refl _ _ | refine Below.trans ?_ (below_draws _ _ 1) | refine Below.alloc ?_ (by first | (simp; done) | (simp; omega)) _))⟩
    all_goals first
      | exact MO.keep (MO.lit22 w3 q (-p) (-y) x) (below_draws _ _ 1)
      | exact MO.keep (MO.lit22' w3 q (-p) (-y) x) (below_draws _ _ 1)
  case rest =>
  obtain ⟨bM, rfl, hMlo, hMO, hBc⟩ := hcut
  clear y0 y1 y2 y3 z20 z21 z30 z31 HKP g0 g1 HK2
  have B3 := HB3
  have XC := X3.keep hBc.out
  obtain ⟨V, hrw0⟩ := hMO.out
  have hr0 : IS wc w3.heap.size wc.heap.size (V 0) [q, -p] := hrw0.row 0 (by omega)
  have BC := below_then HB3.out HB3.out.size hBc.out
  have LC := l2Less_any c a vc va hb wc (ic.keep BC hhb) (ia.keep BC hhb) (Nat.le_trans hhb BC.size) (by rw [bc.1]; omega) (by rw [bc.1, ba.1]; omega) (fun k hk => by
    have := bc.at; have := ba.at
    rw [bc.1] at hk
    rcases (show k = 0 ∨ k = 1 by omega) with rfl | rfl <;> omega)
  rw [HLC] at LC
  go_wp2_with fail
  with_reducible refine LC.mono ?_
  rintro e w4 ⟨u4, rfl, k4, c4⟩
  have hMO4 := hMO.out.keep c4
  have LA := l3Apply_any [[q, -p], [-y, x]] (minusI c a) (.slice (some ⟨bM, 0, none⟩) 2 2) u4 w4.heap.size w4 (hMO4.read rfl (by decide) (by decide) hMO4.bk) k4.read (Nat.le_refl _) rfl (fun i hi => by
    rcases (show i = 0 ∨ i = 1 by omega) with rfl | rfl
    · exact ⟨rfl, by simp [allIn, inB]; omega⟩
    · exact ⟨rfl, by simp [allIn, inB]; omega⟩) rfl (BV.wide (by omega))
  clear LC k4
  go_wp2_with fail
  with_reducible refine LA.mono ?_
  rintro e w5 ⟨uz, rfl, kz, c5⟩
  clear LA
  have PB := BV.cross (Two.of hp hq) (by omega) (N := 20000) rfl
  have QB := BU.cross BV (by omega) (N := 20000) rfl
  have HP : dotI ([[q, -p], [-y, x]].getD 0 []) (minusI c a) = crossI (minusI c a) [p, q] := by
    rw [dotI_two rfl rfl]; unfold crossI
    simp only [List.getD_cons_zero, List.getD_cons_succ]
    generalize (minusI c a).getD 0 0 = v0
    generalize (minusI c a).getD 1 0 = v1
    grind
  have HQ : dotI ([[q, -p], [-y, x]].getD 1 []) (minusI c a) = crossI u (minusI c a) := by
    rw [dotI_two rfl rfl]; unfold crossI
    rw [← HX.out, ← HY.out]
    simp only [List.getD_cons_zero, List.getD_cons_succ]
    generalize (minusI c a).getD 0 0 = v0
    generalize (minusI c a).getD 1 0 = v1
    grind
  rw [HP, HQ] at kz
  have HMV := Lib.hid (fun (xx : List Int) hxx => frU_moves (w := [p, q]) (a := a) (c := c) (x := xx) BU.1 rfl ba.1 hxx st)
  clear HP HQ HLC bc bb BV
  generalize crossI (minusI c a) [p, q] = P at *
  generalize crossI u (minusI c a) = Q at *
  have C45 := below_then c4 c4.size c5
  have B5 := below_then BC BC.size C45
  have D5 := below_then hBc.out hBc.out.size C45
  have X5 := XC.keep C45
  have M5 := hMO4.keep c5
  obtain ⟨bz, oz, cz, hv, hzlo, hzhi, hzb⟩ : ∃ bz oz cz, uz = .slice (some ⟨bz, oz, none⟩) 2 cz ∧ w4.heap.size ≤ bz ∧ bz < w5.heap.size ∧ BK w5 bz oz 2 3 (fun i => .int .i64 ([P, Q].getD i 0)) := by
    rcases kz.cases with ⟨e, -⟩ | ⟨-, -, b9, o9, c9, e, -, -, h1, h2, h3⟩
    · cases e
    · exact ⟨b9, o9, c9, e, h1, h2, h3⟩
  subst hv
  have hneM : bz ≠ bM := by have := hMO4.bk; omega
  have hneX : w.heap.size ≠ bz := by have := XC.lt; have := c4.size; omega
  have hneX2 : w.heap.size ≠ bM := by have := X3.lt; have := hMlo.out; omega
  have hstz : 1 ≤ st * Q ∧ st * Q ≤ 20000 := ⟨by omega, by rcases hs with e | e <;> rw [e] at hpos ⊢ <;> omega⟩
  have hzlo3 : w3.heap.size ≤ bz := by have := hBc.out.size; have := c4.size; omega
  have hr5 := Lib.hid (hr0.keep C45 (Nat.le_refl _))
  have hrw5 := Lib.hid (hrw0.keep C45)
  have hcz : wc.heap.size ≤ bz ∧ wc.heap.size ≤ w5.heap.size := by have := c4.size; have := c5.size; omega
  clear hr0 hrw0
  have HX3 := Lib.hid X3
  have HB5 := Lib.hid B5
  have HD5 := Lib.hid D5
  have HX5 := Lib.hid X5
  have HM5 := Lib.hid M5
  have HZB := Lib.hid hzb
  have zz1 : w5.cell? ⟨bz, oz + 1, none⟩ = some (.int .i64 Q) := hzb.cell (i := 1) (by omega)
  have zz0 : w5.cell? ⟨bz, oz, none⟩ = some (.int .i64 P) := hzb.cell (i := 0) (by omega)
  clear kz hMO hMO4 hBc c4 c5 C45 B5 D5 X5 M5 XC BC X3 hzb
  go_upto_if 42 with fail
  go_cut [10] (fun s wx => s = .slice (some ⟨bz, oz, none⟩) 2 cz ∧ Hid (MO wx w3.heap.size bM 0 2 [[q, -p], [st * -y, st * x]]) ∧ Hid (Below w3.heap.size w3 wx) ∧ Hid (Box2 wx w.heap.size (.slice none 0 0) (.slice none 0 0)) ∧ bz < wx.heap.size ∧ wx.cell? ⟨bz, oz, none⟩ = some (.int .i64 P) ∧ wx.cell? ⟨bz, oz + 1, none⟩ = some (.int .i64 (st * Q)))
  case first =>
    rcases hs with rfl | rfl
    · have hq : decide (Q < 0) = false := by simp; omega
      go_wp2_with fail
      go_meet
      refine ⟨rfl, ?_, HD5, HX5, hzhi, zz0, by rw [Int.one_mul]; exact zz1⟩
      rw [Int.one_mul, Int.one_mul]; exact HM5
    · have hq : decide (Q < 0) = true := by simp; omega
      have hrw := hrw5.out
      obtain ⟨b6, o6, c6, hV6, z6, hlo6, hhi6, IS6, cell6⟩ := MO.row hrw (sq22 q (-p) (-y) x) (k := 1) (by omega)
      have z6 : w5.cell? ⟨bM, 1, none⟩ = some (.slice (some ⟨b6, o6, none⟩) 2 c6) := z6
      have SC := l2Scale_any [-y, x] (.slice (some ⟨b6, o6, none⟩) 2 c6) (-1) w5.heap.size w5 IS6.read (Nat.le_refl _) (by simp) (fun k hk => by
        rcases (show k = 0 ∨ k = 1 by simp at hk; omega) with rfl | rfl
        · show _ ≤ -y * -1 ∧ -y * -1 ≤ _; omega
        · show _ ≤ x * -1 ∧ x * -1 ≤ _; omega)
      have HRW := Lib.hid hrw
      have hMb : bM < w5.heap.size := hrw.outer.lt
      clear hrw IS6 cell6
      go_wp2_with fail
      with_reducible refine SC.mono ?_
      rintro e w7 ⟨u7, rfl, k7, c7⟩
      obtain ⟨a7, e7, hu7, -⟩ := id k7
      simp only [List.map_cons, List.map_nil] at k7 hu7
      subst hu7
      have R7 := HRW.out.keep c7
      have fM := R7.outer.frozen (0 + 1)
      simp only [Nat.zero_add] at fM
      have S7 := R7.set (k := 1) (by omega) (k7.mono (show w3.heap.size ≤ w5.heap.size from HD5.out.size) (Nat.le_refl _))
      have Z7 := HZB.out.keep c7 hzhi
      have y1 : (w7.setCell ⟨bM, 1, none⟩ (.slice a7 2 e7)).cell? ⟨bz, oz + 1, none⟩ = some (.int .i64 Q) := by
        rw [World.cell?_setCell_other]
        · exact Z7.cell (i := 1) (by omega)
        · intro e; injection e with e; exact hneM e.symm
      have fz : (w7.setCell ⟨bM, 1, none⟩ (.slice a7 2 e7)).frozen? ⟨bz, oz + 1, none⟩ = false := by rw [World.frozen?_setCell]; exact Z7.frozen (oz + 1)
      have d7 := (c7.cell (p := ⟨bM, 1, none⟩) hMb).trans z6
      have hnq : IntKind.i64.wrap (-Q) = -Q := wr64 _ (by omega)
      have zM := fun (v : Value) => World.cell?_setCell_other
      clear zM
      go_wp2
      go_meet
      have hg7 : w7.grownBy (w7.setCell ⟨bM, 1, none⟩ (.slice a7 2 e7)) (some bM) := ⟨rfl, rfl, rfl, by simp, fun i hi hne' => by rw [Below.heap_setCell _ _ _ _ (by intro e; apply hne'; rw [e])]⟩
      have hty : ∀ g, some bM = some g → ∃ c e fr, w7.heap[g]? = some (.cells c e fr) ∧ e ≠ 3 := fun g hg => by
        injection hg with hg
        subst hg
        obtain ⟨cs, e, -⟩ := R7.outer
        exact ⟨cs, _, _, e, by decide⟩
      have hs7 := c7.size
      have hs5 := HD5.out.size
      have rA := ((hr5.out.keep c7 hcz.2).grown_type hg7 hty).of_blocks (w' := (w7.setCell ⟨bM, 1, none⟩ (.slice a7 2 e7)).setCell ⟨bz, oz + 1, none⟩ (.int .i64 (-Q))) (fun b h1 h2 _ => Below.heap_setCell _ _ _ _ (by intro e; have e : b = bz := e; omega))
      have rB := (k7.grown_type hg7 hty).of_blocks (w' := (w7.setCell ⟨bM, 1, none⟩ (.slice a7 2 e7)).setCell ⟨bz, oz + 1, none⟩ (.int .i64 (-Q))) (fun b h1 h2 _ => Below.heap_setCell _ _ _ _ (by intro e; have e : b = bz := e; omega))
      have g1 : MO ((w7.setCell ⟨bM, 1, none⟩ (.slice a7 2 e7)).setCell ⟨bz, oz + 1, none⟩ (.int .i64 (-Q))) w3.heap.size bM 0 2 [[q, -p], [-1 * -y, -1 * x]] := by
        refine ⟨fun i => if i = 1 then .slice a7 2 e7 else V i, (R7.outer.set (k := 1) (by omega) (.slice a7 2 e7)).of_block (Below.heap_setCell _ _ _ _ (by intro e; exact hneM e.symm)), fun i hi => ?_⟩
        match i, hi with
        | 0, _ => exact rA.mono (Nat.le_refl _) (by simp; omega)
        | 1, _ =>
          show IS _ _ _ (.slice a7 2 e7) [-1 * -y, -1 * x]
          rw [Int.mul_comm (-1) (-y), Int.mul_comm (-1) x]
          exact rB.mono (by omega) (by simp)
      refine ⟨rfl, Lib.hid g1, Lib.hid (((below_then HD5.out HD5.out.size c7).setCell hMlo.out _).setCell hzlo3 _), Lib.hid (((HX5.out.keep c7).other hneX2.symm _).other hneX.symm _), by simp; omega, ?_, ?_⟩
      · rw [World.cell?_setCell_other, World.cell?_setCell_other]
        · exact Z7.cell (i := 0) (by omega)
        · intro e; injection e with e; exact hneM e.symm
        · intro e; injection e with e1 e2; omega
      · have := (Z7.of_block (w' := w7.setCell ⟨bM, 1, none⟩ (.slice a7 2 e7)) (Below.heap_setCell _ _ _ _ (by intro e; exact hneM e))).set (k := 1) (by omega) (.int .i64 (-Q))
        have := this.cell (i := 1) (by omega)
        rw [show -1 * Q = -Q by omega]
        exact this
  case rest =>
  clear zz0 zz1 hr5 hrw5 hcz HM5 HD5 HX5 HZB HB5 hneM hzlo hzhi hneX hneX2 hzlo3 QB
  obtain ⟨rfl, hM6, hB6, hX6, hbz, zz0, zz1⟩ := hcut
  have HFU := Lib.hid (show ∀ sh, frU u [p, q] st sh = [[q - sh * (st * -y), -p - sh * (st * x)], [st * -y, st * x]] from fun sh => by unfold frU; rw [← HX.out, ← HY.out]; rfl)
  have hdz : ¬ st * Q = 0 := by omega
  have HSH : flW P (st * Q) = P / (st * Q) := flW_div (by omega) (by omega)
  have hxs : (-100 ≤ st * -y ∧ st * -y ≤ 100) ∧ (-100 ≤ st * x ∧ st * x ≤ 100) := by rcases hs with e | e <;> rw [e] <;> omega
  have hsh : -20000 ≤ P / (st * Q) ∧ P / (st * Q) ≤ 20000 := quo_bd hstz.1 (by omega)
  have DW : Calls Tryz.prog 87 #[.int .i64 P, .int .i64 (st * Q)] wc.drew fun e w' => e = .returned (.int .i64 (flW P (st * Q))) ∧ w' = wc.drew := (l3FloorW_any P (st * Q) wc.drew hdz).mono fun e w' h => ⟨h.1, h.2.symm⟩
  rw [HSH] at DW
  clear HSH hs hpos
  generalize P / (st * Q) = sh at *
  generalize st * Q = Q1 at *
  generalize hr1 : st * -y = r1 at *
  generalize hr2 : st * x = r2 at *
  have hm1 : -2000000 ≤ r1 * sh ∧ r1 * sh ≤ 2000000 := by
    have h1 : r1.natAbs * sh.natAbs ≤ 100 * 20000 := Nat.mul_le_mul (by omega) (by omega)
    rw [← Int.natAbs_mul] at h1
    omega
  have hm2 : -2000000 ≤ r2 * sh ∧ r2 * sh ≤ 2000000 := by
    have h1 : r2.natAbs * sh.natAbs ≤ 100 * 20000 := Nat.mul_le_mul (by omega) (by omega)
    rw [← Int.natAbs_mul] at h1
    omega
  have HSUB := Lib.hid (show subW [q, -p] [r1, r2] sh = [q - sh * r1, -p - sh * r2] from by
    unfold subW
    simp only [List.zipWith_cons_cons, List.zipWith_nil_left]
    rw [← wrap_64, ← wrap_64, ← wrap_64, ← wrap_64, wr64 (r1 * sh) (by omega), wr64 (r2 * sh) (by omega), wr64 _ (by omega), wr64 _ (by omega), Int.mul_comm r1 sh, Int.mul_comm r2 sh])
  rw [Int.mul_comm r1 sh] at hm1
  rw [Int.mul_comm r2 sh] at hm2
  obtain ⟨V6, hrw6⟩ := hM6.out
  obtain ⟨b4, o4, c4, hV0, m0, hlo4, hhi4, IS0, -⟩ := MO.row hrw6 (sq22 q (-p) r1 r2) (k := 0) (by omega)
  obtain ⟨b5, o5, c5, hV1, m1, hlo5, hhi5, IS1, -⟩ := MO.row hrw6 (sq22 q (-p) r1 r2) (k := 1) (by omega)
  have hbl : bM < wc.heap.size := hrw6.outer.lt
  have x0 : wc.drew.cell? ⟨bM, 0, none⟩ = some (.slice (some ⟨b4, o4, none⟩) 2 c4) := m0
  have x1 : wc.drew.cell? ⟨bM, 1, none⟩ = some (.slice (some ⟨b5, o5, none⟩) 2 c5) := m1
  have x2 : wc.drew.cell? ⟨bz, oz, none⟩ = some (.int .i64 P) := zz0
  have x3 : wc.drew.cell? ⟨bz, oz + 1, none⟩ = some (.int .i64 Q1) := zz1
  have SC := l2ScaleW_any [r1, r2] (.slice (some ⟨b5, o5, none⟩) 2 c5) sh wc.heap.size wc.drew (IS1.read.keep (below_draws wc.heap.size wc 1) (Nat.le_refl _)) (Nat.le_refl _) (by simp)
  have HIS0 := Lib.hid IS0
  have HRW6 := Lib.hid hrw6
  have HKC := Lib.hid (show ∀ W, Below wc.heap.size wc W → (W.cell? ⟨bM, 0, none⟩ = some (.slice (some ⟨b4, o4, none⟩) 2 c4) ∧ W.cell? ⟨bM, 1, none⟩ = some (.slice (some ⟨b5, o5, none⟩) 2 c5)) ∧ W.cell? ⟨bz, oz, none⟩ = some (.int .i64 P) ∧ W.cell? ⟨bz, oz + 1, none⟩ = some (.int .i64 Q1) from fun W B =>
    ⟨⟨(B.cell (p := ⟨bM, 0, none⟩) hbl).trans x0, (B.cell (p := ⟨bM, 1, none⟩) hbl).trans x1⟩, (B.cell (p := ⟨bz, oz, none⟩) hbz).trans x2, (B.cell (p := ⟨bz, oz + 1, none⟩) hbz).trans x3⟩)
  clear IS0 IS1 hrw6 hV0 hV1 m0 m1 zz0 zz1 hr1 hr2
  go_wp2_with fail
  refine wp_region_last (S := fun (w' : World) => (w'.cell? ⟨bM, 0, none⟩ = some (.slice (some ⟨b4, o4, none⟩) 2 c4) ∧ w'.cell? ⟨bM, 1, none⟩ = some (.slice (some ⟨b5, o5, none⟩) 2 c5)) ∧ w'.cell? ⟨bz, oz, none⟩ = some (.int .i64 P) ∧ w'.cell? ⟨bz, oz + 1, none⟩ = some (.int .i64 (Q1))) 17 _ (by kernel_rfl) rfl rfl (by kernel_rfl) ?_
  simp only [List.take_succ_cons, List.take_zero]
  have hHeld : (fun (w' : World) => (w'.cell? ⟨bM, 0, none⟩ = some (.slice (some ⟨b4, o4, none⟩) 2 c4) ∧ w'.cell? ⟨bM, 1, none⟩ = some (.slice (some ⟨b5, o5, none⟩) 2 c5)) ∧ w'.cell? ⟨bz, oz, none⟩ = some (.int .i64 P) ∧ w'.cell? ⟨bz, oz + 1, none⟩ = some (.int .i64 (Q1))) _ := ⟨⟨x0, x1⟩, x2, x3⟩
  refine wpAnyH_take (i := 0) (oi := _) (v := ?_) rfl (by kernel_rfl) (by kernel_rfl) (by kernel_rfl) (fun _ _ _ h => h) (Or.inl ⟨by rfl, (by (intro w hSw); (try dsimp only at hSw); go_simp; (try with_reducible rfl))⟩) (by assumption) ?_
  try simp only [Act.put, List.setIfInBounds_toArray, List.set_cons_zero, List.set_cons_succ]
  refine wpAnyH_take (i := 1) (oi := _) (v := ?_) rfl (by kernel_rfl) (by kernel_rfl) (by kernel_rfl) (fun _ _ _ h => h) (Or.inl ⟨by rfl, (by (intro w hSw); (try dsimp only at hSw); go_simp; (try with_reducible rfl))⟩) (by assumption) ?_
  try simp only [Act.put, List.setIfInBounds_toArray, List.set_cons_zero, List.set_cons_succ]
  refine wpAnyH_take (i := 2) (oi := _) (v := ?_) rfl (by kernel_rfl) (by kernel_rfl) (by kernel_rfl) (fun _ _ _ h => h) (Or.inl ⟨by rfl, (by (intro w hSw); (try dsimp only at hSw); go_simp; (try with_reducible rfl))⟩) (by assumption) ?_
  try simp only [Act.put, List.setIfInBounds_toArray, List.set_cons_zero, List.set_cons_succ]
  refine wpAnyH_take (i := 3) (oi := _) (v := ?_) rfl (by kernel_rfl) (by kernel_rfl) (by kernel_rfl) (fun _ _ _ h => h) (Or.inl ⟨by rfl, (by (intro w hSw); (try dsimp only at hSw); go_simp; (try with_reducible rfl))⟩) (by assumption) ?_
  try simp only [Act.put, List.setIfInBounds_toArray, List.set_cons_zero, List.set_cons_succ]
  refine wpAnyH_take (i := 4) (oi := _) (v := ?_) rfl (by kernel_rfl) (by kernel_rfl) (by kernel_rfl) (fun _ _ _ h => h) (Or.inl ⟨by rfl, (by (intro w hSw); (try dsimp only at hSw); go_simp; (try with_reducible rfl))⟩) (by assumption) ?_
  try simp only [Act.put, List.setIfInBounds_toArray, List.set_cons_zero, List.set_cons_succ]
  refine wpAnyH_take (i := 5) (oi := _) (v := ?_) rfl (by kernel_rfl) (by kernel_rfl) (by kernel_rfl) (fun _ _ _ h => h) (Or.inl ⟨by rfl, (by (intro w hSw); (try dsimp only at hSw); go_simp; (try with_reducible rfl))⟩) (by assumption) ?_
  try simp only [Act.put, List.setIfInBounds_toArray, List.set_cons_zero, List.set_cons_succ]
  refine wpAnyH_take (i := 6) (oi := _) (v := ?_) rfl (by kernel_rfl) (by kernel_rfl) (by kernel_rfl) (fun _ _ _ h => h) (Or.inl ⟨by rfl, (by (intro w hSw); (try dsimp only at hSw); go_simp; (try with_reducible rfl))⟩) (by assumption) ?_
  try simp only [Act.put, List.setIfInBounds_toArray, List.set_cons_zero, List.set_cons_succ]
  refine wpAnyH_take (i := 7) (oi := _) (v := ?_) rfl (by kernel_rfl) (by kernel_rfl) (by kernel_rfl) (fun _ _ _ h => h) (Or.inl ⟨by rfl, (by (intro w hSw); (try dsimp only at hSw); go_simp; (try with_reducible rfl))⟩) (by assumption) ?_
  try simp only [Act.put, List.setIfInBounds_toArray, List.set_cons_zero, List.set_cons_succ]
  refine wpAnyH_take (i := 8) (oi := _) (v := ?_) rfl (by kernel_rfl) (by kernel_rfl) (by kernel_rfl) (fun _ _ _ h => h) (Or.inl ⟨by rfl, (by (intro w hSw); (try dsimp only at hSw); go_simp; (try with_reducible rfl))⟩) (by assumption) ?_
  try simp only [Act.put, List.setIfInBounds_toArray, List.set_cons_zero, List.set_cons_succ]
  refine wpAnyH_take (i := 9) (oi := _) (v := ?_) rfl (by kernel_rfl) (by kernel_rfl) (by kernel_rfl) (fun _ _ _ h => h) (Or.inl ⟨by rfl, (by (intro w hSw); (try dsimp only at hSw); go_simp; (try with_reducible rfl))⟩) (by assumption) ?_
  try simp only [Act.put, List.setIfInBounds_toArray, List.set_cons_zero, List.set_cons_succ]
  refine wpAnyH_take (i := 10) (oi := _) (v := ?_) rfl (by kernel_rfl) (by kernel_rfl) (by kernel_rfl) (fun _ _ _ h => h) (Or.inl ⟨by rfl, (by (intro w hSw); (try dsimp only at hSw); go_simp; (try with_reducible rfl))⟩) (by assumption) ?_
  try simp only [Act.put, List.setIfInBounds_toArray, List.set_cons_zero, List.set_cons_succ]
  refine wpAnyH_take (i := 11) (oi := _) (v := ?_) rfl (by kernel_rfl) (by kernel_rfl) (by kernel_rfl) (fun _ _ _ h => h) (Or.inl ⟨by rfl, (by (intro w hSw); (try dsimp only at hSw); go_simp; (try with_reducible rfl))⟩) (by assumption) ?_
  try simp only [Act.put, List.setIfInBounds_toArray, List.set_cons_zero, List.set_cons_succ]
  refine wpAnyH_take (i := 12) (oi := _) (v := ?_) rfl (by kernel_rfl) (by kernel_rfl) (by kernel_rfl) (fun _ _ _ h => h) (Or.inl ⟨by rfl, (by (intro w hSw); (try dsimp only at hSw); go_simp; (try with_reducible rfl))⟩) (by assumption) ?_
  try simp only [Act.put, List.setIfInBounds_toArray, List.set_cons_zero, List.set_cons_succ]
  refine wpAnyH_ready (rs := [13]) (by kernel_rfl) (by simp) ?_
  refine AllReadyH.cons (o := _) rfl (fun K hK => ?_) AllReadyH.nil
  go_simp
  refine DW.mono ?_
  rintro e w8 ⟨rfl, rfl⟩
  refine hK.out _ _ (by exact hHeld) (fun hHeld => ?_)
  clear hK K
  try simp only [Act.put, List.setIfInBounds_toArray, List.set_cons_zero, List.set_cons_succ]
  refine wpAnyH_ready (rs := [14]) (by kernel_rfl) (by simp) ?_
  refine AllReadyH.cons (o := _) rfl (fun K hK => ?_) AllReadyH.nil
  go_simp
  refine SC.mono ?_
  rintro e w9 ⟨u9, rfl, k9, c9⟩
  obtain ⟨a9, e9, hu9, -⟩ := id k9
  have hu9 : u9 = .slice a9 2 e9 := hu9
  subst hu9
  have c9' : Below wc.heap.size wc w9 := (below_draws wc.heap.size wc 1).trans c9
  have d9 := HKC.out _ c9'
  refine hK.out _ _ (by exact d9) (fun hHeld => ?_)
  clear hK K
  try simp only [Act.put, List.setIfInBounds_toArray, List.set_cons_zero, List.set_cons_succ]
  refine wpAnyH_ready (rs := [15]) (by kernel_rfl) (by simp) ?_
  refine AllReadyH.cons (o := _) rfl (fun K hK => ?_) AllReadyH.nil
  go_simp
  refine (l2LessW_any [q, -p] ([r1, r2].map (fun x => wrap64 (x * sh))) (.slice (some ⟨b4, o4, none⟩) 2 c4) _ w9.heap.size w9 ((HIS0.out.read.keep c9' (Nat.le_refl _)).upto c9'.size) k9.read (Nat.le_refl _) (by simp) (by simp)).mono ?_
  rintro e w10 ⟨u10, rfl, k10, c10⟩
  rw [subW_mul] at k10
  obtain ⟨a10, e10, hu10, -⟩ := id k10
  have hu10 : u10 = .slice a10 2 e10 := hu10
  subst hu10
  have d10 := HKC.out _ (below_then c9' c9'.size c10)
  refine hK.out _ _ (by exact d10) (fun hHeld => ?_)
  clear hK K
  try simp only [Act.put, List.setIfInBounds_toArray, List.set_cons_zero, List.set_cons_succ]
  refine wpAnyH_take (i := 16) (oi := _) (v := ?_) rfl (by kernel_rfl) (by kernel_rfl) (by kernel_rfl) (fun _ _ _ h => h) (Or.inl ⟨by rfl, (by (intro w hSw); (try dsimp only at hSw); go_simp; (try with_reducible rfl))⟩) (by assumption) ?_
  try simp only [Act.put, List.setIfInBounds_toArray, List.set_cons_zero, List.set_cons_succ]
  refine wpAnyH_done (by kernel_rfl) ?_ _
  have C10 := below_then c9' c9'.size c10
  have R10 := HRW6.out.keep C10
  have f0 := R10.outer.frozen (0 + 0)
  simp only [Nat.zero_add] at f0
  rw [HSUB.out] at k10
  have S1 := R10.set (k := 0) (by omega) (k10.mono (Nat.le_trans hB6.out.size c9'.size) (Nat.le_refl _))
  have R7 := Lib.hid (show MO (w10.setCell ⟨bM, 0, none⟩ (.slice a10 2 e10)) w3.heap.size bM 0 2 [[q - sh * r1, -p - sh * r2], [r1, r2]] from ⟨_, S1.congr fun i hi => by
    match i, hi with
    | 0, _ => rfl
    | 1, _ => rfl⟩)
  have B7 := Lib.hid ((below_then hB6.out hB6.out.size C10).setCell (show w3.heap.size ≤ bM from hMlo.out) (.slice a10 2 e10) (p := ⟨bM, 0, none⟩))
  have X7 := Lib.hid ((hX6.out.keep C10).other (a := ⟨bM, 0, none⟩) (show bM ≠ w.heap.size by have := hMlo.out; have := HX3.out.lt; omega) (.slice a10 2 e10))
  have m0 := d10.1.1
  clear S1 R10 k9 k10 c9 c9' c10 C10 SC DW HRW6 HIS0 x0 x1 x2 x3 d9 d10 hX6 hB6 hM6
  unfold lastQ
  go_simp
  have hl9 : (subW [q, -p] [r1, r2] sh).length = 2 := rfl
  rw [hl9]
  clear hl9
  obtain ⟨w11, hw11⟩ : ∃ w11, w11 = w10.setCell ⟨bM, 0, none⟩ (.slice a10 2 e10) := ⟨_, rfl⟩
  rw [← hw11] at R7 B7 X7 ⊢
  clear hw11 m0 f0
  have hUb : ∀ i, i < 2 → ([[q - sh * r1, -p - sh * r2], [r1, r2]].getD i []).length = 2 ∧ allIn ([[q - sh * r1, -p - sh * r2], [r1, r2]].getD i []) (-3000000) 3000000 = true := fun i hi => by
    rcases (show i = 0 ∨ i = 1 by omega) with rfl | rfl
    · exact ⟨rfl, by simp [allIn, inB]; omega⟩
    · exact ⟨rfl, by simp [allIn, inB]; omega⟩
  have HUB := Lib.hid hUb
  have BA := Lib.hid ba
  have B11 := Lib.hid (below_then HB3.out HB3.out.size B7.out)
  have LA := l3Apply_any [[q - sh * r1, -p - sh * r2], [r1, r2]] a (.slice (some ⟨bM, 0, none⟩) 2 2) va w11.heap.size w11 (R7.out.read rfl (by decide) (by decide) R7.out.bk) ((ia.keep B11.out hhb).up (Nat.le_trans hhb B11.out.size)) (Nat.le_refl _) rfl (fun i hi => ⟨(hUb i hi).1, allIn_up (hUb i hi).2 (by omega) (by omega)⟩) ba.1 (ba.wide (by omega))
  have hd0 := dotF_bd (hUb 0 (by omega)) ba
  have hd1 := dotF_bd (hUb 1 (by omega)) ba
  clear hUb
  go_wp2_with fail
  with_reducible refine LA.mono ?_
  rintro e w12 ⟨u12', rfl, k12, c12⟩
  have SC := l2Scale_any [dotI ([[q - sh * r1, -p - sh * r2], [r1, r2]].getD 0 []) a, dotI ([[q - sh * r1, -p - sh * r2], [r1, r2]].getD 1 []) a] u12' (-1) w12.heap.size w12 k12.read (Nat.le_refl _) (by simp) (fun k hk => by
    rcases (show k = 0 ∨ k = 1 by simp at hk; omega) with rfl | rfl
    · show _ ≤ dotI ([[q - sh * r1, -p - sh * r2], [r1, r2]].getD 0 []) a * -1 ∧ dotI ([[q - sh * r1, -p - sh * r2], [r1, r2]].getD 0 []) a * -1 ≤ _; omega
    · show _ ≤ dotI ([[q - sh * r1, -p - sh * r2], [r1, r2]].getD 1 []) a * -1 ∧ dotI ([[q - sh * r1, -p - sh * r2], [r1, r2]].getD 1 []) a * -1 ≤ _; omega)
  clear LA
  go_wp2_with fail
  with_reducible refine SC.mono ?_
  rintro e w13 ⟨u13', rfl, k13, c13⟩
  clear SC k12
  obtain ⟨av, cv, rfl, -⟩ := id k13
  rw [show ∀ g h : Int, ([g, h].map (· * -1)).length = 2 from fun _ _ => rfl] at k13 ⊢
  have hVL : [dotI ([[q - sh * r1, -p - sh * r2], [r1, r2]].getD 0 []) a, dotI ([[q - sh * r1, -p - sh * r2], [r1, r2]].getD 1 []) a].map (· * -1) = frV [[q - sh * r1, -p - sh * r2], [r1, r2]] a := by
    unfold frV
    simp only [List.map_cons, List.map_nil]
    rw [show ∀ z : Int, z * -1 = -z from fun z => by omega, show ∀ z : Int, z * -1 = -z from fun z => by omega]
  rw [hVL] at k13
  have hMVV := HMV.out
  rw [HFU.out] at hMVV
  have HMVV := Lib.hid hMVV
  have HMB := Lib.hid (show MvB [[q - sh * r1, -p - sh * r2], [r1, r2]] (frV [[q - sh * r1, -p - sh * r2], [r1, r2]] a) from ⟨rfl, fun i hi => ⟨(HUB.out i hi).1, allIn_up (HUB.out i hi).2 (by omega) (by omega)⟩, rfl, by
    unfold frV
    simp only [allIn, inB, List.all_cons, List.all_nil, Bool.and_true, Bool.and_eq_true, decide_eq_true_eq]
    omega⟩)
  clear hVL hMVV HMV HFU HUB hd0 hd1
  generalize [[q - sh * r1, -p - sh * r2], [r1, r2]] = UU at *
  generalize frV UU a = VV at *
  have C13 := below_then c12 c12.size c13
  have X13 := X7.out.keep C13
  have y0 := X13.c0
  have y1 := X13.c1
  have y2 := X13.f0
  have y3 := X13.f1
  have E0 := X13.set0 (.slice (some ⟨bM, 0, none⟩) 2 2)
  have E0c := E0.c1
  have E0f := E0.f1
  have E00 := E0.set1 (.slice av 2 cv)
  have E0a := E00.c0
  have E0b := E00.c1
  clear E0 E00
  have R13 := R7.out.keep C13
  have B13 := below_then B11.out B11.out.size C13
  have hN : w.heap.size < w3.heap.size := HX3.out.lt
  have h312 : w3.heap.size ≤ w12.heap.size := by have := B7.out.size; have := c12.size; omega
  have E1 := Lib.hid (show ∀ (x1 x2 : Value), Below w.heap.size w ((w13.setCell ⟨w.heap.size, 0, none⟩ x1).setCell ⟨w.heap.size, 1, none⟩ x2) from fun x1 x2 => (B13.setCell (Nat.le_refl _) _).setCell (Nat.le_refl _) _)
  have E2 := Lib.hid (show ∀ (x1 x2 : Value), MO ((w13.setCell ⟨w.heap.size, 0, none⟩ x1).setCell ⟨w.heap.size, 1, none⟩ x2) w3.heap.size bM 0 2 UU from fun x1 x2 => (R13.aside (show w3.heap.size ≤ bM from hMlo.out) (a := ⟨w.heap.size, 0, none⟩) hN x1).aside (show w3.heap.size ≤ bM from hMlo.out) (a := ⟨w.heap.size, 1, none⟩) hN x2)
  have E3 := Lib.hid (show ∀ (x1 x2 : Value), IS ((w13.setCell ⟨w.heap.size, 0, none⟩ x1).setCell ⟨w.heap.size, 1, none⟩ x2) w12.heap.size w13.heap.size (.slice av 2 cv) VV from fun x1 x2 => (IS.aside k13 (a := ⟨w.heap.size, 0, none⟩) (show w.heap.size < w12.heap.size by omega) x1).aside (a := ⟨w.heap.size, 1, none⟩) (show w.heap.size < w12.heap.size by omega) x2)
  clear k13 c12 c13 C13 X13 R13 B13 R7 B7 X7
  go_wp2_with fail
  have E2' := (E2.out (.slice (some ⟨bM, 0, none⟩) 2 2) (.slice av 2 cv))
  refine bodyPost_ret (v := .agg #[.slice (some ⟨bM, 0, none⟩) 2 2, .slice av 2 cv]) (by simp [results, Tryz.results41, go_sem, E0a, E0b]) rfl ?_
  exact ⟨_, _, UU, VV, [p, q], rfl, ⟨bM, rfl, by have := hMlo.out; omega, E2'.lower (by omega)⟩, (E3.out _ _).mono (by omega) (by simp), HMB.out, by rw [HU.out]; exact HDET.out, by rw [HU.out]; exact HMVV.out, E1.out _ _⟩
end Go.Proofs.YtehhoplenloocaaGreat
