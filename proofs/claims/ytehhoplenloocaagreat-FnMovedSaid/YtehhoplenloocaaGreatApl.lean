/- Points that are moved: l2Dot, l3Apply, l17Moved: the walks. -/
import Derived.Test.YtehhoplenloocaaGreatB17
import Derived.Test.YtehhoplenloocaaGreatB2
import Derived.Test.YtehhoplenloocaaGreatB11
import Derived.BigQuiet
namespace Go.Proofs.YtehhoplenloocaaGreat
open Go.RowKit
set_option linter.unusedVariables false
set_option linter.unusedSimpArgs false

theorem dotI_two {a b : List Int} (la : a.length = 2) (lb : b.length = 2) : dotI a b = a.getD 0 0 * b.getD 0 0 + a.getD 1 0 * b.getD 1 0 := by
  match a, b, la, lb with
  | [p, q], [r, s], _, _ => simp [dotI, dotK]
theorem mulM {a b M N : Int} (ha : -M ≤ a ∧ a ≤ M) (hb : -N ≤ b ∧ b ≤ N) (hM : 0 ≤ M) (hN : 0 ≤ N) : -(M * N) ≤ a * b ∧ a * b ≤ M * N := mul_abs ha.1 ha.2 hb.1 hb.2 hM hN
/-- a move with bounded numbers -/
structure MvB (U : List (List Int)) (V : List Int) : Prop where
  len : U.length = 2
  row : ∀ i, i < 2 → (U.getD i []).length = 2 ∧ allIn (U.getD i []) (-10000000) 10000000 = true
  vlen : V.length = 2
  vin : allIn V (-1000000000) 1000000000 = true
theorem moveB_mv {U : List (List Int)} {V : List Int} (h : moveB U V = true) : MvB U V := by
  unfold moveB at h
  simp only [Bool.and_eq_true, decide_eq_true_eq] at h
  obtain ⟨h1, h2, h3⟩ := h
  have hm : matB U = true := by
    cases hm : matB U
    · unfold uniB at h2; rw [detO_no hm] at h2; simp at h2
    · rfl
  refine ⟨h1, fun i hi => ?_, (ptB_len h3).1, allIn_up (ptB_len h3).2 (by omega) (by omega)⟩
  have := matB_row hm (k := i) (by omega)
  exact ⟨this.1.trans h1, allIn_up this.2 (by omega) (by omega)⟩
def mvP (U : List (List Int)) (V : List Int) (r : List Int) : List Int := [dotI (U.getD 0 []) r + V.getD 0 0, dotI (U.getD 1 []) r + V.getD 1 0]
def PtS (r : List Int) : Prop := r.length = 2 ∧ allIn r (-1000) 1000 = true
theorem dotS_bd {a r : List Int} (ha : a.length = 2 ∧ allIn a (-10000000) 10000000 = true) (hr : PtS r) : -20000000000 ≤ dotI a r ∧ dotI a r ≤ 20000000000 := by
  rw [dotI_two ha.1 hr.1]
  have a0 := allIn_at ha.2 0 (by omega)
  have a1 := allIn_at ha.2 1 (by omega)
  have r0 := allIn_at hr.2 0 (by rw [hr.1]; omega)
  have r1 := allIn_at hr.2 1 (by rw [hr.1]; omega)
  have m0 := mulM (M := 10000000) (N := 1000) a0 r0 (by omega) (by omega)
  have m1 := mulM (M := 10000000) (N := 1000) a1 r1 (by omega) (by omega)
  omega

set_option maxRecDepth 100000 in
set_option maxHeartbeats 2000000 in
theorem l2Dot_any (a b : List Int) (va vb : Value) (ha hb : Nat) (w : World) (ia : ISr w ha va a) (ib : ISr w hb vb b) (la : a.length = 2) (lb : b.length = 2)
    (ba : allIn a (-1000000000) 1000000000 = true) (bb : allIn b (-1000000000) 1000000000 = true) :
    Calls Tryz.prog 76 #[va, vb] w fun e w' => e = .returned (.int .i64 (dotI a b)) ∧ ∃ d, w' = w.drewN d := by
  rw [dotI_two la lb]
  have a0 := allIn_at ba 0 (by omega)
  have a1 := allIn_at ba 1 (by omega)
  have c0 := allIn_at bb 0 (by omega)
  have c1 := allIn_at bb 1 (by omega)
  obtain ⟨b1, o1, k1, rfl, -, x0, x1⟩ := ia.two la
  obtain ⟨b2, o2, k2, rfl, -, y0, y1⟩ := ib.two lb
  have HX := Lib.hid (fun d => (show (w.drewN d).cell? _ = _ from x0))
  have HX1 := Lib.hid (fun d => (show (w.drewN d).cell? _ = _ from x1))
  have HY := Lib.hid (fun d => (show (w.drewN d).cell? _ = _ from y0))
  have HY1 := Lib.hid (fun d => (show (w.drewN d).cell? _ = _ from y1))
  generalize a.getD 0 0 = p0 at *
  generalize a.getD 1 0 = p1 at *
  generalize b.getD 0 0 = q0 at *
  generalize b.getD 1 0 = q1 at *
  have m0 := mulM (M := 1000000000) (N := 1000000000) a0 c0 (by omega) (by omega)
  have m1 := mulM (M := 1000000000) (N := 1000000000) a1 c1 (by omega) (by omega)
  have f0 := wr64 (p0 * q0) (by omega)
  have f1 := wr64 (p1 * q1) (by omega)
  have f2 := wr64 (p0 * q0 + p1 * q1) (by omega)
  clear ia ib la lb ba bb a0 a1 c0 c1 m0 m1
  go_enter Tryz.func76, Tryz.ntmps76
  go_wp2
  refine wp_loop_rounds 3 ?_
  rw [rounds_succ]
  go_wp2
  go_quiet (fail)
  have x1' := HX1.out nq
  have y1' := HY1.out nq
  have HD := Lib.hid (rfl : w.drewN nq = w.drewN nq)
  obtain ⟨w2, hw2⟩ : ∃ w2, w2 = w.drewN nq := ⟨_, rfl⟩
  have HW2 := Lib.hid hw2
  rw [← hw2] at x1' y1' ⊢
  clear hw2 x0 x1 y0 y1 HD
  go_wp2
  rw [rounds_succ]
  go_wp2
  go_quiet (fail)
  go_wp2
  rw [rounds_succ]
  go_wp2
  go_ret
  exact ⟨rfl, _, by rw [HW2.out, World.drewN_drewN]⟩
set_option maxRecDepth 100000 in
set_option maxHeartbeats 4000000 in
theorem l3Apply_any (U : List (List Int)) (r : List Int) (v vr : Value) (hb : Nat) (w : World) (h : ISSr w hb v U) (ir : ISr w hb vr r) (hhb : hb ≤ w.heap.size) (hl : U.length = 2)
    (hU : ∀ i, i < 2 → (U.getD i []).length = 2 ∧ allIn (U.getD i []) (-1000000000) 1000000000 = true) (lr : r.length = 2) (br : allIn r (-1000000000) 1000000000 = true) :
    Calls Tryz.prog 37 #[v, vr] w fun e w' => ∃ u, e = .returned u ∧ IS w' w.heap.size w'.heap.size u [dotI (U.getD 0 []) r, dotI (U.getD 1 []) r] ∧ Below w.heap.size w w' := by
  obtain ⟨i0, hi0, hz0, hz1, hz2⟩ := info_parts info_int
  have HI0 := Lib.hid hi0; clear hi0
  have HZ0 := Lib.hid hz0; clear hz0
  have HZ1 := Lib.hid hz1; clear hz1
  have HZ2 := Lib.hid hz2; clear hz2
  obtain ⟨b, off, cap, V, rfl, hbb, hcell⟩ := h.two hl
  have HC := Lib.hid hcell
  have HU := Lib.hid hU
  have HR := Lib.hid ir
  have HFIN := Lib.hid (show U.map (dotI · r) = [dotI (U.getD 0 []) r, dotI (U.getD 1 []) r] by
    match U, hl with
    | [a, b], _ => rfl)
  have HLU := Lib.hid hl
  clear h ir hcell hU hl
  go_enter Tryz.func37, Tryz.ntmps37
  go_wp2
  go_loopw [5, 6] (fun ov i wr => ∃ (k : Nat) (acc : List Int), k ≤ 2 ∧ i = .int .i64 k ∧ acc.length ≤ k ∧ Hid (acc = (U.take k).map (dotI · r)) ∧ Hid (OwnI wr w.heap.size ov acc) ∧ Hid (Below w.heap.size w wr)) (fun _ i _ => 2 - (intOf i).toNat)
  case atStart => exact ⟨0, [], by omega, rfl, Nat.le_refl _, Lib.hid (by simp), OwnI.lit0 w _ (Nat.le_refl _), below1 _ _⟩
  case round =>
    obtain ⟨k, acc, hk, rfl, hal, hacc, hown, hbe⟩ := hrel
    by_cases hlt : k < 2
    · have hck := (hbe.out.cell (p := ⟨b, off + k, none⟩) (Nat.lt_of_lt_of_le hbb hhb)).trans (HC.out k hlt).1
      have D := l2Dot_any (U.getD k []) r (V k) vr hb hb wr ((HC.out k hlt).2.keep hbe.out hhb) (HR.out.keep hbe.out hhb) (HU.out k hlt).1 lr (HU.out k hlt).2 br
      have HE : (U.take k).map (dotI · r) ++ [dotI (U.getD k []) r] = (U.take (k + 1)).map (dotI · r) := map_snocL (dotI · r) U k (by rw [HLU.out]; exact hlt)
      rw [← hacc.out] at HE
      have HE := Lib.hid HE
      have hbs := hbe.out.size
      generalize dotI (U.getD k []) r = t at *
      generalize V k = vk at *
      have hkn : (k : Int) < 2 := by omega
      have hk0 : (0 : Int) ≤ (k : Int) := by omega
      go_wp2_with fail
      with_reducible refine D.mono ?_
      rintro e w2 ⟨rfl, d, hw2⟩
      have c2 := below_draws wr.heap.size wr d
      rw [← hw2] at c2
      have HO2 := Lib.hid (hown.out.kept c2)
      have HB2 := Lib.hid (below_then hbe.out hbs c2)
      have hsz := HB2.out.size
      clear hw2 c2 D
      go_wp2_with (at_builtin; refine wpList_append_own _ rfl _ _ 25 rfl w.heap.size 3 i0 (.int .i64 0) 1 8 Tryz.underlying25 HI0.out HZ0.out HZ1.out HZ2.out rfl (by decide) _ _ _ rfl (HO2.out.alloc _) ⟨w2.heap.size, 0, none⟩ 1 1 [.int .i64 t] rfl rfl ?c1 ?c2 ?c3 ?c4 ?c5 ?_)
      case c1 => exact cell_one_new _ _ _
      case c2 => first | rfl | (intro u hu; simp at hu; subst hu; rfl)
      case c3 => unfold maxLen; omega
      case c4 => omega
      case c5 => first | omega | (simp; omega)
      intro v2 w3 hown2 hgrow _
      have HO := Lib.hid (OwnI.push hown2); clear hown2
      have HBE := Lib.hid (OwnI.below HB2.out HB2.out.size _ hgrow HO2.out (Nat.le_refl _))
      clear hgrow
      go_wp2
      go_roundw
      case rel => exact ⟨k + 1, _, by omega, by go_num, by simp; omega, HE, HO, HBE⟩
      case measure => simp [intOf]; omega
    · obtain rfl : k = 2 := by omega
      have hfin : acc = [dotI (U.getD 0 []) r, dotI (U.getD 1 []) r] := by rw [hacc.out, ← HFIN.out, List.take_of_length_le (by rw [HLU.out]; exact Nat.le_refl _)]
      subst hfin
      go_wp2
      go_ret
      exact ⟨_, rfl, hown.out.is, hbe.out⟩
set_option maxRecDepth 100000 in
set_option maxHeartbeats 4000000 in
theorem l17Moved_any (U : List (List Int)) (V r : List Int) (v1 v2 vr : Value) (hb : Nat) (w : World) (i1 : ISSr w hb v1 U) (i2 : ISr w hb v2 V) (ir : ISr w hb vr r) (hhb : hb ≤ w.heap.size) (hm : MvB U V) (hr : PtS r) :
    Calls Tryz.prog 32 #[.agg #[v1, v2], vr] w fun e w' => ∃ u, e = .returned u ∧ IS w' w.heap.size w'.heap.size u (mvP U V r) ∧ Below w.heap.size w w' := by
  have B0 := below1 w (.cells #[v1, v2] 27)
  have bx := box2_new w v1 v2 27
  have hd0 := dotS_bd (hm.row 0 (by omega)) hr
  have hd1 := dotS_bd (hm.row 1 (by omega)) hr
  have hv0 := allIn_at hm.vin 0 (by rw [hm.vlen]; omega)
  have hv1 := allIn_at hm.vin 1 (by rw [hm.vlen]; omega)
  have AP := fun W (B : Below w.heap.size w W) => l3Apply_any U r v1 vr hb W (i1.keep B hhb) (ir.keep B hhb) (Nat.le_trans hhb B.size) hm.len (fun i hi => ⟨(hm.row i hi).1, allIn_up (hm.row i hi).2 (by omega) (by omega)⟩) hr.1 (allIn_up hr.2 (by omega) (by omega))
  have HZ := Lib.hid (show List.zipWith (· + ·) [dotI (U.getD 0 []) r, dotI (U.getD 1 []) r] V = mvP U V r by
    unfold mvP
    match V, hm.vlen with
    | [a, b], _ => rfl)
  have AD := fun u W (iu : ISr W W.heap.size u [dotI (U.getD 0 []) r, dotI (U.getD 1 []) r]) (B : Below w.heap.size w W) => l2Add_any [dotI (U.getD 0 []) r, dotI (U.getD 1 []) r] V u v2 W.heap.size W iu ((i2.keep B hhb).upto (Nat.le_trans hhb B.size)) (Nat.le_refl _) (by simp) (by rw [hm.vlen]; simp) (fun k hk => by
    have hk2 : k < 2 := hk
    rcases (show k = 0 ∨ k = 1 by omega) with rfl | rfl
    · simp only [List.getD_cons_zero]; omega
    · simp only [List.getD_cons_succ, List.getD_cons_zero]; omega)
  rw [HZ.out] at AD
  have HAD := Lib.hid AD
  have x0 := bx.c0
  have x1 := bx.c1
  have hs1 : (w.alloc (.cells #[v1, v2] 27)).heap.size = w.heap.size + 1 := by simp
  have D1 : Below w.heap.size w (w.alloc (.cells #[v1, v2] 27)).drew := B0.trans (below_draws _ _ 1)
  have A1 := AP _ D1
  have HX := Lib.hid (fun W (B : Below (w.heap.size + 1) (w.alloc (.cells #[v1, v2] 27)) W) => (B.cell (p := ⟨w.heap.size, 0, none⟩) (show w.heap.size < w.heap.size + 1 by omega)).trans x0)
  have HY := Lib.hid (fun W (B : Below (w.heap.size + 1) (w.alloc (.cells #[v1, v2] 27)) W) => (B.cell (p := ⟨w.heap.size, 1, none⟩) (show w.heap.size < w.heap.size + 1 by omega)).trans x1)
  have hsd : (w.alloc (.cells #[v1, v2] 27)).drew.heap.size = w.heap.size + 1 := hs1
  rw [hsd] at A1
  clear i1 i2 ir hd0 hd1 hv0 hv1 AP AD bx hm hr
  go_enter Tryz.func32, Tryz.ntmps32
  go_wp2
  go_region_held3 (fun w' => w'.cell? ⟨w.heap.size, 0, none⟩ = some v1 ∧ w'.cell? ⟨w.heap.size, 1, none⟩ = some v2)
    (first | exact ⟨x0, x1⟩ | exact ⟨d1, d2⟩ | exact ⟨e1, e2⟩ | go_keep)
    (first
      | (go_at_call 66; (with_reducible refine (HAD.out _ _ hi.read BB).mono ?_); rintro e w3 ⟨p, rfl, kp, c3⟩; have BC := below_then BB BB.size c3; have e1 := HX.out _ (c12.trans (c3.mono hz2)); have e2 := HY.out _ (c12.trans (c3.mono hz2)))
      | (go_at_call 37; (with_reducible refine A1.mono ?_); rintro e w2 ⟨u, rfl, hi, c2⟩; have c12 : Below (w.heap.size + 1) (w.alloc (.cells #[v1, v2] 27)) w2 := (below_draws _ _ 1).trans c2; have hz2 : w.heap.size + 1 ≤ w2.heap.size := (by have := c2.size; rw [hsd] at this; exact this); have BB := D1.trans (c2.mono (by omega)); have d1 := HX.out _ c12; have d2 := HY.out _ c12))
  go_wp2
  go_ret
  exact ⟨_, rfl, kp.mono BB.size (Nat.le_refl _), BC⟩
end Go.Proofs.YtehhoplenloocaaGreat
