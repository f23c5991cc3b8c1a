/- Where a point is, of a tetrahedron: the model's walk. -/
import Derived.Test.YtfncikbmdaameaaFac
namespace Go.Proofs.Ytfncikbmdaameaa
open Go.RowKit
set_option linter.unusedVariables false
set_option linter.unusedSimpArgs false

theorem getD_mul (r : List Int) (t : Int) (k : Nat) (h : k < r.length) : (r.map (· * t)).getD k 0 = r.getD k 0 * t := by
  rw [List.getD_eq_getElem?_getD, List.getD_eq_getElem?_getD, List.getElem?_map, List.getElem?_eq_getElem h]; rfl
/-- the vector from the stretched first point -/
def yF (ls : List (List Int)) (x : List Int) (t : Int) : List Int := diff3 x ((ls.getD 0 []).map (· * t))
def sF (ls : List (List Int)) (x : List Int) (t : Int) : List Int :=
  let F := facF (edgesF ls) (yF ls x t)
  [F 0, F 1, F 2, t * det3 (edgesF ls) - F 0 - F 1 - F 2]
def sS (ls : List (List Int)) (x : List Int) (t : Int) (k : Nat) : Int := sgd (det3 (edgesF ls)) ((sF ls x t).getD k 0)
theorem yF_bd {ls : List (List Int)} {x : List Int} {t : Int} (hF : Four 4 ls) (hx : x.length = 3 ∧ allIn x (-1000) 1000 = true) (ht : 0 ≤ t) (ht' : t ≤ 4) :
    (yF ls x t).length = 3 ∧ allIn (yF ls x t) (-100000) 100000 = true ∧ ∀ k, k < 3 → -16 ≤ (ls.getD 0 []).getD k 0 * t ∧ (ls.getD 0 []).getD k 0 * t ≤ 16 := by
  obtain ⟨l0, b0⟩ := hF.getD 0 (by omega)
  have key : ∀ k, k < 3 → -16 ≤ (ls.getD 0 []).getD k 0 * t ∧ (ls.getD 0 []).getD k 0 * t ≤ 16 := by
    intro k hk
    have p := allIn_at b0 k (by omega)
    have := mul_bd2 (a := (ls.getD 0 []).getD k 0) (b := t) (M := 4) (N := 4) (by omega) (by omega) (by omega) (by omega) (by omega)
    omega
  have e : ∀ k, k < 3 → ((ls.getD 0 []).map (· * t)).getD k 0 = (ls.getD 0 []).getD k 0 * t := by
    intro k hk
    exact getD_mul _ _ _ (by omega)
  refine ⟨rfl, ?_, key⟩
  have a0 := allIn_at hx.2 0 (by omega)
  have a1 := allIn_at hx.2 1 (by omega)
  have a2 := allIn_at hx.2 2 (by omega)
  have k0 := key 0 (by omega)
  have k1 := key 1 (by omega)
  have k2 := key 2 (by omega)
  exact allIn3 (by rw [e 0 (by omega)]; omega) (by rw [e 1 (by omega)]; omega) (by rw [e 2 (by omega)]; omega)
theorem SqB.set3 {m : List (List Int)} (h : SqB 3 m) {y : List Int} (hy : y.length = 3 ∧ allIn y (-100000) 100000 = true) {r : Nat} (hr : r < 3) : SqB 3 (m.set r y) := by
  refine ⟨by rw [List.length_set]; exact h.len, fun i hi => ?_⟩
  rw [getD_setL (by rw [h.len]; exact hr)]
  split
  · exact hy
  · exact h.row i hi

set_option maxRecDepth 100000 in
set_option maxHeartbeats 8000000 in
theorem l13Place_any (ls : List (List Int)) (x : List Int) (t : Int) (v vx : Value) (hb : Nat) (w : World) (h : ISSr w hb v ls) (ix : ISr w hb vx x) (hhb : hb ≤ w.heap.size) (hF : Four 4 ls) (hx : x.length = 3 ∧ allIn x (-1000) 1000 = true) (ht : 0 ≤ t) (ht' : t ≤ 4) :
    Calls Try.prog 157 #[v, vx, .int .i64 t] w fun e w' => e = .returned (.int .i64 (placeN (sS ls x t) 4)) ∧ Below w.heap.size w w' := by
  obtain ⟨j0, hj0, hy0, hy1, hy2⟩ := info_parts info_int
  have HJ0 := Lib.hid hj0; clear hj0
  have HY0 := Lib.hid hy0; clear hy0
  have HY1 := Lib.hid hy1; clear hy1
  have HY2 := Lib.hid hy2; clear hy2
  have hF5 := hF.wide (b := 50000) (by omega)
  obtain ⟨b, off, cap, V, rfl, hbb, hcap, hcell, h1⟩ := h.four hF.1
  obtain ⟨ax, cx, hvx, -⟩ := id ix
  have hyb := yF_bd hF hx ht ht'
  obtain ⟨hc0, i0⟩ := hcell 0 (by omega)
  rw [Nat.add_zero] at hc0
  have hsq := edgesF_sq hF5
  have PE := fun W (B : Below w.heap.size w W) => l13Edges_any ls _ hb W (h.keep B hhb) (Nat.le_trans hhb B.size) hF5
  have PD := fun W u hu => toBelow (l3Det_any (edgesF ls) u W.heap.size W hu hsq)
  have PS := fun W (B : Below w.heap.size w W) => l2Scale_any (ls.getD 0 []) (V 0) t hb W (i0.keep B hhb) (Nat.le_trans hhb B.size) (by rw [(hF.getD 0 (by omega)).1]; omega) (fun k hk => by have := hyb.2.2 k (by rw [(hF.getD 0 (by omega)).1] at hk; exact hk); omega)
  have l0 : ((ls.getD 0 []).map (· * t)).length = 3 := by rw [List.length_map]; exact (hF.getD 0 (by omega)).1
  have PL := fun W us (B : Below w.heap.size w W) (hu : ISr W W.heap.size us ((ls.getD 0 []).map (· * t))) => (show Calls Try.prog 145 #[vx, us] W fun e w' => ∃ u, e = .returned u ∧ IS w' W.heap.size w'.heap.size u (yF ls x t) ∧ Below W.heap.size W w' from by
    have := l2Less_any x ((ls.getD 0 []).map (· * t)) vx us W.heap.size W ((ix.keep B hhb).upto (Nat.le_trans hhb B.size)) hu (Nat.le_refl _) (by omega) (by omega) (fun k hk => by
      have p := allIn_at hx.2 k hk
      have q := hyb.2.2 k (by omega)
      have e : ((ls.getD 0 []).map (· * t)).getD k 0 = (ls.getD 0 []).getD k 0 * t := by
        exact getD_mul _ _ _ (by rw [(hF.getD 0 (by omega)).1]; omega)
      rw [e]; omega)
    rwa [zip_diff3 hx.1 l0] at this)
  have PF := fun W ue uy (he : ISSr W W.heap.size ue (edgesF ls)) (hy : ISr W W.heap.size uy (yF ls x t)) => l8Factors_any (edgesF ls) (yF ls x t) ue uy W.heap.size W he hy (Nat.le_refl _) hsq.len (fun r hr => hsq.set3 ⟨hyb.1, hyb.2.1⟩ hr)
  have f0 := det3_bd (hsq.set3 (r := 0) ⟨hyb.1, hyb.2.1⟩ (by omega))
  have f1 := det3_bd (hsq.set3 (r := 1) ⟨hyb.1, hyb.2.1⟩ (by omega))
  have f2 := det3_bd (hsq.set3 (r := 2) ⟨hyb.1, hyb.2.1⟩ (by omega))
  have fd := det3_bd hsq
  have HSF := Lib.hid (show (List.range 3).map (facF (edgesF ls) (yF ls x t)) = [det3 ((edgesF ls).set 0 (yF ls x t)), det3 ((edgesF ls).set 1 (yF ls x t)), det3 ((edgesF ls).set 2 (yF ls x t))] from rfl)
  have HSS := Lib.hid (show ∀ k, sS ls x t k = sgd (det3 (edgesF ls)) (([det3 ((edgesF ls).set 0 (yF ls x t)), det3 ((edgesF ls).set 1 (yF ls x t)), det3 ((edgesF ls).set 2 (yF ls x t)), t * det3 (edgesF ls) - det3 ((edgesF ls).set 0 (yF ls x t)) - det3 ((edgesF ls).set 1 (yF ls x t)) - det3 ((edgesF ls).set 2 (yF ls x t))] : List Int).getD k 0) from fun _ => rfl)
  have HPN := Lib.hid (fun (k : Nat) (hk : k < 4) => placeN_neg (S := sS ls x t) hk)
  have HPP := Lib.hid (placeN_pos (S := sS ls x t) (n := 4))
  have HPC := Lib.hid (show ∀ k, plc (sS ls x t) (k + 1) = if sS ls x t k = 0 then 0 else plc (sS ls x t) k from fun _ => rfl)
  have HP1 := Lib.hid (show plc (sS ls x t) 0 = 1 from rfl)
  have HLR := Lib.hid (fun k => rfl : ∀ k, sS ls x t k = sS ls x t k)
  have td : -24000000000000000 ≤ t * det3 (edgesF ls) ∧ t * det3 (edgesF ls) ≤ 24000000000000000 := by
    have := mul_abs (a := t) (b := det3 (edgesF ls)) (A := 4) (B := 6000000000000000) (by omega) (by omega) (by omega) (by omega) (by omega) (by omega)
    omega
  rw [HSF.out] at PF
  clear HSF HLR h hF hF5 hyb hcell h1 i0 hsq l0 hx ix
  subst hvx
  generalize det3 ((edgesF ls).set 0 (yF ls x t)) = F0 at *
  generalize det3 ((edgesF ls).set 1 (yF ls x t)) = F1 at *
  generalize det3 ((edgesF ls).set 2 (yF ls x t)) = F2 at *
  generalize det3 (edgesF ls) = d at *
  generalize hS : sS ls x t = S at *
  clear hS
  generalize x.length = xl at *
  generalize V 0 = x0 at *
  have e0 := wr64 (t * d) (by omega)
  have e1 := wr64 (t * d - F0) (by omega)
  have e2 := wr64 (t * d - F0 - F1) (by omega)
  have e3 := wr64 (t * d - F0 - F1 - F2) (by omega)
  have hlt : b < w.heap.size := Nat.lt_of_lt_of_le hbb hhb
  go_enter Try.func157, Try.ntmps157
  go_wp2_with fail
  refine (PE _ (Below.refl _ _)).mono ?_
  rintro e w1 ⟨ue, rfl, ke, c1⟩
  have KE := Lib.hid ke
  have B1 := Lib.hid c1
  clear ke c1
  go_wp2_with fail
  refine (PD _ _ KE.out).mono ?_
  rintro e w2 ⟨rfl, c2⟩
  have B2 := Lib.hid (below_then B1.out B1.out.size c2)
  clear c2 KE
  go_wp2_with fail
  have Bd : Below w.heap.size w w2.drew := B2.out.trans (below_draws _ w2 1)
  have cd := (Bd.cell (p := ⟨b, off, none⟩) hlt).trans hc0
  go_region_held3 (fun w' => w'.cell? ⟨b, off, none⟩ = some x0) (first | exact cd | exact z3 | exact z4 | exact z5 | exact z6)
    (first
      | (go_at_call 165; (with_reducible refine (PE _ Bd).mono ?_); rintro e w3 ⟨ue, rfl, ke, c3⟩; have B3 := below_then Bd Bd.size c3; have z3 := (B3.cell (p := ⟨b, off, none⟩) hlt).trans hc0)
      | (go_at_call 146; (with_reducible refine (PS _ B3).mono ?_); rintro e w4 ⟨us, rfl, ks, c4⟩; have B4 := below_then B3 B3.size c4; have z4 := (B4.cell (p := ⟨b, off, none⟩) hlt).trans hc0)
      | (go_at_call 145; (with_reducible refine (PL _ _ B4 ks.read).mono ?_); rintro e w5 ⟨uy, rfl, ky, c5⟩; have B5 := below_then B4 B4.size c5; have z5 := (B5.cell (p := ⟨b, off, none⟩) hlt).trans hc0; have KE5 := Lib.hid (((ke.keep c4 (Nat.le_refl _)).upto c4.size).keep c5 (Nat.le_refl _) |>.upto c5.size))
      | (go_at_call 181; (with_reducible refine (PF _ _ _ KE5.out ky.read).mono ?_); rintro e w6 ⟨uf, rfl, kf, c6⟩; have B6 := below_then B5 B5.size c6; have z6 := (B6.cell (p := ⟨b, off, none⟩) hlt).trans hc0))
  have HB6 := Lib.hid B6
  have hz5 := B5.size
  have hz6 := c6.size
  have KF := Lib.hid kf
  obtain ⟨g, capf, rfl, -, hgl⟩ := World.ownsRow.form kf (by simp)
  obtain ⟨q0, q1, q2⟩ : w6.cell? ⟨g, 0, none⟩ = some (.int .i64 F0) ∧ w6.cell? ⟨g, 1, none⟩ = some (.int .i64 F1) ∧ w6.cell? ⟨g, 2, none⟩ = some (.int .i64 F2) := by
    obtain ⟨bk, -, -⟩ := BK.of_own (f := fun i => .int .i64 (([F0, F1, F2] : List Int).getD i 0)) kf (fun i hi => by
      match i, hi with
      | 0, _ => rfl
      | 1, _ => rfl
      | 2, _ => rfl)
    exact ⟨bk.cell (i := 0) (by simp), bk.cell (i := 1) (by simp), bk.cell (i := 2) (by simp)⟩
  clear cd z3 z4 z5 z6 KE5 ke ks ky kf B3 B4 B5 B6 c3 c4 c5 c6 PE PD PS PL PF
  go_wp2
  go_loop [9, 10] (fun r k => (k = .int .i64 0 ∧ r = .int .i64 (t * d)) ∨ (k = .int .i64 1 ∧ r = .int .i64 (t * d - F0)) ∨ (k = .int .i64 2 ∧ r = .int .i64 (t * d - F0 - F1)) ∨ (k = .int .i64 3 ∧ r = .int .i64 (t * d - F0 - F1 - F2))) (fun _ k => 3 - (intOf k).toNat)
  case atStart => exact .inl ⟨rfl, rfl⟩
  case round =>
    rcases hrel with ⟨rfl, rfl⟩ | ⟨rfl, rfl⟩ | ⟨rfl, rfl⟩ | ⟨rfl, rfl⟩
    · go_wp2
      go_round
      case rel => exact .inr (.inl ⟨rfl, rfl⟩)
      case measure => simp [intOf]
    · go_wp2
      go_round
      case rel => exact .inr (.inr (.inl ⟨rfl, rfl⟩))
      case measure => simp [intOf]
    · go_wp2
      go_round
      case rel => exact .inr (.inr (.inr ⟨rfl, rfl⟩))
      case measure => simp [intOf]
    · clear e0 e1 e2 e3
      have hRb : -42000000000000000 ≤ t * d - F0 - F1 - F2 ∧ t * d - F0 - F1 - F2 ≤ 42000000000000000 := by omega
      generalize t * d - F0 - F1 - F2 = R at *
      have hwz := HB6.out.size
      go_wp2_with (at_builtin; refine wpList_append_own _ rfl _ _ 46 rfl w5.heap.size 3 j0 (.int .i64 0) 1 8 Try.underlying46 HJ0.out HY0.out HY1.out HY2.out rfl (by decide) _ _ _ rfl (KF.out.alloc _) ⟨w6.heap.size, 0, none⟩ 1 1 [.int .i64 R] rfl rfl (cell_one_new _ _ _) ?c2 ?c3 (by simp) ?c5 ?_)
      case c2 => first | rfl | (intro u hu; simp at hu; subst hu; rfl)
      case c3 => simp [maxLen]
      case c5 => first | omega | (simp; omega)
      intro v2 w7 hown2 hgrow _
      have HO := OwnI.push (l := [F0, F1, F2]) (x := R) hown2
      have HBE := Lib.hid (OwnI.below HB6.out hwz _ hgrow KF.out hz5)
      obtain ⟨g2, cap2, rfl, -, hg2⟩ := World.ownsRow.form HO (by simp)
      obtain ⟨bk, -, -⟩ := BK.of_own (f := fun i => .int .i64 (([F0, F1, F2, R] : List Int).getD i 0)) HO (fun i hi => by
        match i, hi with
        | 0, _ => rfl
        | 1, _ => rfl
        | 2, _ => rfl
        | 3, _ => rfl)
      have HCELL := Lib.hid (fun (i : Nat) (hi : i < 4) => (show w7.cell? ⟨g2, i, none⟩ = some (.int .i64 (([F0, F1, F2, R] : List Int).getD i 0)) from by
        have := bk.cell (i := i) (by simpa using hi)
        rwa [Nat.zero_add] at this))
      have HDB := Lib.hid (fun (i : Nat) (hi : i < 4) => (show -42000000000000000 ≤ ([F0, F1, F2, R] : List Int).getD i 0 ∧ ([F0, F1, F2, R] : List Int).getD i 0 ≤ 42000000000000000 from
        match i, hi with
        | 0, _ => by simp; omega
        | 1, _ => by simp; omega
        | 2, _ => by simp; omega
        | 3, _ => by simp; omega))
      clear HO hown2 hgrow bk KF q0 q1 q2 f0 f1 f2 td hRb
      generalize ([F0, F1, F2, R] : List Int) = fl at *
      go_wp2
      go_loop [11, 12, 13] (fun pl i _ => ∃ (k : Nat) (p : Int), k ≤ 4 ∧ i = .int .i64 k ∧ pl = .int .i64 p ∧ Hid (p = plc S k) ∧ Hid (∀ i, i < k → 0 ≤ S i)) (fun _ i _ => 4 - (intOf i).toNat)
      case atStart => exact ⟨0, 1, by omega, rfl, rfl, Lib.hid HP1.out.symm, Lib.hid (fun i hi => absurd hi (Nat.not_lt_zero _))⟩
      case round =>
        obtain ⟨k, p, hk, rfl, rfl, hp, hnn⟩ := hrel
        by_cases hkt : k < 4
        · have ck := HCELL.out k hkt
          obtain ⟨db1, db2⟩ := HDB.out k hkt
          have HSK := Lib.hid (HSS.out k)
          have HPCK := Lib.hid (HPC.out k)
          have HPNK := Lib.hid (HPN.out k hkt)
          generalize fl.getD k 0 = dk at *
          have hwn := wr64 (-dk) (by omega)
          by_cases ha : d < 0
          all_goals
            first | (have HSG := Lib.hid (HSK.out.trans (by unfold sgd; rw [if_pos ha])); have hdir : (-dk < 0 ∨ dk = 0 ∨ 0 < -dk) := by omega) | (have HSG := Lib.hid (HSK.out.trans (by unfold sgd; rw [if_neg ha])); have hdir : (dk < 0 ∨ dk = 0 ∨ 0 < dk) := by omega)
            rcases hdir with hdir | hdir | hdir
            · have HRES := Lib.hid (HPNK.out (by rw [HSG.out]; exact hdir))
              clear HSG HSK HPNK HPCK
              go_wp2
              go_ret
              exact ⟨ret_int HRES.out.symm, HBE.out⟩
            · have HPL := Lib.hid (HPCK.out.trans (by rw [HSG.out, if_pos (by omega)]))
              have HNN := Lib.hid (fun i (hi : i < k + 1) => if e : i = k then by rw [e, HSG.out]; omega else hnn.out i (by omega))
              clear HSG HSK HPNK HPCK
              go_wp2
              go_round
              case rel => exact ⟨k + 1, 0, by omega, by go_num, rfl, Lib.hid HPL.out.symm, HNN⟩
              case measure => simp [intOf]; omega
            · have HPL := Lib.hid (HPCK.out.trans (by rw [HSG.out, if_neg (by omega)]))
              have HNN := Lib.hid (fun i (hi : i < k + 1) => if e : i = k then by rw [e, HSG.out]; omega else hnn.out i (by omega))
              clear HSG HSK HPNK HPCK
              go_wp2
              go_round
              case rel => exact ⟨k + 1, p, by omega, by go_num, rfl, Lib.hid (by rw [HPL.out]; exact hp.out), HNN⟩
              case measure => simp [intOf]; omega
        · obtain rfl : k = 4 := by omega
          have HRES := Lib.hid (HPP.out hnn.out)
          go_wp2
          go_ret
          exact ⟨ret_int (by rw [HRES.out]; exact hp.out), HBE.out⟩
end Go.Proofs.Ytfncikbmdaameaa
