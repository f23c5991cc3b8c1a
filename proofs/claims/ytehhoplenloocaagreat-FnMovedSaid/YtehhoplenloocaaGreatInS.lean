/- The inverse matrix: the model's walk. -/
import Derived.Test.YtehhoplenloocaaGreatMinS
namespace Go.Proofs.YtehhoplenloocaaGreat
open Go.RowKit
set_option linter.unusedVariables false
set_option linter.unusedSimpArgs false

theorem invRow_len (m : List (List Int)) (i : Nat) : (invRow m i).length = m.length := by simp [invRow]
theorem inv_part (m : List (List Int)) (dt : Int) (hd : dt = 1 ∨ dt = -1) (hm : matB m = true) {n i j : Nat} (hn : n = m.length) (hdt : dt = detM m) (hi : i < n) (hj : j < n) (h3 : n ≤ 3) :
    ∃ (p sg mi : Int), mi = detF (n - 1) (minorL m j i) ∧ IntKind.i64.wrap ((i : Int) + (j : Int)) = (i : Int) + (j : Int) ∧ ((i : Int) + (j : Int)).tmod 2 = p ∧ IntKind.i64.wrap (((i : Int) + (j : Int)).tmod 2) = p ∧ IntKind.i64.wrap p = p
      ∧ IntKind.i64.wrap (2 * p) = 2 * p ∧ IntKind.i64.wrap (1 - 2 * p) = sg ∧ IntKind.i64.wrap (dt * sg) = dt * sg ∧ IntKind.i64.wrap (dt * sg * mi) = adjE n m i j * dt := by
  subst hn hdt
  have hb := (minorDet_bd (matB_sq hm) (matB_len hm).1 h3 hj hi).2
  have hp2 : ((i : Int) + (j : Int)).tmod 2 = (((i + j) % 2 : Nat) : Int) := by rw [Int.tmod_eq_emod_of_nonneg (by omega)]; omega
  rcases Nat.mod_two_eq_zero_or_one (i + j) with e | e
  · refine ⟨0, 1, _, rfl, wr64 _ (by omega), by rw [hp2, e]; rfl, by rw [hp2, e]; rfl, rfl, rfl, rfl, wr64 _ (by omega), ?_⟩
    have : adjE m.length m i j = detF (m.length - 1) (minorL m j i) := by unfold adjE; rw [if_neg (by omega)]
    rw [this, Int.mul_one, Int.mul_comm]
    refine wr64 _ ?_
    rcases hd with e | e <;> rw [e] <;> omega
  · refine ⟨1, -1, _, rfl, wr64 _ (by omega), by rw [hp2, e]; rfl, by rw [hp2, e]; rfl, rfl, rfl, rfl, wr64 _ (by omega), ?_⟩
    have : adjE m.length m i j = -detF (m.length - 1) (minorL m j i) := by unfold adjE; rw [if_pos e]
    rw [this]
    generalize detF (m.length - 1) (minorL m j i) = x at *
    rcases hd with e | e <;> rw [e] <;> refine (wr64 _ (by omega)).trans (by omega)
set_option maxRecDepth 100000 in
set_option maxHeartbeats 8000000 in
theorem specInverse_any (m : List (List Int)) (v : Value) (hb : Nat) (w : World) (h : ISSr w hb v m) (hhb : hb ≤ w.heap.size) :
    Calls Tryz.prog 35 #[v] w fun e w' => ∃ u, e = .returned (.tuple #[u, .bool (invV m).2]) ∧ ISS w' w.heap.size w'.heap.size u (invV m).1 ∧ Below w.heap.size w w' := by
  have IU := specIsUni_any m v hb w h
  cases hu : uniB m
  case false =>
    rw [invV_no1 hu]
    rw [hu] at IU
    clear h hu
    go_enter Tryz.func35, Tryz.ntmps35
    go_wp2_with (go_at_call 49; (with_reducible refine IU.mono ?_); rintro e w1 ⟨rfl, c1⟩)
    go_ret2
    exact ⟨_, rfl, ((OwnL.lit0 w1 w.heap.size c1.size).is), c1.trans ((below1 w1 _).mono c1.size)⟩
  rw [hu] at IU
  obtain ⟨i0, hi0, hz0, hz1, hz2⟩ := info_parts info_ints
  have HI0 := Lib.hid hi0; clear hi0
  have HZ0 := Lib.hid hz0; clear hz0
  have HZ1 := Lib.hid hz1; clear hz1
  have HZ2 := Lib.hid hz2; clear hz2
  obtain ⟨i1, hi1, hy0, hy1, hy2⟩ := info_parts info_int
  have HI1 := Lib.hid hi1; clear hi1
  have HY0 := Lib.hid hy0; clear hy0
  have HY1 := Lib.hid hy1; clear hy1
  have HY2 := Lib.hid hy2; clear hy2
  obtain ⟨hm, hd⟩ := uniB_mat hu
  obtain ⟨h1, h3⟩ := matB_len hm
  have MI := Lib.hid (fun i j (hi : i < m.length) (hj : j < m.length) W (B : Below w.heap.size w W) => l3Minor_any m j i m.length v hb W (h.keep B hhb) (Nat.le_trans hhb B.size) (matB_sq hm) h1 h3 hj hi)
  have SD := fun W (B : Below w.heap.size w W) => specDet_any m v hb W (h.keep B hhb) (matB_sq hm) h1 h3
  have HV := Lib.hid (fun e => invV_no2 (m := m) e)
  have HY := Lib.hid (fun e => invV_yes hu (m := m) e)
  obtain ⟨a, cap, rfl, -⟩ := id h
  obtain ⟨n, hn⟩ : ∃ n, n = m.length := ⟨_, rfl⟩
  obtain ⟨dt, hdt⟩ : ∃ dt, dt = detM m := ⟨_, rfl⟩
  rw [← hdt] at SD hd
  have HPT := Lib.hid (fun i j hi hj => inv_part m dt hd hm hn hdt (i := i) (j := j) hi hj (by omega))
  have HIR := Lib.hid (show ∀ i, invRow m i = (List.range n).map fun j => adjE n m i j * dt from fun i => by rw [hn, hdt]; rfl)
  have HIM := Lib.hid (show invM m = (List.range n).map (invRow m) by rw [hn]; rfl)
  rw [← hn] at h1 h3 IU SD MI ⊢
  clear h hu hm hn hdt
  go_enter Tryz.func35, Tryz.ntmps35
  go_wp2_with (first | (go_at_call 49; (with_reducible refine IU.mono ?_); rintro e w1 ⟨rfl, c1⟩; have S1 := SD w1 c1) | (go_at_call 73; (with_reducible refine S1.mono ?_); rintro e w2 ⟨rfl, d2, rfl⟩))
  have c2 := Lib.hid (c1.trans (below_draws w.heap.size w1 d2))
  clear c1 S1 SD IU
  have B2 := Lib.hid (c2.out.trans ((below1 (w1.drewN d2) (.cells #[] 25)).mono c2.out.size))
  have O2 := Lib.hid (OwnL.lit0 (w1.drewN d2) w.heap.size c2.out.size)
  go_wp2
  go_loopw [5, 6, 7, 8, 9] (fun ov i _ _ _ wr => ∃ (k : Nat) (acc : List (List Int)), k ≤ n ∧ i = .int .i64 k ∧ acc.length ≤ k ∧ Hid (acc = (List.range k).map (invRow m)) ∧ Hid (OwnL wr w.heap.size ov acc) ∧ Hid (Below w.heap.size w wr)) (fun _ i _ _ _ _ => n - (intOf i).toNat)
  case atStart => exact ⟨0, [], by omega, rfl, Nat.le_refl _, Lib.hid (by simp), O2, B2⟩
  case round =>
    obtain ⟨k, acc, hk, rfl, hal, hacc, hown, hbe⟩ := hrel
    by_cases hlt : k < n
    · obtain ⟨wy, hwy⟩ : ∃ wy, wy = wr := ⟨_, rfl⟩
      subst hwy
      have hbs := hbe.out.size
      have hdec : decide ((k : Int) < n) = true := by simp; omega
      go_wp2
      go_loopw [7, 8, 9] (fun ov i _ wr2 => ∃ (j : Nat) (row : List Int), j ≤ n ∧ i = .int .i64 j ∧ row.length ≤ j ∧ Hid (row = (List.range j).map fun c => adjE n m k c * dt) ∧ Hid (OwnI wr2 wy.heap.size ov row) ∧ Hid (Below wy.heap.size wy wr2)) (fun _ i _ _ => n - (intOf i).toNat)
      case atStart => exact ⟨0, [], by omega, rfl, Nat.le_refl _, Lib.hid (by simp), Lib.hid (OwnI.lit0 wy wy.heap.size (Nat.le_refl _)), Lib.hid (below1 _ _)⟩
      case round =>
        obtain ⟨j, row, hj, rfl, hrl, hrow, hro, hb2⟩ := hrel
        by_cases hjt : j < n
        · obtain ⟨p, sg, mi, hmi, q1, q2, q3, q4, q5, q6, q7, q8⟩ := HPT.out k j hlt hjt
          have BB := Lib.hid (hbe.out.trans (hb2.out.mono hbs))
          have M1 := MI.out k j hlt hjt wr BB.out
          rw [← hmi] at M1
          have HE := Lib.hid (range_more (fun c => adjE n m k c * dt) j)
          rw [← hrow.out] at HE
          have hz2 := hb2.out.size
          clear hmi hrow
          generalize adjE n m k j * dt = x at *
          go_wp2_with fail
          with_reducible refine M1.mono ?_
          rintro e w3 ⟨rfl, c3⟩
          have HO2 := Lib.hid (hro.out.kept c3)
          have HB2 := Lib.hid (below_then hb2.out hz2 c3)
          have hsz := HB2.out.size
          clear c3 M1
          go_wp2_with (at_builtin; refine wpList_append_own _ rfl _ _ 25 rfl wy.heap.size 3 i1 (.int .i64 0) 1 8 Tryz.underlying25 HI1.out HY0.out HY1.out HY2.out rfl (by decide) _ _ _ rfl (HO2.out.alloc _) ⟨w3.heap.size, 0, none⟩ 1 1 [.int .i64 x] rfl rfl ?c1 ?c2 ?c3 ?c4 ?c5 ?_)
          case c1 => exact cell_one_new _ _ _
          case c2 => first | rfl | (intro u hu; simp at hu; subst hu; rfl)
          case c3 => unfold maxLen; omega
          case c4 => omega
          case c5 => first | omega | (simp; omega)
          intro v2 w4 hown2 hgrow _
          have HO := Lib.hid (OwnI.push hown2); clear hown2
          have HBE := Lib.hid (OwnI.below HB2.out HB2.out.size _ hgrow HO2.out (Nat.le_refl _))
          clear hgrow
          go_wp2
          go_roundw
          case rel => exact ⟨j + 1, _, by omega, by go_num, by simp; omega, HE, HO, HBE⟩
          case measure => simp [intOf]; omega
        · obtain rfl : j = n := by omega
          have hfr : row = invRow m k := by rw [hrow.out, HIR.out]
          subst hfr
          obtain ⟨ar, cr, hvr⟩ := hro.out.form
          subst hvr
          have HK := Lib.hid hro.out.is
          obtain ⟨V, p, hpt⟩ := hown.out.part hb2.out
          have HPT2 := Lib.hid hpt
          have hs2 := hb2.out.size
          have BB := Lib.hid (hbe.out.trans (hb2.out.mono hbs))
          have HE := Lib.hid (range_more (invRow m) k)
          rw [← hacc.out] at HE
          clear hpt hro
          go_wp2_with (at_builtin; refine wpList_append_own _ rfl _ _ 24 rfl w.heap.size 25 i0 (.slice none 0 0) 1 24 Tryz.underlying24 HI0.out HZ0.out HZ1.out HZ2.out rfl (by decide) _ _ _ rfl (HPT2.out.alloc _) ⟨wr.heap.size, 0, none⟩ 1 1 [.slice ar (invRow m k).length cr] rfl rfl ?c1 ?c2 ?c3 ?c4 ?c5 ?_)
          case c1 => exact cell_one_new _ _ _
          case c2 => first | rfl | (intro u hu; simp at hu; subst hu; rfl)
          case c3 => unfold maxLen; omega
          case c4 => omega
          case c5 => first | omega | (simp; omega)
          intro v2 w3 hown2 hgrow _
          have HO := Lib.hid (HPT2.out.push HK.out (Nat.le_refl _) hs2 (Nat.le_refl _) hgrow hown2)
          have HBE := Lib.hid (OwnLp.below BB.out (by omega) _ hgrow HPT2.out (Nat.le_refl _))
          clear hown2 hgrow
          go_wp2
          go_roundw
          case rel => exact ⟨k + 1, _, by omega, by go_num, by simp; omega, HE, HO, HBE⟩
          case measure => simp [intOf]; omega
    · obtain rfl : k = n := by omega
      have hfin : acc = invM m := by rw [hacc.out, HIM.out]
      subst hfin
      have MO := specIsMatrix_any (invM m) _ _ wr hown.out.is.read
      obtain ⟨ao, co, rfl⟩ := hown.out.form0
      have hsz := hbe.out.size
      cases hmb : matB (invM m)
      · have HVV := Lib.hid (HV.out hmb)
        rw [hmb] at MO
        clear HV HY hmb
        go_wp2_with (go_at_call 75; (with_reducible refine MO.mono ?_); rintro e w7 ⟨rfl, d7, rfl⟩)
        go_ret2
        rw [HVV.out]
        exact ⟨_, rfl, ((OwnL.lit0 (wr.drewN d7) w.heap.size hsz).is), (hbe.out.trans (below_draws _ _ d7)).trans ((below1 (wr.drewN d7) _).mono hsz)⟩
      · have HVV := Lib.hid (HY.out hmb)
        rw [hmb] at MO
        clear HV HY hmb
        go_wp2_with (go_at_call 75; (with_reducible refine MO.mono ?_); rintro e w7 ⟨rfl, d7, rfl⟩)
        go_ret2
        rw [HVV.out]
        exact ⟨_, rfl, hown.out.is.draws d7, hbe.out.trans (below_draws _ _ d7)⟩
end Go.Proofs.YtehhoplenloocaaGreat
