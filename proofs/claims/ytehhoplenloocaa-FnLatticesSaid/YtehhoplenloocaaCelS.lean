/- The model's point of a cell. -/
import Derived.Test.YtehhoplenloocaaFacG
import Derived.Test.YtehhoplenloocaaHerS
namespace Go.Proofs.Ytehhoplenloocaa
open Go.RowKit
set_option linter.unusedVariables false
set_option linter.unusedSimpArgs false

/-- what is known of the matrix of a cell -/
structure CW (n : Nat) (M : List (List Int)) : Prop where
  cm : CM n M
  sq : SqB n M
theorem matB_cw {M : List (List Int)} (hm : matB M = true) (hd : ¬ detO M = 0) : CW M.length M := by
  have hl := matB_len hm
  have hs := matB_sq hm
  refine ⟨⟨sqB_sq hs, matB_at hm, ?_, hl.1, hl.2⟩, hs⟩
  rw [dN_det hs hl.1 hl.2, ← detO_yes hm]; exact hd
theorem allIn_of {x : List Int} {B : Int} (h : ∀ j, -B ≤ x.getD j 0 ∧ x.getD j 0 ≤ B) : allIn x (-B) B = true := by
  unfold allIn
  rw [List.all_eq_true]
  intro y hy
  obtain ⟨i, hi, rfl⟩ := List.getElem_of_mem hy
  have := h i
  rw [List.getD_eq_getElem?_getD, List.getElem?_eq_getElem hi] at this
  exact inB_iff.2 this
theorem CW.set {n : Nat} {M : List (List Int)} (h : CW n M) {x : List Int} (hx : x.length = n) (hb : ∀ j, -1000 ≤ x.getD j 0 ∧ x.getD j 0 ≤ 1000) (r : Nat) (hr : r < n) : SqB n (M.set r x) := by
  refine ⟨by rw [List.length_set]; exact h.sq.len, fun i hi => ?_⟩
  rw [getD_setR (by rw [h.sq.len]; exact hr)]
  split
  · exact ⟨hx, allIn_of fun j => by have := hb j; omega⟩
  · exact h.sq.row i hi
theorem CW.detM {n : Nat} {M : List (List Int)} (h : CW n M) : detM M = dN M := by
  have hl := h.sq.len
  rw [dN_det (by rw [hl]; exact h.sq) (by rw [hl]; exact h.cm.one) (by rw [hl]; exact h.cm.three)]
set_option maxRecDepth 100000 in
set_option maxHeartbeats 8000000 in
theorem l8Cell_any (M : List (List Int)) (x : List Int) (n : Nat) (v vx : Value) (hb : Nat) (w : World) (h : ISSr w hb v M) (ix : ISr w hb vx x) (hhb : hb ≤ w.heap.size) (hC : CW n M) (hx : x.length = n) (hxb : ∀ j, -1000 ≤ x.getD j 0 ∧ x.getD j 0 ≤ 1000) :
    Calls Try.prog 102 #[v, vx] w fun e w' => ∃ u, e = .returned u ∧ IS w' w.heap.size w'.heap.size u (celP M x) ∧ Below w.heap.size w w' := by
  have h1 := hC.cm.one
  have h3 := hC.cm.three
  have hn := hC.sq.len
  have DC := toBelow (specDet_any M v hb w h (by rw [hn]; exact hC.sq) (by omega) (by omega))
  rw [hC.detM] at DC
  have FC := fun W (B : Below w.heap.size w W) => l8FactorsG_any M x n v vx hb W (h.keep B hhb) (ix.keep B hhb) (Nat.le_trans hhb B.size) hn h1 h3 (fun r hr => hC.set hx hxb r hr)
  obtain ⟨b, off, cap, V, rfl, hbb, hcell⟩ := (h.cases).resolve_left (fun e => by rw [e.1] at hn; simp at hn; omega) |>.2.2
  rw [hn] at hcell ⊢
  obtain ⟨ax, cx, hvx, -⟩ := id ix
  rw [hx] at hvx
  subst hvx
  rw [hn] at DC FC
  have HC := Lib.hid hcell
  have HIX := Lib.hid ix
  have HXL := Lib.hid hx
  have HROW := Lib.hid (fun k (hk : k < n) => hC.cm.sq.row k hk)
  have HFB := Lib.hid (fun k (hk : k < n) => hC.cm.fac hx hxb hk)
  have HLN := Lib.hid (fun k (hk : k ≤ n) => (celK_at hC.cm hx hxb k hk).1)
  have HSTEP := Lib.hid (fun k => show celK M x (k + 1) = subW (celK M x k) (M.getD k []) (flW (sgF (dN M) (facG M x k)) (dN M).natAbs) from rfl)
  have HEND := Lib.hid (show celP M x = celK M x n by unfold celP; rw [hn])
  have HDB := Lib.hid (show -6000000000 ≤ dN M ∧ dN M ≤ 6000000000 from by
    have := dN_bdB hC.cm.sq h1 h3 (B := 1000) (by omega) (fun i j => by have := hC.cm.bd i j; omega)
    omega)
  have hnz := hC.cm.nz
  have hdb := HDB.out
  have hblt : b < w.heap.size := Nat.lt_of_lt_of_le hbb hhb
  clear h ix hcell hC hx hxb hn
  generalize dN M = d at *
  obtain ⟨D, hD⟩ : ∃ D : Int, D = d.natAbs := ⟨_, rfl⟩
  rw [← hD] at HSTEP
  have hDp : 0 < D := by omega
  have hDz : ¬ D = 0 := by omega
  have HAB := Lib.hid (show max d (-d) = D by omega)
  have HDD := Lib.hid hD
  clear hD HDB
  go_enter Try.func102, Try.ntmps102
  go_wp2_with fail
  refine DC.mono ?_
  rintro e w1 ⟨rfl, c1⟩
  have F1 := FC w1 c1
  go_wp2_with fail
  with_reducible refine F1.mono ?_
  rintro e w2 ⟨uf, rfl, kf, c2⟩
  have B2 := Lib.hid (below_then c1 c1.size c2)
  have HLF := Lib.hid (show ((List.range n).map (facG M x)).length = n by simp)
  obtain ⟨af, cf, huf⟩ := kf.form
  rw [HLF.out] at huf
  subst huf
  have HKF := Lib.hid kf.is
  have hz1 := c1.size
  have hz2 := c2.size
  clear c1 c2 DC FC F1 kf
  have hsrc := Lib.hid ((HIX.out.keep B2.out hhb).keep (below1 w2 (.cells #[] 3)) (by have := B2.out.size; omega))
  go_wp2_with (at_builtin; refine wpList_append_I rfl _ _ rfl rfl rfl (OwnI.lit0 w2 w2.heap.size (Nat.le_refl _)) hsrc.out (by rw [HXL.out]; simp; omega) (by simp) ?_)
  intro a3 c3 w3 k3 hg3
  have c3' := (below1 w2 (.cells #[] 3)).grown hg3 (by simp) (fun k hk => by simp [Value.ownBlock] at hk; omega)
  have B3 := Lib.hid (below_then B2.out B2.out.size c3')
  have HKF3 := Lib.hid ((HKF.out.keep c3' (Nat.le_refl _)).mono (Nat.le_refl _) c3'.size)
  have hz3 := c3'.size
  have HSZ3 := Lib.hid B3.out.size
  have K3 : Hid (IS w3 w.heap.size w3.heap.size (.slice a3 n c3) (celK M x 0)) := Lib.hid (by
    have := k3.is.mono (show w.heap.size ≤ w2.heap.size from B2.out.size) (Nat.le_refl _)
    try simp only [List.nil_append] at this
    rw [HXL.out] at this
    exact this)
  try simp only [List.nil_append]
  rw [HXL.out]
  clear k3 hg3 c3' hsrc HKF hz1 hz2 hz3 B2
  go_wp2
  go_loopw [7, 8, 9] (fun ov r _ wr => ∃ (k : Nat) (ao : Option Addr) (co : Nat), k ≤ n ∧ r = .int .i64 k ∧ ov = .slice ao n co ∧ Hid (IS wr w.heap.size wr.heap.size (.slice ao n co) (celK M x k)) ∧ Hid (Below w3.heap.size w3 wr)) (fun _ r _ _ => n - (intOf r).toNat)
  case atStart => exact ⟨0, a3, c3, by omega, rfl, rfl, K3, Lib.hid (Below.refl _ _)⟩
  case round =>
    obtain ⟨k, ao, co, hk, rfl, rfl, hIS, hbe⟩ := hrel
    clear K3
    by_cases hlt : k < n
    · have BW := below_then B3.out HSZ3.out hbe.out
      have hck := (BW.cell (p := ⟨b, off + k, none⟩) hblt).trans (HC.out k hlt).1
      have hrow := (HC.out k hlt).2.keep BW hhb
      obtain ⟨ak, ek, hvk, -⟩ := id hrow
      rw [HROW.out k hlt] at hvk
      rw [hvk] at hck hrow
      -- the factor
      have kf2 := (HKF3.out.keep hbe.out (Nat.le_refl _))
      obtain ⟨bf, of, e0, hbf, hcf⟩ : ∃ bf of, af = some ⟨bf, of, none⟩ ∧ bf < w3.heap.size ∧ wr.cell? ⟨bf, of + k, none⟩ = some (.int .i64 (facG M x k)) := by
        rcases kf2.read.cases with ⟨e, -⟩ | ⟨-, -, bf, of, cf', hv, hbf, hcc⟩
        · have := HLF.out; rw [e] at this; simp at this; omega
        · injection hv with e1 e2 e3
          refine ⟨bf, of, e1, hbf, ?_⟩
          rw [hcc k (by rw [HLF.out]; exact hlt), List.getD_eq_getElem?_getD, List.getElem?_map, List.getElem?_range hlt]; rfl
      subst e0
      have HQ := Lib.hid (HSTEP.out k)
      have hfb := HFB.out k hlt
      rw [show dN (M.set k x) = facG M x k from rfl] at hfb
      have HLK := Lib.hid (HLN.out k hk)
      have HRK := Lib.hid (HROW.out k hlt)
      have HIS := Lib.hid hIS.out
      have HRW := Lib.hid hrow
      have hbw := BW.size
      have hcd : wr.drew.cell? ⟨b, off + k, none⟩ = some (.slice ak n ek) := hck
      have hkb : b < wr.heap.size := Nat.lt_of_lt_of_le hblt hbw
      have BD := Lib.hid (below_draws wr.heap.size wr 1)
      have k0 : (0 : Int) ≤ (k : Int) := by omega
      have k1 : (k : Int) < (n : Int) := by omega
      clear kf2 hrow hIS hvk hbf BW
      unfold sgF at HQ hfb
      generalize facG M x k = f at *
      generalize celK M x k = ck at *
      by_cases hneg : d < 0
      · rw [if_pos hneg] at HQ hfb
        have hwn : IntKind.i64.wrap (-f) = -f := wr64 _ (by omega)
        have LF := fun W => l3FloorW_any (-f) D W hDz
        have LA := fun W => l1Abs_any d W (by omega) (by omega)
        rw [HAB.out] at LA
        have SC := l2ScaleW_any (M.getD k []) (.slice ak n ek) (flW (-f) D) hb wr.drew (HRW.out.keep BD.out (Nat.le_trans hhb hbw)) (Nat.le_trans hhb hbw) (by rw [HRK.out]; omega)
        generalize flW (-f) D = q at *
        go_wp2_with fail
        go_region_held3 (fun (w' : World) => w'.cell? ⟨b, off + k, none⟩ = some (.slice ak n ek)) (first | exact hcd | exact d5 | exact d4 | go_keep)
          (first
            | (go_at_call 124; (with_reducible refine (l2LessW_any ck ((M.getD k []).map (fun x => wrap64 (x * q))) (.slice ao n co) _ w4.heap.size w4 ((HIS.out.read.keep c4' (Nat.le_refl _)).upto c4'.size) k4.read (Nat.le_refl _) (by rw [HLK.out]; omega) (by rw [List.length_map, HLK.out, HRK.out]; exact Nat.le_refl _)).mono ?_); rintro e w5 ⟨u5, rfl, k5, c5⟩; rw [subW_mul] at k5; obtain ⟨a5, e5, hu5, -⟩ := id k5; rw [subW_len _ (by rw [HLK.out, HRK.out]), HLK.out] at hu5; subst hu5; have d5 := (c5.cell (p := ⟨b, off + k, none⟩) (Nat.lt_of_lt_of_le hkb c4'.size)).trans d4)
            | (go_at_call 69; (with_reducible refine SC.mono ?_); rintro e w4 ⟨u4, rfl, k4, c4⟩; obtain ⟨a4, e4, hu4, -⟩ := id k4; rw [List.length_map, HRK.out] at hu4; subst hu4; have c4' : Below wr.heap.size wr w4 := BD.out.trans c4; have d4 := (c4'.cell (p := ⟨b, off + k, none⟩) hkb).trans hck)
            | (go_at_call 149; (with_reducible refine (LF _).mono ?_); rintro e w6 ⟨rfl, rfl⟩)
            | (go_at_call 106; (with_reducible refine (LA _).mono ?_); rintro e w6 ⟨rfl, rfl⟩))
        have C5 := below_then c4' c4'.size c5
        have K5 := Lib.hid (k5.mono (Nat.le_trans hbw c4'.size) (Nat.le_refl _))
        rw [← HQ.out] at K5
        have B5 := Lib.hid (below_then hbe.out hbe.out.size C5)
        clear k4 k5 c4 c4' c5 C5 d4 d5 SC LF LA hcd hck
        go_wp2
        go_roundw
        case rel => exact ⟨k + 1, _, _, by omega, by go_num, rfl, K5, B5⟩
        case measure => simp [intOf]; omega
      · rw [if_neg hneg] at HQ hfb
        have LF := fun W => l3FloorW_any f D W hDz
        have LA := fun W => l1Abs_any d W (by omega) (by omega)
        rw [HAB.out] at LA
        have SC := l2ScaleW_any (M.getD k []) (.slice ak n ek) (flW f D) hb wr.drew (HRW.out.keep BD.out (Nat.le_trans hhb hbw)) (Nat.le_trans hhb hbw) (by rw [HRK.out]; omega)
        generalize flW f D = q at *
        go_wp2_with fail
        go_region_held3 (fun (w' : World) => w'.cell? ⟨b, off + k, none⟩ = some (.slice ak n ek)) (first | exact hcd | exact d5 | exact d4 | go_keep)
          (first
            | (go_at_call 124; (with_reducible refine (l2LessW_any ck ((M.getD k []).map (fun x => wrap64 (x * q))) (.slice ao n co) _ w4.heap.size w4 ((HIS.out.read.keep c4' (Nat.le_refl _)).upto c4'.size) k4.read (Nat.le_refl _) (by rw [HLK.out]; omega) (by rw [List.length_map, HLK.out, HRK.out]; exact Nat.le_refl _)).mono ?_); rintro e w5 ⟨u5, rfl, k5, c5⟩; rw [subW_mul] at k5; obtain ⟨a5, e5, hu5, -⟩ := id k5; rw [subW_len _ (by rw [HLK.out, HRK.out]), HLK.out] at hu5; subst hu5; have d5 := (c5.cell (p := ⟨b, off + k, none⟩) (Nat.lt_of_lt_of_le hkb c4'.size)).trans d4)
            | (go_at_call 69; (with_reducible refine SC.mono ?_); rintro e w4 ⟨u4, rfl, k4, c4⟩; obtain ⟨a4, e4, hu4, -⟩ := id k4; rw [List.length_map, HRK.out] at hu4; subst hu4; have c4' : Below wr.heap.size wr w4 := BD.out.trans c4; have d4 := (c4'.cell (p := ⟨b, off + k, none⟩) hkb).trans hck)
            | (go_at_call 149; (with_reducible refine (LF _).mono ?_); rintro e w6 ⟨rfl, rfl⟩)
            | (go_at_call 106; (with_reducible refine (LA _).mono ?_); rintro e w6 ⟨rfl, rfl⟩))
        have C5 := below_then c4' c4'.size c5
        have K5 := Lib.hid (k5.mono (Nat.le_trans hbw c4'.size) (Nat.le_refl _))
        rw [← HQ.out] at K5
        have B5 := Lib.hid (below_then hbe.out hbe.out.size C5)
        clear k4 k5 c4 c4' c5 C5 d4 d5 SC LF LA hcd hck
        go_wp2
        go_roundw
        case rel => exact ⟨k + 1, _, _, by omega, by go_num, rfl, K5, B5⟩
        case measure => simp [intOf]; omega
    · have hkn : k = n := by omega
      have hdec : decide ((k : Int) < n) = false := by simp; omega
      have HF := Lib.hid hIS.out
      rw [hkn, ← HEND.out] at HF
      have BF := Lib.hid (below_then B3.out HSZ3.out hbe.out)
      clear hkn
      go_wp2
      go_ret
      exact ⟨_, rfl, HF.out, BF.out⟩
end Go.Proofs.Ytehhoplenloocaa
