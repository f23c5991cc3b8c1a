/- Hermite's form: the model's walk. -/
import Derived.Test.YtehhoplenloocaaLast
import Derived.Test.YtehhoplenloocaaHerO
import Derived.BigQuiet
namespace Go.Proofs.Ytehhoplenloocaa
open Go.RowKit
set_option linter.unusedVariables false
set_option linter.unusedSimpArgs false

/-- a slice of the call's own of rows that are never written, laid open -/
structure RowsO (w : World) (lo b off n : Nat) (V : Nat → Value) (cur : Nat → List Int) : Prop where
  outer : BK w b off n 30 V
  row : ∀ i, i < n → IS w lo w.heap.size (V i) (cur i)
theorem RowsO.keep {w w' : World} {lo b off n : Nat} {V : Nat → Value} {cur : Nat → List Int} (h : RowsO w lo b off n V cur) (hb : Below w.heap.size w w') : RowsO w' lo b off n V cur :=
  ⟨h.outer.keep hb h.outer.lt, fun i hi => ((h.row i hi).keep hb (Nat.le_refl _)).mono (Nat.le_refl _) hb.size⟩
theorem RowsO.set {w : World} {lo b off n k : Nat} {V : Nat → Value} {cur : Nat → List Int} (h : RowsO w lo b off n V cur) (hk : k < n) {vr : Value} {r : List Int} (hr : IS w lo w.heap.size vr r) :
    RowsO (w.setCell ⟨b, off + k, none⟩ vr) lo b off n (fun i => if i = k then vr else V i) (fun i => if i = k then r else cur i) := by
  have hg : w.grownBy (w.setCell ⟨b, off + k, none⟩ vr) (some b) := ⟨rfl, rfl, rfl, by simp, fun i hi hne' => by
    rw [Below.heap_setCell _ _ _ _ (by intro e; apply hne'; rw [e])]⟩
  have hty : ∀ g, some b = some g → ∃ c e fr, w.heap[g]? = some (.cells c e fr) ∧ e ≠ 3 := fun g hg => by
    injection hg with hg
    subst hg
    obtain ⟨cs, e, -⟩ := h.outer
    exact ⟨cs, _, _, e, by decide⟩
  refine ⟨h.outer.set hk vr, fun i hi => ?_⟩
  have hsz : (w.setCell ⟨b, off + k, none⟩ vr).heap.size = w.heap.size := by simp
  rw [hsz]
  by_cases e : i = k
  · rw [if_pos e, if_pos e]; exact hr.grown_type hg hty
  · rw [if_neg e, if_neg e]; exact (h.row i hi).grown_type hg hty
theorem RowsO.congr {w : World} {lo b off n : Nat} {V : Nat → Value} {cur cur' : Nat → List Int} (h : RowsO w lo b off n V cur) (e : ∀ i, i < n → cur i = cur' i) : RowsO w lo b off n V cur' :=
  ⟨h.outer, fun i hi => by rw [← e i hi]; exact h.row i hi⟩
def MO (w : World) (lo b off n : Nat) (M : List (List Int)) : Prop := ∃ V, RowsO w lo b off n V (fun i => M.getD i [])
theorem MO.keep {w w' : World} {lo b off n : Nat} {M : List (List Int)} (h : MO w lo b off n M) (hb : Below w.heap.size w w') : MO w' lo b off n M := by
  obtain ⟨V, h⟩ := h; exact ⟨V, h.keep hb⟩
theorem MO.row {w : World} {lo b off n : Nat} {M : List (List Int)} {V : Nat → Value} (h : RowsO w lo b off n V (fun i => M.getD i [])) (hs : Sq n M) {k : Nat} (hk : k < n) :
    ∃ br or' cr, V k = .slice (some ⟨br, or', none⟩) n cr ∧ w.cell? ⟨b, off + k, none⟩ = some (.slice (some ⟨br, or', none⟩) n cr) ∧ lo ≤ br ∧ br < w.heap.size ∧ IS w lo w.heap.size (.slice (some ⟨br, or', none⟩) n cr) (M.getD k []) ∧ ∀ j, j < n → w.cell? ⟨br, or' + j, none⟩ = some (.int .i64 (atM M k j)) := by
  have hr := h.row k hk
  have hl := hs.row k hk
  rcases hr.cases with ⟨e, -⟩ | ⟨-, -, br, or', cr, hv, -, -, h1, h2, h3⟩
  · have e : M.getD k [] = [] := e
    rw [e] at hl; simp at hl; omega
  · have hv : V k = .slice (some ⟨br, or', none⟩) (M.getD k []).length cr := hv
    rw [hl] at hv
    have h3 : BK w br or' (M.getD k []).length 3 (fun i => .int .i64 ((M.getD k []).getD i 0)) := h3
    rw [hl] at h3
    rw [hv] at hr
    exact ⟨br, or', cr, hv, by rw [← hv]; exact h.outer.cell hk, h1, h2, hr, fun j hj => h3.cell hj⟩
theorem MO.of {w : World} {lo : Nat} {v : Value} {ls : List (List Int)} (h : ISS w lo w.heap.size v ls) (hn : 0 < ls.length) : ∃ b off cap, v = .slice (some ⟨b, off, none⟩) ls.length cap ∧ lo ≤ b ∧ b < w.heap.size ∧ ls.length ≤ cap ∧ cap ≤ maxLen ∧ MO w lo b off ls.length ls := by
  obtain ⟨b, off, cap, V, rfl, h1, h2, h3, h4, hw⟩ := RowsW.of h hn
  exact ⟨b, off, cap, rfl, h1, h2, h3, h4, V, hw.outer, hw.row⟩
theorem MO.read {w : World} {lo b off n cap : Nat} {M : List (List Int)} (h : MO w lo b off n M) (hn : M.length = n) (hc : n ≤ cap) (hm : cap ≤ maxLen) (hb : b < w.heap.size) : ISSr w w.heap.size (.slice (some ⟨b, off, none⟩) n cap) M := by
  obtain ⟨V, h⟩ := h
  subst hn
  exact ⟨_, cap, rfl, hc, hm, fun _ => ⟨b, off, V, rfl, hb, fun i hi => ⟨h.outer.cell hi, (h.row i hi).read⟩⟩⟩
theorem subW_mul (a b : List Int) (q : Int) : List.zipWith (fun x y => wrap64 (x - y)) a (b.map (fun x => wrap64 (x * q))) = subW a b q := by
  unfold subW; rw [List.zipWith_map_right]
set_option maxRecDepth 100000 in
set_option maxHeartbeats 8000000 in
theorem l3Hermite_any (M : List (List Int)) (n : Nat) (v : Value) (hb : Nat) (w : World) (h : ISSr w hb v M) (hhb : hb ≤ w.heap.size) (hI : HI n 0 M) (h1 : 1 ≤ n) (h3 : n ≤ 3) :
    Calls Try.prog 100 #[v] w fun e w' => ∃ u, e = .returned u ∧ ISSr w' w'.heap.size u (herS n n M) ∧ Below w.heap.size w w' := by
  obtain ⟨i0, hi0, hz0, hz1, hz2⟩ := info_parts info_ints
  have HI0 := Lib.hid hi0; clear hi0
  have HZ0 := Lib.hid hz0; clear hz0
  have HZ1 := Lib.hid hz1; clear hz1
  have HZ2 := Lib.hid hz2; clear hz2
  have hn := hI.sq.len
  have HH := Lib.hid (herS_hi hI h3)
  have HR := Lib.hid (fun i (hi : i < n) => hI.sq.row i hi)
  obtain ⟨a, cap, rfl, -, -, hcell⟩ := id h
  rw [hn] at hcell ⊢
  have HN := Lib.hid hn.symm
  have HC := Lib.hid hcell
  clear h hI hn hcell
  go_enter Try.func100, Try.ntmps100
  go_wp2
  go_loopw [3, 4] (fun ov i wr => ∃ (k : Nat) (acc : List (List Int)), k ≤ n ∧ i = .int .i64 k ∧ acc.length ≤ k ∧ Hid (acc = M.take k) ∧ Hid (OwnL wr w.heap.size ov acc) ∧ Hid (Below w.heap.size w wr)) (fun _ i _ => n - (intOf i).toNat)
  case atStart => exact ⟨0, [], by omega, rfl, Nat.le_refl _, Lib.hid (by simp), OwnL.lit0 w _ (Nat.le_refl _), below1 _ _⟩
  case round =>
    obtain ⟨k, acc, hk, rfl, hal, hacc, hown, hbe⟩ := hrel
    by_cases hlt : k < n
    · have hkl : k < M.length := by rw [← HN.out]; exact hlt
      obtain ⟨b, off, V0, rfl, hbb, hcc⟩ := HC.out (by intro e; rw [e] at hkl; exact absurd hkl (Nat.not_lt_zero _))
      have hck := ((hbe.out.trans ((below1 wr (.cells #[] 3)).mono hbe.out.size)).cell (p := ⟨b, off + k, none⟩) (Nat.lt_of_lt_of_le hbb hhb)).trans (hcc k hlt).1
      have hrow := ((hcc k hlt).2.keep hbe.out hhb).keep (below1 wr (.cells #[] 3)) (by have := hbe.out.size; omega)
      have HE := Lib.hid (take_snocL M k hkl)
      rw [← hacc.out] at HE
      have hrl := HR.out k hlt
      have hbs := hbe.out.size
      have HROW := Lib.hid hrow
      clear hcc hkl hrow
      generalize M.getD k [] = r at *
      have hrl2 : r.length ≤ 3 := by omega
      have HRL := Lib.hid hrl
      clear hrl
      generalize V0 k = xk at *
      have hck0 := hck
      go_wp2_with (at_builtin; refine wpList_append_I rfl _ _ rfl rfl rfl (OwnI.lit0 wr wr.heap.size (Nat.le_refl _)) HROW.out (by simp; omega) (by simp) ?_)
      intro au cu w2 hown2 hg2
      have hown2 : OwnI w2 wr.heap.size (.slice au r.length cu) r := hown2
      have c2 := (below1 wr (.cells #[] 3)).grown hg2 (by simp) (fun k hk => by simp [Value.ownBlock] at hk; omega)
      have HK := Lib.hid hown2.is
      obtain ⟨V, p, hpt⟩ := hown.out.part c2
      have HPT := Lib.hid hpt
      have HB2 := Lib.hid (below_then hbe.out hbs c2)
      have hs2 := c2.size
      clear hpt hown2 c2 hg2
      go_wp2_with (at_builtin; refine wpList_append_own _ rfl _ _ 24 rfl w.heap.size 30 i0 (.slice none 0 0) 1 24 Try.underlying24 HI0.out HZ0.out HZ1.out HZ2.out rfl (by decide) _ _ _ rfl (HPT.out.alloc _) ⟨w2.heap.size, 0, none⟩ 1 1 [.slice au r.length cu] rfl rfl ?c1 ?c2 ?c3 ?c4 ?c5 ?_)
      case c1 => exact cell_one_new _ _ _
      case c2 => first | rfl | (intro u hu; simp at hu; subst hu; rfl)
      case c3 => unfold maxLen; omega
      case c4 => omega
      case c5 => first | omega | (simp; omega)
      intro v2 w3 hown2 hgrow _
      have HO := Lib.hid (HPT.out.push HK.out (Nat.le_refl _) hs2 (Nat.le_refl _) hgrow hown2)
      have HBE := Lib.hid (OwnLp.below HB2.out (by omega) _ hgrow HPT.out (Nat.le_refl _))
      clear hown2 hgrow
      go_wp2
      go_roundw
      case rel => exact ⟨k + 1, _, by omega, by go_num, by simp; omega, HE, HO, HBE⟩
      case measure => simp [intOf]; omega
    · obtain rfl : k = n := by omega
      have hfin : acc = M := by rw [hacc.out, HN.out, List.take_length]
      subst hfin
      obtain ⟨b, off, cp, hv, hlo, hbh, hnc, hcm, hmo⟩ := MO.of hown.out.is (by rw [← HN.out]; omega)
      rw [← HN.out] at hv hnc hmo
      subst hv
      have HM0 := Lib.hid hmo
      have HB0 := Lib.hid hbe.out
      clear hmo hown hbe hacc hal
      obtain ⟨M, hMM⟩ : ∃ M, M = acc := ⟨_, rfl⟩
      subst hMM
      obtain ⟨n, hnn⟩ : ∃ n, n = k := ⟨_, rfl⟩
      subst hnn
      obtain ⟨w1, hww⟩ : ∃ w1, w1 = wr := ⟨_, rfl⟩
      subst hww
      have HM0 := Lib.hid (show MO w1 w.heap.size b off n (herS n 0 M) from HM0.out)
      clear hk hlt HC HR
      go_wp2
      go_loopw [5, 6, 7, 8, 9] (fun i _ _ _ _ wr => ∃ (k : Nat), k ≤ n ∧ i = .int .i64 k ∧ Hid (MO wr w.heap.size b off n (herS n k M)) ∧ Hid (Below w.heap.size w wr)) (fun i _ _ _ _ _ => n - (intOf i).toNat)
      case atStart => exact ⟨0, by omega, rfl, HM0, HB0⟩
      case round =>
        obtain ⟨k, hk, rfl, hmr, hbe⟩ := hrel
        clear HM0 HB0
        by_cases hlt : k < n
        · have HK := HH.out k hk
          have HEQ := Lib.hid (show herS n (k + 1) M = redS k k (negS k (colS k (n - 1 - k) (herS n k M))) from rfl)
          have HCE := Lib.hid (colS_end HK h3 hlt)
          have HCA := Lib.hid (colS_all HK h3)
          have hdec : decide ((k : Int) < n) = true := by simp; omega
          have hkk : IntKind.i64.wrap ((k : Int) + 1) = (k : Int) + 1 := wr64 _ (by omega)
          obtain ⟨wy, hwy⟩ : ∃ wy, wy = wr := ⟨_, rfl⟩
          subst hwy
          generalize herS n k M = N at *
          go_wp2
          go_loopw [6, 7, 8] (fun i _ _ wr2 => ∃ (t : Nat), k + 1 + t ≤ n ∧ i = .int .i64 ((k : Int) + 1 + t) ∧ Hid (MO wr2 w.heap.size b off n (colS k t N)) ∧ Hid (Below w.heap.size w wr2)) (fun i _ _ _ => n - (intOf i).toNat)
          case atStart => exact ⟨0, by omega, by simp, hmr, hbe⟩
          case round =>
            obtain ⟨t, ht, rfl, hmr2, hbe2⟩ := hrel
            clear hmr hbe
            by_cases htt : k + 1 + t < n
            · have hd2 : decide ((k : Int) + 1 + t < n) = true := by simp; omega
              have HCB := Lib.hid (HCA.out t ht).1
              have HCN := Lib.hid (show colS k (t + 1) N = eucM (atM (colS k t N) (k + 1 + t) k).natAbs k (k + 1 + t) (colS k t N) from rfl)
              obtain ⟨wz, hwz⟩ : ∃ wz, wz = wr := ⟨_, rfl⟩
              subst hwz
              generalize colS k t N = P at *
              obtain ⟨r, hr⟩ : ∃ r, r = k + 1 + t := ⟨_, rfl⟩
              have hrI : (k : Int) + 1 + t = (r : Int) := by omega
              rw [hrI] at hd2 ⊢
              have hkr : k < r := by omega
              have hrn : r < n := by omega
              have hrn2 : (r : Int) < (n : Int) := by omega
              have hk2 : (k : Int) < (n : Int) := by omega
              have k0 : (0 : Int) ≤ (k : Int) := by omega
              have r0 : (0 : Int) ≤ (r : Int) := by omega
              rw [← hr] at HCN
              have HRR := Lib.hid hr
              have HRI := Lib.hid hrI
              clear hr hrI htt hdec hkk ht
              go_wp2
              go_loopw [7, 8] (fun _ _ wr3 => ∃ (f : Nat) (Q : List (List Int)), (atM Q r k).natAbs ≤ f ∧ Hid (eucM f k r Q = eucM (atM P r k).natAbs k r P) ∧ Hid (HI n k Q) ∧ Hid (MO wr3 w.heap.size b off n Q) ∧ Hid (Below w.heap.size w wr3)) (fun _ _ wr3 => rdM wr3 b off r k)
              case atStart => exact ⟨_, P, Nat.le_refl _, Lib.hid rfl, HCB, hmr2, hbe2⟩
              case round =>
                obtain ⟨f, Q, hf, heu, hq, hmr3, hbe3⟩ := hrel
                clear hmr2 hbe2 HCB
                obtain ⟨V, hrw⟩ := hmr3.out
                obtain ⟨bj, oj, cj, hVk, ckO, -, hbk1, ISk, cellk⟩ := MO.row hrw hq.out.sq hlt
                obtain ⟨bq, oq, cq, hVr, crO, -, hbr1, ISk2, cellr⟩ := MO.row hrw hq.out.sq hrn
                have crk := cellr k hlt
                have ckk := cellk k hlt
                have HRD := Lib.hid (rdM_of crO crk)
                by_cases e0 : atM Q r k = 0
                · have hQ : eucM f k r Q = Q := by cases f with
                    | zero => rfl
                    | succ f => unfold eucM; rw [if_pos e0]
                  have HEND := Lib.hid (show colS k (t + 1) N = Q by rw [HCN.out, ← heu.out, hQ])
                  rw [e0] at crk
                  clear hQ heu hf HRD cellk cellr ISk ISk2
                  go_wp2
                  go_roundw
                  case rel =>
                    have hrr := HRR.out
                    exact ⟨t + 1, by omega, by have := HRI.out; go_num, by rw [HEND.out]; exact hmr3, hbe3⟩
                  case measure => have hrr := HRR.out; simp [intOf]; omega
                · have HEU := Lib.hid (show ∃ f', (atM (stepQ k r (qE k r Q) Q) r k).natAbs ≤ f' ∧ eucM f' k r (stepQ k r (qE k r Q) Q) = eucM (atM P r k).natAbs k r P from by
                    cases f with
                    | zero => omega
                    | succ f =>
                      refine ⟨f, ?_, ?_⟩
                      · rw [stepQ_at hq.out.sq hlt hrn (by omega) _ r hlt, if_pos rfl]
                        unfold qE
                        rw [euc_rem e0 (hq.out.inr r k)]
                        have := tmod_natAbs (atM Q k k) (atM Q r k) e0
                        omega
                      · rw [← heu.out]
                        show _ = (if atM Q r k = 0 then Q else _)
                        rw [if_neg e0])
                  have HLT := Lib.hid (show (atM (stepQ k r (qE k r Q) Q) r k).natAbs < (atM Q r k).natAbs from by
                    rw [stepQ_at hq.out.sq hlt hrn (by omega) _ r hlt, if_pos rfl]
                    unfold qE
                    rw [euc_rem e0 (hq.out.inr r k)]
                    exact tmod_natAbs (atM Q k k) (atM Q r k) e0)
                  have HQ' := Lib.hid (hq.out.step h3 hkr hrn (qE k r Q))
                  have hqv : IntKind.i64.wrap ((atM Q k k).tdiv (atM Q r k)) = qE k r Q := by rw [wrap_64]; rfl
                  have hyb : (atM Q r k != 0) = true := by simpa using e0
                  have hyb2 : (atM Q r k == 0) = false := by rw [beq_eq_false_iff_ne]; exact e0
                  have HMR := Lib.hid (show ∀ m, MO (wr.drewN m) w.heap.size b off n Q from fun m => hmr3.out.keep (below_draws _ _ m))
                  have HBR := Lib.hid (show ∀ m, Below w.heap.size w (wr.drewN m) from fun m => Below.trans hbe3.out (below_draws _ _ m))
                  have HSTP := Lib.hid (show ∀ i, i < n → (if i = r then subW (Q.getD k []) (Q.getD r []) (qE k r Q) else if i = k then Q.getD r [] else Q.getD i []) = (stepQ k r (qE k r Q) Q).getD i [] from fun i hi => by
                    unfold stepQ
                    rw [getD_setR (by rw [List.length_set, hq.out.sq.len]; exact hrn), getD_setR (by rw [hq.out.sq.len]; exact hlt)])
                  have HLQ := Lib.hid (show (Q.getD k []).length = n ∧ (Q.getD r []).length = n from ⟨hq.out.sq.row k hlt, hq.out.sq.row r hrn⟩)
                  have HATK := Lib.hid (show ∀ W V', RowsO W w.heap.size b off n V' (fun i => Q.getD i []) → ∃ bk ok ck, V' k = .slice (some ⟨bk, ok, none⟩) n ck ∧ W.cell? ⟨b, off + k, none⟩ = some (.slice (some ⟨bk, ok, none⟩) n ck) ∧ IS W w.heap.size W.heap.size (.slice (some ⟨bk, ok, none⟩) n ck) (Q.getD k []) from fun W V' hw => by
                    obtain ⟨b1, o1, c1, e1, e2, -, -, e3, -⟩ := MO.row hw hq.out.sq hlt
                    exact ⟨b1, o1, c1, e1, e2, e3⟩)
                  have HATR := Lib.hid (show ∀ W V', RowsO W w.heap.size b off n V' (fun i => Q.getD i []) → ∃ bk ok ck, V' r = .slice (some ⟨bk, ok, none⟩) n ck ∧ W.cell? ⟨b, off + r, none⟩ = some (.slice (some ⟨bk, ok, none⟩) n ck) ∧ IS W w.heap.size W.heap.size (.slice (some ⟨bk, ok, none⟩) n ck) (Q.getD r []) from fun W V' hw => by
                    obtain ⟨b1, o1, c1, e1, e2, -, -, e3, -⟩ := MO.row hw hq.out.sq hrn
                    exact ⟨b1, o1, c1, e1, e2, e3⟩)
                  clear cellk cellr ISk ISk2 heu hf hrw hVk hVr hmr3 hbe3
                  generalize atM Q k k = x at *
                  generalize atM Q r k = y at *
                  generalize hqq : qE k r Q = q at *
                  clear hqq
                  go_wp2
                  go_quiet (fail)
                  obtain ⟨V2, hrw2⟩ := HMR.out nq
                  have HB2 := Lib.hid (HBR.out nq)
                  clear ckO crO ckk crk HMR HBR hbk1 hbr1 hyb hyb2
                  generalize wr.drewN nq = w2 at *
                  obtain ⟨bk, ok, ck, hVk, ckO, ISk⟩ := HATK.out w2 V2 hrw2
                  obtain ⟨br, orr, cr, hVr, crO, ISk2⟩ := HATR.out w2 V2 hrw2
                  have HRW := Lib.hid hrw2
                  have hbl : b < w2.heap.size := hrw2.outer.lt
                  have SC := l2ScaleW_any (Q.getD r []) (.slice (some ⟨br, orr, none⟩) n cr) q w2.heap.size w2.drew (ISk2.read.keep (below_draws w2.heap.size w2 1) (Nat.le_refl _)) (Nat.le_refl _) (by rw [HLQ.out.2]; omega)
                  have x0 : w2.drew.cell? ⟨b, off + k, none⟩ = some (.slice (some ⟨bk, ok, none⟩) n ck) := ckO
                  have x1 : w2.drew.cell? ⟨b, off + r, none⟩ = some (.slice (some ⟨br, orr, none⟩) n cr) := crO
                  have HISK := Lib.hid ISk
                  have HISR := Lib.hid ISk2
                  clear hrw2 hVk ISk ISk2
                  go_wp2_with fail
                  go_region_held3 (fun (w' : World) => w'.cell? ⟨b, off + k, none⟩ = some (.slice (some ⟨bk, ok, none⟩) n ck) ∧ w'.cell? ⟨b, off + r, none⟩ = some (.slice (some ⟨br, orr, none⟩) n cr)) (first | exact ⟨x0, x1⟩ | exact ⟨d5k, d5r⟩ | exact ⟨d4k, d4r⟩ | go_keep)
                    (first
                      | (go_at_call 124; (with_reducible refine (l2LessW_any (Q.getD k []) ((Q.getD r []).map (fun x => wrap64 (x * q))) (.slice (some ⟨bk, ok, none⟩) n ck) _ w4.heap.size w4 ((HISK.out.read.keep c4' (Nat.le_refl _)).upto c4'.size) k4.read (Nat.le_refl _) (by rw [HLQ.out.1]; omega) (by rw [List.length_map, HLQ.out.1, HLQ.out.2]; exact Nat.le_refl _)).mono ?_); rintro e w5 ⟨u5, rfl, k5, c5⟩; rw [subW_mul] at k5; obtain ⟨a5, e5, hu5, -⟩ := id k5; rw [subW_len _ (by rw [HLQ.out.1, HLQ.out.2]), HLQ.out.1] at hu5; subst hu5; have d5k := (c5.cell (p := ⟨b, off + k, none⟩) (Nat.lt_of_lt_of_le hbl c4'.size)).trans d4k; have d5r := (c5.cell (p := ⟨b, off + r, none⟩) (Nat.lt_of_lt_of_le hbl c4'.size)).trans d4r)
                      | (go_at_call 69; (with_reducible refine SC.mono ?_); rintro e w4 ⟨u4, rfl, k4, c4⟩; obtain ⟨a4, e4, hu4, -⟩ := id k4; rw [List.length_map, HLQ.out.2] at hu4; subst hu4; have c4' : Below w2.heap.size w2 w4 := (below_draws w2.heap.size w2 1).trans c4; have d4k := (c4'.cell (p := ⟨b, off + k, none⟩) hbl).trans ckO; have d4r := (c4'.cell (p := ⟨b, off + r, none⟩) hbl).trans crO))
                  have C5 := below_then c4' c4'.size c5
                  have R5 := HRW.out.keep C5
                  have hr5 := R5.row r hrn
                  rw [hVr] at hr5
                  have S1 := R5.set hlt hr5
                  have hv5 : IS (w5.setCell ⟨b, off + k, none⟩ (.slice (some ⟨br, orr, none⟩) n cr)) w.heap.size (w5.setCell ⟨b, off + k, none⟩ (.slice (some ⟨br, orr, none⟩) n cr)).heap.size (.slice a5 n e5) (subW (Q.getD k []) (Q.getD r []) q) := by
                    have hg : w5.grownBy (w5.setCell ⟨b, off + k, none⟩ (.slice (some ⟨br, orr, none⟩) n cr)) (some b) := ⟨rfl, rfl, rfl, by simp, fun i hi hne' => by
                      rw [Below.heap_setCell _ _ _ _ (by intro e; apply hne'; rw [e])]⟩
                    refine ((k5.grown_type hg fun g hg => ?_).mono (Nat.le_trans (by have := HB2.out.size; omega) c4'.size) (by simp))
                    injection hg with hg
                    subst hg
                    obtain ⟨cs, e, -⟩ := R5.outer
                    exact ⟨cs, _, _, e, by decide⟩
                  have S2 := S1.set hrn hv5
                  have R6 := Lib.hid (show MO _ _ _ _ _ (stepQ k r q Q) from ⟨_, S2.congr fun i hi => HSTP.out i hi⟩)
                  have fzk := R5.outer.frozen (off + k)
                  have fzr := R5.outer.frozen (off + r)
                  have B5 := Lib.hid (Below.trans HB2.out (C5.mono HB2.out.size))
                  clear S1 S2 hv5 R5 hr5 k4 k5 c4 c4' c5 C5 d4k d4r SC x0 x1 HRW HISK HISR HATK HATR HSTP hVr ckO crO
                  go_wp2
                  obtain ⟨f', hf', heu'⟩ := HEU.out
                  have HEU' := Lib.hid heu'
                  clear heu'
                  go_roundw
                  case rel => exact ⟨f', stepQ k r q Q, hf', HEU', HQ', R6, Lib.hid ((B5.out.setCell (show w.heap.size ≤ b from hlo) _).setCell (show w.heap.size ≤ b from hlo) _)⟩
                  case measure =>
                    obtain ⟨V6, r6⟩ := R6.out
                    obtain ⟨b6, o6, c6, -, d6, -, -, -, e6⟩ := MO.row r6 HQ'.out.sq hrn
                    rw [rdM_of d6 (e6 k hlt), HRD.out]
                    exact HLT.out
            · have hte : t = n - 1 - k := by omega
              have HCE2 : Hid (HI n (k + 1) (colS k t N)) := by rw [hte]; exact HCE
              have HEQ2 : Hid (herS n (k + 1) M = redS k k (negS k (colS k t N))) := by rw [hte]; exact HEQ
              clear HCE HEQ HCA
              generalize colS k t N = C at *
              have HNH := Lib.hid (negS_hi HCE2.out h3 hlt)
              obtain ⟨V, hrw⟩ := hmr2.out
              obtain ⟨bk, ok, ck, hVk, ckO, hbk0, hbk1, ISk, cellk⟩ := MO.row hrw HCE2.out.sq hlt
              have ckk := cellk k hlt
              have k0 : (0 : Int) ≤ (k : Int) := by omega
              have hk2 : (k : Int) < (n : Int) := by omega
              have htI : ¬ (k : Int) + 1 + t < (n : Int) := by omega
              clear hte hdec hkk
              by_cases hneg : atM C k k < 0
              · have HNE := Lib.hid (negS_yes hneg)
                have hrl := HCE2.out.sq.row k hlt
                have SC := l2ScaleW_any (C.getD k []) (.slice (some ⟨bk, ok, none⟩) n ck) (-1) wr.heap.size wr ISk.read (Nat.le_refl _) (by rw [hrl]; omega)
                have HRW := Lib.hid hrw
                have hbl : b < wr.heap.size := hrw.outer.lt
                have HRL := Lib.hid hrl
                clear hrw ISk cellk hrl hVk
                generalize atM C k k = x at *
                go_wp2_with fail
                with_reducible refine SC.mono ?_
                rintro e w4 ⟨u4, rfl, k4, c4⟩
                obtain ⟨a4, e4, hu4, -⟩ := id k4
                rw [List.length_map, HRL.out] at hu4
                subst hu4
                have R5 := HRW.out.keep c4
                have fzk := R5.outer.frozen (off + k)
                have d4 := (c4.cell (p := ⟨b, off + k, none⟩) hbl).trans ckO
                have S1 := R5.set hlt (k4.mono hbe2.out.size (Nat.le_refl _))
                have R6 := Lib.hid (show MO _ _ _ _ _ (negS k C) from ⟨_, S1.congr fun i hi => by
                  rw [HNE.out, getD_setR (by rw [HCE2.out.sq.len]; exact hlt)]; rfl⟩)
                have B5 := Lib.hid ((below_then hbe2.out hbe2.out.size c4).setCell (show w.heap.size ≤ b from hlo) (.slice a4 n e4) (p := ⟨b, off + k, none⟩))
                clear S1 R5 k4 c4 SC hmr2 hbe2 HRW HNE HCE2 ckO ckk
                generalize negS k C = C2 at *
                go_wp2
                go_loopw [9] (fun j wr4 => ∃ (s : Nat), s ≤ k ∧ j = .int .i64 s ∧ Hid (MO wr4 w.heap.size b off n (redS k s C2)) ∧ Hid (Below w.heap.size w wr4)) (fun j _ => k - (intOf j).toNat)
                case atStart => exact ⟨0, by omega, rfl, R6, B5⟩
                case round =>
                  obtain ⟨s, hs, rfl, hmr4, hbe4⟩ := hrel
                  by_cases hst : s < k
                  · have HRS := Lib.hid (redS_hi HNH.out h3 hlt s hs)
                    have HRE := Lib.hid (show redS k (s + 1) C2 = subR s k (flW (atM (redS k s C2) s k) (atM (redS k s C2) k k)) (redS k s C2) from rfl)
                    generalize redS k s C2 = D at *
                    have hdz : ¬ atM D k k = 0 := diag_nz HRS.out.sq h3 hlt HRS.out.tri HRS.out.nz
                    obtain ⟨V4, hrw4⟩ := hmr4.out
                    have hsn : s < n := by omega
                    obtain ⟨bk, ok, ck, hVk4, ckO, -, hbk4, ISk, cellk⟩ := MO.row hrw4 HRS.out.sq hlt
                    obtain ⟨bs, os, cs, hVs, csO, -, hbs4, ISs, cells⟩ := MO.row hrw4 HRS.out.sq hsn
                    have ckk := cellk k hlt
                    have csk := cells k hlt
                    have DW : Calls Try.prog 149 #[.int .i64 (atM D s k), .int .i64 (atM D k k)] wr.drew fun e w' => e = .returned (.int .i64 (flW (atM D s k) (atM D k k))) ∧ w' = wr.drew := (l3FloorW_any (atM D s k) (atM D k k) wr.drew hdz).mono fun e w' h => ⟨h.1, h.2.symm⟩
                    have HRW4 := Lib.hid hrw4
                    have HLQ := Lib.hid (show (D.getD k []).length = n ∧ (D.getD s []).length = n from ⟨HRS.out.sq.row k hlt, HRS.out.sq.row s hsn⟩)
                    have hbl : b < wr.heap.size := hrw4.outer.lt
                    have HISK := Lib.hid ISk
                    have HISS := Lib.hid ISs
                    clear ISk ISs cellk cells hVk4 hVs hrw4
                    generalize atM D k k = y at *
                    generalize atM D s k = x at *
                    generalize hqq : flW x y = q at *
                    clear hqq
                    have SC := l2ScaleW_any (D.getD k []) (.slice (some ⟨bk, ok, none⟩) n ck) q wr.heap.size wr.drew (HISK.out.read.keep (below_draws wr.heap.size wr 1) (Nat.le_refl _)) (Nat.le_refl _) (by rw [HLQ.out.1]; omega)
                    have s0 : (0 : Int) ≤ (s : Int) := by omega
                    have s1 : (s : Int) < (n : Int) := by omega
                    have s2 : (s : Int) < (k : Int) := by omega
                    have x0 : wr.drew.cell? ⟨b, off + k, none⟩ = some (.slice (some ⟨bk, ok, none⟩) n ck) := ckO
                    have x1 : wr.drew.cell? ⟨b, off + s, none⟩ = some (.slice (some ⟨bs, os, none⟩) n cs) := csO
                    have x2 : wr.drew.cell? ⟨bk, ok + k, none⟩ = some (.int .i64 y) := ckk
                    have x3 : wr.drew.cell? ⟨bs, os + k, none⟩ = some (.int .i64 x) := csk
                    go_wp2_with fail
                    refine wp_region_last (S := fun (w' : World) => (w'.cell? ⟨b, off + k, none⟩ = some (.slice (some ⟨bk, ok, none⟩) n ck) ∧ w'.cell? ⟨b, off + s, none⟩ = some (.slice (some ⟨bs, os, none⟩) n cs)) ∧ w'.cell? ⟨bk, ok + k, none⟩ = some (.int .i64 y) ∧ w'.cell? ⟨bs, os + k, none⟩ = some (.int .i64 x)) 28 _ (by kernel_rfl) rfl rfl (by kernel_rfl) ?_
                    simp only [List.take_succ_cons, List.take_zero]
                    have hHeld : (fun (w' : World) => (w'.cell? ⟨b, off + k, none⟩ = some (.slice (some ⟨bk, ok, none⟩) n ck) ∧ w'.cell? ⟨b, off + s, none⟩ = some (.slice (some ⟨bs, os, none⟩) n cs)) ∧ w'.cell? ⟨bk, ok + k, none⟩ = some (.int .i64 y) ∧ w'.cell? ⟨bs, os + k, none⟩ = some (.int .i64 x)) _ := ⟨⟨x0, x1⟩, x2, x3⟩
                    refine wpAnyH_take (i := 0) (oi := _) (v := ?_) rfl (by kernel_rfl) (by kernel_rfl) (by kernel_rfl) (fun _ _ _ h => h) (Or.inl ⟨by rfl, (by (intro w hSw); (try dsimp only at hSw); go_simp; (try with_reducible rfl))⟩) (by assumption) ?_
                    try simp only [Act.put, List.setIfInBounds_toArray, List.set_cons_zero, List.set_cons_succ]
                    refine wpAnyH_take (i := 1) (oi := _) (v := ?_) rfl (by kernel_rfl) (by kernel_rfl) (by kernel_rfl) (fun _ _ _ h => h) (Or.inl ⟨by rfl, (by (intro w hSw); (try dsimp only at hSw); go_simp; (try with_reducible rfl))⟩) (by assumption) ?_
                    try simp only [Act.put, List.setIfInBounds_toArray, List.set_cons_zero, List.set_cons_succ]
                    refine wpAnyH_take (i := 2) (oi := _) (v := ?_) rfl (by kernel_rfl) (by kernel_rfl) (by kernel_rfl) (fun _ _ _ h => h) (Or.inl ⟨by rfl, (by (intro w hSw); (try dsimp only at hSw); go_simp; (try with_reducible rfl))⟩) (by assumption) ?_
                    try simp only [Act.put, List.setIfInBounds_toArray, List.set_cons_zero, List.set_cons_succ]
                    refine wpAnyH_take (i := 3) (oi := _) (v := ?_) rfl (by kernel_rfl) (by kernel_rfl) (by kernel_rfl) (fun _ _ _ h => h) (Or.inl ⟨by rfl, (by (intro w hSw); (try dsimp only at hSw); go_simp; (try with_reducible rfl))⟩) (by assumption) ?_
                    try simp only [Act.put, List.setIfInBounds_toArray, List.set_cons_zero, List.set_cons_succ]
                    refine wpAnyH_take (i := 4) (oi := _) (v := ?_) rfl (by kernel_rfl) (by kernel_rfl) (by kernel_rfl) (fun _ _ _ h => h) (Or.inl ⟨by rfl, (by (intro w hSw); (try dsimp only at hSw); go_simp; (try with_reducible rfl))⟩) (by assumption) ?_
                    try simp only [Act.put, List.setIfInBounds_toArray, List.set_cons_zero, List.set_cons_succ]
                    refine wpAnyH_take (i := 5) (oi := _) (v := ?_) rfl (by kernel_rfl) (by kernel_rfl) (by kernel_rfl) (fun _ _ _ h => h) (Or.inl ⟨by rfl, (by (intro w hSw); (try dsimp only at hSw); go_simp; (try with_reducible rfl))⟩) (by assumption) ?_
                    try simp only [Act.put, List.setIfInBounds_toArray, List.set_cons_zero, List.set_cons_succ]
                    refine wpAnyH_take (i := 6) (oi := _) (v := ?_) rfl (by kernel_rfl) (by kernel_rfl) (by kernel_rfl) (fun _ _ _ h => h) (Or.inl ⟨by rfl, (by (intro w hSw); (try dsimp only at hSw); go_simp; (try with_reducible rfl))⟩) (by assumption) ?_
                    try simp only [Act.put, List.setIfInBounds_toArray, List.set_cons_zero, List.set_cons_succ]
                    refine wpAnyH_take (i := 7) (oi := _) (v := ?_) rfl (by kernel_rfl) (by kernel_rfl) (by kernel_rfl) (fun _ _ _ h => h) (Or.inl ⟨by rfl, (by (intro w hSw); (try dsimp only at hSw); go_simp; (try with_reducible rfl))⟩) (by assumption) ?_
                    try simp only [Act.put, List.setIfInBounds_toArray, List.set_cons_zero, List.set_cons_succ]
                    refine wpAnyH_take (i := 8) (oi := _) (v := ?_) rfl (by kernel_rfl) (by kernel_rfl) (by kernel_rfl) (fun _ _ _ h => h) (Or.inl ⟨by rfl, (by (intro w hSw); (try dsimp only at hSw); go_simp; (try with_reducible rfl))⟩) (by assumption) ?_
                    try simp only [Act.put, List.setIfInBounds_toArray, List.set_cons_zero, List.set_cons_succ]
                    refine wpAnyH_take (i := 9) (oi := _) (v := ?_) rfl (by kernel_rfl) (by kernel_rfl) (by kernel_rfl) (fun _ _ _ h => h) (Or.inl ⟨by rfl, (by (intro w hSw); (try dsimp only at hSw); go_simp; (try with_reducible rfl))⟩) (by assumption) ?_
                    try simp only [Act.put, List.setIfInBounds_toArray, List.set_cons_zero, List.set_cons_succ]
                    refine wpAnyH_take (i := 10) (oi := _) (v := ?_) rfl (by kernel_rfl) (by kernel_rfl) (by kernel_rfl) (fun _ _ _ h => h) (Or.inl ⟨by rfl, (by (intro w hSw); (try dsimp only at hSw); go_simp; (try with_reducible rfl))⟩) (by assumption) ?_
                    try simp only [Act.put, List.setIfInBounds_toArray, List.set_cons_zero, List.set_cons_succ]
                    refine wpAnyH_take (i := 11) (oi := _) (v := ?_) rfl (by kernel_rfl) (by kernel_rfl) (by kernel_rfl) (fun _ _ _ h => h) (Or.inl ⟨by rfl, (by (intro w hSw); (try dsimp only at hSw); go_simp; (try with_reducible rfl))⟩) (by assumption) ?_
                    try simp only [Act.put, List.setIfInBounds_toArray, List.set_cons_zero, List.set_cons_succ]
                    refine wpAnyH_take (i := 12) (oi := _) (v := ?_) rfl (by kernel_rfl) (by kernel_rfl) (by kernel_rfl) (fun _ _ _ h => h) (Or.inl ⟨by rfl, (by (intro w hSw); (try dsimp only at hSw); go_simp; (try with_reducible rfl))⟩) (by assumption) ?_
                    try simp only [Act.put, List.setIfInBounds_toArray, List.set_cons_zero, List.set_cons_succ]
                    refine wpAnyH_take (i := 13) (oi := _) (v := ?_) rfl (by kernel_rfl) (by kernel_rfl) (by kernel_rfl) (fun _ _ _ h => h) (Or.inl ⟨by rfl, (by (intro w hSw); (try dsimp only at hSw); go_simp; (try with_reducible rfl))⟩) (by assumption) ?_
                    try simp only [Act.put, List.setIfInBounds_toArray, List.set_cons_zero, List.set_cons_succ]
                    refine wpAnyH_take (i := 14) (oi := _) (v := ?_) rfl (by kernel_rfl) (by kernel_rfl) (by kernel_rfl) (fun _ _ _ h => h) (Or.inl ⟨by rfl, (by (intro w hSw); (try dsimp only at hSw); go_simp; (try with_reducible rfl))⟩) (by assumption) ?_
                    try simp only [Act.put, List.setIfInBounds_toArray, List.set_cons_zero, List.set_cons_succ]
                    refine wpAnyH_take (i := 15) (oi := _) (v := ?_) rfl (by kernel_rfl) (by kernel_rfl) (by kernel_rfl) (fun _ _ _ h => h) (Or.inl ⟨by rfl, (by (intro w hSw); (try dsimp only at hSw); go_simp; (try with_reducible rfl))⟩) (by assumption) ?_
                    try simp only [Act.put, List.setIfInBounds_toArray, List.set_cons_zero, List.set_cons_succ]
                    refine wpAnyH_take (i := 16) (oi := _) (v := ?_) rfl (by kernel_rfl) (by kernel_rfl) (by kernel_rfl) (fun _ _ _ h => h) (Or.inl ⟨by rfl, (by (intro w hSw); (try dsimp only at hSw); go_simp; (try with_reducible rfl))⟩) (by assumption) ?_
                    try simp only [Act.put, List.setIfInBounds_toArray, List.set_cons_zero, List.set_cons_succ]
                    refine wpAnyH_take (i := 17) (oi := _) (v := ?_) rfl (by kernel_rfl) (by kernel_rfl) (by kernel_rfl) (fun _ _ _ h => h) (Or.inl ⟨by rfl, (by (intro w hSw); (try dsimp only at hSw); go_simp; (try with_reducible rfl))⟩) (by assumption) ?_
                    try simp only [Act.put, List.setIfInBounds_toArray, List.set_cons_zero, List.set_cons_succ]
                    refine wpAnyH_take (i := 18) (oi := _) (v := ?_) rfl (by kernel_rfl) (by kernel_rfl) (by kernel_rfl) (fun _ _ _ h => h) (Or.inl ⟨by rfl, (by (intro w hSw); (try dsimp only at hSw); go_simp; (try with_reducible rfl))⟩) (by assumption) ?_
                    try simp only [Act.put, List.setIfInBounds_toArray, List.set_cons_zero, List.set_cons_succ]
                    refine wpAnyH_take (i := 19) (oi := _) (v := ?_) rfl (by kernel_rfl) (by kernel_rfl) (by kernel_rfl) (fun _ _ _ h => h) (Or.inl ⟨by rfl, (by (intro w hSw); (try dsimp only at hSw); go_simp; (try with_reducible rfl))⟩) (by assumption) ?_
                    try simp only [Act.put, List.setIfInBounds_toArray, List.set_cons_zero, List.set_cons_succ]
                    refine wpAnyH_take (i := 20) (oi := _) (v := ?_) rfl (by kernel_rfl) (by kernel_rfl) (by kernel_rfl) (fun _ _ _ h => h) (Or.inl ⟨by rfl, (by (intro w hSw); (try dsimp only at hSw); go_simp; (try with_reducible rfl))⟩) (by assumption) ?_
                    try simp only [Act.put, List.setIfInBounds_toArray, List.set_cons_zero, List.set_cons_succ]
                    refine wpAnyH_take (i := 21) (oi := _) (v := ?_) rfl (by kernel_rfl) (by kernel_rfl) (by kernel_rfl) (fun _ _ _ h => h) (Or.inl ⟨by rfl, (by (intro w hSw); (try dsimp only at hSw); go_simp; (try with_reducible rfl))⟩) (by assumption) ?_
                    try simp only [Act.put, List.setIfInBounds_toArray, List.set_cons_zero, List.set_cons_succ]
                    refine wpAnyH_take (i := 22) (oi := _) (v := ?_) rfl (by kernel_rfl) (by kernel_rfl) (by kernel_rfl) (fun _ _ _ h => h) (Or.inl ⟨by rfl, (by (intro w hSw); (try dsimp only at hSw); go_simp; (try with_reducible rfl))⟩) (by assumption) ?_
                    try simp only [Act.put, List.setIfInBounds_toArray, List.set_cons_zero, List.set_cons_succ]
                    refine wpAnyH_take (i := 23) (oi := _) (v := ?_) rfl (by kernel_rfl) (by kernel_rfl) (by kernel_rfl) (fun _ _ _ h => h) (Or.inl ⟨by rfl, (by (intro w hSw); (try dsimp only at hSw); go_simp; (try with_reducible rfl))⟩) (by assumption) ?_
                    try simp only [Act.put, List.setIfInBounds_toArray, List.set_cons_zero, List.set_cons_succ]
                    refine wpAnyH_ready (rs := [24]) (by kernel_rfl) (by simp) ?_
                    refine AllReadyH.cons (o := _) rfl (fun K hK => ?_) AllReadyH.nil
                    go_simp
                    refine DW.mono ?_
                    rintro e w3 ⟨rfl, rfl⟩
                    refine hK.out _ _ (by exact hHeld) (fun hHeld => ?_)
                    clear hK K
                    try simp only [Act.put, List.setIfInBounds_toArray, List.set_cons_zero, List.set_cons_succ]
                    refine wpAnyH_ready (rs := [25]) (by kernel_rfl) (by simp) ?_
                    refine AllReadyH.cons (o := _) rfl (fun K hK => ?_) AllReadyH.nil
                    go_simp
                    refine SC.mono ?_
                    rintro e w4 ⟨u4, rfl, k4, c4⟩
                    obtain ⟨a4, e4, hu4, -⟩ := id k4
                    rw [List.length_map, HLQ.out.1] at hu4
                    subst hu4
                    have c4' : Below wr.heap.size wr w4 := (below_draws wr.heap.size wr 1).trans c4
                    have d4 := And.intro (And.intro ((c4'.cell (p := ⟨b, off + k, none⟩) hbl).trans ckO) ((c4'.cell (p := ⟨b, off + s, none⟩) hbl).trans csO)) (And.intro ((c4'.cell (p := ⟨bk, ok + k, none⟩) hbk4).trans ckk) ((c4'.cell (p := ⟨bs, os + k, none⟩) hbs4).trans csk))
                    refine hK.out _ _ (by exact d4) (fun hHeld => ?_)
                    clear hK K
                    try simp only [Act.put, List.setIfInBounds_toArray, List.set_cons_zero, List.set_cons_succ]
                    refine wpAnyH_ready (rs := [26]) (by kernel_rfl) (by simp) ?_
                    refine AllReadyH.cons (o := _) rfl (fun K hK => ?_) AllReadyH.nil
                    go_simp
                    refine (l2LessW_any (D.getD s []) ((D.getD k []).map (fun x => wrap64 (x * q))) (.slice (some ⟨bs, os, none⟩) n cs) _ w4.heap.size w4 ((HISS.out.read.keep c4' (Nat.le_refl _)).upto c4'.size) k4.read (Nat.le_refl _) (by rw [HLQ.out.2]; omega) (by rw [List.length_map, HLQ.out.1, HLQ.out.2]; exact Nat.le_refl _)).mono ?_
                    rintro e w5 ⟨u5, rfl, k5, c5⟩
                    rw [subW_mul] at k5
                    obtain ⟨a5, e5, hu5, -⟩ := id k5
                    rw [subW_len _ (by rw [HLQ.out.1, HLQ.out.2]), HLQ.out.2] at hu5
                    subst hu5
                    have d5 := And.intro (And.intro ((c5.cell (p := ⟨b, off + k, none⟩) (Nat.lt_of_lt_of_le hbl c4'.size)).trans d4.1.1) ((c5.cell (p := ⟨b, off + s, none⟩) (Nat.lt_of_lt_of_le hbl c4'.size)).trans d4.1.2)) (And.intro ((c5.cell (p := ⟨bk, ok + k, none⟩) (Nat.lt_of_lt_of_le hbk4 c4'.size)).trans d4.2.1) ((c5.cell (p := ⟨bs, os + k, none⟩) (Nat.lt_of_lt_of_le hbs4 c4'.size)).trans d4.2.2))
                    refine hK.out _ _ (by exact d5) (fun hHeld => ?_)
                    clear hK K
                    try simp only [Act.put, List.setIfInBounds_toArray, List.set_cons_zero, List.set_cons_succ]
                    refine wpAnyH_take (i := 27) (oi := _) (v := ?_) rfl (by kernel_rfl) (by kernel_rfl) (by kernel_rfl) (fun _ _ _ h => h) (Or.inl ⟨by rfl, (by (intro w hSw); (try dsimp only at hSw); go_simp; (try with_reducible rfl))⟩) (by assumption) ?_
                    try simp only [Act.put, List.setIfInBounds_toArray, List.set_cons_zero, List.set_cons_succ]
                    refine wpAnyH_done (by kernel_rfl) ?_ _
                    have C5 := below_then c4' c4'.size c5
                    have R5 := HRW4.out.keep C5
                    have fzs := R5.outer.frozen (off + s)
                    have S1 := R5.set hsn (k5.mono (Nat.le_trans hbe4.out.size c4'.size) (Nat.le_refl _))
                    have R7 := Lib.hid (show MO _ _ _ _ _ (redS k (s + 1) C2) from ⟨_, S1.congr fun i hi => by
                      rw [HRE.out]
                      unfold subR
                      rw [getD_setR (by rw [HRS.out.sq.len]; exact hsn)]⟩)
                    have B7 := Lib.hid ((Below.trans hbe4.out (C5.mono hbe4.out.size)).setCell (show w.heap.size ≤ b from hlo) (.slice a5 n e5) (p := ⟨b, off + s, none⟩))
                    clear S1 R5 k4 k5 c4 c4' c5 C5 SC DW HRW4 HISK HISS x0 x1 x2 x3 d4 HRS HRE ckO csO ckk csk hmr4 hbe4 R6 B5
                    unfold lastQ
                    go_simp
                    go_wp2
                    go_roundw
                    case rel => exact ⟨s + 1, by omega, by go_num, R7, B7⟩
                    case measure => simp [intOf]; omega
                  · obtain rfl : s = k := by omega
                    rw [← HEQ2.out] at hmr4
                    clear R6 B5
                    go_wp2
                    go_roundw
                    case rel => exact ⟨s + 1, by omega, by go_num, hmr4, hbe4⟩
                    case measure => simp [intOf]; omega
              · have HNE := Lib.hid (negS_no hneg)
                rw [HNE.out] at HNH HEQ2
                clear HNE hrw ISk cellk hVk HCE2
                obtain ⟨C2, hC2⟩ : ∃ C2, C2 = C := ⟨_, rfl⟩
                subst hC2
                have R6 := hmr2
                have B5 := hbe2
                clear hmr2 hbe2
                generalize atM C2 k k = x at *
                go_wp2
                go_loopw [9] (fun j wr4 => ∃ (s : Nat), s ≤ k ∧ j = .int .i64 s ∧ Hid (MO wr4 w.heap.size b off n (redS k s C2)) ∧ Hid (Below w.heap.size w wr4)) (fun j _ => k - (intOf j).toNat)
                case atStart => exact ⟨0, by omega, rfl, R6, B5⟩
                case round =>
                  obtain ⟨s, hs, rfl, hmr4, hbe4⟩ := hrel
                  by_cases hst : s < k
                  · have HRS := Lib.hid (redS_hi HNH.out h3 hlt s hs)
                    have HRE := Lib.hid (show redS k (s + 1) C2 = subR s k (flW (atM (redS k s C2) s k) (atM (redS k s C2) k k)) (redS k s C2) from rfl)
                    generalize redS k s C2 = D at *
                    have hdz : ¬ atM D k k = 0 := diag_nz HRS.out.sq h3 hlt HRS.out.tri HRS.out.nz
                    obtain ⟨V4, hrw4⟩ := hmr4.out
                    have hsn : s < n := by omega
                    obtain ⟨bk, ok, ck, hVk4, ckO, -, hbk4, ISk, cellk⟩ := MO.row hrw4 HRS.out.sq hlt
                    obtain ⟨bs, os, cs, hVs, csO, -, hbs4, ISs, cells⟩ := MO.row hrw4 HRS.out.sq hsn
                    have ckk := cellk k hlt
                    have csk := cells k hlt
                    have DW : Calls Try.prog 149 #[.int .i64 (atM D s k), .int .i64 (atM D k k)] wr.drew fun e w' => e = .returned (.int .i64 (flW (atM D s k) (atM D k k))) ∧ w' = wr.drew := (l3FloorW_any (atM D s k) (atM D k k) wr.drew hdz).mono fun e w' h => ⟨h.1, h.2.symm⟩
                    have HRW4 := Lib.hid hrw4
                    have HLQ := Lib.hid (show (D.getD k []).length = n ∧ (D.getD s []).length = n from ⟨HRS.out.sq.row k hlt, HRS.out.sq.row s hsn⟩)
                    have hbl : b < wr.heap.size := hrw4.outer.lt
                    have HISK := Lib.hid ISk
                    have HISS := Lib.hid ISs
                    clear ISk ISs cellk cells hVk4 hVs hrw4
                    generalize atM D k k = y at *
                    generalize atM D s k = x at *
                    generalize hqq : flW x y = q at *
                    clear hqq
                    have SC := l2ScaleW_any (D.getD k []) (.slice (some ⟨bk, ok, none⟩) n ck) q wr.heap.size wr.drew (HISK.out.read.keep (below_draws wr.heap.size wr 1) (Nat.le_refl _)) (Nat.le_refl _) (by rw [HLQ.out.1]; omega)
                    have s0 : (0 : Int) ≤ (s : Int) := by omega
                    have s1 : (s : Int) < (n : Int) := by omega
                    have s2 : (s : Int) < (k : Int) := by omega
                    have x0 : wr.drew.cell? ⟨b, off + k, none⟩ = some (.slice (some ⟨bk, ok, none⟩) n ck) := ckO
                    have x1 : wr.drew.cell? ⟨b, off + s, none⟩ = some (.slice (some ⟨bs, os, none⟩) n cs) := csO
                    have x2 : wr.drew.cell? ⟨bk, ok + k, none⟩ = some (.int .i64 y) := ckk
                    have x3 : wr.drew.cell? ⟨bs, os + k, none⟩ = some (.int .i64 x) := csk
                    go_wp2_with fail
                    refine wp_region_last (S := fun (w' : World) => (w'.cell? ⟨b, off + k, none⟩ = some (.slice (some ⟨bk, ok, none⟩) n ck) ∧ w'.cell? ⟨b, off + s, none⟩ = some (.slice (some ⟨bs, os, none⟩) n cs)) ∧ w'.cell? ⟨bk, ok + k, none⟩ = some (.int .i64 y) ∧ w'.cell? ⟨bs, os + k, none⟩ = some (.int .i64 x)) 28 _ (by kernel_rfl) rfl rfl (by kernel_rfl) ?_
                    simp only [List.take_succ_cons, List.take_zero]
                    have hHeld : (fun (w' : World) => (w'.cell? ⟨b, off + k, none⟩ = some (.slice (some ⟨bk, ok, none⟩) n ck) ∧ w'.cell? ⟨b, off + s, none⟩ = some (.slice (some ⟨bs, os, none⟩) n cs)) ∧ w'.cell? ⟨bk, ok + k, none⟩ = some (.int .i64 y) ∧ w'.cell? ⟨bs, os + k, none⟩ = some (.int .i64 x)) _ := ⟨⟨x0, x1⟩, x2, x3⟩
                    refine wpAnyH_take (i := 0) (oi := _) (v := ?_) rfl (by kernel_rfl) (by kernel_rfl) (by kernel_rfl) (fun _ _ _ h => h) (Or.inl ⟨by rfl, (by (intro w hSw); (try dsimp only at hSw); go_simp; (try with_reducible rfl))⟩) (by assumption) ?_
                    try simp only [Act.put, List.setIfInBounds_toArray, List.set_cons_zero, List.set_cons_succ]
                    refine wpAnyH_take (i := 1) (oi := _) (v := ?_) rfl (by kernel_rfl) (by kernel_rfl) (by kernel_rfl) (fun _ _ _ h => h) (Or.inl ⟨by rfl, (by (intro w hSw); (try dsimp only at hSw); go_simp; (try with_reducible rfl))⟩) (by assumption) ?_
                    try simp only [Act.put, List.setIfInBounds_toArray, List.set_cons_zero, List.set_cons_succ]
                    refine wpAnyH_take (i := 2) (oi := _) (v := ?_) rfl (by kernel_rfl) (by kernel_rfl) (by kernel_rfl) (fun _ _ _ h => h) (Or.inl ⟨by rfl, (by (intro w hSw); (try dsimp only at hSw); go_simp; (try with_reducible rfl))⟩) (by assumption) ?_
                    try simp only [Act.put, List.setIfInBounds_toArray, List.set_cons_zero, List.set_cons_succ]
                    refine wpAnyH_take (i := 3) (oi := _) (v := ?_) rfl (by kernel_rfl) (by kernel_rfl) (by kernel_rfl) (fun _ _ _ h => h) (Or.inl ⟨by rfl, (by (intro w hSw); (try dsimp only at hSw); go_simp; (try with_reducible rfl))⟩) (by assumption) ?_
                    try simp only [Act.put, List.setIfInBounds_toArray, List.set_cons_zero, List.set_cons_succ]
                    refine wpAnyH_take (i := 4) (oi := _) (v := ?_) rfl (by kernel_rfl) (by kernel_rfl) (by kernel_rfl) (fun _ _ _ h => h) (Or.inl ⟨by rfl, (by (intro w hSw); (try dsimp only at hSw); go_simp; (try with_reducible rfl))⟩) (by assumption) ?_
                    try simp only [Act.put, List.setIfInBounds_toArray, List.set_cons_zero, List.set_cons_succ]
                    refine wpAnyH_take (i := 5) (oi := _) (v := ?_) rfl (by kernel_rfl) (by kernel_rfl) (by kernel_rfl) (fun _ _ _ h => h) (Or.inl ⟨by rfl, (by (intro w hSw); (try dsimp only at hSw); go_simp; (try with_reducible rfl))⟩) (by assumption) ?_
                    try simp only [Act.put, List.setIfInBounds_toArray, List.set_cons_zero, List.set_cons_succ]
                    refine wpAnyH_take (i := 6) (oi := _) (v := ?_) rfl (by kernel_rfl) (by kernel_rfl) (by kernel_rfl) (fun _ _ _ h => h) (Or.inl ⟨by rfl, (by (intro w hSw); (try dsimp only at hSw); go_simp; (try with_reducible rfl))⟩) (by assumption) ?_
                    try simp only [Act.put, List.setIfInBounds_toArray, List.set_cons_zero, List.set_cons_succ]
                    refine wpAnyH_take (i := 7) (oi := _) (v := ?_) rfl (by kernel_rfl) (by kernel_rfl) (by kernel_rfl) (fun _ _ _ h => h) (Or.inl ⟨by rfl, (by (intro w hSw); (try dsimp only at hSw); go_simp; (try with_reducible rfl))⟩) (by assumption) ?_
                    try simp only [Act.put, List.setIfInBounds_toArray, List.set_cons_zero, List.set_cons_succ]
                    refine wpAnyH_take (i := 8) (oi := _) (v := ?_) rfl (by kernel_rfl) (by kernel_rfl) (by kernel_rfl) (fun _ _ _ h => h) (Or.inl ⟨by rfl, (by (intro w hSw); (try dsimp only at hSw); go_simp; (try with_reducible rfl))⟩) (by assumption) ?_
                    try simp only [Act.put, List.setIfInBounds_toArray, List.set_cons_zero, List.set_cons_succ]
                    refine wpAnyH_take (i := 9) (oi := _) (v := ?_) rfl (by kernel_rfl) (by kernel_rfl) (by kernel_rfl) (fun _ _ _ h => h) (Or.inl ⟨by rfl, (by (intro w hSw); (try dsimp only at hSw); go_simp; (try with_reducible rfl))⟩) (by assumption) ?_
                    try simp only [Act.put, List.setIfInBounds_toArray, List.set_cons_zero, List.set_cons_succ]
                    refine wpAnyH_take (i := 10) (oi := _) (v := ?_) rfl (by kernel_rfl) (by kernel_rfl) (by kernel_rfl) (fun _ _ _ h => h) (Or.inl ⟨by rfl, (by (intro w hSw); (try dsimp only at hSw); go_simp; (try with_reducible rfl))⟩) (by assumption) ?_
                    try simp only [Act.put, List.setIfInBounds_toArray, List.set_cons_zero, List.set_cons_succ]
                    refine wpAnyH_take (i := 11) (oi := _) (v := ?_) rfl (by kernel_rfl) (by kernel_rfl) (by kernel_rfl) (fun _ _ _ h => h) (Or.inl ⟨by rfl, (by (intro w hSw); (try dsimp only at hSw); go_simp; (try with_reducible rfl))⟩) (by assumption) ?_
                    try simp only [Act.put, List.setIfInBounds_toArray, List.set_cons_zero, List.set_cons_succ]
                    refine wpAnyH_take (i := 12) (oi := _) (v := ?_) rfl (by kernel_rfl) (by kernel_rfl) (by kernel_rfl) (fun _ _ _ h => h) (Or.inl ⟨by rfl, (by (intro w hSw); (try dsimp only at hSw); go_simp; (try with_reducible rfl))⟩) (by assumption) ?_
                    try simp only [Act.put, List.setIfInBounds_toArray, List.set_cons_zero, List.set_cons_succ]
                    refine wpAnyH_take (i := 13) (oi := _) (v := ?_) rfl (by kernel_rfl) (by kernel_rfl) (by kernel_rfl) (fun _ _ _ h => h) (Or.inl ⟨by rfl, (by (intro w hSw); (try dsimp only at hSw); go_simp; (try with_reducible rfl))⟩) (by assumption) ?_
                    try simp only [Act.put, List.setIfInBounds_toArray, List.set_cons_zero, List.set_cons_succ]
                    refine wpAnyH_take (i := 14) (oi := _) (v := ?_) rfl (by kernel_rfl) (by kernel_rfl) (by kernel_rfl) (fun _ _ _ h => h) (Or.inl ⟨by rfl, (by (intro w hSw); (try dsimp only at hSw); go_simp; (try with_reducible rfl))⟩) (by assumption) ?_
                    try simp only [Act.put, List.setIfInBounds_toArray, List.set_cons_zero, List.set_cons_succ]
                    refine wpAnyH_take (i := 15) (oi := _) (v := ?_) rfl (by kernel_rfl) (by kernel_rfl) (by kernel_rfl) (fun _ _ _ h => h) (Or.inl ⟨by rfl, (by (intro w hSw); (try dsimp only at hSw); go_simp; (try with_reducible rfl))⟩) (by assumption) ?_
                    try simp only [Act.put, List.setIfInBounds_toArray, List.set_cons_zero, List.set_cons_succ]
                    refine wpAnyH_take (i := 16) (oi := _) (v := ?_) rfl (by kernel_rfl) (by kernel_rfl) (by kernel_rfl) (fun _ _ _ h => h) (Or.inl ⟨by rfl, (by (intro w hSw); (try dsimp only at hSw); go_simp; (try with_reducible rfl))⟩) (by assumption) ?_
                    try simp only [Act.put, List.setIfInBounds_toArray, List.set_cons_zero, List.set_cons_succ]
                    refine wpAnyH_take (i := 17) (oi := _) (v := ?_) rfl (by kernel_rfl) (by kernel_rfl) (by kernel_rfl) (fun _ _ _ h => h) (Or.inl ⟨by rfl, (by (intro w hSw); (try dsimp only at hSw); go_simp; (try with_reducible rfl))⟩) (by assumption) ?_
                    try simp only [Act.put, List.setIfInBounds_toArray, List.set_cons_zero, List.set_cons_succ]
                    refine wpAnyH_take (i := 18) (oi := _) (v := ?_) rfl (by kernel_rfl) (by kernel_rfl) (by kernel_rfl) (fun _ _ _ h => h) (Or.inl ⟨by rfl, (by (intro w hSw); (try dsimp only at hSw); go_simp; (try with_reducible rfl))⟩) (by assumption) ?_
                    try simp only [Act.put, List.setIfInBounds_toArray, List.set_cons_zero, List.set_cons_succ]
                    refine wpAnyH_take (i := 19) (oi := _) (v := ?_) rfl (by kernel_rfl) (by kernel_rfl) (by kernel_rfl) (fun _ _ _ h => h) (Or.inl ⟨by rfl, (by (intro w hSw); (try dsimp only at hSw); go_simp; (try with_reducible rfl))⟩) (by assumption) ?_
                    try simp only [Act.put, List.setIfInBounds_toArray, List.set_cons_zero, List.set_cons_succ]
                    refine wpAnyH_take (i := 20) (oi := _) (v := ?_) rfl (by kernel_rfl) (by kernel_rfl) (by kernel_rfl) (fun _ _ _ h => h) (Or.inl ⟨by rfl, (by (intro w hSw); (try dsimp only at hSw); go_simp; (try with_reducible rfl))⟩) (by assumption) ?_
                    try simp only [Act.put, List.setIfInBounds_toArray, List.set_cons_zero, List.set_cons_succ]
                    refine wpAnyH_take (i := 21) (oi := _) (v := ?_) rfl (by kernel_rfl) (by kernel_rfl) (by kernel_rfl) (fun _ _ _ h => h) (Or.inl ⟨by rfl, (by (intro w hSw); (try dsimp only at hSw); go_simp; (try with_reducible rfl))⟩) (by assumption) ?_
                    try simp only [Act.put, List.setIfInBounds_toArray, List.set_cons_zero, List.set_cons_succ]
                    refine wpAnyH_take (i := 22) (oi := _) (v := ?_) rfl (by kernel_rfl) (by kernel_rfl) (by kernel_rfl) (fun _ _ _ h => h) (Or.inl ⟨by rfl, (by (intro w hSw); (try dsimp only at hSw); go_simp; (try with_reducible rfl))⟩) (by assumption) ?_
                    try simp only [Act.put, List.setIfInBounds_toArray, List.set_cons_zero, List.set_cons_succ]
                    refine wpAnyH_take (i := 23) (oi := _) (v := ?_) rfl (by kernel_rfl) (by kernel_rfl) (by kernel_rfl) (fun _ _ _ h => h) (Or.inl ⟨by rfl, (by (intro w hSw); (try dsimp only at hSw); go_simp; (try with_reducible rfl))⟩) (by assumption) ?_
                    try simp only [Act.put, List.setIfInBounds_toArray, List.set_cons_zero, List.set_cons_succ]
                    refine wpAnyH_ready (rs := [24]) (by kernel_rfl) (by simp) ?_
                    refine AllReadyH.cons (o := _) rfl (fun K hK => ?_) AllReadyH.nil
                    go_simp
                    refine DW.mono ?_
                    rintro e w3 ⟨rfl, rfl⟩
                    refine hK.out _ _ (by exact hHeld) (fun hHeld => ?_)
                    clear hK K
                    try simp only [Act.put, List.setIfInBounds_toArray, List.set_cons_zero, List.set_cons_succ]
                    refine wpAnyH_ready (rs := [25]) (by kernel_rfl) (by simp) ?_
                    refine AllReadyH.cons (o := _) rfl (fun K hK => ?_) AllReadyH.nil
                    go_simp
                    refine SC.mono ?_
                    rintro e w4 ⟨u4, rfl, k4, c4⟩
                    obtain ⟨a4, e4, hu4, -⟩ := id k4
                    rw [List.length_map, HLQ.out.1] at hu4
                    subst hu4
                    have c4' : Below wr.heap.size wr w4 := (below_draws wr.heap.size wr 1).trans c4
                    have d4 := And.intro (And.intro ((c4'.cell (p := ⟨b, off + k, none⟩) hbl).trans ckO) ((c4'.cell (p := ⟨b, off + s, none⟩) hbl).trans csO)) (And.intro ((c4'.cell (p := ⟨bk, ok + k, none⟩) hbk4).trans ckk) ((c4'.cell (p := ⟨bs, os + k, none⟩) hbs4).trans csk))
                    refine hK.out _ _ (by exact d4) (fun hHeld => ?_)
                    clear hK K
                    try simp only [Act.put, List.setIfInBounds_toArray, List.set_cons_zero, List.set_cons_succ]
                    refine wpAnyH_ready (rs := [26]) (by kernel_rfl) (by simp) ?_
                    refine AllReadyH.cons (o := _) rfl (fun K hK => ?_) AllReadyH.nil
                    go_simp
                    refine (l2LessW_any (D.getD s []) ((D.getD k []).map (fun x => wrap64 (x * q))) (.slice (some ⟨bs, os, none⟩) n cs) _ w4.heap.size w4 ((HISS.out.read.keep c4' (Nat.le_refl _)).upto c4'.size) k4.read (Nat.le_refl _) (by rw [HLQ.out.2]; omega) (by rw [List.length_map, HLQ.out.1, HLQ.out.2]; exact Nat.le_refl _)).mono ?_
                    rintro e w5 ⟨u5, rfl, k5, c5⟩
                    rw [subW_mul] at k5
                    obtain ⟨a5, e5, hu5, -⟩ := id k5
                    rw [subW_len _ (by rw [HLQ.out.1, HLQ.out.2]), HLQ.out.2] at hu5
                    subst hu5
                    have d5 := And.intro (And.intro ((c5.cell (p := ⟨b, off + k, none⟩) (Nat.lt_of_lt_of_le hbl c4'.size)).trans d4.1.1) ((c5.cell (p := ⟨b, off + s, none⟩) (Nat.lt_of_lt_of_le hbl c4'.size)).trans d4.1.2)) (And.intro ((c5.cell (p := ⟨bk, ok + k, none⟩) (Nat.lt_of_lt_of_le hbk4 c4'.size)).trans d4.2.1) ((c5.cell (p := ⟨bs, os + k, none⟩) (Nat.lt_of_lt_of_le hbs4 c4'.size)).trans d4.2.2))
                    refine hK.out _ _ (by exact d5) (fun hHeld => ?_)
                    clear hK K
                    try simp only [Act.put, List.setIfInBounds_toArray, List.set_cons_zero, List.set_cons_succ]
                    refine wpAnyH_take (i := 27) (oi := _) (v := ?_) rfl (by kernel_rfl) (by kernel_rfl) (by kernel_rfl) (fun _ _ _ h => h) (Or.inl ⟨by rfl, (by (intro w hSw); (try dsimp only at hSw); go_simp; (try with_reducible rfl))⟩) (by assumption) ?_
                    try simp only [Act.put, List.setIfInBounds_toArray, List.set_cons_zero, List.set_cons_succ]
                    refine wpAnyH_done (by kernel_rfl) ?_ _
                    have C5 := below_then c4' c4'.size c5
                    have R5 := HRW4.out.keep C5
                    have fzs := R5.outer.frozen (off + s)
                    have S1 := R5.set hsn (k5.mono (Nat.le_trans hbe4.out.size c4'.size) (Nat.le_refl _))
                    have R7 := Lib.hid (show MO _ _ _ _ _ (redS k (s + 1) C2) from ⟨_, S1.congr fun i hi => by
                      rw [HRE.out]
                      unfold subR
                      rw [getD_setR (by rw [HRS.out.sq.len]; exact hsn)]⟩)
                    have B7 := Lib.hid ((Below.trans hbe4.out (C5.mono hbe4.out.size)).setCell (show w.heap.size ≤ b from hlo) (.slice a5 n e5) (p := ⟨b, off + s, none⟩))
                    clear S1 R5 k4 k5 c4 c4' c5 C5 SC DW HRW4 HISK HISS x0 x1 x2 x3 d4 HRS HRE ckO csO ckk csk hmr4 hbe4 R6 B5
                    unfold lastQ
                    go_simp
                    go_wp2
                    go_roundw
                    case rel => exact ⟨s + 1, by omega, by go_num, R7, B7⟩
                    case measure => simp [intOf]; omega
                  · obtain rfl : s = k := by omega
                    rw [← HEQ2.out] at hmr4
                    clear R6 B5
                    go_wp2
                    go_roundw
                    case rel => exact ⟨s + 1, by omega, by go_num, hmr4, hbe4⟩
                    case measure => simp [intOf]; omega
        · obtain rfl : k = n := by omega
          have HLE := Lib.hid ((HH.out k (Nat.le_refl _)).sq.len)
          have hbl : b < wr.heap.size := by obtain ⟨V, hrw⟩ := hmr.out; exact hrw.outer.lt
          go_wp2
          go_ret
          exact ⟨_, rfl, hmr.out.read HLE.out hnc hcm hbl, hbe.out⟩
end Go.Proofs.Ytehhoplenloocaa
