/- ClassLeaders: the model's walk. -/
import Derived.Test.YtgecnidndjbdaaaLds
namespace Go.Proofs.Ytgecnidndjbdaaa
open Go.RowKit
set_option linter.unusedVariables false
set_option linter.unusedSimpArgs false

set_option maxRecDepth 100000 in
set_option maxHeartbeats 8000000 in
theorem specClassLeaders_any (M : List (List Int)) (v : Value) (hb : Nat) (w0 : World) (h : ISSr w0 hb v M) (hhb : hb ≤ w0.heap.size) :
    Calls Try.prog 20 #[v] w0 fun e w' => ∃ u, e = .returned u ∧ ISS w' w0.heap.size w'.heap.size u (clV M) ∧ Below w0.heap.size w0 w' := by
  have HO := specHermiteOf_any M v hb w0 h hhb
  have IX := fun W (B : Below w0.heap.size w0 W) => specIdx_any M v hb W (h.keep B hhb)
  cases h2 : (hofV M).2
  · have HV := Lib.hid (show clV M = [] by unfold clV clB; rw [h2]; rfl)
    rw [h2] at HO
    clear h
    go_enter Try.func20, Try.ntmps20
    go_wp2_with fail
    with_reducible refine HO.mono ?_
    rintro e w1 ⟨u, rfl, ku, c1⟩
    obtain ⟨au, cu, rfl, -⟩ := id ku
    have C1 := Lib.hid c1
    clear ku c1 HO IX
    go_wp2
    go_ret
    rw [HV.out]
    exact ⟨_, rfl, ISS.zero _ _ _ _ _ (Nat.zero_le _), C1.out.alloc C1.out.size _⟩
  obtain ⟨hm, hd, he⟩ := hof_true h2
  obtain ⟨hX, hlen⟩ := her_len hm hd
  have hl := matB_len hm
  have hib := idxV_bd M
  rw [h2, he] at HO
  by_cases h5 : idxV M ≤ 500
  case neg =>
    have HV := Lib.hid (show clV M = [] by unfold clV clB; rw [h2, decide_eq_false h5]; rfl)
    have hg : 500 < idxV M := by omega
    clear h hX hm hd he h2 hlen
    generalize idxV M = x at *
    go_enter Try.func20, Try.ntmps20
    go_wp2_with fail
    with_reducible refine HO.mono ?_
    rintro e w1 ⟨u, rfl, ku, c1⟩
    have I1 := IX w1 c1
    obtain ⟨au, cu, hu, -⟩ := id ku
    subst hu
    clear ku HO
    go_wp2_with fail
    with_reducible refine I1.mono ?_
    rintro e w2 ⟨rfl, c2⟩
    have B2 := Lib.hid (below_then c1 c1.size c2)
    clear c1 c2 I1 IX
    go_wp2
    go_ret
    rw [HV.out]
    exact ⟨_, rfl, ISS.zero _ _ _ _ _ (Nat.zero_le _), B2.out.alloc B2.out.size _⟩
  case pos =>
    obtain ⟨n, hn⟩ : ∃ n, n = M.length := ⟨_, rfl⟩
    have HV := Lib.hid (show clV M = ldK (herM M) n by rw [hn]; unfold clV clB; rw [h2, decide_eq_true h5]; rfl)
    have hg : ¬ 500 < idxV M := by omega
    obtain ⟨i0, hi0, hz0, hz1, hz2⟩ := info_parts info_ints
    have HI0 := Lib.hid hi0; clear hi0
    have HZ0 := Lib.hid hz0; clear hz0
    have HZ1 := Lib.hid hz1; clear hz1
    have HZ2 := Lib.hid hz2; clear hz2
    obtain ⟨j0, hj0, hy0, hy1, hy2⟩ := info_parts info_int
    have HJ0 := Lib.hid hj0; clear hj0
    have HY0 := Lib.hid hy0; clear hy0
    have HY1 := Lib.hid hy1; clear hy1
    have HY2 := Lib.hid hy2; clear hy2
    rw [← hn] at hX hlen hl
    have hbig : (ldK (herM M) n).length ≤ 500 := by omega
    have HBIG := Lib.hid (show ∀ k, k ≤ n → (ldK (herM M) k).length ≤ 500 from fun k hk => Nat.le_trans (ldK_le hX (n - k) k (by omega)) hbig)
    have HROW := Lib.hid (show ∀ k, ∀ r ∈ ldK (herM M) k, r.length = k from fun k r hr => ((ldK_mem _ k r).1 hr).1)
    have HSQ := Lib.hid hX.sq
    have HPO := Lib.hid hX.pos
    have HDI := Lib.hid (fun k (hk : k < n) => ldK_dia hX hk)
    have hn3 := hl.2
    have hn1 := hl.1
    clear h hX hm hd he h2 hlen hl hbig hn
    generalize herM M = H at *
    generalize idxV M = ix at *
    go_enter Try.func20, Try.ntmps20
    go_wp2_with fail
    with_reducible refine HO.mono ?_
    rintro e w1 ⟨u, rfl, ku, c1⟩
    have I1 := IX w1 c1
    obtain ⟨bh, oh, ch, V, hu, hbh, hcell⟩ := (ku.cases).resolve_left (fun e => by have := HSQ.out.len; rw [e.1] at this; simp at this; omega) |>.2.2
    rw [HSQ.out.len] at hu hcell
    subst hu
    have HC0 := Lib.hid hcell
    have hz1 := c1.size
    clear ku HO hcell
    go_wp2_with fail
    with_reducible refine I1.mono ?_
    rintro e w ⟨rfl, c2⟩
    have HC := Lib.hid (show ∀ i, i < n → w.cell? ⟨bh, oh + i, none⟩ = some (V i) ∧ ISr w w1.heap.size (V i) (H.getD i []) from fun i hi => ⟨(c2.cell (p := ⟨bh, oh + i, none⟩) hbh).trans (HC0.out i hi).1, (HC0.out i hi).2.keep c2 (Nat.le_refl _)⟩)
    have hbh2 : bh < w.heap.size := Nat.lt_of_lt_of_le hbh c2.size
    have hw1 : w1.heap.size ≤ w.heap.size := c2.size
    have B2 := Lib.hid (below_then c1 c1.size c2)
    clear c1 c2 I1 IX HC0 hbh hz1
    go_wp2
    go_loopw [5, 6, 7, 8, 9] (fun ov i _ _ _ wr => ∃ (k : Nat) (outl : List (List Int)), k ≤ n ∧ i = .int .i64 k ∧ Hid (outl = ldK H k) ∧ Hid (OwnL wr w.heap.size ov outl) ∧ Hid (Below w.heap.size w wr)) (fun _ i _ _ _ _ => n - (intOf i).toNat)
    case atStart => exact ⟨0, [[]], by omega, rfl, Lib.hid rfl, (by have := OwnL.lit1 (w.alloc (.cells #[] 3)) w.heap.size (by simp) (some ⟨w.heap.size, 0, none⟩); rw [World.size_alloc] at this; exact Lib.hid this), Lib.hid ((below1 w _).alloc (by simp) _)⟩
    case round =>
      obtain ⟨k, outl, hk, rfl, hout, hown, hbe⟩ := hrel
      by_cases hlt : k < n
      · have hdec : decide ((k : Int) < n) = true := by simp; omega
        generalize wr = w3 at *
        have hwz := hbe.out.size
        have HST := Lib.hid (show ldK H (k + 1) = stepL (ldK H k) 0 (atM H k k - 1) from rfl)
        rw [← hout.out] at HST
        have hbg := HBIG.out (k + 1) hlt
        rw [HST.out] at hbg
        have HRW := Lib.hid (HROW.out k)
        rw [← hout.out] at HRW
        obtain ⟨len, hlen⟩ : ∃ len, len = outl.length := ⟨_, rfl⟩
        obtain ⟨ao, co, hov, -, -, hco⟩ := hown.out.is.read
        rw [← hlen] at hov
        have HCO := Lib.hid hco
        have HLEN := Lib.hid hlen
        clear hlen hco hown
        subst hov
        obtain ⟨cnt, hcnt⟩ : ∃ c, c = (atM H k k - 1 + 1 - 0).toNat := ⟨_, rfl⟩
        rw [stepL_len, ← hcnt, ← HLEN.out] at hbg
        have hpos := HPO.out k hlt
        have hdia := HDI.out k hlt
        have hb5 := HBIG.out n (Nat.le_refl _)
        have hdx : atM H k k = (cnt : Int) := by omega
        have hlen1 : len ≤ 500 := by have := HBIG.out k hk; rw [← hout.out, ← HLEN.out] at this; exact this
        have hcn : cnt ≤ 500 := by omega
        -- the row of H
        obtain ⟨br, orr, cr, hV, hbr, hcr⟩ := (((HC.out k hlt).2).cases).resolve_left (fun e => by have := HSQ.out.row k hlt; rw [e.1] at this; simp at this; omega) |>.2.2
        rw [HSQ.out.row k hlt] at hV hcr
        have hq1 := (HC.out k hlt).1
        rw [hV] at hq1
        have hq2 := hcr k hlt
        rw [show (H.getD k []).getD k 0 = atM H k k from rfl, hdx] at hq2
        have HQ1 := Lib.hid hq1
        have HQ2 := Lib.hid hq2
        have HCNT := Lib.hid hcnt
        have hbr2 : br < w.heap.size := Nat.lt_of_lt_of_le hbr hw1
        clear hV hcr hq1 hq2 hcnt hdx hdia hpos hb5
        have k0 : (0 : Int) ≤ (k : Int) := by omega
        have k1 : (k : Int) < (n : Int) := by omega
        go_wp2
        go_loopw [7, 8, 9] (fun nv i _ wr => ∃ (i' : Nat) (acc : List (List Int)), i' ≤ len ∧ i = .int .i64 i' ∧ Hid (acc = stepL (outl.take i') 0 (atM H k k - 1)) ∧ Hid (OwnL wr w3.heap.size nv acc) ∧ Hid (Below w3.heap.size w3 wr)) (fun _ i _ _ => len - (intOf i).toNat)
        case atStart => exact ⟨0, [], by omega, rfl, Lib.hid (by simp [stepL]), Lib.hid (OwnL.lit0 w3 _ (Nat.le_refl _)), Lib.hid (below1 w3 _)⟩
        case round =>
          obtain ⟨i, acc, hi', rfl, hacc, hnx, hb3⟩ := hrel
          by_cases hit : i < len
          · have hdec2 : decide ((i : Int) < len) = true := by simp; omega
            generalize wr = w4 at *
            have hz2 := hb3.out.size
            have hil : i < outl.length := by rw [← HLEN.out]; exact hit
            obtain ⟨bo, oo, V0, rfl, hbo, hcc⟩ := HCO.out (by intro e; rw [e] at hil; exact absurd hil (Nat.not_lt_zero _))
            have HQ3 := Lib.hid (hcc i hil).1
            have HRR := Lib.hid (hcc i hil).2
            have hrl : (outl.getD i []).length = k := HRW.out _ (by rw [List.getD_eq_getElem?_getD, List.getElem?_eq_getElem hil]; exact List.getElem_mem hil)
            have HSN := Lib.hid (stepL_snoc outl 0 (atM H k k - 1) i hil)
            rw [← hacc.out, ← HCNT.out] at HSN
            have HAL := Lib.hid (show acc.length = i * cnt by rw [hacc.out, stepL_len, ← HCNT.out, List.length_take, Nat.min_eq_left (by omega)])
            have hmul : i * cnt + cnt ≤ len * cnt := by rw [← Nat.succ_mul]; exact Nat.mul_le_mul_right _ hit
            have HRLN := Lib.hid hrl
            clear hcc hrl
            generalize outl.getD i [] = r at *
            generalize V0 i = xi at *
            go_wp2
            go_loopw [7, 9] (fun nv x wr => ∃ (j : Nat) (acc2 : List (List Int)), j ≤ cnt ∧ x = .int .i64 j ∧ Hid (acc2 = acc ++ longer r 0 j) ∧ Hid (OwnL wr w3.heap.size nv acc2) ∧ Hid (Below w3.heap.size w3 wr)) (fun _ x _ => cnt - (intOf x).toNat)
            case atStart => exact ⟨0, acc, by omega, rfl, Lib.hid (by simp [longer]), hnx, hb3⟩
            case round =>
              obtain ⟨j, acc2, hj, rfl, hacc2, hnx2, hb4⟩ := hrel
              have p3 := (hb4.out.cell (p := ⟨bo, oo + i, none⟩) hbo).trans HQ3.out
              have BW := hbe.out.trans (hb4.out.mono hwz)
              have p1 := (BW.cell (p := ⟨bh, oh + k, none⟩) hbh2).trans HQ1.out
              have p2 := (BW.cell (p := ⟨br, orr + k, none⟩) hbr2).trans HQ2.out
              by_cases hjt : j < cnt
              · have hdec3 : decide ((j : Int) < (cnt : Int)) = true := by simp; omega
                have hal2 : acc2.length < 1000000 := by
                  have h1 := HAL.out
                  have h2 : acc2.length = acc.length + j := by rw [hacc2.out, List.length_append]; simp [longer]
                  omega
                have hls := longer_snoc r 0 j
                rw [Int.zero_add] at hls
                have HSJ := Lib.hid hls
                have hsrc := HRR.out.keep hb4.out (Nat.le_refl _)
                have hz4 := hb4.out.size
                have hrl5 : r.length ≤ 100 := by rw [HRLN.out]; omega
                have hsrc2 := Lib.hid (hsrc.keep (below1 wr (.cells #[] 3)) hz4)
                have CA := below1 wr (.cells #[] 3)
                have p4 := (CA.cell (p := ⟨bo, oo + i, none⟩) (Nat.lt_of_lt_of_le hbo hz4)).trans p3
                clear hsrc hls BW
                go_wp2_with (at_builtin; refine wpList_append_I rfl _ _ rfl rfl rfl (OwnI.lit0 wr wr.heap.size (Nat.le_refl _)) hsrc2.out (by simp; omega) (by simp) ?_)
                intro a4 cp4 w5 ku hg4
                have KU := Lib.hid ku
                have C4 := Lib.hid (CA.grown hg4 (by simp) (fun q hq => by simp [Value.ownBlock] at hq; omega))
                clear ku CA hg4
                go_wp2_with (at_builtin; refine wpList_append_own _ rfl _ _ 23 rfl wr.heap.size 3 j0 (.int .i64 0) 1 8 Try.underlying23 HJ0.out HY0.out HY1.out HY2.out rfl (by decide) _ _ _ rfl (KU.out.alloc _) ⟨w5.heap.size, 0, none⟩ 1 1 [.int .i64 j] rfl rfl ?c1 ?c2 ?c3 ?c4 ?c5 ?_)
                case c1 => exact cell_one_new _ _ _
                case c2 => first | rfl | (intro u hu; simp at hu; subst hu; rfl)
                case c3 => unfold maxLen; omega
                case c4 => omega
                case c5 => have := C4.out.size; first | omega | (simp; omega)
                intro v5 w6 hown5 hgrow5 _
                have HO5 := Lib.hid (OwnI.push hown5)
                have B5 := OwnI.below C4.out C4.out.size _ hgrow5 KU.out (Nat.le_refl _)
                obtain ⟨a5, cp5, hv5⟩ := HO5.out.form
                obtain ⟨n5, hn5⟩ : ∃ n, n = (r ++ [(j : Int)]).length := ⟨_, rfl⟩
                rw [← hn5] at hv5
                subst hv5
                obtain ⟨V6, p6, hpt⟩ := hnx2.out.part B5
                have HPT := Lib.hid hpt
                have hz5 := B5.size
                have HB5 := Lib.hid (below_then hb4.out hz4 B5)
                clear hpt hown5 hgrow5 hn5 B5
                go_wp2_with (at_builtin; refine wpList_append_own _ rfl _ _ 22 rfl w3.heap.size 23 i0 (.slice none 0 0) 1 24 Try.underlying22 HI0.out HZ0.out HZ1.out HZ2.out rfl (by decide) _ _ _ rfl (HPT.out.alloc _) ⟨w6.heap.size, 0, none⟩ 1 1 [.slice a5 n5 cp5] rfl rfl ?c1 ?c2 ?c3 ?c4 ?c5 ?_)
                case c1 => exact cell_one_new _ _ _
                case c2 => first | rfl | (intro u hu; simp at hu; subst hu; rfl)
                case c3 => unfold maxLen; omega
                case c4 => omega
                case c5 => first | omega | (simp; omega)
                intro v6 w7 hown6 hgrow6 _
                have HO6 := Lib.hid (HPT.out.push HO5.out.is (Nat.le_refl _) hz5 (Nat.le_refl _) hgrow6 hown6)
                have HB6 := Lib.hid (OwnLp.below HB5.out (by omega) _ hgrow6 HPT.out (Nat.le_refl _))
                have HEQ := Lib.hid (show acc2 ++ [r ++ [(j : Int)]] = acc ++ longer r 0 (j + 1) by rw [hacc2.out, List.append_assoc, HSJ.out])
                clear hown6 hgrow6
                go_wp2
                go_roundw
                case rel => exact ⟨j + 1, _, by omega, by go_num, HEQ, HO6, HB6⟩
                case measure => simp [intOf]; omega
              · obtain rfl : j = cnt := by omega
                have hdec3 : decide ((j : Int) < (j : Int)) = false := by simp
                have HEQ := Lib.hid (hacc2.out.trans HSN.out)
                clear BW
                go_wp2
                go_roundw
                case rel => exact ⟨i + 1, acc2, by omega, by go_num, HEQ, hnx2, hb4⟩
                case measure => simp [intOf]; omega
          · obtain rfl : i = len := by omega
            have HEQ := Lib.hid (show acc = ldK H (k + 1) by rw [hacc.out, HLEN.out, List.take_length, HST.out])
            have HO := Lib.hid (hnx.out.lower hwz)
            have HB := Lib.hid (hbe.out.trans (hb3.out.mono hwz))
            go_wp2
            go_roundw
            case rel => exact ⟨k + 1, acc, by omega, by go_num, HEQ, HO, HB⟩
            case measure => simp [intOf]; omega
      · obtain rfl : k = n := by omega
        have HO := Lib.hid hown.out
        rw [hout.out] at HO
        obtain ⟨ao, co, hov, -⟩ := HO.out.is
        subst hov
        have BF := Lib.hid (Below.trans B2.out (hbe.out.mono B2.out.size))
        have hz0 := B2.out.size
        go_wp2
        go_ret
        rw [HV.out]
        exact ⟨_, rfl, (HO.out.lower hz0).is, BF.out⟩
end Go.Proofs.Ytgecnidndjbdaaa
