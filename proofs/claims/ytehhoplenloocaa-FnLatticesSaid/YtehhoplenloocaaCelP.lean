/- CellPoints: the model's walk. -/
import Derived.Test.YtehhoplenloocaaLds
import Derived.Test.YtehhoplenloocaaCelS
import Derived.Test.YtehhoplenloocaaSrtM
import Derived.Test.YtehhoplenloocaaHulW
namespace Go.Proofs.Ytehhoplenloocaa
open Go.RowKit
set_option linter.unusedVariables false
set_option linter.unusedSimpArgs false

def cpB (M : List (List Int)) : Bool := inB (idxV M) 1 500
def cpL (M : List (List Int)) : List (List Int) := (ldK (herM M) M.length).map (celP M)
def cpV (M : List (List Int)) : List (List Int) := if cpB M then sG (cpL M) else []
theorem cpB_true {M : List (List Int)} (h : cpB M = true) : matB M = true ∧ ¬ detO M = 0 ∧ 1 ≤ idxV M ∧ idxV M ≤ 500 := by
  unfold cpB at h
  rw [inB_iff] at h
  have hd : ¬ detO M = 0 := fun e => by unfold idxV at h; rw [e] at h; simp at h
  refine ⟨?_, hd, h.1, h.2⟩
  cases hm : matB M
  · exact absurd (detO_no hm) hd
  · rfl
/-- what is known of the leaders -/
theorem ldK_bd {n : Nat} {H : List (List Int)} (hX : HX n H) (h5 : (ldK H n).length ≤ 500) {v : List Int} (hv : v ∈ ldK H n) : v.length = n ∧ ∀ j, -1000 ≤ v.getD j 0 ∧ v.getD j 0 ≤ 1000 := by
  obtain ⟨l, b⟩ := (ldK_mem H n v).1 hv
  refine ⟨l, fun j => ?_⟩
  by_cases hj : j < n
  · have := b j hj
    have := ldK_dia hX hj
    omega
  · rw [List.getD_eq_getElem?_getD, List.getElem?_eq_none (by omega)]; simp
theorem cpL_row {M : List (List Int)} (h : cpB M = true) : (∀ r ∈ cpL M, r.length = M.length) ∧ (cpL M).Nodup ∧ (cpL M).length ≤ 500 ∧ ((cpL M).length : Int) = idxV M := by
  obtain ⟨hm, hd, h1, h5⟩ := cpB_true h
  obtain ⟨hX, hl⟩ := her_len hm hd
  have hC := matB_cw hm hd
  have h500 : (ldK (herM M) M.length).length ≤ 500 := by omega
  obtain ⟨-, hE⟩ := her_all hm hd
  refine ⟨fun r hr => ?_, nodup_map_of (ldK_nodup _ _) fun x hx y hy e => cel_inj hC.cm hX hE.inl h500 hx hy e, by unfold cpL; rw [List.length_map]; exact h500, by unfold cpL; rw [List.length_map]; exact hl⟩
  unfold cpL at hr
  obtain ⟨x, hx, rfl⟩ := List.mem_map.1 hr
  obtain ⟨g1, g2⟩ := ldK_bd hX h500 hx
  exact celP_len hC.cm g1 g2
theorem map_takeS {f : List Int → List Int} {L : List (List Int)} {k : Nat} (hk : k < L.length) (z : List Int) : z ∈ (L.take (k + 1)).map f ↔ z = f (L.getD k []) ∨ z ∈ (L.take k).map f := by
  rw [List.take_succ_eq_append_getElem hk, List.map_append, List.mem_append, List.getD_eq_getElem?_getD, List.getElem?_eq_getElem hk]
  simp only [List.map_cons, List.map_nil, List.mem_singleton, Option.getD_some]
  exact Or.comm
theorem set_len {m : Nat} {S A : List (List Int)} (hs : StG S) (hm : ∀ z, z ∈ S ↔ z ∈ A) : S.length ≤ A.length :=
  nodup_le (hs.imp fun h e => by subst e; rw [ltB_self] at h; cases h) fun x hx => (hm x).1 hx
set_option maxRecDepth 100000 in
set_option maxHeartbeats 8000000 in
theorem specCellPoints_any (M : List (List Int)) (v : Value) (hb : Nat) (w0 : World) (h : ISSr w0 hb v M) (hhb : hb ≤ w0.heap.size) :
    Calls Try.prog 34 #[v] w0 fun e w' => ∃ u, e = .returned u ∧ ISSr w' w'.heap.size u (cpV M) ∧ Below w0.heap.size w0 w' := by
  have IX := fun W (B : Below w0.heap.size w0 W) => specIdx_any M v hb W (h.keep B hhb)
  have HIN := fun W => l1In_any (idxV M) 1 500 W
  rw [show inB (idxV M) 1 500 = cpB M from rfl] at HIN
  have B0 := (Below.refl w0.heap.size w0).alloc (Nat.le_refl _) (.cells #[] 30)
  cases h2 : cpB M
  · have HV := Lib.hid (show cpV M = [] by unfold cpV; rw [h2]; rfl)
    rw [h2] at HIN
    have I1 := IX _ B0
    clear h IX
    generalize idxV M = ix at *
    go_enter Try.func34, Try.ntmps34
    go_wp2_with fail
    with_reducible refine I1.mono ?_
    rintro e w1 ⟨rfl, c1⟩
    have C1 := Lib.hid (Below.trans B0 (c1.mono (by simp)))
    clear c1 I1 B0
    go_wp2_with (go_at_call 68; (with_reducible refine (HIN _).mono ?_); rintro e w' ⟨rfl, rfl⟩)
    go_ret
    rw [HV.out]
    exact ⟨_, rfl, ISSr.zero _ _ _ _ (Nat.zero_le _), C1.out⟩
  obtain ⟨hm, hd, hi1, hi5⟩ := cpB_true h2
  obtain ⟨hX, hlen⟩ := her_len hm hd
  have hC := matB_cw hm hd
  have hl := matB_len hm
  have hCR := Lib.hid (cpL_row h2)
  obtain ⟨n, hn⟩ : ∃ n, n = M.length := ⟨_, rfl⟩
  have HV := Lib.hid (show cpV M = sG (cpL M) by unfold cpV; rw [h2]; rfl)
  have HCL := Lib.hid (show cpL M = (ldK (herM M) n).map (celP M) by rw [hn]; rfl)
  rw [h2] at HIN
  have HH := fun W (B : Below w0.heap.size w0 W) => l3Hermite_any M M.length v hb W (h.keep B hhb) (Nat.le_trans hhb B.size) (hi_start hm hd) hl.1 hl.2
  rw [show herS M.length M.length M = herM M from rfl] at HH
  have I1 := IX _ B0
  have HM := Lib.hid (show ∀ W, Below w0.heap.size w0 W → ISSr W hb v M from fun W B => h.keep B hhb)
  obtain ⟨i0, hi0, hz0, hz1, hz2⟩ := info_parts info_ints
  have HI0 := Lib.hid hi0; clear hi0
  have HZ0 := Lib.hid hz0; clear hz0
  have HZ1 := Lib.hid hz1; clear hz1
  have HZ2 := Lib.hid hz2; clear hz2
  obtain ⟨j0, hj0, hy0, hy1, hy2⟩ := info_parts info_int
  have HJ0 := Lib.hid hj0; clear hj0
  have HY0 := Lib.hid hy0; clear hy0
  have HY1 := Lib.hid hy1; clear hy1
  have HY2 := Lib.hid hy2; clear hy2
  rw [← hn] at hX hlen hl hC hCR
  have hbig : (ldK (herM M) n).length ≤ 500 := by omega
  have HBD := Lib.hid (show ∀ v ∈ ldK (herM M) n, v.length = n ∧ ∀ j, -1000 ≤ v.getD j 0 ∧ v.getD j 0 ≤ 1000 from fun v hv => ldK_bd hX hbig hv)
  have HBIG := Lib.hid (show ∀ k, k ≤ n → (ldK (herM M) k).length ≤ 500 from fun k hk => Nat.le_trans (ldK_le hX (n - k) k (by omega)) hbig)
  have HROW := Lib.hid (show ∀ k, ∀ r ∈ ldK (herM M) k, r.length = k from fun k r hr => ((ldK_mem _ k r).1 hr).1)
  have HSQ := Lib.hid hX.sq
  have HPO := Lib.hid hX.pos
  have HDI := Lib.hid (fun k (hk : k < n) => ldK_dia hX hk)
  have HCW := Lib.hid hC
  have hn3 := hl.2
  have hn1 := hl.1
  obtain ⟨am, cm', hvm, -⟩ := id h
  rw [← hn] at hvm
  subst hvm
  clear h hX hm hd h2 hlen hl hbig hC IX hi1 hi5
  generalize herM M = H at *
  generalize idxV M = ix at *
  clear hn
  go_enter Try.func34, Try.ntmps34
  go_wp2_with fail
  with_reducible refine I1.mono ?_
  rintro e w1 ⟨rfl, c1⟩
  have C1 := below_then B0 B0.size c1
  have H1 := HH w1 C1
  have OQ1 := (OwnQ.lit0 w0 w0.heap.size (Nat.le_refl _)).kept c1
  clear c1 I1 B0 HH
  go_wp2_with (go_at_call 68; (with_reducible refine (HIN _).mono ?_); rintro e w' ⟨rfl, rfl⟩)
  with_reducible refine H1.mono ?_
  rintro e w ⟨u, rfl, ku, c2⟩
  obtain ⟨bh, oh, ch, V, hu, hbh2, hcell⟩ := (ku.cases).resolve_left (fun e => by have := HSQ.out.len; rw [e.1] at this; simp at this; omega) |>.2.2
  rw [HSQ.out.len] at hu hcell
  subst hu
  have HC := Lib.hid hcell
  have B2 := Lib.hid (below_then C1 C1.size c2)
  have OQ2 := Lib.hid (OQ1.kept c2)
  have hw1 : w.heap.size ≤ w.heap.size := Nat.le_refl _
  have hz01 : w0.heap.size < w.heap.size := by have h1 := C1.size; have h2 := c2.size; have h3 := (OQ1.1).lt w0.heap.size rfl; omega
  clear H1 HIN ku hcell C1 c2 OQ1
  go_wp2
  go_loopw [5, 6, 7, 8, 9] (fun ov i _ _ _ wr => ∃ (k : Nat) (outl : List (List Int)), k ≤ n ∧ i = .int .i64 k ∧ Hid (outl = ldK H k) ∧ Hid (OwnL wr w.heap.size ov outl) ∧ Hid (Below w.heap.size w wr)) (fun _ i _ _ _ _ => n - (intOf i).toNat)
  case atStart => exact ⟨0, [[]], by omega, rfl, Lib.hid rfl, (by have := OwnL.lit1 (w.alloc (.cells #[] 3)) w.heap.size (by simp) (some ⟨w.heap.size, 0, none⟩); rw [World.size_alloc] at this; exact Lib.hid this), Lib.hid ((below1 w _).alloc (by simp) _)⟩
  case round =>
    obtain ⟨k, outl, hk, rfl, hout, hown, hbe⟩ := hrel
    by_cases hlt : k < n
    · have hdec : decide ((k : Int) < n) = true := by simp; omega
      generalize wr = w3 at *
      have hwz := hbe.out.size
      have HST := Lib.hid (show ldK H (k + 1) = stepL (ldK H k) 0 (atM H k k - 1) from rfl)
      rw [← hout.out] at HST
      have hbg := HBIG.out (k + 1) hlt
      rw [HST.out] at hbg
      have HRW := Lib.hid (HROW.out k)
      rw [← hout.out] at HRW
      obtain ⟨len, hlen⟩ : ∃ len, len = outl.length := ⟨_, rfl⟩
      obtain ⟨ao, co, hov, -, -, hco⟩ := hown.out.is.read
      rw [← hlen] at hov
      have HCO := Lib.hid hco
      have HLEN := Lib.hid hlen
      clear hlen hco hown
      subst hov
      obtain ⟨cnt, hcnt⟩ : ∃ c, c = (atM H k k - 1 + 1 - 0).toNat := ⟨_, rfl⟩
      rw [stepL_len, ← hcnt, ← HLEN.out] at hbg
      have hpos := HPO.out k hlt
      have hdia := HDI.out k hlt
      have hb5 := HBIG.out n (Nat.le_refl _)
      have hdx : atM H k k = (cnt : Int) := by omega
      have hlen1 : len ≤ 500 := by have := HBIG.out k hk; rw [← hout.out, ← HLEN.out] at this; exact this
      have hcn : cnt ≤ 500 := by omega
      -- the row of H
      obtain ⟨br, orr, cr, hV, hbr, hcr⟩ := (((HC.out k hlt).2).cases).resolve_left (fun e => by have := HSQ.out.row k hlt; rw [e.1] at this; simp at this; omega) |>.2.2
      rw [HSQ.out.row k hlt] at hV hcr
      have hq1 := (HC.out k hlt).1
      rw [hV] at hq1
      have hq2 := hcr k hlt
      rw [show (H.getD k []).getD k 0 = atM H k k from rfl, hdx] at hq2
      have HQ1 := Lib.hid hq1
      have HQ2 := Lib.hid hq2
      have HCNT := Lib.hid hcnt
      have hbr2 : br < w.heap.size := Nat.lt_of_lt_of_le hbr hw1
      clear hV hcr hq1 hq2 hcnt hdx hdia hpos hb5
      have k0 : (0 : Int) ≤ (k : Int) := by omega
      have k1 : (k : Int) < (n : Int) := by omega
      go_wp2
      go_loopw [7, 8, 9] (fun nv i _ wr => ∃ (i' : Nat) (acc : List (List Int)), i' ≤ len ∧ i = .int .i64 i' ∧ Hid (acc = stepL (outl.take i') 0 (atM H k k - 1)) ∧ Hid (OwnL wr w3.heap.size nv acc) ∧ Hid (Below w3.heap.size w3 wr)) (fun _ i _ _ => len - (intOf i).toNat)
      case atStart => exact ⟨0, [], by omega, rfl, Lib.hid (by simp [stepL]), Lib.hid (OwnL.lit0 w3 _ (Nat.le_refl _)), Lib.hid (below1 w3 _)⟩
      case round =>
        obtain ⟨i, acc, hi', rfl, hacc, hnx, hb3⟩ := hrel
        by_cases hit : i < len
        · have hdec2 : decide ((i : Int) < len) = true := by simp; omega
          generalize wr = w4 at *
          have hz2 := hb3.out.size
          have hil : i < outl.length := by rw [← HLEN.out]; exact hit
          obtain ⟨bo, oo, V0, rfl, hbo, hcc⟩ := HCO.out (by intro e; rw [e] at hil; exact absurd hil (Nat.not_lt_zero _))
          have HQ3 := Lib.hid (hcc i hil).1
          have HRR := Lib.hid (hcc i hil).2
          have hrl : (outl.getD i []).length = k := HRW.out _ (by rw [List.getD_eq_getElem?_getD, List.getElem?_eq_getElem hil]; exact List.getElem_mem hil)
          have HSN := Lib.hid (stepL_snoc outl 0 (atM H k k - 1) i hil)
          rw [← hacc.out, ← HCNT.out] at HSN
          have HAL := Lib.hid (show acc.length = i * cnt by rw [hacc.out, stepL_len, ← HCNT.out, List.length_take, Nat.min_eq_left (by omega)])
          have hmul : i * cnt + cnt ≤ len * cnt := by rw [← Nat.succ_mul]; exact Nat.mul_le_mul_right _ hit
          have HRLN := Lib.hid hrl
          clear hcc hrl
          generalize outl.getD i [] = r at *
          generalize V0 i = xi at *
          go_wp2
          go_loopw [7, 9] (fun nv x wr => ∃ (j : Nat) (acc2 : List (List Int)), j ≤ cnt ∧ x = .int .i64 j ∧ Hid (acc2 = acc ++ longer r 0 j) ∧ Hid (OwnL wr w3.heap.size nv acc2) ∧ Hid (Below w3.heap.size w3 wr)) (fun _ x _ => cnt - (intOf x).toNat)
          case atStart => exact ⟨0, acc, by omega, rfl, Lib.hid (by simp [longer]), hnx, hb3⟩
          case round =>
            obtain ⟨j, acc2, hj, rfl, hacc2, hnx2, hb4⟩ := hrel
            have p3 := (hb4.out.cell (p := ⟨bo, oo + i, none⟩) hbo).trans HQ3.out
            have BW := hbe.out.trans (hb4.out.mono hwz)
            have p1 := (BW.cell (p := ⟨bh, oh + k, none⟩) hbh2).trans HQ1.out
            have p2 := (BW.cell (p := ⟨br, orr + k, none⟩) hbr2).trans HQ2.out
            by_cases hjt : j < cnt
            · have hdec3 : decide ((j : Int) < (cnt : Int)) = true := by simp; omega
              have hal2 : acc2.length < 1000000 := by
                have h1 := HAL.out
                have h2 : acc2.length = acc.length + j := by rw [hacc2.out, List.length_append]; simp [longer]
                omega
              have hls := longer_snoc r 0 j
              rw [Int.zero_add] at hls
              have HSJ := Lib.hid hls
              have hsrc := HRR.out.keep hb4.out (Nat.le_refl _)
              have hz4 := hb4.out.size
              have hrl5 : r.length ≤ 100 := by rw [HRLN.out]; omega
              have hsrc2 := Lib.hid (hsrc.keep (below1 wr (.cells #[] 3)) hz4)
              have CA := below1 wr (.cells #[] 3)
              have p4 := (CA.cell (p := ⟨bo, oo + i, none⟩) (Nat.lt_of_lt_of_le hbo hz4)).trans p3
              clear hsrc hls BW
              go_wp2_with (at_builtin; refine wpList_append_I rfl _ _ rfl rfl rfl (OwnI.lit0 wr wr.heap.size (Nat.le_refl _)) hsrc2.out (by simp; omega) (by simp) ?_)
              intro a4 cp4 w5 ku hg4
              have KU := Lib.hid ku
              have C4 := Lib.hid (CA.grown hg4 (by simp) (fun q hq => by simp [Value.ownBlock] at hq; omega))
              clear ku CA hg4
              go_wp2_with (at_builtin; refine wpList_append_own _ rfl _ _ 30 rfl wr.heap.size 3 j0 (.int .i64 0) 1 8 Try.underlying30 HJ0.out HY0.out HY1.out HY2.out rfl (by decide) _ _ _ rfl (KU.out.alloc _) ⟨w5.heap.size, 0, none⟩ 1 1 [.int .i64 j] rfl rfl ?c1 ?c2 ?c3 ?c4 ?c5 ?_)
              case c1 => exact cell_one_new _ _ _
              case c2 => first | rfl | (intro u hu; simp at hu; subst hu; rfl)
              case c3 => unfold maxLen; omega
              case c4 => omega
              case c5 => have := C4.out.size; first | omega | (simp; omega)
              intro v5 w6 hown5 hgrow5 _
              have HO5 := Lib.hid (OwnI.push hown5)
              have B5 := OwnI.below C4.out C4.out.size _ hgrow5 KU.out (Nat.le_refl _)
              obtain ⟨a5, cp5, hv5⟩ := HO5.out.form
              obtain ⟨n5, hn5⟩ : ∃ n, n = (r ++ [(j : Int)]).length := ⟨_, rfl⟩
              rw [← hn5] at hv5
              subst hv5
              obtain ⟨V6, p6, hpt⟩ := hnx2.out.part B5
              have HPT := Lib.hid hpt
              have hz5 := B5.size
              have HB5 := Lib.hid (below_then hb4.out hz4 B5)
              clear hpt hown5 hgrow5 hn5 B5
              go_wp2_with (at_builtin; refine wpList_append_own _ rfl _ _ 24 rfl w3.heap.size 30 i0 (.slice none 0 0) 1 24 Try.underlying24 HI0.out HZ0.out HZ1.out HZ2.out rfl (by decide) _ _ _ rfl (HPT.out.alloc _) ⟨w6.heap.size, 0, none⟩ 1 1 [.slice a5 n5 cp5] rfl rfl ?c1 ?c2 ?c3 ?c4 ?c5 ?_)
              case c1 => exact cell_one_new _ _ _
              case c2 => first | rfl | (intro u hu; simp at hu; subst hu; rfl)
              case c3 => unfold maxLen; omega
              case c4 => omega
              case c5 => first | omega | (simp; omega)
              intro v6 w7 hown6 hgrow6 _
              have HO6 := Lib.hid (HPT.out.push HO5.out.is (Nat.le_refl _) hz5 (Nat.le_refl _) hgrow6 hown6)
              have HB6 := Lib.hid (OwnLp.below HB5.out (by omega) _ hgrow6 HPT.out (Nat.le_refl _))
              have HEQ := Lib.hid (show acc2 ++ [r ++ [(j : Int)]] = acc ++ longer r 0 (j + 1) by rw [hacc2.out, List.append_assoc, HSJ.out])
              clear hown6 hgrow6
              go_wp2
              go_roundw
              case rel => exact ⟨j + 1, _, by omega, by go_num, HEQ, HO6, HB6⟩
              case measure => simp [intOf]; omega
            · obtain rfl : j = cnt := by omega
              have hdec3 : decide ((j : Int) < (j : Int)) = false := by simp
              have HEQ := Lib.hid (hacc2.out.trans HSN.out)
              clear BW
              go_wp2
              go_roundw
              case rel => exact ⟨i + 1, acc2, by omega, by go_num, HEQ, hnx2, hb4⟩
              case measure => simp [intOf]; omega
        · obtain rfl : i = len := by omega
          have HEQ := Lib.hid (show acc = ldK H (k + 1) by rw [hacc.out, HLEN.out, List.take_length, HST.out])
          have HO := Lib.hid (hnx.out.lower hwz)
          have HB := Lib.hid (hbe.out.trans (hb3.out.mono hwz))
          go_wp2
          go_roundw
          case rel => exact ⟨k + 1, acc, by omega, by go_num, HEQ, HO, HB⟩
          case measure => simp [intOf]; omega
    · have hkn : k = n := by omega
      have hdec : decide ((k : Int) < n) = false := by simp; omega
      have hzw := hbe.out.size
      obtain ⟨N, hN⟩ : ∃ N, N = outl.length := ⟨_, rfl⟩
      have HO := Lib.hid hown.out.is
      have HOL := Lib.hid (show outl = ldK H n by rw [hout.out, hkn])
      obtain ⟨ao, co, hov, -, -, hco⟩ := HO.out.read
      rw [← hN] at hov
      subst hov
      have OQ3 := Lib.hid (OQ2.out.kept hbe.out)
      have B3 := Lib.hid (Below.trans B2.out (hbe.out.mono B2.out.size))
      have hN5 : N ≤ 500 := by rw [hN, HOL.out]; exact HBIG.out n (Nat.le_refl _)
      have HNN := Lib.hid hN
      have HCO := Lib.hid hco
      obtain ⟨wB, hwB⟩ : ∃ wB, wB = wr.heap.size := ⟨_, rfl⟩
      rw [← hwB] at HO HCO hzw
      have HWB := Lib.hid hwB
      obtain ⟨wx, hwx⟩ : ∃ wx, wx = wr := ⟨_, rfl⟩
      subst hwx
      clear hkn hown hout hbe hN hwB hco OQ2 B2 HSQ HPO HDI HROW HC
      go_wp2
      go_loopw [3, 10] (fun ov i wr4 => ∃ (q : Nat) (vs : List Value) (S : List (List Int)) (g cap : Nat), q ≤ N ∧ i = .int .i64 q ∧ ov = .slice (some ⟨g, 0, none⟩) S.length cap ∧ Hid (OwnQ wr4 w0.heap.size (.slice (some ⟨g, 0, none⟩) S.length cap) vs S) ∧ Hid (StG S) ∧ Hid (∀ z, z ∈ S ↔ z ∈ (outl.take q).map (celP M)) ∧ Hid (g < w.heap.size ∨ wB ≤ g) ∧ Hid (ISS wr4 w.heap.size wB (.slice ao N co) outl) ∧ Hid (Below w0.heap.size w0 wr4) ∧ Hid (wB ≤ wr4.heap.size)) (fun _ i _ => N - (intOf i).toNat)
      case atStart => exact ⟨0, [], [], _, _, by omega, rfl, rfl, OQ3, Lib.hid List.Pairwise.nil, Lib.hid (fun z => by simp), Lib.hid (.inl hz01), HO, B3, Lib.hid (by rw [HWB.out]; exact Nat.le_refl _)⟩
      case round =>
        obtain ⟨q, vs, S, g, cap, hq, rfl, rfl, hOQ, hST, hME, hG, hIS, hbe4, hwb4⟩ := hrel
        clear OQ3 HO B3
        have hlenS : Hid (∀ s ∈ S, s.length = n) := Lib.hid fun s hs => by
          obtain ⟨x, hx, rfl⟩ := List.mem_map.1 ((hME.out s).1 hs)
          have := HBD.out x (HOL.out ▸ List.mem_of_mem_take hx)
          exact celP_len HCW.out.cm this.1 this.2
        by_cases hit : q < N
        · have hdec2 : decide ((q : Int) < N) = true := by simp; omega
          have hql : q < outl.length := by rw [← HNN.out]; exact hit
          have hSL := set_len (m := n) hST.out hME.out
          rw [List.length_map, List.length_take] at hSL
          have hSL2 : S.length ≤ 500 := by omega
          obtain ⟨a', cap', hv', -, -, hcc⟩ := hIS.out.read
          injection hv' with e1 e2 e3
          obtain ⟨bo, oo, V0, e4, hbo, hcc⟩ := hcc (by intro e; rw [e] at hql; exact absurd hql (Nat.not_lt_zero _))
          rw [← e1] at e4
          subst e4
          have hc1 := (hcc q hql).1
          have hr1 := (hcc q hql).2
          have hmem : outl.getD q [] ∈ ldK H n := by
            rw [List.getD_eq_getElem?_getD, List.getElem?_eq_getElem hql]
            exact HOL.out ▸ List.getElem_mem hql
          obtain ⟨hr2, hr3⟩ := HBD.out _ hmem
          have hw4 := hwb4.out
          have CC := l8Cell_any M (outl.getD q []) n _ (V0 q) wr.heap.size wr ((HM.out wr hbe4.out).upto (Nat.le_trans hhb hbe4.out.size)) (hr1.upto hw4) (Nat.le_refl _) HCW.out hr2 hr3
          have HCELN := Lib.hid (celP_len HCW.out.cm hr2 hr3)
          have HMT := Lib.hid (fun z => map_takeS (f := celP M) hql z)
          obtain ⟨ar, cr, hvr, -⟩ := id hr1
          rw [hr2] at hvr
          rw [hvr] at hc1 CC
          have HIS := Lib.hid hIS.out
          have hlv : ∀ g', (Value.slice (some ⟨g, 0, none⟩) S.length cap).ownBlock = some g' → g' = g := fun g' h => by simp [Value.ownBlock] at h; exact h.symm
          have HLV := Lib.hid hlv
          clear hcc hr1 hmem hr2 hr3 hvr e1 e2 e3 hql hlv hSL hIS
          generalize celP M (outl.getD q []) = pt at *
          go_wp2_with fail
          with_reducible refine CC.mono ?_
          rintro e w5 ⟨u5, rfl, k5, c5⟩
          have OQ5 := hOQ.out.kept c5
          have IS5 := HIS.out.keep c5 hw4
          have PU := l2PutG_any n S pt _ u5 vs w0.heap.size w5.heap.size w5 OQ5 k5.read (Nat.le_refl _) HCELN.out (by omega) (fun i hi => hlenS.out _ (by rw [List.getD_eq_getElem?_getD, List.getElem?_eq_getElem hi]; exact List.getElem_mem hi)) (by omega)
          obtain ⟨a5, e5, hu5, -⟩ := id k5
          subst hu5
          have B5 := Lib.hid (Below.trans hbe4.out (c5.mono hbe4.out.size))
          have Z5 := Lib.hid (Nat.le_trans hw4 c5.size)
          have IS5 := Lib.hid IS5
          clear OQ5 k5 c5 CC
          go_wp2_with fail
          with_reducible refine PU.mono ?_
          rintro e w6 ⟨u6, vs6, S6, rfl, o6, p6, b6, g6, a6⟩
          obtain ⟨s1, s2⟩ := p6.sorted HCELN.out hlenS.out hST.out
          obtain ⟨g7, cap7, hu7⟩ := o6.2.1
          subst hu7
          have HG7 := Lib.hid (show g7 < w.heap.size ∨ wB ≤ g7 from by
            rcases a6 g7 rfl with e | e
            · have := HLV.out _ e
              subst this; exact hG.out
            · exact .inr (Nat.le_trans Z5.out e))
          have IS6 := Lib.hid (IS5.out.of_blocks (w' := w6) fun b hb1 hb2 hb3 => g6.block b hb3 (by
            intro e
            have := HLV.out b e.symm
            subst this
            rcases hG.out with e | e <;> omega))
          have ST6 := Lib.hid s1
          have ME6 := Lib.hid (show ∀ z, z ∈ S6 ↔ z ∈ (outl.take (q + 1)).map (celP M) from fun z => by rw [s2, hME.out, HMT.out])
          have B6 := Lib.hid (Below.trans B5.out b6)
          have Z6 := Lib.hid (Nat.le_trans Z5.out g6.size)
          have O6 := Lib.hid o6
          clear PU o6 p6 b6 g6 a6 s1 s2 hc1
          go_wp2
          go_roundw
          case rel => exact ⟨q + 1, vs6, S6, g7, cap7, by omega, by go_num, rfl, O6, ST6, ME6, HG7, IS6, B6, Z6⟩
          case measure => simp [intOf]; omega
        · have hqn : q = N := by omega
          have hdec2 : decide ((q : Int) < N) = false := by simp; omega
          have HEND := Lib.hid (show S = cpV M by
            rw [HV.out]
            refine sG_eq (fun r hr => hCR.out.1 r hr) hST.out fun z => ?_
            rw [hME.out z, HCL.out, hqn, HNN.out, List.take_length, HOL.out])
          have HO7 := Lib.hid hOQ.out.iss
          clear hqn
          go_wp2
          go_ret
          rw [← HEND.out]
          exact ⟨_, rfl, HO7.out, hbe4.out⟩
end Go.Proofs.Ytehhoplenloocaa
