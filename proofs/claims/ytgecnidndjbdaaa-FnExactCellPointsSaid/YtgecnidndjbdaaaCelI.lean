/- CellPoints: the program's walk. -/
import Derived.Test.YtgecnidndjbdaaaCelP
import Derived.Test.YtgecnidndjbdaaaSrtG
import Derived.Test.YtgecnidndjbdaaaAdj
import Derived.Test.YtgecnidndjbdaaaHerO
import Derived.BigQuiet
namespace Go.Proofs.Ytgecnidndjbdaaa
open Go.RowKit
open Go.Sort (Holds)
set_option linter.unusedVariables false
set_option linter.unusedSimpArgs false

/-- a sum of products, as the loop reckons it -/
def fsum (x : List Int) (a : Nat → Int) : Nat → Int
  | 0 => 0
  | k + 1 => fsum x a k + x.getD k 0 * a k
theorem fac_adj {n i : Nat} {M : List (List Int)} {x : List Int} (hs : Sq n M) (hx : x.length = n) (hi : i < n) (h1 : 1 ≤ n) (h3 : n ≤ 3) : fsum x (fun k => adjE n M k i) n = facG M x i := by
  rcases (show n = 1 ∨ n = 2 ∨ n = 3 by omega) with rfl | rfl | rfl
  · obtain ⟨a, rfl⟩ := hs.one
    obtain ⟨x0, rfl⟩ := lenE1 hx
    obtain rfl : i = 0 := by omega
    simp [fsum, adjE, facG, dN, detF]
  · obtain ⟨a, b, c, d, rfl⟩ := hs.two
    obtain ⟨x0, x1, rfl⟩ := lenE2 hx
    rcases (show i = 0 ∨ i = 1 by omega) with rfl | rfl <;> simp [fsum, adjE, facG, dN, detF, detSum, minorL, minorK, cutAt, sgnN] <;> grind
  · obtain ⟨a, b, c, d, e, f, g, i', j, rfl⟩ := hs.three
    obtain ⟨x0, x1, x2, rfl⟩ := lenE3 hx
    rcases (show i = 0 ∨ i = 1 ∨ i = 2 by omega) with rfl | rfl | rfl <;> simp [fsum, adjE, facG, dN, detF, detSum, minorL, minorK, cutAt, sgnN] <;> grind
theorem fsum_bd {x : List Int} {a : Nat → Int} (hx : ∀ j, -1000 ≤ x.getD j 0 ∧ x.getD j 0 ≤ 1000) {n : Nat} (ha : ∀ k, k < n → -20000000000 ≤ a k ∧ a k ≤ 20000000000) : ∀ k, k ≤ n → -(20000000000000 * (k : Int)) ≤ fsum x a k ∧ fsum x a k ≤ 20000000000000 * k
  | 0, _ => by simp [fsum]
  | k + 1, hk => by
    have h1 := fsum_bd hx ha k (by omega)
    have h2 := mul_bdH (hx k) (ha k (by omega))
    rw [fsum]; omega
theorem celL_snoc (M : List (List Int)) (L : List (List Int)) (k : Nat) (hk : k < L.length) : (L.take k).map (celP M) ++ [celP M (L.getD k [])] = (L.take (k + 1)).map (celP M) := by
  rw [List.take_succ_eq_append_getElem hk, List.map_append, List.getD_eq_getElem?_getD, List.getElem?_eq_getElem hk]; rfl
/-- what is sorted is the sorted list -/
theorem perm_sG {n m : Nat} {L : List (List Int)} (hl : ∀ r ∈ L, r.length = m) (hn : L.Nodup) (hL : L.length = n) {d' d : Array (Fin n)} (hp : List.Perm d'.toList d.toList) (hd : ∀ x, x ∈ d.toList) (hd2 : d.size = n)
    (hs : (rowsD (fun i : Fin n => L.getD i.val []) d').Pairwise (fun a b => ltB b a = false)) : rowsD (fun i : Fin n => L.getD i.val []) d' = sG L := by
  have hmem : ∀ z, z ∈ rowsD (fun i : Fin n => L.getD i.val []) d' ↔ z ∈ L := fun z => by
    unfold rowsD
    rw [List.mem_map]
    constructor
    · rintro ⟨i, -, rfl⟩
      rw [List.getD_eq_getElem?_getD, List.getElem?_eq_getElem (by rw [hL]; exact i.isLt)]; exact List.getElem_mem _
    · intro hz
      obtain ⟨i, hi, rfl⟩ := List.getElem_of_mem hz
      refine ⟨⟨i, by omega⟩, hp.mem_iff.2 (hd _), ?_⟩
      show L.getD i [] = L[i]
      rw [List.getD_eq_getElem?_getD, List.getElem?_eq_getElem hi]; rfl
  have hlen : (rowsD (fun i : Fin n => L.getD i.val []) d').length = L.length := by
    rw [rowsD_len]
    have := hp.length_eq
    simp at this
    omega
  have hnd : (rowsD (fun i : Fin n => L.getD i.val []) d').Nodup := by
    generalize rowsD (fun i : Fin n => L.getD i.val []) d' = R at *
    rw [List.Nodup, List.pairwise_iff_getElem]
    intro i j hi hj hij e
    have h1 : L.length ≤ (R.eraseIdx j).length := nodup_le hn fun z hz => by
      have hz := (hmem z).2 hz
      obtain ⟨k, hk, rfl⟩ := List.getElem_of_mem hz
      rw [List.mem_eraseIdx_iff_getElem]
      by_cases ek : k = j
      · subst ek
        exact ⟨i, hi, by omega, e⟩
      · exact ⟨k, hk, ek, rfl⟩
    rw [List.length_eraseIdx, if_pos hj] at h1
    omega
  refine sG_eq (m := m) hl ?_ hmem
  rw [StG]
  rw [List.pairwise_iff_getElem] at hs ⊢
  intro i j hi hj hij
  have h1 := hs i j hi hj hij
  rw [List.Nodup, List.pairwise_iff_getElem] at hnd
  have h2 := hnd i j hi hj hij
  cases e : ltB (rowsD (fun i : Fin n => L.getD i.val []) d')[i] (rowsD (fun i : Fin n => L.getD i.val []) d')[j]
  · exact absurd (ltB_total (by rw [hl _ ((hmem _).1 (List.getElem_mem _)), hl _ ((hmem _).1 (List.getElem_mem _))]) e h1) h2
  · rfl
theorem perm_nodup {n : Nat} {d' d : Array (Fin n)} (hp : List.Perm d'.toList d.toList) (hd : ∀ x, x ∈ d.toList) (hd2 : d.size = n) : d'.toList.Nodup := by
  have hl : d'.toList.length = n := by have := hp.length_eq; simp at this; simp; omega
  rw [List.Nodup, List.pairwise_iff_getElem]
  intro i j hi hj hij e
  have h1 : (List.finRange n).length ≤ (d'.toList.eraseIdx j).length := nodup_le (List.nodup_finRange n) fun z _ => by
    have hz := hp.mem_iff.2 (hd z)
    obtain ⟨k, hk, rfl⟩ := List.getElem_of_mem hz
    rw [List.mem_eraseIdx_iff_getElem]
    by_cases ek : k = j
    · subst ek; exact ⟨i, hi, by omega, e⟩
    · exact ⟨k, hk, ek, rfl⟩
  rw [List.length_eraseIdx, if_pos hj, List.length_finRange] at h1
  omega
set_option maxRecDepth 100000 in
set_option maxHeartbeats 8000000 in
theorem implCellPoints_any (M : List (List Int)) (v : Value) (hb : Nat) (w0 : World) (h : ISSr w0 hb v M) (hhb : hb ≤ w0.heap.size) :
    Calls Try.prog 27 #[v] w0 fun e w' => ∃ u, e = .returned u ∧ ISS w' w0.heap.size w'.heap.size u (cpV M) ∧ Below w0.heap.size w0 w' := by
  have I1 := implIdx_any M v hb w0 h hhb
  have HIN := fun W => within_any (idxV M) 1 500 W
  rw [show inB (idxV M) 1 500 = cpB M from rfl] at HIN
  cases h2 : cpB M
  · have HV := Lib.hid (show cpV M = [] by unfold cpV; rw [h2]; rfl)
    rw [h2] at HIN
    clear h
    generalize idxV M = ix at *
    go_enter Try.func27, Try.ntmps27
    go_wp2_with fail
    with_reducible refine I1.mono ?_
    rintro e w1 ⟨rfl, c1⟩
    have C1 := Lib.hid c1
    clear c1 I1
    go_wp2_with (go_at_call 57; (with_reducible refine (HIN _).mono ?_); rintro e w' ⟨rfl, rfl⟩)
    go_ret
    rw [HV.out]
    exact ⟨_, rfl, ISS.zero _ _ _ _ _ (Nat.zero_le _), C1.out⟩
  obtain ⟨hm, hd, hi1, hi5⟩ := cpB_true h2
  obtain ⟨hX, hlen⟩ := her_len hm hd
  have hC := matB_cw hm hd
  have hl := matB_len hm
  have hCR := Lib.hid (cpL_row h2)
  obtain ⟨n, hn⟩ : ∃ n, n = M.length := ⟨_, rfl⟩
  have HV := Lib.hid (show cpV M = sG (cpL M) by unfold cpV; rw [h2]; rfl)
  have HCL := Lib.hid (show cpL M = (ldK (herM M) n).map (celP M) by rw [hn]; rfl)
  rw [h2] at HIN
  have HH := fun W (B : Below w0.heap.size w0 W) => hermite_any M M.length v hb W (h.keep B hhb) (Nat.le_trans hhb B.size) (hi_start hm hd) hl.1 hl.2
  rw [show herS M.length M.length M = herM M from rfl] at HH
  have AJ := fun W (B : Below w0.heap.size w0 W) => adjugate_any M M.length v hb W (h.keep B hhb) (Nat.le_trans hhb B.size) (matB_sq hm) hl.1 hl.2
  have DT := fun W (B : Below w0.heap.size w0 W) => det_any M.length hl.2 M v hb W (h.keep B hhb) (Nat.le_trans hhb B.size) (matB_sq hm)
  rw [show detF M.length M = detM M from rfl, hC.detM] at DT
  have LD := fun u W (i : ISSr W W.heap.size u (herM M)) => leaders_any (herM M) M.length u W.heap.size W i (Nat.le_refl _) hX hl.1 hl.2 (by omega)
  obtain ⟨i0, hi0, hz0, hz1, hz2⟩ := info_parts info_ints
  have HI0 := Lib.hid hi0; clear hi0
  have HZ0 := Lib.hid hz0; clear hz0
  have HZ1 := Lib.hid hz1; clear hz1
  have HZ2 := Lib.hid hz2; clear hz2
  rw [← hn] at hX hlen hl hC hCR AJ LD
  have hbig : (ldK (herM M) n).length ≤ 500 := by omega
  have hpos1 : 0 < (ldK (herM M) n).length := by omega
  have HBD := Lib.hid (show ∀ v ∈ ldK (herM M) n, v.length = n ∧ ∀ j, -1000 ≤ v.getD j 0 ∧ v.getD j 0 ≤ 1000 from fun v hv => ldK_bd hX hbig hv)
  have HCW := Lib.hid hC
  have hn3 := hl.2
  have hn1 := hl.1
  have HMR := Lib.hid (show ∀ W, Below w0.heap.size w0 W → ISSr W hb v M from fun W B => h.keep B hhb)
  obtain ⟨bm, om, cm', VM, hvm, hbm, hcm⟩ := (h.cases).resolve_left (fun e => by rw [e.1] at hn; simp at hn; omega) |>.2.2
  rw [← hn] at hvm hcm
  subst hvm
  have HCM := Lib.hid hcm
  have HAD := Lib.hid (show ∀ i j, i < n → j < n → -20000000000 ≤ adjE n M i j ∧ adjE n M i j ≤ 20000000000 from fun i j hi hj => by
    have := minorDet_bd hC.sq hn1 hn3 hj hi
    unfold adjE; split <;> omega)
  have HDB : -6000000000 ≤ dN M ∧ dN M ≤ 6000000000 := by
    have := dN_bdB hC.cm.sq hn1 hn3 (B := 1000) (by omega) (fun i j => by have := hC.cm.bd i j; omega)
    omega
  have hnz := hC.cm.nz
  have HROW := Lib.hid (fun k (hk : k < n) => hC.cm.sq.row k hk)
  have MG := fun W => magnitude_any (dN M) W (by omega) (by omega)
  have HSTEP := Lib.hid (fun x k => show celK M x (k + 1) = subW (celK M x k) (M.getD k []) (flW (sgF (dN M) (facG M x k)) (dN M).natAbs) from rfl)
  have HEND := Lib.hid (show ∀ x, celP M x = celK M x n from fun x => by unfold celP; rw [hn])
  have HFA := Lib.hid (show ∀ x, x.length = n → ∀ i, i < n → fsum x (fun k => adjE n M k i) n = facG M x i from fun x hx i hi => fac_adj hC.cm.sq hx hi hn1 hn3)
  have HFB := Lib.hid (show ∀ x, x.length = n → (∀ j, -1000 ≤ x.getD j 0 ∧ x.getD j 0 ≤ 1000) → ∀ k, k < n → -6000000000 ≤ sgF (dN M) (facG M x k) ∧ sgF (dN M) (facG M x k) ≤ 6000000000 from fun x hx hb k hk => hC.cm.fac hx hb hk)
  have HLN := Lib.hid (show ∀ x, x.length = n → (∀ j, -1000 ≤ x.getD j 0 ∧ x.getD j 0 ≤ 1000) → ∀ k, k ≤ n → (celK M x k).length = n from fun x hx hb k hk => (celK_at hC.cm hx hb k hk).1)
  clear h hX hm hd h2 hlen hl hC hi1 hi5 hcm
  have HLL := Lib.hid hbig
  have HLP := Lib.hid hpos1
  clear hbig hpos1
  generalize hLL : ldK (herM M) n = L at *
  generalize herM M = H at *
  generalize idxV M = ix at *
  generalize dN M = d at *
  obtain ⟨D, hD⟩ : ∃ D : Int, D = d.natAbs := ⟨_, rfl⟩
  rw [← hD] at HSTEP
  have hDz : ¬ D = 0 := by omega
  have hmd : max d (-d) = D := by omega
  rw [hmd] at MG
  clear hLL hmd hD hn
  have HHM := Lib.hid HH
  clear HH
  go_enter Try.func27, Try.ntmps27
  go_wp2_with fail
  with_reducible refine I1.mono ?_
  rintro e w1 ⟨rfl, c1⟩
  have A1 := AJ w1 c1
  have B1 := Lib.hid c1
  clear c1 I1 AJ
  go_wp2_with (go_at_call 57; (with_reducible refine (HIN _).mono ?_); rintro e w' ⟨rfl, rfl⟩)
  with_reducible refine A1.mono ?_
  rintro e w2 ⟨ua, rfl, ka, c2⟩
  have B2 := Lib.hid (below_then B1.out B1.out.size c2)
  have D2 := DT w2 B2.out
  have HKA := Lib.hid ka.is.read
  obtain ⟨aa, ca, hua, -, -, hac⟩ := id ka.is.read
  have hal : (adjM n M).length = n := by simp [adjM]
  rw [hal] at hua hac
  subst hua
  clear ka c2 A1 DT HIN B1
  go_wp2_with fail
  with_reducible refine D2.mono ?_
  rintro e w3 ⟨rfl, c3⟩
  have B3 := Lib.hid (below_then B2.out B2.out.size c3)
  have HAC := Lib.hid (show ∀ i j, i < n → j < n → ∃ ba oa br orr cr, aa = some ⟨ba, oa, none⟩ ∧ ba < w3.heap.size ∧ br < w3.heap.size ∧ w3.cell? ⟨ba, oa + i, none⟩ = some (.slice (some ⟨br, orr, none⟩) n cr) ∧ w3.cell? ⟨br, orr + j, none⟩ = some (.int .i64 (adjE n M i j)) from fun i j hi hj => by
    obtain ⟨ba, oa, VA, e, hba, hcc⟩ := hac (by intro e; rw [e] at hal; simp at hal; omega)
    have hr := (hcc i hi).2
    have he : (adjM n M).getD i [] = adjRow n M i := by unfold adjM; rw [List.getD_eq_getElem?_getD, List.getElem?_map, List.getElem?_range hi]; rfl
    rw [he] at hr
    rcases hr.cases with ⟨e2, -⟩ | ⟨-, -, br, orr, cr, hv, hbr, hrc⟩
    · have := adjRow_len n M i; rw [e2] at this; simp at this; omega
    · rw [adjRow_len] at hv hrc
      refine ⟨ba, oa, br, orr, cr, e, Nat.lt_of_lt_of_le hba c3.size, Nat.lt_of_lt_of_le hbr c3.size, ?_, ?_⟩
      · rw [c3.cell (p := ⟨ba, oa + i, none⟩) hba, (hcc i hi).1, hv]
      · rw [c3.cell (p := ⟨br, orr + j, none⟩) hbr, hrc j hj, adjRow_at hj])
  have H3 := HHM.out w3 B3.out
  clear HKA hal hac c3 D2 HHM B2
  go_wp2_with fail
  with_reducible refine H3.mono ?_
  rintro e w4 ⟨uh, rfl, kh, c4⟩
  have B4 := Lib.hid (below_then B3.out B3.out.size c4)
  have L4 := LD _ w4 kh.read
  obtain ⟨ah, eh, huh, -⟩ := id kh
  subst huh
  have hz4 := c4.size
  have C34 := Lib.hid c4
  clear kh c4 H3 LD
  go_wp2_with fail
  with_reducible refine L4.mono ?_
  rintro e w ⟨ul, rfl, kl, c5⟩
  have BW := Lib.hid (below_then B4.out B4.out.size c5)
  have B3W := Lib.hid (below_then C34.out C34.out.size c5)
  obtain ⟨N, hN⟩ : ∃ N, N = L.length := ⟨_, rfl⟩
  obtain ⟨al, cl, hul, -, -, hlc⟩ := id kl.is.read
  rw [← hN] at hul
  subst hul
  have HLC := Lib.hid hlc
  have HN := Lib.hid hN
  have hN5 : N ≤ 500 := by rw [hN]; exact HLL.out
  have hNp : 0 < N := by rw [hN]; exact HLP.out
  have hz3w : w3.heap.size ≤ w.heap.size := B3W.out.size
  clear kl c5 L4 hlc hN C34 hz4 B4
  go_wp2
  go_loopw [5, 7, 8, 9, 10, 11, 12, 25] (fun ov _ _ _ _ _ _ i wr => ∃ (q : Nat) (acc : List (List Int)), q ≤ N ∧ i = .int .i64 q ∧ Hid (acc = (L.take q).map (celP M)) ∧ Hid (OwnL wr w.heap.size ov acc) ∧ Hid (Below w.heap.size w wr)) (fun _ _ _ _ _ _ _ i _ => N - (intOf i).toNat)
  case atStart => exact ⟨0, [], by omega, rfl, Lib.hid (by simp), Lib.hid (OwnL.nil w _ (Nat.le_refl _)), Lib.hid (Below.refl _ _)⟩
  case round =>
    obtain ⟨q, acc, hq, rfl, hacc, hown, hbe⟩ := hrel
    by_cases hlt : q < N
    · have hdec : decide ((q : Int) < N) = true := by simp; omega
      have hql : q < L.length := by rw [← HN.out]; exact hlt
      obtain ⟨bo, oo, V0, hao, hbo, hcc⟩ := HLC.out (by intro e; rw [e] at hql; exact absurd hql (Nat.not_lt_zero _))
      subst hao
      have hc1 := (hbe.out.cell (p := ⟨bo, oo + q, none⟩) hbo).trans (hcc q hql).1
      have hr1 := (hcc q hql).2.keep hbe.out (Nat.le_refl _)
      have hmem : L.getD q [] ∈ L := by
        rw [List.getD_eq_getElem?_getD, List.getElem?_eq_getElem hql]; exact List.getElem_mem hql
      obtain ⟨hx1, hx2⟩ := HBD.out _ hmem
      have HSN := Lib.hid (celL_snoc M L q hql)
      rw [← hacc.out] at HSN
      have HAL := Lib.hid (show acc.length ≤ 500 by rw [hacc.out, List.length_map, List.length_take]; omega)
      obtain ⟨wx, hwx⟩ : ∃ wx, wx = wr := ⟨_, rfl⟩
      subst hwx
      have hwz := hbe.out.size
      have CI := copyInts_any (L.getD q []) (V0 q) w.heap.size wx hr1 (by rw [hx1]; omega)
      generalize L.getD q [] = x at *
      obtain ⟨bx, ox, cx, hvx, hbx, hcx⟩ := (hr1.cases).resolve_left (fun e => by rw [e.1] at hx1; simp at hx1; omega) |>.2.2
      rw [hx1] at hvx hcx
      rw [hvx] at hc1 CI
      have HCX := Lib.hid hcx
      have HFA2 := Lib.hid (HFA.out x hx1)
      have HFB2 := Lib.hid (HFB.out x hx1 hx2)
      have HLN2 := Lib.hid (HLN.out x hx1 hx2)
      have HST2 := Lib.hid (HSTEP.out x)
      have HX2 := Lib.hid hx2
      have HEN2 := Lib.hid (HEND.out x)
      rw [HEN2.out] at HSN
      have HX1 := Lib.hid hx1
      clear hcc hr1 hmem hql hcx hvx hx1 hx2
      go_wp2_with fail
      with_reducible refine CI.mono ?_
      rintro e w6 ⟨u6, rfl, k6, c6⟩
      rcases k6.is.cases with ⟨e, -⟩ | ⟨-, -, bp, op', cp', hup, hp1, hp2, hp3, hp4, hp5⟩
      · have := HX1.out; rw [e] at this; simp at this; omega
      rw [HX1.out] at hup hp5 hp1
      subst hup
      have HP0 := Lib.hid (show BK w6 bp op' n 3 (fun i => .int .i64 ((celK M x 0).getD i 0)) from hp5)
      have hz6 := c6.size
      have C6 := Lib.hid c6
      clear k6 c6 CI hp5
      go_wp2
      go_loopw [9, 10, 11, 12, 33] (fun _ _ _ _ i wr => ∃ (k : Nat), k ≤ n ∧ i = .int .i64 k ∧ Hid (BK wr bp op' n 3 (fun i => .int .i64 ((celK M x k).getD i 0))) ∧ Hid (Below wx.heap.size wx wr)) (fun _ _ _ _ i _ => n - (intOf i).toNat)
      case atStart => exact ⟨0, by omega, rfl, HP0, C6⟩
      case round =>
        obtain ⟨k, hk, rfl, hbk, hb2⟩ := hrel
        clear HP0 C6
        by_cases hkt : k < n
        · have hdec2 : decide ((k : Int) < n) = true := by simp; omega
          have BT := Lib.hid (Below.trans BW.out ((hbe.out.trans (hb2.out.mono hwz)).mono BW.out.size))
          have hcmk := (BT.out.cell (p := ⟨bm, om + k, none⟩) (Nat.lt_of_lt_of_le hbm hhb)).trans (HCM.out k hkt).1
          have hrmk := (HCM.out k hkt).2.keep BT.out hhb
          obtain ⟨bM, oM, cM, hvM, hbM, hcM⟩ := (hrmk.cases).resolve_left (fun e => by have := HROW.out k hkt; rw [e.1] at this; simp at this; omega) |>.2.2
          rw [HROW.out k hkt] at hvM hcM
          rw [hvM] at hcmk
          have HCMK := Lib.hid hcM
          have HFK := Lib.hid (HFA2.out k hkt)
          have HFBK := Lib.hid (HFB2.out k hkt)
          have HSK := Lib.hid (HST2.out k)
          have HLK := Lib.hid (HLN2.out k hk)
          have HBD2 := Lib.hid (fsum_bd HX2.out (a := fun c => adjE n M c k) (n := n) (fun c hc => HAD.out c k hc hkt))
          have HSU := Lib.hid (show ∀ j, fsum x (fun c => adjE n M c k) (j + 1) = fsum x (fun c => adjE n M c k) j + x.getD j 0 * adjE n M j k from fun j => rfl)
          have hf0 : fsum x (fun c => adjE n M c k) 0 = 0 := rfl
          have HF0 := Lib.hid hf0
          have HAC2 := Lib.hid (fun j (hj : j < n) => HAC.out j k hj hkt)
          have HPB := Lib.hid (fun j (hj : j < n) => mul_bdH (HX2.out j) (HAD.out j k hj hkt))
          obtain ⟨wy, hwy⟩ : ∃ wy, wy = wr := ⟨_, rfl⟩
          subst hwy
          have k0 : (0 : Int) ≤ (k : Int) := by omega
          have k1 : (k : Int) < (n : Int) := by omega
          have hbpl := hbk.out.lt
          have hbml : bM < wy.heap.size := Nat.lt_of_lt_of_le hbM (Nat.le_trans hhb BT.out.size)
          have hz0w := BW.out.size
          have hne : bM ≠ bp := by omega
          clear hrmk hvM hcM hf0
          go_wp2
          go_loopw [11, 12, 40] (fun s _ i wr => ∃ (j : Nat) (dd : Nat), j ≤ n ∧ i = .int .i64 j ∧ s = .int .i64 (fsum x (fun c => adjE n M c k) j) ∧ Hid (wr = wy.drewN dd)) (fun _ _ i _ => n - (intOf i).toNat)
          case atStart => exact ⟨0, 0, by omega, rfl, by rw [HF0.out], Lib.hid rfl⟩
          case round =>
            obtain ⟨j, dd, hj, rfl, rfl, hw⟩ := hrel
            by_cases hjt : j < n
            · have hdec3 : decide ((j : Int) < n) = true := by simp; omega
              obtain ⟨ba, oa, br, orr, cr, ea, hba, hbr, ha1, ha2⟩ := HAC2.out j hjt
              subst ea
              have B3T : Below w3.heap.size w3 wr := by
                rw [hw.out]
                exact ((B3W.out.trans (hbe.out.mono hz3w)).trans (hb2.out.mono (Nat.le_trans hz3w hwz))).trans (below_draws _ _ _)
              have q1 := (B3T.cell (p := ⟨ba, oa + j, none⟩) hba).trans ha1
              have q2 := (B3T.cell (p := ⟨br, orr + k, none⟩) hbr).trans ha2
              have q3 : wr.cell? ⟨bx, ox + j, none⟩ = some (.int .i64 (x.getD j 0)) := by
                rw [hw.out]
                exact (hb2.out.cell (p := ⟨bx, ox + j, none⟩) (Nat.lt_of_lt_of_le hbx hwz)).trans (HCX.out j hjt)
              have hb1 := HBD2.out j hj
              have hb3 := HPB.out j hjt
              have hsu := HSU.out j
              have HSUJ := Lib.hid hsu
              have w1' : IntKind.i64.wrap (x.getD j 0 * adjE n M j k) = x.getD j 0 * adjE n M j k := wr64 _ (by omega)
              have w2' : IntKind.i64.wrap (fsum x (fun c => adjE n M c k) j + x.getD j 0 * adjE n M j k) = fsum x (fun c => adjE n M c k) j + x.getD j 0 * adjE n M j k := wr64 _ (by omega)
              have j0 : (0 : Int) ≤ (j : Int) := by omega
              have j1 : (j : Int) < (n : Int) := by omega
              clear hsu hb1 hb3 B3T ha1 ha2
              generalize x.getD j 0 = xj at *
              generalize adjE n M j k = aj at *
              generalize hpp : xj * aj = p at *
              generalize fsum x (fun c => adjE n M c k) j = s at *
              generalize hss : s + p = sp at *
              have HPP := Lib.hid hpp
              have HSS := Lib.hid hss
              go_wp2
              go_quiet (fail)
              go_wp2
              go_roundw
              case rel => exact ⟨j + 1, _, by omega, by go_num, by rw [HSUJ.out], Lib.hid (by rw [hw.out, World.drewN_drewN])⟩
              case measure => simp [intOf]; omega
            · have hjn : j = n := by omega
              have hdec3 : decide ((j : Int) < n) = false := by simp; omega
              have hFv : fsum x (fun c => adjE n M c k) j = facG M x k := by rw [hjn]; exact HFK.out
              rw [hFv]
              clear hFv hjn
              have hfb := HFBK.out
              have hbkw : BK wr bp op' n 3 (fun i => .int .i64 ((celK M x k).getD i 0)) := by rw [hw.out]; exact hbk.out
              have hcw : wr.cell? ⟨bm, om + k, none⟩ = some (.slice (some ⟨bM, oM, none⟩) n cM) := by rw [hw.out]; exact hcmk
              have hcMw : ∀ i, i < n → wr.cell? ⟨bM, oM + i, none⟩ = some (.int .i64 ((M.getD k []).getD i 0)) := fun i hi => by rw [hw.out]; exact HCMK.out i hi
              have hsz : wr.heap.size = wy.heap.size := by rw [hw.out]; rfl
              have HBW := Lib.hid (show Below wx.heap.size wx wr by rw [hw.out]; exact hb2.out.trans (below_draws _ _ _))
              unfold sgF at HSK hfb
              generalize facG M x k = f at *
              have LW := fun qq => lessW_any (celK M x k) (M.getD k []) qq bp op' cp' bM oM cM n wr HLK.out (HROW.out k hkt) hn3 hbkw hcMw hne (by omega)
              have DW := fun a W => downW_any a D W hDz
              have hcmk2 := hcw
              clear hcMw hbkw hcmk hfb
              have hfb := HFBK.out
              unfold sgF at hfb
              by_cases hneg : d < 0
              · rw [if_pos hneg] at HSK hfb
                have hwn : IntKind.i64.wrap (-f) = -f := wr64 _ (by omega)
                have L1 := LW (flW (-f) D)
                have D1 := fun W => DW (-f) W
                generalize flW (-f) D = qq at *
                go_wp2_with (first | (go_at_call 64; (with_reducible refine (MG _).mono ?_); rintro e w' ⟨rfl, rfl⟩) | (go_at_call 63; (with_reducible refine (D1 _).mono ?_); rintro e w' ⟨rfl, rfl⟩))
                with_reducible refine L1.mono ?_
                rintro e w9 ⟨rfl, bk9, hg9⟩
                rw [← HSK.out] at bk9
                have BK9 := Lib.hid bk9
                have B9 := Lib.hid (HBW.out.grown hg9 HBW.out.size (fun g hg => by injection hg with hg; omega))
                clear bk9 hg9 L1 D1 LW DW MG hsz
                go_wp2
                go_roundw
                case rel => exact ⟨k + 1, by omega, by go_num, BK9, B9⟩
                case measure => simp [intOf]; omega
              · rw [if_neg hneg] at HSK hfb
                have L1 := LW (flW f D)
                have D1 := fun W => DW f W
                generalize flW f D = qq at *
                go_wp2_with (first | (go_at_call 64; (with_reducible refine (MG _).mono ?_); rintro e w' ⟨rfl, rfl⟩) | (go_at_call 63; (with_reducible refine (D1 _).mono ?_); rintro e w' ⟨rfl, rfl⟩))
                with_reducible refine L1.mono ?_
                rintro e w9 ⟨rfl, bk9, hg9⟩
                rw [← HSK.out] at bk9
                have BK9 := Lib.hid bk9
                have B9 := Lib.hid (HBW.out.grown hg9 HBW.out.size (fun g hg => by injection hg with hg; omega))
                clear bk9 hg9 L1 D1 LW DW MG hsz
                go_wp2
                go_roundw
                case rel => exact ⟨k + 1, by omega, by go_num, BK9, B9⟩
                case measure => simp [intOf]; omega
        · have hkn : k = n := by omega
          have hdec2 : decide ((k : Int) < n) = false := by simp; omega
          rw [hkn] at hbk
          have HLK := HLN2.out n (Nat.le_refl _)
          have HIS := Lib.hid (show IS wr wx.heap.size wr.heap.size (.slice (some ⟨bp, op', none⟩) n cp') (celK M x n) from by
            have := IS.of_BK (l := celK M x n) (w := wr) (b := bp) (off := op') (cap := cp') (lo := wx.heap.size) (hi := wr.heap.size) (by rw [HLK]; exact hbk.out) (by rw [HLK]; exact hp1) hp2 hp3 hbk.out.lt
            rwa [HLK] at this)
          obtain ⟨V, p, hpt⟩ := hown.out.part hb2.out
          have HPT := Lib.hid hpt
          have HB2 := Lib.hid (below_then hbe.out hwz hb2.out)
          have hz1' := hb2.out.size
          have HAL2 := HAL.out
          clear hpt hkn HLK
          generalize celK M x n = r at *
          go_wp2_with (at_builtin; refine wpList_append_own _ rfl _ _ 22 rfl w.heap.size 23 i0 (.slice none 0 0) 1 24 Try.underlying22 HI0.out HZ0.out HZ1.out HZ2.out rfl (by decide) _ _ _ rfl (HPT.out.alloc _) ⟨wr.heap.size, 0, none⟩ 1 1 [.slice (some ⟨bp, op', none⟩) n cp'] rfl rfl ?c1 ?c2 ?c3 ?c4 ?c5 ?_)
          case c1 => exact cell_one_new _ _ _
          case c2 => first | rfl | (intro u hu; simp at hu; subst hu; rfl)
          case c3 => unfold maxLen; omega
          case c4 => omega
          case c5 => first | omega | (simp; omega)
          intro v2 w3' hown2 hgrow _
          have HO := Lib.hid (HPT.out.push HIS.out (Nat.le_refl _) hz1' (Nat.le_refl _) hgrow hown2)
          have HBE := Lib.hid (OwnLp.below HB2.out (by omega) _ hgrow HPT.out (Nat.le_refl _))
          clear hown2 hgrow
          go_wp2
          go_roundw
          case rel => exact ⟨q + 1, _, by omega, by go_num, HSN, HO, HBE⟩
          case measure => simp [intOf]; omega
    · have hqn : q = N := by omega
      have hdec : decide ((q : Int) < N) = false := by simp; omega
      have hal : acc = cpL M := by rw [hacc.out, HCL.out, hqn, HN.out, List.take_length]
      rw [hal] at hown
      have hcn : (cpL M).length = N := by rw [HCL.out, List.length_map]; exact HN.out.symm
      have HCN := Lib.hid hcn
      obtain ⟨hr1, hr2, -, -⟩ := hCR.out
      obtain ⟨g, cpu, V, hu, hcpu, hcm2, hgB, hgw, hra, ⟨d0, hds, hhd, hdm⟩, hcs, hris, hap⟩ := hown.out.holds2 (by rw [hcn]; exact hNp)
      have SO := sortG_any (m := N) hcn.symm (by rw [hcn]; exact hNp) (by rw [hcn]; omega) V (fun i => (cpL M).getD i.val []) g cpu d0 wr hra (fun i => hr1 _ (by
        rw [List.getD_eq_getElem?_getD, List.getElem?_eq_getElem i.isLt]; exact List.getElem_mem _)) hn1 (by omega) hds hhd hgw
      rw [hcn] at hu hcpu
      subst hu
      have HRI := Lib.hid hris
      have HAP := Lib.hid hap
      have HCS := Lib.hid hcs
      have HND := Lib.hid (fun (d' : Array (Fin (cpL M).length)) (h1 : List.Perm d'.toList d0.toList) => perm_nodup h1 hdm hds)
      have HBE := Lib.hid hbe.out
      have HPS := Lib.hid (fun d' (h1 : List.Perm d'.toList d0.toList) h2 => perm_sG hr1 hr2 rfl (d' := d') h1 hdm hds h2)
      clear hra hris hap hcs hhd hown hbe hacc hal hr1 hr2 hqn
      go_wp2_with fail
      with_reducible refine SO.mono ?_
      rintro e w9 ⟨rfl, d', hd's, hh', hpw, hperm, hgr, hcs9⟩
      have HE := Lib.hid (HPS.out d' hperm hpw)
      have hg9 : g < w9.heap.size := Nat.lt_of_lt_of_le hgw hgr.size
      have hz0w := BW.out.size
      have HF := Lib.hid (Holds.iss (n := (cpL M).length) (cap := cpu) (L := cpL M) (lo := w0.heap.size) (hi := w9.heap.size) (by rw [HCN.out]; exact hNp) rfl hh' hd's (HND.out d' hperm) (fun i => (HRI.out i).mono hz0w hgr.size) HAP.out (by rw [HCN.out]; exact hcpu) hcm2 (Nat.le_trans hz0w hgB) hg9 hgr HCS.out (by obtain ⟨cs, hcs⟩ := HCS.out; exact hcs9 _ _ _ hcs))
      rw [HE.out, HCN.out, ← HV.out] at HF
      have B9 := Lib.hid (Below.trans BW.out ((HBE.out.trans (grown_belowG hgr HBE.out.size hgB)).mono BW.out.size))
      clear SO hd's hh' hpw hperm hgr hcs9
      go_wp2
      go_ret
      exact ⟨_, rfl, HF.out, B9.out⟩
end Go.Proofs.Ytgecnidndjbdaaa
