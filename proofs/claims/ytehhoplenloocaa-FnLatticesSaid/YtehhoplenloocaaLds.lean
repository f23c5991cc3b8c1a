/- ClassLeaders: both walks. -/
import Derived.Test.YtehhoplenloocaaHerS
import Derived.Test.YtehhoplenloocaaCelM
import Derived.Deep.DeepCutAuto
namespace Go.Proofs.Ytehhoplenloocaa
open Go.RowKit
set_option linter.unusedVariables false
set_option linter.unusedSimpArgs false

theorem ISS.zero (w : World) (lo hi : Nat) (a : Option Addr) (cap : Nat) (h : cap ≤ maxLen) : ISS w lo hi (.slice a 0 cap) [] := ⟨a, cap, rfl, Nat.zero_le _, h, fun h => absurd rfl h⟩
theorem ISSr.zero (w : World) (hi : Nat) (a : Option Addr) (cap : Nat) (h : cap ≤ maxLen) : ISSr w hi (.slice a 0 cap) [] := ⟨a, cap, rfl, Nat.zero_le _, h, fun h => absurd rfl h⟩
def idxV (M : List (List Int)) : Int := max (detO M) (-(detO M))
theorem idxV_bd (M : List (List Int)) : 0 ≤ idxV M ∧ idxV M ≤ 6000000000000000 := by have := detO_bd M; unfold idxV; omega
set_option maxHeartbeats 1000000 in
theorem implIdx_any (m : List (List Int)) (v : Value) (hb : Nat) (w : World) (h : ISSr w hb v m) (hhb : hb ≤ w.heap.size) :
    Calls Try.prog 38 #[v] w fun e w' => e = .returned (.int .i64 (idxV m)) ∧ Below w.heap.size w w' := by
  have D := implDetOf_any m v hb w h hhb
  have hb2 := detO_bd m
  have MG := fun W => magnitude_any (detO m) W (by omega) (by omega)
  rw [show max (detO m) (-(detO m)) = idxV m from rfl] at MG
  clear h
  generalize idxV m = x at *
  generalize detO m = d at *
  go_enter Try.func38, Try.ntmps38
  go_wp2_with (first | (go_at_call 105; (with_reducible refine D.mono ?_); rintro e w1 ⟨rfl, c1⟩) | (go_at_call 85; (with_reducible refine (MG _).mono ?_); rintro e w2 ⟨rfl, rfl⟩))
  go_ret
  exact ⟨rfl, c1⟩
set_option maxHeartbeats 1000000 in
theorem specIdx_any (m : List (List Int)) (v : Value) (hb : Nat) (w : World) (h : ISSr w hb v m) :
    Calls Try.prog 39 #[v] w fun e w' => e = .returned (.int .i64 (idxV m)) ∧ Below w.heap.size w w' := by
  have D := specDetOf_any m v hb w h
  have hb2 := detO_bd m
  have MG := fun W => l1Abs_any (detO m) W (by omega) (by omega)
  rw [show max (detO m) (-(detO m)) = idxV m from rfl] at MG
  clear h
  generalize idxV m = x at *
  generalize detO m = d at *
  go_enter Try.func39, Try.ntmps39
  go_wp2_with (first | (go_at_call 107; (with_reducible refine D.mono ?_); rintro e w1 ⟨rfl, c1⟩) | (go_at_call 106; (with_reducible refine (MG _).mono ?_); rintro e w2 ⟨rfl, rfl⟩))
  go_ret
  exact ⟨rfl, c1⟩
set_option maxHeartbeats 1000000 in
theorem specHermiteOf_any (M : List (List Int)) (v : Value) (hb : Nat) (w : World) (h : ISSr w hb v M) (hhb : hb ≤ w.heap.size) :
    Calls Try.prog 92 #[v] w fun e w' => ∃ u, e = .returned (.tuple #[u, .bool (hofV M).2]) ∧ ISSr w' w'.heap.size u (hofV M).1 ∧ Below w.heap.size w w' := by
  have DO := specDetOf_any M v hb w h
  by_cases hd : detO M = 0
  · rw [hofV_no hd]
    rw [hd] at DO
    clear h hd
    go_enter Try.func92, Try.ntmps92
    go_wp2_with (go_at_call 107; (with_reducible refine DO.mono ?_); rintro e w1 ⟨rfl, c1⟩)
    go_ret2
    exact ⟨_, rfl, ISSr.zero _ _ _ _ (Nat.zero_le _), c1.alloc c1.size _⟩
  · have hm : matB M = true := by
      cases hm : matB M
      · exact absurd (detO_no hm) hd
      · rfl
    have hl := matB_len hm
    have HE := fun W (B : Below w.heap.size w W) => l3Hermite_any M M.length v hb W (h.keep B hhb) (Nat.le_trans hhb B.size) (hi_start hm hd) hl.1 hl.2
    have HV := Lib.hid (fun e => hofV_no2 hd e)
    have HY := Lib.hid (fun e => hofV_yes hd e)
    generalize detO M = d at *
    clear h hm hl
    go_enter Try.func92, Try.ntmps92
    go_wp2_with fail
    with_reducible refine DO.mono ?_
    rintro e w1 ⟨rfl, c1⟩
    have H1 := HE w1 c1
    have hdd : (d == 0) = false := by rw [beq_eq_false_iff_ne]; exact hd
    go_wp2_with fail
    with_reducible refine H1.mono ?_
    rintro e w2 ⟨u, rfl, ku, c2⟩
    have B2 := Lib.hid (below_then c1 c1.size c2)
    have MO := specIsMatrix_any (herM M) u w2.heap.size w2 ku
    have KU := Lib.hid (show ISSr w2 w2.heap.size u (herM M) from ku)
    clear H1 HE ku c2 c1
    cases hmb : matB (herM M)
    all_goals
      rw [hmb] at MO
    · have HVV := Lib.hid (HV.out hmb)
      go_wp2_with (go_at_call 95; (with_reducible refine MO.mono ?_); rintro e w7 ⟨rfl, d7, rfl⟩)
      go_ret2
      rw [HVV.out]
      exact ⟨_, rfl, ISSr.zero _ _ _ _ (Nat.zero_le _), ((B2.out.trans (below_draws _ _ d7))).alloc (by have := B2.out.size; exact this) _⟩
    · have HVV := Lib.hid (HY.out hmb)
      obtain ⟨au, cu, rfl, -⟩ := id KU.out
      go_wp2_with (go_at_call 95; (with_reducible refine MO.mono ?_); rintro e w7 ⟨rfl, d7, rfl⟩)
      go_ret2
      rw [HVV.out]
      exact ⟨_, rfl, KU.out.draws d7, B2.out.trans (below_draws _ _ d7)⟩
/-- the bounds of the box of the leaders -/
def diaL (H : List (List Int)) (n : Nat) : List Int := (List.range n).map fun j => atM H j j - 1
theorem diaL_at (H : List (List Int)) (n : Nat) {j : Nat} (hj : j < n) : (diaL H n).getD j 0 = atM H j j - 1 := by
  unfold diaL; rw [List.getD_eq_getElem?_getD, List.getElem?_map, List.getElem?_range hj]; rfl
theorem zerL_at (n j : Nat) : (List.replicate n (0 : Int)).getD j 0 = 0 := by
  rw [List.getD_eq_getElem?_getD, List.getElem?_replicate]; split <;> rfl
theorem lat_ld (H : List (List Int)) (n : Nat) : ∀ k, k ≤ n → latK (List.replicate n 0) (diaL H n) k = ldK H k
  | 0, _ => rfl
  | k + 1, hk => by rw [latK, ldK, lat_ld H n k (by omega), zerL_at, diaL_at H n (by omega)]
def diaF (H : List (List Int)) (k : Nat) : Nat → Value := fun c => .int .i64 (if c < k then atM H c c - 1 else 0)
theorem diaF_step (H : List (List Int)) (k : Nat) (x : Int) (hx : x = atM H k k - 1) (c : Nat) : (if c = k then Value.int .i64 x else diaF H k c) = diaF H (k + 1) c := by
  unfold diaF
  by_cases e : c = k
  · subst e; rw [if_pos rfl, if_pos (by omega), hx]
  · rw [if_neg e]
    by_cases e2 : c < k
    · rw [if_pos e2, if_pos (by omega)]
    · rw [if_neg e2, if_neg (by omega)]
set_option maxRecDepth 100000 in
set_option maxHeartbeats 8000000 in
theorem leaders_any (H : List (List Int)) (n : Nat) (v : Value) (hb : Nat) (w : World) (h : ISSr w hb v H) (hhb : hb ≤ w.heap.size) (hX : HX n H) (h1 : 1 ≤ n) (h3 : n ≤ 3) (hd : (ldK H n).length ≤ 500) :
    Calls Try.prog 80 #[v] w fun e w' => ∃ u, e = .returned u ∧ OwnL w' w.heap.size u (ldK H n) ∧ Below w.heap.size w w' := by
  have hmk := run_make_row' (P := Try.prog) 30 3 (.int .i64 0) 8 Try.underlying30 info_int rfl .i64 .i64 n (by omega) (by omega)
  obtain ⟨b, off, cap, V, rfl, hbb, hcell⟩ := (h.cases).resolve_left (fun e => by have := hX.sq.len; rw [e.1] at this; simp at this; omega) |>.2.2
  rw [hX.sq.len] at hcell ⊢
  have HC := Lib.hid hcell
  have HSQ := Lib.hid hX.sq
  have HDI := Lib.hid (fun k (hk : k < n) => ldK_dia hX hk)
  have HPO := Lib.hid hX.pos
  have HLE := Lib.hid (fun k (hk : k ≤ n) => ldK_le hX (n - k) k (by omega))
  clear h hX hcell
  go_enter Try.func80, Try.ntmps80
  go_upto_region 1 with fail
  go_cut [3, 4] (fun lo hi wx => ∃ (bl bh : Nat), lo = .slice (some ⟨bl, 0, none⟩) n n ∧ hi = .slice (some ⟨bh, 0, none⟩) n n ∧ Hid (w.heap.size ≤ bl) ∧ Hid (w.heap.size ≤ bh) ∧ Hid (bl ≠ bh) ∧ Hid (BK wx bl 0 n 3 (fun _ => .int .i64 0)) ∧ Hid (BK wx bh 0 n 3 (diaF H 0)) ∧ Hid (Below w.heap.size w wx))
  case first =>
    go_region
    all_goals go_wp2_with fail
    all_goals go_meet
    all_goals
      have b1 := BK.of_rowIs (World.rowIs_made w.drew (.int .i64 0) n 3)
      have b2 := BK.of_rowIs (World.rowIs_made (w.drew.alloc (.cells (madeCells #[.int .i64 0] n) 3)) (.int .i64 0) n 3)
      rw [World.size_alloc] at b2
      have b1' := b1.keep (below1 (w.drew.alloc (.cells (madeCells #[.int .i64 0] n) 3)) (.cells (madeCells #[.int .i64 0] n) 3)) (by simp)
      have B : Below w.heap.size w ((w.drew.alloc (.cells (madeCells #[.int .i64 0] n) 3)).alloc (.cells (madeCells #[.int .i64 0] n) 3)) := ((below_draws w.heap.size w 1).alloc (Nat.le_refl _) _).alloc (by simp) _
    · exact ⟨_, _, rfl, rfl, Lib.hid (by simp), Lib.hid (by simp), Lib.hid (by simp), Lib.hid b1', Lib.hid (BK.congr (g := diaF H 0) b2 fun i _ => by unfold diaF; rw [if_neg (Nat.not_lt_zero _)]), Lib.hid B⟩
    · exact ⟨_, _, rfl, rfl, Lib.hid (by simp), Lib.hid (by simp), Lib.hid (by simp), Lib.hid b2, Lib.hid (BK.congr (g := diaF H 0) b1' fun i _ => by unfold diaF; rw [if_neg (Nat.not_lt_zero _)]), Lib.hid B⟩
  case rest =>
    obtain ⟨bl, bh, rfl, rfl, hl0, hh0, hne, kl, kh, hbe0⟩ := hcut
    clear hmk
    go_wp2
    go_loopw [5, 6, 15] (fun _ _ i wr => ∃ (k : Nat), k ≤ n ∧ i = .int .i64 k ∧ Hid (BK wr bl 0 n 3 (fun _ => .int .i64 0)) ∧ Hid (BK wr bh 0 n 3 (diaF H k)) ∧ Hid (Below w.heap.size w wr)) (fun _ _ i _ => n - (intOf i).toNat)
    case atStart => exact ⟨0, by omega, rfl, kl, kh, hbe0⟩
    case round =>
      obtain ⟨k, hk, rfl, kl2, kh2, hbe⟩ := hrel
      clear kl kh hbe0
      by_cases hlt : k < n
      · have hc := (hbe.out.cell (p := ⟨b, off + k, none⟩) (Nat.lt_of_lt_of_le hbb hhb)).trans (HC.out k hlt).1
        have hrow := (HC.out k hlt).2.keep hbe.out hhb
        have hrl := HSQ.out.row k hlt
        obtain ⟨br, orr, cr, hV, -, hcr⟩ := (hrow.cases).resolve_left (fun e => by rw [e.1] at hrl; simp at hrl; omega) |>.2.2
        rw [hrl] at hV hcr
        rw [hV] at hc
        have hcx := hcr k hlt
        have HX := Lib.hid (show (H.getD k []).getD k 0 = atM H k k from rfl)
        rw [HX.out] at hcx
        have hd1 := HDI.out k hlt
        have hd2 := HPO.out k hlt
        have hxx : atM H k k ≤ 500 := by omega
        have ST := Lib.hid (fun x hx c => diaF_step H k x hx c)
        have fz := kh2.out.frozen k
        have cc : wr.cell? ⟨bh, k, none⟩ = some (.int .i64 0) := by
          have := kh2.out.cell hlt
          rw [Nat.zero_add] at this
          rw [this]; unfold diaF; rw [if_neg (Nat.lt_irrefl _)]
        have hst := kh2.out.set hlt (.int .i64 (atM H k k - 1))
        have kl3 := Lib.hid (kl2.out.of_block (w' := wr.setCell ⟨bh, 0 + k, none⟩ (.int .i64 (atM H k k - 1))) (Below.heap_setCell _ _ _ _ hne.out))
        have kh3 := Lib.hid (hst.congr fun c _ => ST.out _ rfl c)
        have hb3 := Lib.hid (hbe.out.setCell (show w.heap.size ≤ bh from hh0.out) (.int .i64 (atM H k k - 1)) (p := ⟨bh, 0 + k, none⟩))
        have hw : IntKind.i64.wrap (atM H k k - 1) = atM H k k - 1 := wr64 _ (by omega)
        clear hrow hrl hcr hV hst ST hd1 HX
        rw [Nat.zero_add] at kl3 kh3 hb3
        generalize atM H k k = x at *
        go_wp2
        go_roundw
        case rel => exact ⟨k + 1, by omega, by go_num, kl3, kh3, hb3⟩
        case measure => simp [intOf]; omega
      · obtain rfl : k = n := by omega
        have LL : (List.replicate k (0 : Int)).length = k := by simp
        have LH : (diaL H k).length = k := by simp [diaL]
        have IL : IS wr w.heap.size wr.heap.size (.slice (some ⟨bl, 0, none⟩) k k) (List.replicate k 0) := by
          have := IS.of_BK (l := List.replicate k 0) (cap := k) (w := wr) (b := bl) (off := 0) (lo := w.heap.size) (hi := wr.heap.size) (by rw [LL]; exact kl2.out.congr fun i _ => by rw [zerL_at]) (by rw [LL]; exact Nat.le_refl _) (by unfold maxLen; omega) hl0.out kl2.out.lt
          rwa [LL] at this
        have IH : IS wr w.heap.size wr.heap.size (.slice (some ⟨bh, 0, none⟩) k k) (diaL H k) := by
          have := IS.of_BK (l := diaL H k) (cap := k) (w := wr) (b := bh) (off := 0) (lo := w.heap.size) (hi := wr.heap.size) (by rw [LH]; exact kh2.out.congr fun i hi => by rw [diaL_at H k hi]; unfold diaF; rw [if_pos hi]) (by rw [LH]; exact Nat.le_refl _) (by unfold maxLen; omega) hh0.out kh2.out.lt
          rwa [LH] at this
        have LA := lattice_any (List.replicate k 0) (diaL H k) _ _ wr.heap.size wr IL.read IH.read (Nat.le_refl _) (by rw [LL, LH]; exact Nat.le_refl _) (by rw [LL]; omega) (fun j hj => by
          rw [LL] at hj
          rw [lat_ld H k j hj]
          have := HLE.out j hj
          omega) (fun j hj => by
          rw [LL] at hj
          rw [zerL_at, diaL_at H k hj]
          have := HDI.out j hj
          omega)
        rw [show latL (List.replicate k 0) (diaL H k) = ldK H k by unfold latL; rw [LL]; exact lat_ld H k k (Nat.le_refl _)] at LA
        have hz := hbe.out.size
        clear kl2 kh2 IL IH LL LH hlt
        go_wp2_with fail
        with_reducible refine LA.mono ?_
        rintro e w5 ⟨u, rfl, ku, c5⟩
        have KU := Lib.hid ku
        obtain ⟨au, cu, rfl, -⟩ := id ku.is
        have B5 := Lib.hid (below_then hbe.out hz c5)
        clear ku c5 LA
        go_wp2
        go_ret
        exact ⟨_, rfl, KU.out.lower hz, B5.out⟩
def clB (M : List (List Int)) : Bool := (hofV M).2 && decide (idxV M ≤ 500)
def clV (M : List (List Int)) : List (List Int) := if clB M then ldK (herM M) M.length else []
theorem hof_true {M : List (List Int)} (h : (hofV M).2 = true) : matB M = true ∧ ¬ detO M = 0 ∧ (hofV M).1 = herM M := by
  by_cases hd : detO M = 0
  · rw [hofV_no hd] at h; cases h
  · have hm : matB M = true := by
      cases hm : matB M
      · exact absurd (detO_no hm) hd
      · rfl
    cases h2 : matB (herM M)
    · rw [hofV_no2 hd h2] at h; cases h
    · rw [hofV_yes hd h2]; exact ⟨hm, hd, rfl⟩
/-- as many leaders as the index tells -/
theorem her_len {M : List (List Int)} (hm : matB M = true) (hd : ¬ detO M = 0) : HX M.length (herM M) ∧ ((ldK (herM M) M.length).length : Int) = idxV M := by
  obtain ⟨h1, h2⟩ := her_all hm hd
  have hl := matB_len hm
  obtain ⟨g1, g2⟩ := h1.det hl.1 hl.2
  refine ⟨h1, ?_⟩
  rw [g2]
  have e : dN M = detO M := by rw [dN_det (matB_sq hm) hl.1 hl.2, detO_yes hm]
  have := h2.dt
  rw [e] at this
  unfold idxV; omega
set_option maxHeartbeats 2000000 in
theorem implClassLeaders_any (M : List (List Int)) (v : Value) (hb : Nat) (w : World) (h : ISSr w hb v M) (hhb : hb ≤ w.heap.size) :
    Calls Try.prog 29 #[v] w fun e w' => ∃ u, e = .returned u ∧ ISS w' w.heap.size w'.heap.size u (clV M) ∧ Below w.heap.size w w' := by
  have HO := implHermiteOf_any M v hb w h hhb
  have IX := fun W (B : Below w.heap.size w W) => implIdx_any M v hb W (h.keep B hhb) (Nat.le_trans hhb B.size)
  cases h2 : (hofV M).2
  · have HV := Lib.hid (show clV M = [] by unfold clV clB; rw [h2]; rfl)
    rw [h2] at HO
    clear h
    go_enter Try.func29, Try.ntmps29
    go_wp2_with fail
    with_reducible refine HO.mono ?_
    rintro e w1 ⟨u, rfl, ku, c1⟩
    obtain ⟨au, cu, rfl, -⟩ := id ku
    have C1 := Lib.hid c1
    clear ku c1 HO IX
    go_wp2
    go_ret
    rw [HV.out]
    exact ⟨_, rfl, ISS.zero _ _ _ _ _ (Nat.zero_le _), C1.out⟩
  · obtain ⟨hm, hd, he⟩ := hof_true h2
    obtain ⟨hX, hlen⟩ := her_len hm hd
    have hl := matB_len hm
    have hib := idxV_bd M
    rw [h2, he] at HO
    by_cases h5 : idxV M ≤ 500
    · have HV := Lib.hid (show clV M = ldK (herM M) M.length by unfold clV clB; rw [h2, decide_eq_true h5]; rfl)
      have LD := fun u W (i : ISSr W W.heap.size u (herM M)) => leaders_any (herM M) M.length u W.heap.size W i (Nat.le_refl _) hX hl.1 hl.2 (by omega)
      have hg : ¬ 500 < idxV M := by omega
      clear h hX hm hd he h2 hlen
      generalize idxV M = x at *
      go_enter Try.func29, Try.ntmps29
      go_wp2_with fail
      with_reducible refine HO.mono ?_
      rintro e w1 ⟨u, rfl, ku, c1⟩
      have I1 := IX w1 c1
      have KU := Lib.hid ku.read
      obtain ⟨au, cu, hu, -⟩ := id ku
      subst hu
      have hz1 := c1.size
      clear ku HO
      go_wp2_with fail
      with_reducible refine I1.mono ?_
      rintro e w2 ⟨rfl, c2⟩
      have L2 := LD _ w2 ((KU.out.keep c2 (Nat.le_refl _)).upto c2.size)
      have B2 := Lib.hid (below_then c1 c1.size c2)
      have hz2 := B2.out.size
      clear c1 c2 I1 IX LD KU
      go_wp2_with fail
      with_reducible refine L2.mono ?_
      rintro e w3 ⟨u3, rfl, k3, c3⟩
      have K3 := Lib.hid k3
      obtain ⟨a3, e3, rfl, -⟩ := id k3.is
      have B3 := Lib.hid (below_then B2.out hz2 c3)
      clear k3 c3 L2
      go_wp2
      go_ret
      rw [HV.out]
      exact ⟨_, rfl, (K3.out.lower hz2).is, B3.out⟩
    · have HV := Lib.hid (show clV M = [] by unfold clV clB; rw [h2, decide_eq_false h5]; rfl)
      have hg : 500 < idxV M := by omega
      clear h hX hm hd he h2 hlen
      generalize idxV M = x at *
      go_enter Try.func29, Try.ntmps29
      go_wp2_with fail
      with_reducible refine HO.mono ?_
      rintro e w1 ⟨u, rfl, ku, c1⟩
      have I1 := IX w1 c1
      obtain ⟨au, cu, hu, -⟩ := id ku
      subst hu
      clear ku HO
      go_wp2_with fail
      with_reducible refine I1.mono ?_
      rintro e w2 ⟨rfl, c2⟩
      have B2 := Lib.hid (below_then c1 c1.size c2)
      clear c1 c2 I1 IX
      go_wp2
      go_ret
      rw [HV.out]
      exact ⟨_, rfl, ISS.zero _ _ _ _ _ (Nat.zero_le _), B2.out⟩
end Go.Proofs.Ytehhoplenloocaa
