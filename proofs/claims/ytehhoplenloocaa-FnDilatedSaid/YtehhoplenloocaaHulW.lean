/- HullOf and IsPolygon of the model: the walks. -/
import Derived.Test.YtehhoplenloocaaHulS
import Derived.Test.YtehhoplenloocaaB4
namespace Go.Proofs.Ytehhoplenloocaa
open Go.RowKit
set_option linter.unusedVariables false
set_option linter.unusedSimpArgs false

theorem OwnQ.iss {w : World} {B : Nat} {v : Value} {vs : List Value} {ls : List (List Int)} (h : OwnQ w B v vs ls) : ISSr w w.heap.size v ls := by
  obtain ⟨h1, ⟨g, cap, rfl⟩, h3⟩ := h
  have hc : ls.length ≤ cap ∧ cap ≤ maxLen := by
    rcases h1.2 with ⟨e, -⟩ | ⟨g', cap', cur, e, hb', hg, hn', hc', hs, ht⟩
    · simp at e
    · injection e with e1 e2 e3
      subst e3
      exact ⟨hn', hc'⟩
  exact ⟨_, _, rfl, hc.1, hc.2, fun hl => ⟨g, 0, fun i => vs.getD i (.slice none 0 0), rfl, (World.ownsRow.lt h1 g rfl).2, fun i hi => ⟨by rw [Nat.zero_add]; exact own_cells h1 hi, (h3 i hi).read⟩⟩⟩
theorem OwnP.iss {w : World} {B hi : Nat} {v : Value} {L : List VR} (h : OwnP w B hi v L) (hh : hi ≤ w.heap.size) : ISSr w w.heap.size v (L.map (·.2)) := by
  obtain ⟨h1, ⟨g, cap, rfl⟩, h3⟩ := h
  have hc : L.length ≤ cap ∧ cap ≤ maxLen := by
    rcases h1.2 with ⟨e, -⟩ | ⟨g', cap', cur, e, hb', hg, hn', hc', hs, ht⟩
    · simp at e
    · injection e with e1 e2 e3
      subst e3
      exact ⟨hn', hc'⟩
  refine ⟨_, _, by rw [List.length_map], by rw [List.length_map]; exact hc.1, hc.2, fun hl => ⟨g, 0, fun i => (L.map (·.1)).getD i (.slice none 0 0), rfl, (World.ownsRow.lt h1 g rfl).2, fun i hi => ?_⟩⟩
  rw [List.length_map] at hi
  refine ⟨by rw [Nat.zero_add]; exact own_cells h1 hi, ?_⟩
  dsimp only
  rw [List.getD_eq_getElem?_getD, List.getD_eq_getElem?_getD, List.getElem?_map, List.getElem?_map, List.getElem?_eq_getElem hi]
  exact ((h3 _ (List.getElem_mem hi)).1).upto hh
theorem OwnL.down {w : World} {B B' : Nat} {v : Value} {ls : List (List Int)} (h : OwnL w B v ls) (hb : B' ≤ B) : OwnL w B' v ls := by
  obtain ⟨V, p, h1, h2, h3⟩ := h
  exact ⟨V, p, h1.mono hb, by omega, h3⟩
theorem rows_of_pv {w : World} {B hi : Nat} {v : Value} {L : List VR} (h : OwnP w B hi v L) : L.map (·.2) = (pv L).map rowP := by
  unfold pv
  rw [List.map_map]
  exact List.map_congr_left fun q hq => (row_pt (h.2.2 q hq).2.1).symm
theorem flat_rk {ls : List (List Int)} (hf : flatB ls 50 = true) {q : List Int} (hq : q ∈ ls) : Rk q := by
  have := List.all_eq_true.1 hf q hq
  exact pt_ok this
set_option maxRecDepth 100000 in
set_option maxHeartbeats 16000000 in
theorem specHullOf_any (ls : List (List Int)) (v : Value) (hb : Nat) (w : World) (h : ISSr w hb v ls) (hhb : hb ≤ w.heap.size) :
    Calls Try.prog 130 #[v] w fun e w' => ∃ u, e = .returned (.tuple #[u, .bool (hullV ls).2]) ∧ OwnL w' w.heap.size u (hullV ls).1 ∧ Below w.heap.size w w' := by
  have FL := l7Flat_any ls v hb w h
  obtain ⟨a, cap, rfl, hcap, hm, hcell⟩ := id h
  unfold maxLen at hm
  have hno : hullOk ls = false → hullV ls = ([], false) := fun e => by unfold hullV; rw [e]; rfl
  have E0 := fun (W : World) (B : Below w.heap.size w W) => (show OwnL (W.alloc (.cells #[] 30)) w.heap.size (.slice (some ⟨W.heap.size, 0, none⟩) 0 0) [] from OwnL.lit0 W w.heap.size B.size)
  by_cases h200 : ls.length ≤ 200
  case neg =>
    have hv := hno (by unfold hullOk; rw [decide_eq_false h200]; rfl)
    rw [hv]
    have HE := Lib.hid (E0 w (Below.refl _ _))
    clear FL hno hv hcell h hcap E0
    generalize ls.length = n at *
    have hg : 200 < n := by omega
    go_enter Try.func130, Try.ntmps130
    go_wp2
    go_ret2
    exact ⟨_, rfl, HE.out, below1 _ _⟩
  cases hf : flatB ls 50
  case false =>
    have hv := hno (by unfold hullOk; rw [hf]; simp)
    rw [hv]
    rw [hf] at FL
    have HE := Lib.hid E0
    clear hno hv hcell h hcap E0 hf
    generalize ls.length = n at *
    go_enter Try.func130, Try.ntmps130
    go_wp2_with (go_at_call 129; (with_reducible refine FL.mono ?_); rintro e w' ⟨rfl, d, rfl⟩)
    go_ret2
    exact ⟨_, rfl, HE.out _ (below_draws _ _ _), below_then (below_draws w.heap.size w _) (Nat.le_refl _) (below1 _ _)⟩
  rw [hf] at FL
  have hok : hullOk ls = inB (hullR ls).length 3 12 := by unfold hullOk; rw [hf, decide_eq_true h200]; rfl
  have HOK := Lib.hid hok
  have HF := Lib.hid (fun q hq => flat_rk hf (q := q) hq)
  have H := Lib.hid h
  obtain ⟨n, hn⟩ : ∃ n, n = ls.length := ⟨_, rfl⟩
  rw [← hn] at h200 hcap FL ⊢
  have HN := Lib.hid hn
  have HC := Lib.hid hcell
  have HE := Lib.hid E0
  have HNO := Lib.hid hno
  clear hn hcell h hf hok E0 hno
  go_enter Try.func130, Try.ntmps130
  go_wp2_with (go_at_call 129; (with_reducible refine FL.mono ?_); rintro e w' ⟨rfl, d, rfl⟩)
  have HB0 := Lib.hid (below_then (below_draws w.heap.size w d) (Nat.le_refl _) (below1 (w.drewN d) (.cells #[] 30)))
  have HO0 := Lib.hid (OwnQ.lit0 (w.drewN d) w.heap.size (Nat.le_refl _))
  clear FL
  go_loopw [4, 5] (fun ov i wr => ∃ (k : Nat) (vs : List Value) (qs : List (List Int)), k ≤ n ∧ i = .int .i64 k ∧ qs.length ≤ k ∧ Hid (OwnQ wr w.heap.size ov vs qs) ∧ Hid ((ptsOf qs).Pairwise ltP) ∧ Hid (∀ z, z ∈ ptsOf qs ↔ z ∈ ptsOf (ls.take k)) ∧ Hid (∀ q, q ∈ qs → q ∈ ls) ∧ Hid (Below w.heap.size w wr)) (fun _ i _ => n - (intOf i).toNat)
  case atStart => exact ⟨0, [], [], by omega, rfl, Nat.le_refl _, HO0, Lib.hid List.Pairwise.nil, Lib.hid (fun z => by simp [ptsOf]), Lib.hid (fun q hq => by simp at hq), HB0⟩
  case round =>
    obtain ⟨k, vs, qs, hk, rfl, hql, HO, HP, HM, HS, HB⟩ := hrel
    have hwz := HB.out.size
    by_cases hlt : k < n
    case pos =>
      have hkl : k < ls.length := by rw [← HN.out]; exact hlt
      obtain ⟨b, off, V, ea, hbb, hcc⟩ := HC.out (by intro e; rw [e] at hkl; exact absurd hkl (Nat.not_lt_zero _))
      subst ea
      have ck := (HB.out.cell (p := ⟨b, off + k, none⟩) (Nat.lt_of_lt_of_le hbb hhb)).trans (hcc k hkl).1
      have ir := (hcc k hkl).2.keep HB.out hhb
      have hmem : ls.getD k [] ∈ ls := by rw [List.getD_eq_getElem?_getD, List.getElem?_eq_getElem hkl]; exact List.getElem_mem hkl
      have hrk := HF.out _ hmem
      have hrows : ∀ i, i < qs.length → (qs.getD i []).length = 2 := fun i hi => by
        have : qs.getD i [] ∈ qs := by rw [List.getD_eq_getElem?_getD, List.getElem?_eq_getElem hi]; exact List.getElem_mem hi
        exact (HF.out _ (HS.out _ this)).1
      obtain ⟨g0, c0, hu4⟩ := HO.out.2.1
      subst hu4
      have PT := l2Put_any qs (ls.getD k []) _ (V k) vs w.heap.size hb wr HO.out ir (by omega) hrk.1 hrows (by omega)
      have HTK := Lib.hid (show ∀ z, z ∈ ptsOf (ls.take (k + 1)) ↔ z = ptOf (ls.getD k []) ∨ z ∈ ptsOf (ls.take k) from fun z => by
        rw [List.take_succ_eq_append_getElem hkl, ptsOf_append, List.mem_append, List.getD_eq_getElem?_getD, List.getElem?_eq_getElem hkl]
        simp [ptsOf, or_comm])
      have HMEM := Lib.hid hmem
      have HRK := Lib.hid hrk.1
      have HRO := Lib.hid hrows
      obtain ⟨ax, cx, hvx, -⟩ := id ir
      rw [hrk.1] at hvx
      rw [hvx] at ck PT
      clear hcc hkl ir hmem hrk hrows hvx
      generalize ls.getD k [] = r at *
      go_wp2_with fail
      with_reducible refine PT.mono ?_
      rintro e w3 ⟨u, vs', qs', rfl, ho', hp', hb'⟩
      have PS := put_sorted hp' HP.out HRO.out HRK.out
      have HO' := Lib.hid ho'
      have HP' := Lib.hid PS.1
      have HM' := Lib.hid (show ∀ z, z ∈ ptsOf qs' ↔ z ∈ ptsOf (ls.take (k + 1)) from fun z => by rw [PS.2.1 z, HTK.out z, HM.out z])
      have HS' := Lib.hid (show ∀ q, q ∈ qs' → q ∈ ls from fun q hq => by
        rcases PS.2.2.1 q hq with e | e
        · rw [e]; exact HMEM.out
        · exact HS.out q e)
      have HB' := Lib.hid (HB.out.trans hb')
      have hln := PS.2.2.2
      clear PT PS ho' hp' hb' HO HP HM HS HB HTK
      go_wp2
      go_roundw
      case rel => exact ⟨k + 1, vs', qs', by omega, by go_num, by omega, HO', HP', HM', HS', HB'⟩
      case measure => simp [intOf]; omega
    case neg =>
      obtain rfl : k = n := by omega
      have HSRT := Lib.hid (show ptsOf qs = srtP (ptsOf ls) from srtP_eq HP.out fun z => by rw [HM.out z, HN.out, List.take_length])
      obtain ⟨g0, c0, hu4⟩ := HO.out.2.1
      subst hu4
      have hln : (ptsOf qs).length = qs.length := by unfold ptsOf; simp
      obtain ⟨m, hm0⟩ : ∃ m, m = qs.length := ⟨_, rfl⟩
      rw [← hm0] at hql
      have hHO := HO.out
      rw [← hm0] at hHO ⊢
      by_cases h3 : m < 3
      · have hv := HNO.out (by
          have hs := hullR_short (ls := ls) (by rw [← HSRT.out, hln, ← hm0]; exact h3)
          rw [HOK.out, inB_not]; omega)
        have HV := Lib.hid hv
        clear hv hHO hm0 hln HOK
        go_wp2
        go_ret2
        rw [HV.out]
        exact ⟨_, rfl, HE.out wr HB.out, below_then HB.out HB.out.size (below1 _ _)⟩
      · have HU := l7Hull_any qs _ wr.heap.size wr HO.out.iss (Nat.le_refl _) (fun i hi => HF.out _ (HS.out _ (by rw [List.getD_eq_getElem?_getD, List.getElem?_eq_getElem hi]; exact List.getElem_mem hi))) (by omega) (by omega)
        rw [← hm0] at HU
        rw [HSRT.out] at HU
        clear hHO HO HM HS HP hln hm0
        go_wp2_with fail
        with_reducible refine HU.mono ?_
        rintro e w3 ⟨u, L, rfl, ho, hpv, c3⟩
        have hrow : L.map (·.2) = hullR ls := by rw [rows_of_pv ho, hpv]; rfl
        have hll : L.length = (hullR ls).length := by rw [← hrow, List.length_map]
        have HI3 := Lib.hid (ho.iss c3.size)
        have HO3 := Lib.hid ho
        have HB3 := Lib.hid (below_then HB.out HB.out.size c3)
        obtain ⟨g3, cp3, hu⟩ := ho.2.1
        subst hu
        have hcp3 : L.length ≤ cp3 ∧ cp3 ≤ maxLen := by
          rcases ho.1.2 with ⟨e, -⟩ | ⟨g', cap', cur, e, hb', hg, hn', hc', hs, ht⟩
          · simp at e
          · injection e with e1 e2 e3
            subst e3
            exact ⟨hn', hc'⟩
        unfold maxLen at hcp3
        rw [hrow] at HI3
        have HROW := Lib.hid hrow
        have HLL := Lib.hid hll
        obtain ⟨q, hq⟩ : ∃ q, q = L.length := ⟨_, rfl⟩
        rw [← hq] at hcp3 HI3 hll ⊢
        rw [← hll] at HOK
        clear HU c3 ho hpv hrow hll
        cases hin : inB (q : Int) 3 12
        · have hv := HNO.out (HOK.out.trans hin)
          have HV := Lib.hid hv
          have hno := inB_not.1 hin
          clear hin hv hq
          by_cases hq3 : q < 3
          · go_wp2
            go_ret2
            rw [HV.out]
            exact ⟨_, rfl, HE.out w3 HB3.out, below_then HB3.out HB3.out.size (below1 _ _)⟩
          · have hq12 : 12 < q := by omega
            go_wp2
            go_ret2
            rw [HV.out]
            exact ⟨_, rfl, HE.out w3 HB3.out, below_then HB3.out HB3.out.size (below1 _ _)⟩
        · have hv : hullV ls = (hullR ls, true) := by unfold hullV; rw [HOK.out.trans hin]; rfl
          have HV := Lib.hid hv
          have hyes := inB_iff.1 hin
          have CP := l7Copy_any (hullR ls) _ w3.heap.size w3 HI3.out (Nat.le_refl _) (by rw [← HLL.out, ← hq]; omega) (fun i hi => by
            have : (hullR ls).getD i [] ∈ hullR ls := by rw [List.getD_eq_getElem?_getD, List.getElem?_eq_getElem hi]; exact List.getElem_mem hi
            rw [← HROW.out] at this
            obtain ⟨z, hz, e⟩ := List.mem_map.1 this
            rw [HROW.out] at e
            rw [← e, (HO3.out.2.2 z hz).2.1]; omega)
          have hq3 : ¬ q < 3 := by omega
          have hq12 : ¬ 12 < q := by omega
          clear hin hv hq hyes
          go_wp2_with fail
          with_reducible refine CP.mono ?_
          rintro e w5 ⟨u5, rfl, k5, c5⟩
          have HK5 := Lib.hid (k5.down HB3.out.size)
          have HB5 := Lib.hid (below_then HB3.out HB3.out.size c5)
          clear CP c5 k5
          go_wp2
          go_ret2
          rw [HV.out]
          exact ⟨_, rfl, HK5.out, HB5.out⟩
set_option maxRecDepth 100000 in
set_option maxHeartbeats 4000000 in
theorem specIsPolygon_any (ls : List (List Int)) (v : Value) (hb : Nat) (w : World) (h : ISSr w hb v ls) (hhb : hb ≤ w.heap.size) :
    Calls Try.prog 67 #[v] w fun e w' => e = .returned (.bool (isPolyB ls)) ∧ Below w.heap.size w w' := by
  have FL := fun d => l7Flat_any ls v hb (w.drewN d) h
  have HU := fun d => specHullOf_any ls v hb (w.drewN d) h hhb
  have W1 := fun W => l1In_any ls.length 3 12 W
  obtain ⟨a, cap, rfl, hcap, hm, hcell⟩ := id h
  have H := Lib.hid h
  clear hcell h hm
  cases h1 : inB ls.length 3 12
  case false =>
    have hr : isPolyB ls = false := by unfold isPolyB; rw [h1]; rfl
    rw [hr]
    rw [h1] at W1
    clear hr h1 FL HU hcap
    generalize ls.length = n at *
    go_enter Try.func67, Try.ntmps67
    go_wp2_with (go_at_call 68; (with_reducible refine (W1 _).mono ?_); rintro e w' ⟨rfl, rfl⟩)
    go_ret
    exact ⟨rfl, Below.refl _ _⟩
  have hlen := inB_iff.1 h1
  rw [h1] at W1
  cases hf : flatB ls 50
  case false =>
    have hr : isPolyB ls = false := isPolyB_no2 hf
    rw [hr]
    rw [hf] at FL
    have FL0 := FL 0
    clear hr h1 HU hcap FL
    generalize ls.length = n at *
    go_enter Try.func67, Try.ntmps67
    go_wp2_with (first | (go_at_call 68; (with_reducible refine (W1 _).mono ?_); rintro e w' ⟨rfl, rfl⟩) | (go_at_call 129; (refine FL0.mono ?_); rintro e w' ⟨rfl, d, rfl⟩))
    go_ret
    exact ⟨rfl, below_draws _ _ _⟩
  have hr : isPolyB ls = (hullOk ls && decide (hullR ls = ls)) := poly_hull (by omega) (by omega) hf
  rw [hr]
  rw [hf] at FL
  have FL0 := FL 0
  have HV2 := Lib.hid (show (hullV ls).2 = hullOk ls by unfold hullV; cases hullOk ls <;> rfl)
  have HV1 := Lib.hid (fun (h : hullOk ls = true) => (show (hullV ls).1 = hullR ls by unfold hullV; rw [h]; rfl))
  clear hr h1 FL hf hlen hcap
  generalize hn : ls.length = n at W1 FL0 HU ⊢
  have HN := Lib.hid hn.symm
  clear hn
  go_enter Try.func67, Try.ntmps67
  go_wp2_with (first | (go_at_call 68; (with_reducible refine (W1 _).mono ?_); rintro e w' ⟨rfl, rfl⟩) | (go_at_call 129; (refine FL0.mono ?_); rintro e w' ⟨rfl, d, rfl⟩))
  have HUd := HU d
  rw [HV2.out] at HUd
  with_reducible refine HUd.mono ?_
  rintro e w3 ⟨u, rfl, ho, c3⟩
  have HB3 := Lib.hid (below_then (below_draws w.heap.size w d) (Nat.le_refl _) c3)
  clear HU HUd c3 FL0
  cases hok : hullOk ls
  case false =>
    have HOK := Lib.hid hok
    go_wp2
    go_ret
    exact ⟨ret_bool (by rw [HOK.out]; rfl), HB3.out⟩
  case true =>
    rw [HV1.out hok] at ho
    have HOK := Lib.hid hok
    have SL := l7SameList_any (hullR ls) ls _ _ w3.heap.size hb w3 ho.is.read (H.out.keep HB3.out hhb)
    clear ho
    obtain ⟨b, hb⟩ : ∃ b, decide (hullR ls = ls) = b := ⟨_, rfl⟩
    rw [hb] at SL
    have HBB := Lib.hid hb
    clear hb hok
    go_wp2_with fail
    rw [← HN.out] at SL
    with_reducible refine SL.mono ?_
    rintro e w4 ⟨rfl, d4, rfl⟩
    go_wp2
    go_ret
    exact ⟨ret_bool (by rw [HOK.out, HBB.out]; simp), HB3.out.trans (below_draws _ _ _)⟩
end Go.Proofs.Ytehhoplenloocaa
