/- DilatePolygon: the walks. -/
import Derived.Test.YtcofkjnkdfibfaaTimes
import Derived.Test.YtcofkjnkdfibfaaPlD
namespace Go.Proofs.Ytcofkjnkdfibfaa
open Go.RowKit
set_option linter.unusedVariables false
set_option linter.unusedSimpArgs false

def dilV (ls : List (List Int)) (t : Int) : List (List Int) × Bool := if isPolyB ls && (inB t 1 50 && isPolyB (timesL ls t)) then (timesL ls t, true) else ([], false)
theorem dilV_no1 {ls : List (List Int)} {t : Int} (h : isPolyB ls = false) : dilV ls t = ([], false) := by unfold dilV; rw [h]; rfl
theorem dilV_no2 {ls : List (List Int)} {t : Int} (h : inB t 1 50 = false) : dilV ls t = ([], false) := by unfold dilV; rw [h]; simp
theorem dilV_no3 {ls : List (List Int)} {t : Int} (h : isPolyB (timesL ls t) = false) : dilV ls t = ([], false) := by unfold dilV; rw [h]; simp
theorem dilV_yes {ls : List (List Int)} {t : Int} (h1 : isPolyB ls = true) (h2 : inB t 1 50 = true) (h3 : isPolyB (timesL ls t) = true) : dilV ls t = (timesL ls t, true) := by unfold dilV; rw [h1, h2, h3]; rfl
theorem row2 {r : List Int} (h : r.length = 2) : ∃ x y, r = [x, y] := by
  match r, h with
  | [x, y], _ => exact ⟨x, y, rfl⟩
theorem timesL_len (ls : List (List Int)) (t : Int) : (timesL ls t).length = ls.length := by simp [timesL]
theorem timesL_at (ls : List (List Int)) (t : Int) (k : Nat) (hk : k < ls.length) : (timesL ls t).getD k [] = (ls.getD k []).map (· * t) := by
  unfold timesL
  rw [List.getD_eq_getElem?_getD, List.getElem?_map, List.getElem?_eq_getElem hk, List.getD_eq_getElem?_getD, List.getElem?_eq_getElem hk]; rfl
theorem inB_of_all {r : List Int} {lo hi : Int} (h : allIn r lo hi = true) {k : Nat} (hk : k < r.length) : lo ≤ r.getD k 0 ∧ r.getD k 0 ≤ hi := by
  have := List.all_eq_true.1 h (r.getD k 0) (by rw [List.getD_eq_getElem?_getD, List.getElem?_eq_getElem hk]; exact List.getElem_mem hk)
  exact inB_iff.1 this
/-- a great factor: too great a corner -/
theorem big_times {ls : List (List Int)} {t : Int} (hp : isPolyB ls = true) (ht : 51 ≤ t) : isPolyB (timesL ls t) = false := by
  cases hq : isPolyB (timesL ls t)
  · rfl
  exfalso
  obtain ⟨h3, h12, hf⟩ := isPoly_parts hp
  obtain ⟨g3, g12, gf⟩ := isPoly_parts hq
  have hz : ∀ k, k < ls.length → pf ls k = (0, 0) := by
    intro k hk
    have a := flat_at hf hk
    have b := flat_at gf (k := k) (by rw [timesL_len]; exact hk)
    rw [timesL_at ls t k hk] at b
    obtain ⟨x, y, e⟩ := row2 a.1
    unfold pf ptOf
    rw [e] at a b ⊢
    have bx := inB_of_all b.2 (k := 0) (by simp)
    have by' := inB_of_all b.2 (k := 1) (by simp)
    simp at bx by'
    have hx : x = 0 := by
      rcases Int.lt_trichotomy x 0 with g | g | g
      · have := Int.mul_le_mul_of_nonneg_right (show x ≤ -1 by omega) (show 0 ≤ t by omega); omega
      · exact g
      · have := Int.mul_le_mul_of_nonneg_right (show 1 ≤ x by omega) (show 0 ≤ t by omega); omega
    have hy : y = 0 := by
      rcases Int.lt_trichotomy y 0 with g | g | g
      · have := Int.mul_le_mul_of_nonneg_right (show y ≤ -1 by omega) (show 0 ≤ t by omega); omega
      · exact g
      · have := Int.mul_le_mul_of_nonneg_right (show 1 ≤ y by omega) (show 0 ≤ t by omega); omega
    rw [hx, hy]; rfl
  have hL : locB ls.length (pf ls) = true := by
    unfold isPolyB at hp; simp only [Bool.and_eq_true] at hp; exact hp.2.2
  have := ((locB_iff h3).1 hL).least 1 (by omega) (by omega)
  rw [hz 0 (by omega), hz 1 (by omega)] at this
  exact absurd this (by decide)

theorem mul_dil {a t : Int} (ha : -50 ≤ a) (ha' : a ≤ 50) (ht : 1 ≤ t) (ht' : t ≤ 1000) : -50000 ≤ a * t ∧ a * t ≤ 50000 := by
  have h1 := Int.mul_le_mul_of_nonneg_right ha (show 0 ≤ t by omega)
  have h2 := Int.mul_le_mul_of_nonneg_right ha' (show 0 ≤ t by omega)
  omega
set_option maxRecDepth 100000 in
set_option maxHeartbeats 4000000 in
theorem implDilate_any (ls : List (List Int)) (v : Value) (t : Int) (hb : Nat) (w : World) (h : ISSr w hb v ls) (hhb : hb ≤ w.heap.size) :
    Calls Try.prog 15 #[v, .int .i64 t] w fun e w' => ∃ u, e = .returned (.tuple #[u, .bool (dilV ls t).2]) ∧ ISS w' w.heap.size w'.heap.size u (dilV ls t).1 ∧ Below w.heap.size w w' := by
  have IP := implIsPolygon_any ls v hb w h hhb
  cases hp : isPolyB ls
  case false =>
    rw [dilV_no1 hp]
    rw [hp] at IP
    clear h hp
    go_enter Try.func15, Try.ntmps15
    go_wp2_with (go_at_call 49; (with_reducible refine IP.mono ?_); rintro e w1 ⟨rfl, c1⟩)
    go_ret2
    exact ⟨_, rfl, ISS.nil _ _ _, c1⟩
  rw [hp] at IP
  have hw := within_any t 1 50
  cases ht : inB t 1 50
  case false =>
    rw [dilV_no2 ht]
    rw [ht] at hw
    clear h hp ht
    go_enter Try.func15, Try.ntmps15
    go_wp2_with (first | (go_at_call 49; (with_reducible refine IP.mono ?_); rintro e w1 ⟨rfl, c1⟩) | (go_at_call 50; (with_reducible refine (hw _).mono ?_); rintro e w' ⟨rfl, rfl⟩))
    go_ret2
    exact ⟨_, rfl, ISS.nil _ _ _, c1⟩
  rw [ht] at hw
  obtain ⟨h3, h12, hf⟩ := isPoly_parts hp
  have hfl : ∀ i, i < ls.length → (ls.getD i []).length = 2 ∧ allIn (ls.getD i []) (-50) 50 = true := fun i hi => flat_at hf hi
  have CP := fun W (HB : Below w.heap.size w W) => copyPoints_any ls v hb W (h.keep HB hhb) (Nat.le_trans hhb HB.size) (by omega) (fun i hi => by rw [(hfl i hi).1]; omega)
  have HV : Hid (isPolyB (timesL ls t) = false → dilV ls t = ([], false)) := Lib.hid dilV_no3
  have HY : Hid (isPolyB (timesL ls t) = true → dilV ls t = (timesL ls t, true)) := Lib.hid fun e => dilV_yes hp ht e
  obtain ⟨ht1, ht2⟩ := inB_iff.1 ht
  obtain ⟨av, cv, rfl, -⟩ := id h
  have HR := Lib.hid hfl
  obtain ⟨n, hn⟩ : ∃ n, n = ls.length := ⟨_, rfl⟩
  rw [← hn] at h3 h12 HR CP IP ⊢
  have HN := Lib.hid hn
  have HEND := Lib.hid (curT_end ls t)
  clear h hp ht hf hfl hn
  go_enter Try.func15, Try.ntmps15
  go_wp2_with (first | (go_at_call 49; (with_reducible refine IP.mono ?_); rintro e w0 ⟨rfl, c0⟩) | (go_at_call 50; (with_reducible refine (hw _).mono ?_); rintro e w' ⟨rfl, rfl⟩) | (go_at_call 51; (with_reducible refine (CP w0 c0).mono ?_); rintro e w1 ⟨u, rfl, ku, c1⟩; obtain ⟨b, off, cap, V, rfl, hlo, hhi, hnc, hcm, hrw⟩ := RowsW.of ku.is (by rw [← HN.out]; omega)))
  have hsz := Nat.le_trans c0.size c1.size
  have B1 := Lib.hid (below_then c0 c0.size c1)
  have hsz0 := c0.size
  rw [← HN.out] at hnc hrw
  rw [← HN.out]
  have HRW := Lib.hid hrw
  clear ku c1 c0 CP hrw IP hw
  go_wp2
  go_loopw [8, 21] (fun _ i wr => ∃ (k : Nat), k ≤ n ∧ i = .int .i64 k ∧ Hid (RowsW wr w0.heap.size w1.heap.size b off n V (curT ls t k 0)) ∧ Hid (Only w0.heap.size w1.heap.size w1 wr)) (fun _ i _ => n - (intOf i).toNat)
  case atStart => exact ⟨0, by omega, rfl, Lib.hid (HRW.out.congr fun i hi => by unfold curT; rw [if_neg (Nat.not_lt_zero _)]; split <;> simp [scaleTo_zero]), Only.refl _ _ _⟩
  case round =>
    obtain ⟨k, hk, rfl, hrw, hon⟩ := hrel
    by_cases hlt : k < n
    · have hck := hrw.out.outer.cell hlt
      obtain ⟨h2, ha⟩ := HR.out k hlt
      have hcur : curT ls t k 0 k = ls.getD k [] := by unfold curT; rw [if_neg (Nat.lt_irrefl _), if_pos rfl, scaleTo_zero]
      obtain ⟨br, or', cr, hV, g1, g2, g3, g4⟩ := hrw.out.at hlt (by rw [hcur, h2]; omega)
      rw [hcur, h2] at hV
      have a0 := inB_of_all ha (k := 0) (by omega)
      have a1 := inB_of_all ha (k := 1) (by omega)
      have m0 := mul_dil a0.1 a0.2 ht1 (by omega)
      have m1 := mul_dil a1.1 a1.2 ht1 (by omega)
      obtain ⟨s1, s2, s3, s4⟩ := hrw.out.set hlt hV (c := 0) (by rw [hcur]; omega) ((ls.getD k []).getD 0 0 * t)
      have hcur1 : ∀ i, i < n → (if i = k then (curT ls t k 0 k).set 0 ((ls.getD k []).getD 0 0 * t) else curT ls t k 0 i) = curT ls t k 1 i := fun i hi => by
        by_cases e : i = k
        · subst e; rw [if_pos rfl, hcur]; rw [show curT ls t i 1 i = scaleTo (ls.getD i []) t 1 by unfold curT; rw [if_neg (Nat.lt_irrefl _), if_pos rfl], ← scaleTo_set _ _ 0 (by omega), scaleTo_zero]
        · rw [if_neg e]; unfold curT; rw [if_neg e, if_neg e]
      have s1 := s1.congr hcur1
      have hc1 : curT ls t k 1 k = scaleTo (ls.getD k []) t 1 := by unfold curT; rw [if_neg (Nat.lt_irrefl _), if_pos rfl]
      obtain ⟨r1, r2, r3, r4⟩ := s1.set hlt hV (c := 1) (by rw [hc1, scaleTo_len]; omega) ((ls.getD k []).getD 1 0 * t)
      have r1 := r1.congr (cur' := curT ls t (k + 1) 0) fun i hi => by
        unfold curT
        by_cases e : i = k
        · subst e; rw [if_pos rfl, if_pos (Nat.lt_succ_self _), if_neg (Nat.lt_irrefl _), if_pos rfl, scaleTo_set _ _ _ (by omega), show (1 + 1 : Nat) = (ls.getD i []).length from h2.symm, scaleTo_full]
        · by_cases e2 : i < k
          · rw [if_neg e, if_pos e2, if_pos (by omega)]
          · rw [if_neg e, if_neg e2, if_neg e, if_neg (by omega)]
            split <;> simp [scaleTo_zero]
      rw [hcur] at s3
      rw [hc1, scaleTo_at _ _ _ (by omega)] at r3
      rw [Nat.add_zero] at s1 s2 s3 s4 r1 r2 r3 r4
      have HS1 := Lib.hid r1
      have HS2 := Lib.hid ((hon.out.trans s2).trans r2)
      rw [hV] at hck
      have f1 := wr64 _ (show _ from ⟨Int.le_trans (by decide) m0.1, Int.le_trans m0.2 (by decide)⟩)
      have f2 := wr64 _ (show _ from ⟨Int.le_trans (by decide) m1.1, Int.le_trans m1.2 (by decide)⟩)
      clear s1 s2 r1 r2 hcur hcur1 hc1 m0 m1 a0 a1 ha h2 g4 hV
      generalize (ls.getD k []).getD 0 0 = x at *
      generalize (ls.getD k []).getD 1 0 = y at *
      go_wp2
      go_roundw
      case rel => exact ⟨k + 1, by omega, by go_num, HS1, HS2⟩
      case measure => simp [intOf]; omega
    · obtain rfl : k = n := by omega
      have hsz2 := hon.out.size
      have HI := Lib.hid ((hrw.out.iss hnc hcm hlo hhi).mono hsz0 hsz2)
      rw [show (List.range k).map (curT ls t k 0) = timesL ls t by rw [HN.out]; exact HEND.out] at HI
      have HBB := Lib.hid (B1.out.trans ((hon.out.below (Nat.le_trans hlo (Nat.le_of_lt hhi))).mono hsz0))
      have IQ := implIsPolygon_any _ _ _ wr HI.out.read (Nat.le_refl _)
      cases hq : isPolyB (timesL ls t)
      · have HF := HV.out hq
        rw [hq] at IQ
        go_wp2_with (go_at_call 49; (with_reducible refine IQ.mono ?_); rintro e w3 ⟨rfl, c3⟩)
        go_ret2
        rw [HF]
        exact ⟨_, rfl, ISS.nil _ _ _, below_then HBB.out HBB.out.size c3⟩
      · have HF := HY.out hq
        rw [hq] at IQ
        go_wp2_with (go_at_call 49; (with_reducible refine IQ.mono ?_); rintro e w3 ⟨rfl, c3⟩)
        go_ret2
        rw [HF]
        exact ⟨_, rfl, (HI.out.keep c3 (Nat.le_refl _)).mono (Nat.le_refl _) c3.size, below_then HBB.out HBB.out.size c3⟩
set_option maxRecDepth 100000 in
set_option maxHeartbeats 4000000 in
theorem specDilate_any (ls : List (List Int)) (v : Value) (t : Int) (hb : Nat) (w : World) (h : ISSr w hb v ls) (hhb : hb ≤ w.heap.size) :
    Calls Try.prog 13 #[v, .int .i64 t] w fun e w' => ∃ u, e = .returned (.tuple #[u, .bool (dilV ls t).2]) ∧ ISS w' w.heap.size w'.heap.size u (dilV ls t).1 ∧ Below w.heap.size w w' := by
  obtain ⟨i0, hi0, hz0, hz1, hz2⟩ := info_parts info_ints
  have HI0 := Lib.hid hi0; clear hi0
  have HZ0 := Lib.hid hz0; clear hz0
  have HZ1 := Lib.hid hz1; clear hz1
  have HZ2 := Lib.hid hz2; clear hz2
  have IP := specIsPolygon_any ls v hb w h hhb
  cases hp : isPolyB ls
  case false =>
    rw [dilV_no1 hp]
    rw [hp] at IP
    clear h hp
    go_enter Try.func13, Try.ntmps13
    go_wp2_with (go_at_call 45; (with_reducible refine IP.mono ?_); rintro e w1 ⟨rfl, c1⟩)
    go_ret2
    exact ⟨_, rfl, ((OwnL.lit0 w1 w1.heap.size (Nat.le_refl _)).is).mono c1.size (Nat.le_refl _), below_then c1 c1.size (below1 _ _)⟩
  rw [hp] at IP
  have hw := l1In_any t 1 1000
  cases ht : inB t 1 1000
  case false =>
    have : inB t 1 50 = false := by rw [inB_not] at ht ⊢; omega
    rw [dilV_no2 this]
    rw [ht] at hw
    clear h hp ht this
    go_enter Try.func13, Try.ntmps13
    go_wp2_with (first | (go_at_call 45; (with_reducible refine IP.mono ?_); rintro e w1 ⟨rfl, c1⟩) | (go_at_call 46; (with_reducible refine (hw _).mono ?_); rintro e w' ⟨rfl, rfl⟩))
    go_ret2
    exact ⟨_, rfl, ((OwnL.lit0 w1 w1.heap.size (Nat.le_refl _)).is).mono c1.size (Nat.le_refl _), below_then c1 c1.size (below1 _ _)⟩
  rw [ht] at hw
  obtain ⟨h3, h12, hf⟩ := isPoly_parts hp
  obtain ⟨ht1, ht2⟩ := inB_iff.1 ht
  have HV : Hid (isPolyB (timesL ls t) = false → dilV ls t = ([], false)) := Lib.hid dilV_no3
  have HY : Hid (isPolyB (timesL ls t) = true → dilV ls t = (timesL ls t, true)) := Lib.hid fun e => by
    refine dilV_yes hp ?_ e
    rw [inB_iff]
    refine ⟨ht1, ?_⟩
    rcases Int.lt_or_le 50 t with g | g
    · rw [big_times hp (by omega)] at e; cases e
    · exact g
  obtain ⟨a, cap, rfl, -, -, hcell⟩ := id h
  have HR := Lib.hid (fun i hi => flat_at hf (k := i) hi)
  obtain ⟨n, hn⟩ : ∃ n, n = ls.length := ⟨_, rfl⟩
  rw [← hn] at h3 h12 IP ⊢
  have HN := Lib.hid hn
  have HC := Lib.hid hcell
  have HHB := Lib.hid hhb
  clear h hp ht hf hn hcell
  go_enter Try.func13, Try.ntmps13
  go_wp2_with (first | (go_at_call 45; (with_reducible refine IP.mono ?_); rintro e w0 ⟨rfl, c0⟩) | (go_at_call 46; (with_reducible refine (hw _).mono ?_); rintro e w' ⟨rfl, rfl⟩))
  have HO0 := Lib.hid (OwnL.lit0 w0 w.heap.size c0.size)
  have HB0 := Lib.hid (below_then c0 c0.size (below1 w0 (.cells #[] 29)))
  clear c0 IP hw
  go_loopw [6, 7] (fun ov i wr => ∃ (k : Nat) (acc : List (List Int)), k ≤ n ∧ i = .int .i64 k ∧ acc.length ≤ k ∧ Hid (acc = (ls.take k).map fun r => r.map (· * t)) ∧ Hid (OwnL wr w.heap.size ov acc) ∧ Hid (Below w.heap.size w wr)) (fun _ i _ => n - (intOf i).toNat)
  case atStart => exact ⟨0, [], by omega, rfl, Nat.le_refl _, Lib.hid (by simp), HO0, HB0⟩
  case round =>
    obtain ⟨k, acc, hk, rfl, hal, hacc, hown, hbe⟩ := hrel
    by_cases hlt : k < n
    · have hkl : k < ls.length := by rw [← HN.out]; exact hlt
      obtain ⟨b, off, V0, rfl, hbb, hcc⟩ := HC.out (by intro e; rw [e] at hkl; exact absurd hkl (Nat.not_lt_zero _))
      have hck := (hbe.out.cell (p := ⟨b, off + k, none⟩) (Nat.lt_of_lt_of_le hbb HHB.out)).trans (hcc k hkl).1
      have hrow := (hcc k hkl).2.keep hbe.out HHB.out
      have HE : (ls.take k).map (fun r => r.map (· * t)) ++ [(ls.getD k []).map (· * t)] = (ls.take (k + 1)).map (fun r => r.map (· * t)) := map_snocL (fun r => r.map (· * t)) ls k hkl
      rw [← hacc.out] at HE
      have HE := Lib.hid HE
      obtain ⟨h2, ha⟩ := HR.out k hkl
      have CP := l2Scale_any (ls.getD k []) (V0 k) t hb wr hrow (Nat.le_trans HHB.out hbe.out.size) (by omega) (fun j hj => by
        have := inB_of_all ha hj
        have := mul_dil this.1 this.2 ht1 ht2
        omega)
      have hbs := hbe.out.size
      have HRL := Lib.hid (show ((ls.getD k []).map (· * t)).length = 2 by rw [List.length_map, h2])
      clear hcc hkl hrow ha h2
      generalize (ls.getD k []).map (· * t) = r at *
      generalize V0 k = xk at *
      go_wp2_with fail
      with_reducible refine CP.mono ?_
      rintro e w2 ⟨u, rfl, ku, c2⟩
      have HK := Lib.hid ku
      obtain ⟨V, p, hpt⟩ := hown.out.part c2
      have HPT := Lib.hid hpt
      have HB2 := Lib.hid (below_then hbe.out hbs c2)
      have hs2 := c2.size
      obtain ⟨au, cu, rfl, -⟩ := id ku
      clear hpt ku c2 CP
      go_wp2_with (at_builtin; refine wpList_append_own _ rfl _ _ 22 rfl w.heap.size 29 i0 (.slice none 0 0) 1 24 Try.underlying22 HI0.out HZ0.out HZ1.out HZ2.out rfl (by decide) _ _ _ rfl (HPT.out.alloc _) ⟨w2.heap.size, 0, none⟩ 1 1 [.slice au r.length cu] rfl rfl ?c1 ?c2 ?c3 ?c4 ?c5 ?_)
      case c1 => exact cell_one_new _ _ _
      case c2 => first | rfl | (intro u hu; simp at hu; subst hu; rfl)
      case c3 => unfold maxLen; omega
      case c4 => omega
      case c5 => first | omega | (simp; omega)
      intro v2 w3 hown2 hgrow _
      have HO := Lib.hid (HPT.out.push HK.out (Nat.le_refl _) hs2 (Nat.le_refl _) hgrow hown2)
      have HBE := Lib.hid (OwnLp.below HB2.out (by omega) _ hgrow HPT.out (Nat.le_refl _))
      clear hown2 hgrow
      go_wp2
      go_roundw
      case rel => exact ⟨k + 1, _, by omega, by go_num, by simp; omega, HE, HO, HBE⟩
      case measure => simp [intOf]; omega
    · obtain rfl : k = n := by omega
      have hfin : acc = timesL ls t := by rw [hacc.out, HN.out, List.take_length]; rfl
      subst hfin
      have IQ := specIsPolygon_any _ _ wr.heap.size wr hown.out.is.read (Nat.le_refl _)
      cases hq : isPolyB (timesL ls t)
      · have HF := HV.out hq
        rw [hq] at IQ
        go_wp2_with (go_at_call 45; (with_reducible refine IQ.mono ?_); rintro e w3 ⟨rfl, c3⟩)
        have B3 := below_then hbe.out hbe.out.size c3
        go_ret2
        rw [HF]
        exact ⟨_, rfl, ((OwnL.lit0 w3 w3.heap.size (Nat.le_refl _)).is).mono B3.size (Nat.le_refl _), below_then B3 B3.size (below1 _ _)⟩
      · have HF := HY.out hq
        rw [hq] at IQ
        go_wp2_with (go_at_call 45; (with_reducible refine IQ.mono ?_); rintro e w3 ⟨rfl, c3⟩)
        go_ret2
        rw [HF]
        exact ⟨_, rfl, (hown.out.is.keep c3 (Nat.le_refl _)).mono (Nat.le_refl _) c3.size, below_then hbe.out hbe.out.size c3⟩
end Go.Proofs.Ytcofkjnkdfibfaa
