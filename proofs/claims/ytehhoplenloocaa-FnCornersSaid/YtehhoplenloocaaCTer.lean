/- CornerTerms: the walks. -/
import Derived.Test.YtehhoplenloocaaAppT
import Derived.Test.YtehhoplenloocaaCor
import Derived.Test.YtehhoplenloocaaB7
namespace Go.Proofs.Ytehhoplenloocaa
open Go.RowKit
set_option linter.unusedVariables false
set_option linter.unusedSimpArgs false

def ctS (ls : List (List Int)) (k : Nat) : List TermL × Bool := serC (corV ls (k : Int)).1.1 (corV ls (k : Int)).1.2 (ls.getD k [])
def ctOk (ls : List (List Int)) (k : Nat) : Bool := (corV ls (k : Int)).2 && (ctS ls k).2
def ctK (ls : List (List Int)) : Nat → List TermL
  | 0 => []
  | k + 1 => ctK ls k ++ (ctS ls k).1
def ctAll (ls : List (List Int)) (k : Nat) : Bool := (List.range k).all fun j => ctOk ls j
def ctV (ls : List (List Int)) : List TermL × Bool := if isPolyB ls && (ctAll ls ls.length && decide ((ctK ls ls.length).length ≤ 60)) then (ctK ls ls.length, true) else ([], false)
theorem ctAll_step (ls : List (List Int)) (k : Nat) : ctAll ls (k + 1) = (ctAll ls k && ctOk ls k) := by
  unfold ctAll; rw [List.range_succ, List.all_append]; simp
theorem ctV_bad {ls : List (List Int)} {k : Nat} (hk : k < ls.length) (h : ctOk ls k = false) : ctV ls = ([], false) := by
  have : ctAll ls ls.length = false := by
    unfold ctAll; rw [List.all_eq_false]; exact ⟨k, List.mem_range.2 hk, by simp [h]⟩
  unfold ctV; rw [this]; simp
theorem ctV_poly {ls : List (List Int)} (h : isPolyB ls = false) : ctV ls = ([], false) := by unfold ctV; rw [h]; rfl
theorem ctV_long {ls : List (List Int)} (h : ¬ (ctK ls ls.length).length ≤ 60) : ctV ls = ([], false) := by unfold ctV; rw [decide_eq_false h]; simp
theorem ctV_yes {ls : List (List Int)} (h1 : isPolyB ls = true) (h2 : ctAll ls ls.length = true) (h3 : (ctK ls ls.length).length ≤ 60) : ctV ls = (ctK ls ls.length, true) := by unfold ctV; rw [h1, h2, decide_eq_true h3]; rfl
theorem ctK_len (ls : List (List Int)) : ∀ k, (ctK ls k).length ≤ 60 * k
  | 0 => Nat.le_refl _
  | k + 1 => by
    have h1 := ctK_len ls k
    have h2 := (serC_tot (corV ls (k : Int)).1.1 (corV ls (k : Int)).1.2 (ls.getD k [])).2
    rw [show ctK ls (k + 1) = ctK ls k ++ (ctS ls k).1 from rfl, List.length_append]
    unfold ctS
    omega
theorem ctOk_poly {ls : List (List Int)} {k : Nat} (h : (corV ls (k : Int)).2 = true) : isPolyB ls = true := by
  cases hp : isPolyB ls
  · rw [corV_no (by unfold corOk; rw [hp]; rfl)] at h; cases h
  · rfl
theorem mtK_l (a b : List TermL) : ∀ k, k ≤ a.length → mtK (a ++ b) k = mtK a k
  | 0, _ => by simp [mtK]
  | k + 1, h => by
    rw [show mtK (a ++ b) (k + 1) = mtK (a ++ b) k + mk1 ((a ++ b).getD k t0) from rfl, show mtK a (k + 1) = mtK a k + mk1 (a.getD k t0) from rfl, mtK_l a b k (by omega), getD_app_l (by omega)]
theorem mtK_r (a b : List TermL) : ∀ k, k ≤ b.length → mtK (a ++ b) (a.length + k) = mtK a a.length + mtK b k
  | 0, _ => by rw [Nat.add_zero, mtK_l a b _ (Nat.le_refl _)]; simp [mtK]
  | k + 1, h => by
    rw [show mtK (a ++ b) (a.length + (k + 1)) = mtK (a ++ b) (a.length + k) + mk1 ((a ++ b).getD (a.length + k) t0) from rfl, show mtK b (k + 1) = mtK b k + mk1 (b.getD k t0) from rfl, mtK_r a b k (by omega), getD_app_r (by omega), Nat.add_sub_cancel_left, Nat.add_assoc]
theorem ctK_mt (ls : List (List Int)) : ∀ k, mtT (ctK ls k) ≤ 1000 * k
  | 0 => by simp [ctK, mtT, mtK]
  | k + 1 => by
    have h1 := ctK_mt ls k
    have h2 := (serC_tot (corV ls (k : Int)).1.1 (corV ls (k : Int)).1.2 (ls.getD k [])).1
    have e : mtT (ctK ls (k + 1)) = mtT (ctK ls k) + mtT (ctS ls k).1 := by
      rw [show ctK ls (k + 1) = ctK ls k ++ (ctS ls k).1 from rfl]
      unfold mtT
      rw [List.length_append, mtK_r _ _ _ (Nat.le_refl _)]
    unfold ctS at e
    omega
theorem ctV_tot (ls : List (List Int)) : mtT (ctV ls).1 ≤ 12000 ∧ (ctV ls).1.length ≤ 60 := by
  cases h : isPolyB ls && (ctAll ls ls.length && decide ((ctK ls ls.length).length ≤ 60))
  · unfold ctV; rw [h]; simp [mtT, mtK]
  · unfold ctV; rw [h]; simp only [if_true]
    simp only [Bool.and_eq_true, decide_eq_true_eq] at h
    have h12 := (isPoly_parts h.1).2.1
    have := ctK_mt ls ls.length
    exact ⟨by omega, h.2.2⟩
set_option maxRecDepth 100000 in
set_option maxHeartbeats 8000000 in
theorem implCornerTerms_any (ls : List (List Int)) (v : Value) (hb : Nat) (w : World) (h : ISSr w hb v ls) (hhb : hb ≤ w.heap.size) :
    Calls Try.prog 42 #[v] w fun e w' => ∃ u, e = .returned (.tuple #[u, .bool (ctV ls).2]) ∧ TS w' w.heap.size w'.heap.size u (ctV ls).1 ∧ Below w.heap.size w w' := by
  have IP := implIsPolygon_any ls v hb w h hhb
  cases hp : isPolyB ls
  case false =>
    rw [ctV_poly hp]
    rw [hp] at IP
    clear h hp
    go_enter Try.func42, Try.ntmps42
    go_wp2_with (go_at_call 64; (with_reducible refine IP.mono ?_); rintro e w1 ⟨rfl, c1⟩)
    go_ret2
    exact ⟨_, rfl, TS.nil _ _ _, c1⟩
  rw [hp] at IP
  obtain ⟨h3, h12, hf⟩ := isPoly_parts hp
  have CCH := Lib.hid (fun (k : Nat) W (HB : Below w.heap.size w W) => implCornerCone_any ls (k : Int) v hb W (h.keep HB hhb) (Nat.le_trans hhb HB.size))
  obtain ⟨n, hn⟩ : ∃ n, n = ls.length := ⟨_, rfl⟩
  obtain ⟨a, cap, rfl, hcap, hm, hcell⟩ := id h
  unfold maxLen at hm
  have HBAD := Lib.hid (fun k (hk : k < n) h => ctV_bad (ls := ls) (k := k) (by rw [← hn]; exact hk) h)
  have HLONG := Lib.hid (fun h => ctV_long (ls := ls) h)
  have HPOLY := Lib.hid (fun k h => ctOk_poly (ls := ls) (k := k) h)
  have HTW := Lib.hid (fun (h : isPolyB ls = true) => (isPoly_parts h).2.1)
  have HYES := Lib.hid (fun (hp : isPolyB ls = true) h1 h2 => ctV_yes (ls := ls) hp h1 h2)
  have HNP := Lib.hid (fun (hp : isPolyB ls = false) => ctV_poly (ls := ls) hp)
  have HKL := Lib.hid (ctK_len ls)
  rw [← hn] at hcap HLONG HYES HTW IP h3 h12 ⊢
  have HN := Lib.hid hn
  have HC := Lib.hid hcell
  have HHB := Lib.hid hhb
  have hn63 : n ≤ 9223372036854775807 := by omega
  have HP := Lib.hid hp
  clear hp hf
  clear h hn hcell hcap
  go_enter Try.func42, Try.ntmps42
  go_wp2_with (go_at_call 64; (with_reducible refine IP.mono ?_); rintro e w1 ⟨rfl, c1⟩)
  have C1 := Lib.hid c1
  clear IP c1
  go_loopw [4, 16] (fun ov i wr => ∃ (k : Nat) (V2 V3 : Nat → Value) (m : Nat), k ≤ n ∧ i = .int .i64 k ∧ Hid (ctAll ls k = true) ∧ Hid (OwnTp wr w.heap.size ov (ctK ls k) V2 V3 m) ∧ Hid (Below w.heap.size w wr)) (fun _ i _ => n - (intOf i).toNat)
  case atStart => exact ⟨0, fun _ => .slice none 0 0, fun _ => .slice none 0 0, w1.heap.size, by omega, rfl, Lib.hid rfl, Lib.hid (OwnTp.nil _ _ _ _ _ (Nat.le_refl _)), C1⟩
  case round =>
    obtain ⟨k, V2, V3, m, hk, rfl, HA, HO, HB⟩ := hrel
    by_cases hlt : k < n
    · have hkl : k < ls.length := by rw [← HN.out]; exact hlt
      obtain ⟨b, off, V, rfl, hbb, hcc⟩ := HC.out (by intro e; rw [e] at hkl; exact absurd hkl (Nat.not_lt_zero _))
      have hbw : b < w.heap.size := by omega
      have CK := Lib.hid (fun W (B : Below w.heap.size w W) => (B.cell (p := ⟨b, off + k, none⟩) hbw).trans (hcc k hkl).1)
      have RK := Lib.hid (fun W (B : Below w.heap.size w W) => (hcc k hkl).2.keep B HHB.out)
      have ck := CK.out wr HB.out
      have CC := CCH.out k wr HB.out
      rw [← HN.out] at CC
      have HOK := Lib.hid (show ctOk ls k = ((corV ls (k : Int)).2 && (serC (corV ls (k : Int)).1.1 (corV ls (k : Int)).1.2 (ls.getD k [])).2) from rfl)
      have HST := Lib.hid (show ctK ls (k + 1) = ctK ls k ++ (serC (corV ls (k : Int)).1.1 (corV ls (k : Int)).1.2 (ls.getD k [])).1 from rfl)
      have HAS := Lib.hid (ctAll_step ls k)
      have HPK := Lib.hid (HPOLY.out k)
      have HTT := Lib.hid (serC_tot (corV ls (k : Int)).1.1 (corV ls (k : Int)).1.2 (ls.getD k [])).2
      have HL0 := Lib.hid (HKL.out k)
      clear hcc hkl
      generalize corV ls (k : Int) = R at *
      obtain ⟨⟨U, C⟩, ok⟩ := R
      dsimp only at CC HOK HST HPK HTT
      generalize ls.getD k [] = X at *
      generalize V k = vk at *
      have hik : (0 : Int) ≤ (k : Int) := by omega
      have hikn : (k : Int) < (n : Int) := by omega
      have hto : ((k : Int)).toNat = k := by omega
      go_wp2_with fail
      with_reducible refine CC.mono ?_
      rintro e w2 ⟨u1, u2, rfl, kc, c2⟩
      obtain ⟨a1, p1, rfl, -⟩ := id kc.fstR
      obtain ⟨a2, p2, rfl, -⟩ := id kc.sndR
      have c3 := below1 w2 (.cells #[.slice a1 U.length p1, .slice a2 C.length p2] 62)
      have Y3 := box2_new w2 (.slice a1 U.length p1) (.slice a2 C.length p2) 62
      have c23 := c2.trans (c3.mono c2.size)
      have B3 := Lib.hid (below_then HB.out HB.out.size c23)
      have O3 := Lib.hid (HO.out.keep (c23.mono HO.out.le))
      have K3 := Lib.hid (kc.keep c3 (Nat.le_refl _))
      have hz3 : (w2.alloc (.cells #[.slice a1 U.length p1, .slice a2 C.length p2] 62)).heap.size = w2.heap.size + 1 := by simp
      have Z2 := c2.size
      clear kc c2 c23 c3 CC ck HO HB
      go_wp2_with fail
      generalize w2.alloc (.cells #[.slice a1 U.length p1, .slice a2 C.length p2] 62) = w3 at *
      have y0 := Y3.c0
      have y1 := Y3.c1
      have ck3 := CK.out w3 B3.out
      have rk3 := RK.out w3 B3.out
      have SC := implSeriesOfCone_any U C X (.slice a1 U.length p1) (.slice a2 C.length p2) vk w3.heap.size w3 (K3.out.fstR.upto (by omega)) (K3.out.sndR.upto (by omega)) (rk3.upto (Nat.le_trans HHB.out B3.out.size)) (Nat.le_refl _)
      with_reducible refine SC.mono ?_
      rintro e w4 ⟨u, rfl, kt, c4⟩
      have HTS := Lib.hid kt
      have B4 := Lib.hid (below_then B3.out B3.out.size c4)
      have O4 := Lib.hid (O3.out.keep (c4.mono O3.out.le))
      have hm3 := O3.out.le
      have Z4 := c4.size
      clear SC kt c4 rk3 ck3 y0 y1 Y3
      generalize serC U C X = S at *
      obtain ⟨T, ok2⟩ := S
      dsimp only at HOK HST HTS HTT
      dsimp only
      cases ok
      case false =>
        have HR := Lib.hid (HBAD.out k hlt (by rw [HOK.out]; rfl))
        go_wp2
        go_ret2
        rw [HR.out]
        exact ⟨_, rfl, TS.nil _ _ _, B4.out⟩
      cases ok2
      case false =>
        have HR := Lib.hid (HBAD.out k hlt (by rw [HOK.out]; rfl))
        go_wp2
        go_ret2
        rw [HR.out]
        exact ⟨_, rfl, TS.nil _ _ _, B4.out⟩
      have hpl := HPK.out rfl
      have htw := HTW.out hpl
      have hl0 := HL0.out
      have HA2 := Lib.hid (show ctAll ls (k + 1) = true by rw [HAS.out, HA.out, HOK.out]; rfl)
      have htt := HTT.out
      generalize ctK ls k = acc at *
      have hwz := B4.out.size
      go_wp2_with (at_builtin; refine wpList_append_T rfl _ _ rfl rfl rfl O4.out HTS.out (by omega) (by have := B3.out.size; omega) (Nat.le_refl _) (by omega) hwz ?_)
      intro a5 cap5 w5 V2' V3' ho5 hg5
      have B5 := Lib.hid (B4.out.grown hg5 hwz (fun g hg => (O4.out.blk g hg).1))
      rw [← HST.out] at ho5
      have O5 := Lib.hid ho5
      clear ho5 hg5 hl0 htt
      go_wp2
      go_roundw
      case rel => exact ⟨k + 1, V2', V3', _, by omega, by go_num, HA2, O5, B5⟩
      case measure => simp [intOf]; omega
    · obtain rfl : k = n := by omega
      have HL := Lib.hid (HLONG.out)
      have HY := Lib.hid (fun h2 => HYES.out HP.out HA.out h2)
      obtain ⟨a5, c5, rfl⟩ := HO.out.form
      have HI := Lib.hid HO.out.is
      generalize ctK ls k = acc at *
      by_cases h60 : acc.length ≤ 60
      · have HR := Lib.hid (HY.out h60)
        have hd : ¬ (60 : Int) < (acc.length : Int) := by omega
        obtain ⟨q, hq⟩ : ∃ q, q = acc.length := ⟨_, rfl⟩
        rw [← hq] at hd ⊢
        have HQ := Lib.hid hq
        clear hq h60
        go_wp2
        go_ret2
        rw [HR.out]
        exact ⟨_, rfl, by rw [HQ.out]; exact HI.out, HB.out⟩
      · have HR := Lib.hid (HL.out h60)
        have hd : (60 : Int) < (acc.length : Int) := by omega
        obtain ⟨q, hq⟩ : ∃ q, q = acc.length := ⟨_, rfl⟩
        rw [← hq] at hd ⊢
        clear hq h60
        go_wp2
        go_ret2
        rw [HR.out]
        exact ⟨_, rfl, TS.nil _ _ _, HB.out⟩
set_option maxRecDepth 100000 in
set_option maxHeartbeats 8000000 in
theorem specCornerTerms_any (ls : List (List Int)) (v : Value) (hb : Nat) (w : World) (h : ISSr w hb v ls) (hhb : hb ≤ w.heap.size) :
    Calls Try.prog 43 #[v] w fun e w' => ∃ u, e = .returned (.tuple #[u, .bool (ctV ls).2]) ∧ TS w' w.heap.size w'.heap.size u (ctV ls).1 ∧ Below w.heap.size w w' := by
  have CCH := Lib.hid (fun (k : Nat) W (HB : Below w.heap.size w W) => specCornerCone_any ls (k : Int) v hb W (h.keep HB hhb) (Nat.le_trans hhb HB.size))
  obtain ⟨n, hn⟩ : ∃ n, n = ls.length := ⟨_, rfl⟩
  obtain ⟨a, cap, rfl, hcap, hm, hcell⟩ := id h
  unfold maxLen at hm
  have HBAD := Lib.hid (fun k (hk : k < n) h => ctV_bad (ls := ls) (k := k) (by rw [← hn]; exact hk) h)
  have HLONG := Lib.hid (fun h => ctV_long (ls := ls) h)
  have HPOLY := Lib.hid (fun k h => ctOk_poly (ls := ls) (k := k) h)
  have HTW := Lib.hid (fun (h : isPolyB ls = true) => (isPoly_parts h).2.1)
  have HYES := Lib.hid (fun (hp : isPolyB ls = true) h1 h2 => ctV_yes (ls := ls) hp h1 h2)
  have HNP := Lib.hid (fun (hp : isPolyB ls = false) => ctV_poly (ls := ls) hp)
  have HKL := Lib.hid (ctK_len ls)
  rw [← hn] at hcap HLONG HYES HTW ⊢
  have HN := Lib.hid hn
  have HC := Lib.hid hcell
  have HHB := Lib.hid hhb
  have hn63 : n ≤ 9223372036854775807 := by omega
  clear h hn hcell hcap
  go_enter Try.func43, Try.ntmps43
  go_wp2
  go_loopw [4, 5] (fun ov i wr => ∃ (k : Nat) (V2 V3 : Nat → Value) (m : Nat), k ≤ n ∧ i = .int .i64 k ∧ Hid (ctAll ls k = true) ∧ Hid (OwnTp wr w.heap.size ov (ctK ls k) V2 V3 m) ∧ Hid (Below w.heap.size w wr)) (fun _ i _ => n - (intOf i).toNat)
  case atStart => exact ⟨0, fun _ => .slice none 0 0, fun _ => .slice none 0 0, w.heap.size + 1, by omega, rfl, Lib.hid rfl, Lib.hid (OwnTp.lit0 w w.heap.size (Nat.le_refl _) _ _), Lib.hid (below1 w _)⟩
  case round =>
    obtain ⟨k, V2, V3, m, hk, rfl, HA, HO, HB⟩ := hrel
    by_cases hlt : k < n
    · have hkl : k < ls.length := by rw [← HN.out]; exact hlt
      obtain ⟨b, off, V, rfl, hbb, hcc⟩ := HC.out (by intro e; rw [e] at hkl; exact absurd hkl (Nat.not_lt_zero _))
      have hbw : b < w.heap.size := by omega
      have CK := Lib.hid (fun W (B : Below w.heap.size w W) => (B.cell (p := ⟨b, off + k, none⟩) hbw).trans (hcc k hkl).1)
      have RK := Lib.hid (fun W (B : Below w.heap.size w W) => (hcc k hkl).2.keep B HHB.out)
      have ck := CK.out wr HB.out
      have CC := CCH.out k wr HB.out
      rw [← HN.out] at CC
      have HOK := Lib.hid (show ctOk ls k = ((corV ls (k : Int)).2 && (serC (corV ls (k : Int)).1.1 (corV ls (k : Int)).1.2 (ls.getD k [])).2) from rfl)
      have HST := Lib.hid (show ctK ls (k + 1) = ctK ls k ++ (serC (corV ls (k : Int)).1.1 (corV ls (k : Int)).1.2 (ls.getD k [])).1 from rfl)
      have HAS := Lib.hid (ctAll_step ls k)
      have HPK := Lib.hid (HPOLY.out k)
      have HTT := Lib.hid (serC_tot (corV ls (k : Int)).1.1 (corV ls (k : Int)).1.2 (ls.getD k [])).2
      have HL0 := Lib.hid (HKL.out k)
      clear hcc hkl
      generalize corV ls (k : Int) = R at *
      obtain ⟨⟨U, C⟩, ok⟩ := R
      dsimp only at CC HOK HST HPK HTT
      generalize ls.getD k [] = X at *
      generalize V k = vk at *
      have hik : (0 : Int) ≤ (k : Int) := by omega
      have hikn : (k : Int) < (n : Int) := by omega
      have hto : ((k : Int)).toNat = k := by omega
      go_wp2_with fail
      with_reducible refine CC.mono ?_
      rintro e w2 ⟨u1, u2, rfl, kc, c2⟩
      obtain ⟨a1, p1, rfl, -⟩ := id kc.fstR
      obtain ⟨a2, p2, rfl, -⟩ := id kc.sndR
      have c3 := below1 w2 (.cells #[.slice a1 U.length p1, .slice a2 C.length p2] 62)
      have Y3 := box2_new w2 (.slice a1 U.length p1) (.slice a2 C.length p2) 62
      have c23 := c2.trans (c3.mono c2.size)
      have B3 := Lib.hid (below_then HB.out HB.out.size c23)
      have O3 := Lib.hid (HO.out.keep (c23.mono HO.out.le))
      have K3 := Lib.hid (kc.keep c3 (Nat.le_refl _))
      have hz3 : (w2.alloc (.cells #[.slice a1 U.length p1, .slice a2 C.length p2] 62)).heap.size = w2.heap.size + 1 := by simp
      have Z2 := c2.size
      clear kc c2 c23 c3 CC ck HO HB
      go_wp2_with fail
      generalize w2.alloc (.cells #[.slice a1 U.length p1, .slice a2 C.length p2] 62) = w3 at *
      have y0 := Y3.c0
      have y1 := Y3.c1
      have ck3 := CK.out w3 B3.out
      have rk3 := RK.out w3 B3.out
      have D3 : Below w.heap.size w w3.drew := B3.out.trans (below_draws w.heap.size w3 1)
      have SC := specSeriesOfCone_any U C X (.slice a1 U.length p1) (.slice a2 C.length p2) vk w3.drew.heap.size w3.drew ((K3.out.keep (below_draws w3.heap.size w3 1) (by omega)).fstR.upto (show w2.heap.size ≤ w3.heap.size by omega)) ((K3.out.keep (below_draws w3.heap.size w3 1) (by omega)).sndR.upto (show w2.heap.size ≤ w3.heap.size by omega)) ((RK.out w3.drew D3).upto (Nat.le_trans HHB.out B3.out.size)) (Nat.le_refl _)
      go_region_held3 (fun w' => w'.cell? ⟨w2.heap.size, 0, none⟩ = some (.slice a1 U.length p1) ∧ w'.cell? ⟨w2.heap.size, 1, none⟩ = some (.slice a2 C.length p2) ∧ w'.cell? ⟨b, off + k, none⟩ = some vk)
        (first | exact ⟨y0, y1, ck3⟩ | exact ⟨x0, x1, x2⟩ | go_keep)
        ((go_at_call 109; (with_reducible refine SC.mono ?_); rintro e w4 ⟨u, rfl, kt, c4⟩; have Y4 := Y3.keep ((below_draws w3.heap.size w3 1).trans c4); have x0 := Y4.c0; have x1 := Y4.c1; have BB := below_then D3 D3.size c4; have x2 := CK.out _ BB))
      have kt : TS w4 w3.heap.size w4.heap.size u (serC U C X).1 := kt
      have HTS := Lib.hid kt
      have B4 := Lib.hid BB
      have O4 := Lib.hid (O3.out.keep (((below_draws w3.heap.size w3 1).trans c4).mono O3.out.le))
      have hm3 := O3.out.le
      have Z4 : w3.heap.size ≤ w4.heap.size := c4.size
      clear SC kt c4 rk3 ck3 y0 y1 Y3 Y4 x0 x1 x2 BB D3
      generalize serC U C X = S at *
      obtain ⟨T, ok2⟩ := S
      dsimp only at HOK HST HTS HTT
      dsimp only
      cases ok
      case false =>
        have HR := Lib.hid (HBAD.out k hlt (by rw [HOK.out]; rfl))
        go_wp2
        go_ret2
        rw [HR.out]
        exact ⟨_, rfl, ((OwnTp.lit0 w4 w4.heap.size (Nat.le_refl _) (fun _ => .slice none 0 0) (fun _ => .slice none 0 0)).is).mono B4.out.size (Nat.le_refl _), B4.out.alloc B4.out.size _⟩
      cases ok2
      case false =>
        have HR := Lib.hid (HBAD.out k hlt (by rw [HOK.out]; rfl))
        go_wp2
        go_ret2
        rw [HR.out]
        exact ⟨_, rfl, ((OwnTp.lit0 w4 w4.heap.size (Nat.le_refl _) (fun _ => .slice none 0 0) (fun _ => .slice none 0 0)).is).mono B4.out.size (Nat.le_refl _), B4.out.alloc B4.out.size _⟩
      have hpl := HPK.out rfl
      have htw := HTW.out hpl
      have hl0 := HL0.out
      have HA2 := Lib.hid (show ctAll ls (k + 1) = true by rw [HAS.out, HA.out, HOK.out]; rfl)
      have htt := HTT.out
      generalize ctK ls k = acc at *
      have hwz := B4.out.size
      go_wp2_with (at_builtin; refine wpList_append_T rfl _ _ rfl rfl rfl O4.out HTS.out (by omega) (by have := B3.out.size; omega) (Nat.le_refl _) (by omega) hwz ?_)
      intro a5 cap5 w5 V2' V3' ho5 hg5
      have B5 := Lib.hid (B4.out.grown hg5 hwz (fun g hg => (O4.out.blk g hg).1))
      rw [← HST.out] at ho5
      have O5 := Lib.hid ho5
      clear ho5 hg5 hl0 htt
      go_wp2
      go_roundw
      case rel => exact ⟨k + 1, V2', V3', _, by omega, by go_num, HA2, O5, B5⟩
      case measure => simp [intOf]; omega
    · obtain rfl : k = n := by omega
      have HL := Lib.hid (HLONG.out)
      by_cases hz : k = 0
      · have hp : isPolyB ls = false := by
          cases hp : isPolyB ls
          · rfl
          · have := (isPoly_parts hp).1; rw [← HN.out] at this; omega
        have HR := Lib.hid (HNP.out hp)
        obtain ⟨a5, c5, rfl⟩ := HO.out.form
        clear hp HLONG HYES HL
        subst hz
        go_wp2
        go_ret2
        rw [HR.out]
        exact ⟨_, rfl, ((OwnTp.lit0 wr wr.heap.size (Nat.le_refl _) (fun _ => .slice none 0 0) (fun _ => .slice none 0 0)).is).mono HB.out.size (Nat.le_refl _), HB.out.alloc HB.out.size _⟩
      have hp : isPolyB ls = true := by
        have h1 : ctAll ls 1 = true := by
          have := HA.out
          unfold ctAll at this ⊢
          rw [List.all_eq_true] at this ⊢
          intro j hj
          rw [List.mem_range] at hj
          exact this j (List.mem_range.2 (by omega))
        rw [ctAll_step] at h1
        simp only [Bool.and_eq_true] at h1
        unfold ctOk at h1
        simp only [Bool.and_eq_true] at h1
        exact HPOLY.out 0 h1.2.1
      have HY := Lib.hid (fun h2 => HYES.out hp HA.out h2)
      obtain ⟨a5, c5, rfl⟩ := HO.out.form
      have HI := Lib.hid HO.out.is
      have hk0 : ((k : Int) == 0) = false := by rw [beq_eq_false_iff_ne]; omega
      clear hp
      generalize ctK ls k = acc at *
      by_cases h60 : acc.length ≤ 60
      · have HR := Lib.hid (HY.out h60)
        have hd : ¬ (60 : Int) < (acc.length : Int) := by omega
        obtain ⟨q, hq⟩ : ∃ q, q = acc.length := ⟨_, rfl⟩
        rw [← hq] at hd ⊢
        have HQ := Lib.hid hq
        clear hq h60
        go_wp2
        go_ret2
        rw [HR.out]
        exact ⟨_, rfl, by rw [HQ.out]; exact HI.out, HB.out⟩
      · have HR := Lib.hid (HL.out h60)
        have hd : (60 : Int) < (acc.length : Int) := by omega
        obtain ⟨q, hq⟩ : ∃ q, q = acc.length := ⟨_, rfl⟩
        rw [← hq] at hd ⊢
        clear hq h60
        go_wp2
        go_ret2
        rw [HR.out]
        exact ⟨_, rfl, ((OwnTp.lit0 wr wr.heap.size (Nat.le_refl _) (fun _ => .slice none 0 0) (fun _ => .slice none 0 0)).is).mono HB.out.size (Nat.le_refl _), HB.out.alloc HB.out.size _⟩
end Go.Proofs.Ytehhoplenloocaa
