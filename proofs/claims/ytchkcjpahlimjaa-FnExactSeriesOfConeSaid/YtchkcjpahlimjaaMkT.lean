/- Slices of terms are marked, and the marks are asked. -/
import Derived.Test.YtchkcjpahlimjaaB6
import Derived.Test.YtchkcjpahlimjaaB2
namespace Go.Proofs.Ytchkcjpahlimjaa
open Go.RowKit
set_option linter.unusedVariables false
set_option linter.unusedSimpArgs false

def mk1 (t : TermL) : Nat := 1 + t.2.1.length + totL t.2.2 t.2.2.length
def mtK (ts : List TermL) : Nat → Nat
  | 0 => 0
  | i + 1 => mtK ts i + mk1 (ts.getD i t0)
def mtT (ts : List TermL) : Nat := mtK ts ts.length
theorem mtK_mono (ts : List TermL) (i : Nat) : ∀ j, i ≤ j → mtK ts i ≤ mtK ts j
  | 0, h => by have : i = 0 := by omega
               subst this; exact Nat.le_refl _
  | j + 1, h => by
    by_cases e : i = j + 1
    · subst e; exact Nat.le_refl _
    · have := mtK_mono ts i j (by omega)
      rw [show mtK ts (j + 1) = mtK ts j + mk1 (ts.getD j t0) from rfl]; omega
def markT (t : TermL) (k : Int) : TermL := (k, markL t.2.1.length (k + 1), markLL t.2.2 (k + 1 + t.2.1.length))
def markTS (ts : List TermL) (k : Int) : List TermL := (List.range ts.length).map fun (i : Nat) => markT (ts.getD i t0) (k + mtK ts i)
theorem markTS_len (ts : List TermL) (k : Int) : (markTS ts k).length = ts.length := by simp [markTS]
theorem markTS_getD (ts : List TermL) (k : Int) (i : Nat) (h : i < ts.length) : (markTS ts k).getD i t0 = markT (ts.getD i t0) (k + mtK ts i) := by
  rw [List.getD_eq_getElem?_getD]; simp [markTS, h]
theorem tri_put0 (f0 f2 f3 : Nat → Value) (k : Nat) (x0 : Value) : ∀ j, (if j = k * 3 then x0 else tri f0 f2 f3 j) = tri (fun i => if i = k then x0 else f0 i) f2 f3 j := by
  intro j
  unfold tri
  by_cases e0 : j = k * 3
  · subst e0
    dsimp only
    rw [if_pos rfl, if_pos (by omega), if_pos (by omega)]
  · rw [if_neg e0]
    dsimp only
    by_cases h0 : j % 3 = 0
    · rw [if_pos h0, if_pos h0, if_neg (show ¬ j / 3 = k by omega)]
    · rw [if_neg h0, if_neg h0]

set_option maxRecDepth 100000 in
set_option maxHeartbeats 8000000 in
theorem markTermS_any (ts : List TermL) (v : Value) (lo hi : Nat) (k : Int) (w : World) (h : TS w lo hi v ts) (hh : hi ≤ w.heap.size) (hk : 0 ≤ k) (hk' : k + mtT ts ≤ 4611686018427387904) :
    Calls Try.prog 38 #[v, .int .i64 k] w fun e w' => e = .returned (.int .i64 (k + mtT ts)) ∧ TS w' lo hi v (markTS ts k) ∧ Only lo hi w w' := by
  unfold mtT at hk' ⊢
  obtain ⟨n, hn⟩ : ∃ n, n = ts.length := ⟨_, rfl⟩
  obtain ⟨a, cap, rfl, hcap, hm, hcell⟩ := id h
  by_cases h0 : ts = []
  · subst h0
    clear h hcell
    go_enter Try.func38, Try.ntmps38
    go_wp2
    refine wp_loop_rounds 1 ?_
    rw [rounds_succ]
    go_wp2
    go_ret
    refine ⟨ret_int (by simp [mtK]), ⟨a, cap, rfl, hcap, hm, fun hl => absurd rfl hl⟩, Only.refl _ _ _⟩
  · obtain ⟨b, off, V2, V3, p, q, r, rfl, hb1, hb2, hbk, hel, hd⟩ := hcell h0
    unfold maxLen at hm
    have HRES := Lib.hid (show ∀ w', BK w' b off (ts.length * 3) 70 (tri (fun i => .int .i64 (k + mtK ts i)) V2 V3) → (∀ i, i < ts.length → TEl w' (markT (ts.getD i t0) (k + mtK ts i)) (V2 i) (V3 i) (p i) (q i) (r i)) → TS w' lo hi (.slice (some ⟨b, off, none⟩) ts.length cap) (markTS ts k) from fun w' k1 k2 => by
      refine ⟨_, cap, by rw [markTS_len], by rw [markTS_len]; exact hcap, by unfold maxLen; exact hm, fun _ => ⟨b, off, V2, V3, p, q, r, rfl, hb1, hb2, ?_, fun i hi => ?_, fun i j hij hj => hd i j hij (by rw [markTS_len] at hj; exact hj)⟩⟩
      · rw [markTS_len]
        refine k1.congr fun i hi => ?_
        unfold tri
        by_cases e : i % 3 = 0
        · rw [if_pos e, if_pos e]; dsimp only; rw [markTS_getD _ _ _ (by omega)]; rfl
        · rw [if_neg e, if_neg e]
      · rw [markTS_len] at hi
        rw [markTS_getD _ _ _ hi]
        exact ⟨(hel i hi).1, (hel i hi).2.1, k2 i hi⟩)
    rw [← hn] at hcap hbk hk' HRES ⊢
    have HN := Lib.hid hn; clear hn
    have HIN := Lib.hid (show ∀ i, i < n → (lo ≤ p i ∧ r i ≤ hi) ∧ (b < p i ∨ r i ≤ b) from fun i hi => ⟨(hel i (by rw [← HN.out]; exact hi)).1, (hel i (by rw [← HN.out]; exact hi)).2.1⟩)
    have HEL0 := Lib.hid (show ∀ i, i < n → TEl w (ts.getD i t0) (V2 i) (V3 i) (p i) (q i) (r i) from fun i hi => (hel i (by rw [← HN.out]; exact hi)).2.2)
    have HD := Lib.hid (show ∀ i j, i < j → j < n → r i ≤ p j from fun i j hij hj => hd i j hij (by rw [← HN.out]; exact hj))
    have HBK0 := Lib.hid (show BK w b off (n * 3) 70 (tri (fun i => .int .i64 (if i < 0 then k + mtK ts i else (ts.getD i t0).1)) V2 V3) from hbk.congr fun i hi => by simp [tri])
    clear hbk hel hd h hcell h0
    go_enter Try.func38, Try.ntmps38
    go_wp2
    go_loopw [1, 5] (fun m i wr => ∃ j : Nat, j ≤ n ∧ i = .int .i64 j ∧ m = .int .i64 (k + mtK ts j) ∧ Hid (BK wr b off (n * 3) 70 (tri (fun i => .int .i64 (if i < j then k + mtK ts i else (ts.getD i t0).1)) V2 V3)) ∧ Hid (∀ i, i < n → TEl wr (if i < j then markT (ts.getD i t0) (k + mtK ts i) else ts.getD i t0) (V2 i) (V3 i) (p i) (q i) (r i)) ∧ Hid (Only lo hi w wr)) (fun _ i _ => n - (intOf i).toNat)
    case atStart => exact ⟨0, by omega, rfl, by simp [mtK], HBK0, Lib.hid (fun i hi => by rw [if_neg (Nat.not_lt_zero _)]; exact HEL0.out i hi), Only.refl _ _ _⟩
    case round =>
      obtain ⟨j, hj, rfl, rfl, hbk, hel, honly⟩ := hrel
      by_cases hlt : j < n
      · have hc0 := hbk.out.cell (i := j * 3) (by omega)
        rw [tri_0] at hc0
        have hf0 := hbk.out.frozen (off + j * 3)
        have hbk1 := (hbk.out.set (k := j * 3) (by omega) (.int .i64 (k + mtK ts j))).congr (fun i hi => tri_put0 _ _ _ j (.int .i64 (k + mtK ts j)) i)
        have hc1 := hbk1.cell (i := j * 3 + 1) (by omega)
        rw [tri_1, ← Nat.add_assoc] at hc1
        have hc2 := hbk1.cell (i := j * 3 + 2) (by omega)
        rw [tri_2, ← Nat.add_assoc] at hc2
        have HEL1 := Lib.hid (show ∀ i, i < n → TEl (wr.setCell ⟨b, off + j * 3, none⟩ (.int .i64 (k + mtK ts j))) (if i < j then markT (ts.getD i t0) (k + mtK ts i) else ts.getD i t0) (V2 i) (V3 i) (p i) (q i) (r i) from fun i hi => (hel.out i hi).setOther (HIN.out i hi).2 _)
        have HO1 := Lib.hid (show Only lo hi w (wr.setCell ⟨b, off + j * 3, none⟩ (.int .i64 (k + mtK ts j))) from by
          have g := honly.out
          refine ⟨g.os, g.tape, g.output, by simpa using g.size, fun i hi hd => ?_⟩
          rw [Below.heap_setCell _ _ _ _ (by show i ≠ b; omega)]
          exact g.block i hi hd)
        have HBK1 := Lib.hid hbk1
        have htj := (HEL1.out j hlt)
        rw [if_neg (Nat.lt_irrefl _)] at htj
        obtain ⟨hpq, hqr, hsb, his, hiss⟩ := htj
        have ht1 := mtK_mono ts (j + 1) n hlt
        have ht2 : mtK ts (j + 1) = mtK ts j + (1 + (ts.getD j t0).2.1.length + totL (ts.getD j t0).2.2 (ts.getD j t0).2.2.length) := rfl
        have HT2 := Lib.hid ht2
        have HMT := Lib.hid (show markT (ts.getD j t0) (k + mtK ts j) = (k + mtK ts j, markL (ts.getD j t0).2.1.length (k + mtK ts j + 1), markLL (ts.getD j t0).2.2 (k + mtK ts j + 1 + (ts.getD j t0).2.1.length)) from rfl)
        have HIJ := Lib.hid (HIN.out j hlt)
        have w1s : IntKind.i64.wrap (k + mtK ts j + 1) = k + mtK ts j + 1 := wr64 _ (by omega)
        clear ht2 hsb hbk1 hbk hel honly
        obtain ⟨K, hK⟩ : ∃ K : Int, K = k + mtK ts j := ⟨_, rfl⟩
        rw [← hK] at w1s hc1 hc2 his hiss HEL1 HO1 HBK1 HMT ⊢
        have HKK := Lib.hid hK
        have hK0 : 0 ≤ K := by omega
        have hK1 : K + (1 + (ts.getD j t0).2.1.length + totL (ts.getD j t0).2.2 (ts.getD j t0).2.2.length : Nat) ≤ 4611686018427387904 := by have := HT2.out; omega
        clear hK
        have HRST := Lib.hid (show ∀ w', IS w' (p j) (q j) (V2 j) (markL (ts.getD j t0).2.1.length (K + 1)) → ISS w' (q j) (r j) (V3 j) (markLL (ts.getD j t0).2.2 (K + 1 + (ts.getD j t0).2.1.length)) → TEl w' (markT (ts.getD j t0) (k + mtK ts j)) (V2 j) (V3 j) (p j) (q j) (r j) from fun w' k1 k2 => by
          rw [← HKK.out, HMT.out]
          exact ⟨hpq, hqr, ⟨by show -9223372036854775808 ≤ K; omega, by show K ≤ 9223372036854775807; omega⟩, k1, k2⟩)
        generalize (ts.getD j t0).2.1 = U at *
        generalize (ts.getD j t0).2.2 = G at *
        obtain ⟨v2, hv2⟩ : ∃ v2, v2 = V2 j := ⟨_, rfl⟩
        obtain ⟨v3, hv3⟩ : ∃ v3, v3 = V3 j := ⟨_, rfl⟩
        rw [← hv2] at hc1 his HRST
        rw [← hv3] at hc2 hiss HRST
        have HV2 := Lib.hid hv2
        have HV3 := Lib.hid hv3
        clear hv2 hv3
        go_wp2_with fail
        generalize wr.setCell ⟨b, off + j * 3, none⟩ (.int .i64 K) = w1 at *
        refine (markIntS_any U v2 (p j) (q j) (K + 1) w1 his (by omega) (by omega)).mono ?_
        rintro e w2 ⟨rfl, is2, hg2⟩
        have o2 := Only.of_grown hg2 his.blkIn
        have HO2 := Lib.hid (show Only (p j) (r j) w1 w2 from o2.mono (Nat.le_refl _) hqr)
        have HIS2 := Lib.hid is2
        have HISS2 := Lib.hid (hiss.only o2 (.inr (Nat.le_refl _)))
        have hbk2 := HBK1.out.of_block (w' := w2) (HO2.out.block b HBK1.out.lt (by have := HIJ.out; omega))
        have d2 := hbk2.cell (i := j * 3 + 2) (by omega)
        rw [tri_2, ← HV3.out, ← Nat.add_assoc] at d2
        have HBK2 := Lib.hid hbk2
        have w2s : IntKind.i64.wrap (K + 1 + (U.length : Int)) = K + 1 + (U.length : Int) := wr64 _ (by omega)
        clear is2 hg2 o2 hbk2 hc1 hc2 hc0 hf0
        go_wp2_with fail
        refine (markIntSS_any G v3 (q j) (r j) (K + 1 + (U.length : Int)) w2 HISS2.out (by omega) (by omega)).mono ?_
        rintro e w3 ⟨rfl, is3, o3⟩
        have HO3 := Lib.hid (show Only (p j) (r j) w1 w3 from HO2.out.trans (o3.mono hpq (Nat.le_refl _)))
        have HNEW := Lib.hid (HRST.out w3 (HIS2.out.only o3 (.inl (Nat.le_refl _))) is3)
        have HBK3 := Lib.hid (HBK1.out.of_block (w' := w3) (HO3.out.block b HBK1.out.lt (by have := HIJ.out; omega)))
        have HON := Lib.hid (show Only lo hi w w3 from HO1.out.trans (HO3.out.mono HIJ.out.1.1 HIJ.out.1.2))
        have HELN := Lib.hid (show ∀ i, i < n → TEl w3 (if i < j + 1 then markT (ts.getD i t0) (k + mtK ts i) else ts.getD i t0) (V2 i) (V3 i) (p i) (q i) (r i) from fun i hi => by
          by_cases e : i = j
          · subst e; rw [if_pos (Nat.lt_succ_self _), ← HV2.out, ← HV3.out]; exact HNEW.out
          · have h1 := HEL1.out i hi
            have h2 : TEl w3 (if i < j then markT (ts.getD i t0) (k + mtK ts i) else ts.getD i t0) (V2 i) (V3 i) (p i) (q i) (r i) := h1.of_blocks fun c k1 k2 k3 => HO3.out.block c k3 (by
              rcases Nat.lt_or_ge i j with g | g
              · have := HD.out i j g hlt; omega
              · have := HD.out j i (by omega) hi; omega)
            by_cases e2 : i < j
            · rw [if_pos e2] at h2; rw [if_pos (by omega)]; exact h2
            · rw [if_neg e2] at h2; rw [if_neg (by omega)]; exact h2)
        have HBKN := Lib.hid (show BK w3 b off (n * 3) 70 (tri (fun i => .int .i64 (if i < j + 1 then k + mtK ts i else (ts.getD i t0).1)) V2 V3) from HBK3.out.congr fun i hi => by
          unfold tri
          by_cases e0 : i % 3 = 0
          · rw [if_pos e0, if_pos e0]
            dsimp only
            by_cases e : i / 3 = j
            · rw [if_pos e, if_pos (by omega), e, HKK.out]
            · rw [if_neg e]
              by_cases e2 : i / 3 < j
              · rw [if_pos e2, if_pos (by omega)]
              · rw [if_neg e2, if_neg (by omega)]
          · rw [if_neg e0, if_neg e0])
        clear is3 o3 d2 HBK2 HIS2 HISS2 HO2 his hiss
        go_wp2
        go_roundw
        case rel => exact ⟨j + 1, by omega, by go_num, by congr 1; have := HT2.out; have := HKK.out; omega, HBKN, HELN, HON⟩
        case measure => simp [intOf]; omega
      · obtain rfl : j = n := by omega
        go_wp2
        go_ret
        refine ⟨rfl, HRES.out _ (hbk.out.congr fun i hi => ?_) (fun i hi => ?_), honly.out⟩
        · unfold tri
          by_cases e0 : i % 3 = 0
          · rw [if_pos e0, if_pos e0]; dsimp only; rw [if_pos (by omega)]
          · rw [if_neg e0, if_neg e0]
        · have := hel.out i hi
          rwa [if_pos hi] at this

set_option maxRecDepth 100000 in
set_option maxHeartbeats 8000000 in
theorem heldTermS_any (ts : List TermL) (v : Value) (hi : Nat) (k : Int) (w : World) (h : TSr w hi v (markTS ts k)) (hk : 0 ≤ k) (hk' : k + mtT ts ≤ 4611686018427387904) :
    Calls Try.prog 39 #[v, .int .i64 k] w fun e w' => e = .returned (.int .i64 (k + mtT ts)) ∧ w = w' := by
  unfold mtT at hk' ⊢
  obtain ⟨a, cap, rfl, hcap, hm, hcell⟩ := id h
  rw [markTS_len] at hcap hcell ⊢
  unfold maxLen at hm
  obtain ⟨n, hn⟩ : ∃ n, n = ts.length := ⟨_, rfl⟩
  rw [← hn] at hcap hcell hk' ⊢
  have HN := Lib.hid hn; clear hn
  have HNE := Lib.hid (show 0 < n → markTS ts k ≠ [] from fun h0 e => by have := congrArg List.length e; rw [markTS_len, ← HN.out] at this; simp at this; omega)
  have HC := Lib.hid hcell; clear hcell h
  go_enter Try.func39, Try.ntmps39
  go_wp2
  go_loop [1, 5] (fun m i => ∃ j : Nat, j ≤ n ∧ i = .int .i64 j ∧ m = .int .i64 (k + mtK ts j)) (fun _ i => n - (intOf i).toNat)
  case atStart => exact ⟨0, by omega, rfl, by simp [mtK]⟩
  case round =>
    obtain ⟨j, hj, rfl, rfl⟩ := hrel
    by_cases hlt : j < n
    · obtain ⟨b, off, V2, V3, rfl, hbb, hcc, hrr⟩ := HC.out (HNE.out (by omega))
      obtain ⟨c0, c1, c2⟩ := hcc j hlt
      obtain ⟨-, hr2, hr3⟩ := hrr j hlt
      rw [markTS_getD _ _ _ (by rw [← HN.out]; exact hlt)] at c0 hr2 hr3
      replace c0 : w.cell? ⟨b, off + j * 3, none⟩ = some (.int .i64 (k + mtK ts j)) := c0
      replace hr2 : ISr w hi (V2 j) (markL (ts.getD j t0).2.1.length (k + mtK ts j + 1)) := hr2
      replace hr3 : ISSr w hi (V3 j) (markLL (ts.getD j t0).2.2 (k + mtK ts j + 1 + (ts.getD j t0).2.1.length)) := hr3
      have ht1 := mtK_mono ts (j + 1) n hlt
      have HT2 := Lib.hid (show mtK ts (j + 1) = mtK ts j + (1 + (ts.getD j t0).2.1.length + totL (ts.getD j t0).2.2 (ts.getD j t0).2.2.length) from rfl)
      obtain ⟨K, hK⟩ : ∃ K : Int, K = k + mtK ts j := ⟨_, rfl⟩
      rw [← hK] at c0 hr2 hr3 ⊢
      have HKK := Lib.hid hK
      have hK0 : 0 ≤ K := by omega
      have hK1 : K + (1 + (ts.getD j t0).2.1.length + totL (ts.getD j t0).2.2 (ts.getD j t0).2.2.length : Nat) ≤ 4611686018427387904 := by have := HT2.out; omega
      have w1s : IntKind.i64.wrap (K + 1) = K + 1 := wr64 _ (by omega)
      clear hK hcc hrr
      generalize V2 j = v2 at *
      generalize V3 j = v3 at *
      generalize (ts.getD j t0).2.1 = U at *
      generalize (ts.getD j t0).2.2 = G at *
      have HQ1 := heldIntS_any U.length v2 hi (K + 1) w hr2 (by omega) (by omega)
      have HQ2 := heldIntSS_any G v3 hi (K + 1 + U.length) w hr3 (by omega) (by omega)
      have hp1 : decide (K + 1 + (U.length : Int) < 0) = false := by rw [decide_eq_false_iff_not]; omega
      have hp2 : decide (K + 1 + (U.length : Int) + (totL G G.length : Int) < 0) = false := by rw [decide_eq_false_iff_not]; omega
      generalize hu : (U.length : Int) = u at *
      generalize hg : (totL G G.length : Int) = g at *
      have HU := Lib.hid hu
      have HG := Lib.hid hg
      clear hu hg
      go_wp2_with (first | (go_at_call 27; (with_reducible refine HQ1.mono ?_); rintro e w' ⟨rfl, rfl⟩) | (go_at_call 22; (with_reducible refine HQ2.mono ?_); rintro e w' ⟨rfl, rfl⟩))
      go_round
      case rel => exact ⟨j + 1, by omega, by go_num, by congr 1; have := HT2.out; have := HKK.out; have := HU.out; have := HG.out; omega⟩
      case measure => simp [intOf]; omega
    · obtain rfl : j = n := by omega
      go_wp2
      go_ret
      exact ⟨rfl, rfl⟩
end Go.Proofs.Ytchkcjpahlimjaa
