/- The series of a cone: the model's walk. -/
import Derived.Test.YtchkcjpahlimjaaSerC
import Derived.Test.YtchkcjpahlimjaaCpy
namespace Go.Proofs.Ytchkcjpahlimjaa
open Go.RowKit
set_option linter.unusedVariables false
set_option linter.unusedSimpArgs false

theorem TS.empty (w : World) (lo hi : Nat) (a : Option Addr) (cap : Nat) (h : cap ≤ maxLen) : TS w lo hi (.slice a 0 cap) [] := ⟨a, cap, rfl, Nat.zero_le _, h, fun h => absurd rfl h⟩
/-- a part of a slice of rows -/
theorem rows_part {w : World} {hi b off n cap : Nat} {ls : List (List Int)} {Vf : Nat → Value} (h : ∀ i, i < n → w.cell? ⟨b, off + i, none⟩ = some (Vf i) ∧ ISr w hi (Vf i) (ls.getD i [])) (hb : b < hi) (hc : cap ≤ maxLen) {j m : Nat} (hjm : j + m ≤ n) (hn : n ≤ cap) :
    ISSr w hi (.slice (some ⟨b, off + j, none⟩) m (cap - j)) ((List.range m).map fun i => ls.getD (j + i) []) := by
  refine ⟨some ⟨b, off + j, none⟩, cap - j, by simp, by simp; omega, by omega, fun _ => ⟨b, off + j, fun i => Vf (j + i), rfl, hb, fun i hi' => ?_⟩⟩
  have hi2 : i < m := by simpa using hi'
  obtain ⟨h1, h2⟩ := h (j + i) (by omega)
  rw [Nat.add_assoc]
  refine ⟨h1, ?_⟩
  rw [List.getD_eq_getElem?_getD]
  simpa [hi2] using h2

set_option maxRecDepth 100000 in
set_option maxHeartbeats 8000000 in
theorem specSeriesOfCone_any (U V sh : List Int) (v1 v2 vs : Value) (hb : Nat) (w : World) (i1 : ISr w hb v1 U) (i2 : ISr w hb v2 V) (i3 : ISr w hb vs sh) (hhb : hb ≤ w.heap.size) :
    Calls Try.prog 36 #[.agg #[v1, v2], vs] w fun e w' => ∃ u, e = .returned (.tuple #[u, .bool (serC U V sh).2]) ∧ TS w' w.heap.size w'.heap.size u (serC U V sh).1 ∧ Below w.heap.size w w' := by
  have HB0 := Lib.hid (below1 w (.cells #[v1, v2] 28))
  have C0 := specSplitCone_any U V v1 v2 hb _ (i1.keep HB0.out hhb) (i2.keep HB0.out hhb) (by have := HB0.out.size; omega)
  obtain ⟨hall, hlen⟩ := splitC_all U V
  have HR := Lib.hid hall.row
  have HTWO := Lib.hid (splitC_two (U := U) (V := V))
  have HNO := Lib.hid (serC_no (U := U) (V := V) (sh := sh))
  have HYES := Lib.hid (serC_yes (U := U) (V := V) (sh := sh))
  generalize serC U V sh = RES at *
  generalize splitC U V = L at *
  have HI3 := Lib.hid i3
  obtain ⟨a1, c1, rfl, -⟩ := id i1
  obtain ⟨a2, c2, rfl, -⟩ := id i2
  obtain ⟨a3, c3, rfl, -⟩ := id i3
  clear i1 i2 i3 hall
  go_enter Try.func36, Try.ntmps36
  go_wp2_with fail
  refine C0.mono ?_
  rintro e w2 ⟨u2, rfl, hown, b2⟩
  have HB2 := Lib.hid (below_then HB0.out HB0.out.size b2)
  have HIS := Lib.hid hown.is.read
  by_cases hL : L = []
  · subst hL
    obtain ⟨a0, c0, rfl⟩ := hown.form
    have hr := HNO.out (by unfold serOk; rw [decide_eq_false (by simp)]; rfl)
    have HRS := Lib.hid hr
    clear hown hr b2 C0
    go_wp2
    go_ret2
    exact ⟨.slice (some ⟨w2.heap.size, 0, none⟩) 0 0, by rw [HRS.out]; rfl, by rw [HRS.out]; exact TS.empty _ _ _ _ _ (by simp [maxLen]), HB2.out.trans ((below1 w2 _).mono HB2.out.size)⟩
  have hn2 := HTWO.out hL
  rcases hown.is.read.cases with ⟨e, -⟩ | ⟨-, -, b, off, cap, Vf, rfl, hbb, hcc⟩
  · exact absurd e hL
  have HCC := Lib.hid hcc
  clear hown b2 C0 hcc
  have CV := specIsVector_any sh _ hb w2 (HI3.out.keep HB2.out hhb)
  have HLEN := Lib.hid hlen
  obtain ⟨n, hn⟩ : ∃ n, n = L.length := ⟨_, rfl⟩
  rw [← hn] at hn2 HCC HIS hlen ⊢
  have HN := Lib.hid hn
  clear hn
  have hn0 : ((n : Int) == 0) = false := by rw [beq_eq_false_iff_ne]; omega
  have SOK := Lib.hid (show serOk L sh = (vecB sh && (decide (sh.length = 2) && decide (L.length ≤ 31))) by unfold serOk; rw [decide_eq_true (by simpa using hL)]; rfl)
  go_wp2_with fail
  cases hv : vecB sh
  · rw [hv] at CV
    refine CV.mono ?_
    rintro e w3 ⟨rfl, d3, hw3⟩
    have HB3 := Lib.hid (HB2.out.trans (hw3 ▸ below_draws w.heap.size w2 d3))
    have HRS := Lib.hid (HNO.out (by rw [SOK.out, hv]; rfl))
    clear hw3 CV hv
    go_wp2
    go_ret2
    exact ⟨.slice (some ⟨w3.heap.size, 0, none⟩) 0 0, by rw [HRS.out]; rfl, by rw [HRS.out]; exact TS.empty _ _ _ _ _ (by simp [maxLen]), HB3.out.trans ((below1 w3 _).mono HB3.out.size)⟩
  rw [hv] at CV
  refine CV.mono ?_
  rintro e w3 ⟨rfl, d3, hw3⟩
  have c3 : Below w2.heap.size w2 w3 := hw3 ▸ below_draws _ _ _
  have HZ3 := Lib.hid (show w3.heap.size = w2.heap.size by rw [hw3]; rfl)
  have HB3 := Lib.hid (below_then HB2.out HB2.out.size c3)
  have HC3 := Lib.hid (show ∀ i, i < n → w3.cell? ⟨b, off + i, none⟩ = some (Vf i) ∧ ISr w3 w2.heap.size (Vf i) (L.getD i []) from fun i hi => ⟨(c3.cell (p := ⟨b, off + i, none⟩) hbb).trans (HCC.out i hi).1, (HCC.out i hi).2.keep c3 (Nat.le_refl _)⟩)
  have HX3 := Lib.hid (HI3.out.keep HB3.out hhb)
  have HMC := Lib.hid (show n ≤ cap ∧ cap ≤ maxLen from by
    obtain ⟨x, y, hxy, h1, h2, -⟩ := HIS.out
    injection hxy with e1 e2 e3
    subst e3
    exact ⟨by rw [HN.out]; exact h1, h2⟩)
  clear hw3 CV c3 HCC HIS
  by_cases hs2 : sh.length = 2
  case neg =>
    have hne : ((sh.length : Int) != 2) = true := by rw [bne_iff_ne]; omega
    have HRS := Lib.hid (HNO.out (by rw [SOK.out, decide_eq_false hs2, Bool.false_and, Bool.and_false]))
    clear hv
    generalize sh.length = ls at *
    clear hs2
    go_wp2
    go_ret2
    exact ⟨.slice (some ⟨w3.heap.size, 0, none⟩) 0 0, by rw [HRS.out]; rfl, by rw [HRS.out]; exact TS.empty _ _ _ _ _ (by simp [maxLen]), HB3.out.trans ((below1 w3 _).mono HB3.out.size)⟩
  by_cases hn31 : n ≤ 31
  case neg =>
    have HRS := Lib.hid (HNO.out (by rw [SOK.out, ← HN.out, decide_eq_false hn31, Bool.and_false, Bool.and_false]))
    have hgt : (60 : Int) < 2 * (n : Int) - 3 := by omega
    have hw1 := wr64 (2 * (n : Int)) (by omega)
    have hw2 := wr64 (2 * (n : Int) - 3) (by omega)
    have hne : ((sh.length : Int) != 2) = false := by rw [hs2]; rfl
    clear hv hs2
    generalize sh.length = ls at *
    go_wp2
    go_ret2
    exact ⟨.slice (some ⟨w3.heap.size, 0, none⟩) 0 0, by rw [HRS.out]; rfl, by rw [HRS.out]; exact TS.empty _ _ _ _ _ (by simp [maxLen]), HB3.out.trans ((below1 w3 _).mono HB3.out.size)⟩
  have HRS := Lib.hid (HYES.out (by rw [SOK.out, hv, ← HN.out, decide_eq_true hs2, decide_eq_true hn31]; rfl))
  have hgt : ¬ (60 : Int) < 2 * (n : Int) - 3 := by omega
  have hw1 := wr64 (2 * (n : Int)) (by omega)
  have hw2 := wr64 (2 * (n : Int) - 3) (by omega)
  have hne : ((sh.length : Int) != 2) = false := by rw [hs2]; rfl
  have HS2 := Lib.hid hs2
  clear hv hs2 SOK HNO HYES HTWO
  have hs63 : sh.length ≤ 1000 := by rw [HS2.out]; omega
  obtain ⟨ls, hls⟩ : ∃ ls, ls = sh.length := ⟨_, rfl⟩
  rw [← hls] at hne
  have HLS := Lib.hid hls
  rw [← hls] at hs63
  have HX4 := Lib.hid (show ISr w3 hb (.slice a3 ls c3) sh by rw [HLS.out]; exact HX3.out)
  rw [← hls]
  clear hls
  go_wp2
  clear hgt hw1 hw2 hne
  obtain ⟨i0, hi0, hz0, hz1, hz2⟩ := info_parts info_term
  have HI0 := Lib.hid hi0; clear hi0
  have HJ0 := Lib.hid hz0; clear hz0
  have HJ1 := Lib.hid hz1; clear hz1
  have HJ2 := Lib.hid hz2; clear hz2
  have HRL := Lib.hid (show ∀ i, i < n → (L.getD i []).length ≤ 1000000 from fun i hi => by
    obtain ⟨x, y, e, -⟩ := HR.out i (by rw [← HN.out]; exact hi)
    rw [e]; simp)
  have HCW := Lib.hid (show ∀ i, i < n → ∀ W, Below w3.heap.size w3 W → W.cell? ⟨b, off + i, none⟩ = some (Vf i) from fun i hi W B => (B.cell (p := ⟨b, off + i, none⟩) (by rw [HZ3.out]; exact hbb)).trans (HC3.out i hi).1)
  go_loopw [7, 8] (fun ov kv wr => ∃ (j : Nat) (acc : List TermL) (V2 V3 : Nat → Value) (m : Nat), j + 1 ≤ n ∧ kv = .int .i64 j ∧ acc.length ≤ j ∧ Hid (acc = (List.range j).map (posT L sh)) ∧ Hid (OwnTp wr w3.heap.size ov acc V2 V3 m) ∧ Hid (Below w3.heap.size w3 wr)) (fun _ kv _ => n - (intOf kv).toNat)
  case atStart => exact ⟨0, [], fun _ => .slice none 0 0, fun _ => .slice none 0 0, w3.heap.size + 1, by omega, rfl, Nat.le_refl _, Lib.hid rfl, OwnTp.lit0 w3 _ (Nat.le_refl _) _ _, below1 _ _⟩
  case round =>
    obtain ⟨j, acc, V2, V3, m, hj, rfl, hal, hacc, hown, hbe⟩ := hrel
    by_cases hlt : j + 1 < n
    · have hbs := hbe.out.size
      have HE := Lib.hid (range_snoc (posT L sh) j)
      rw [← hacc.out, show posT L sh j = (1, sh, [L.getD j [], L.getD (j + 1) []]) from rfl] at HE
      have Bd : Below w3.heap.size w3 wr.drew := hbe.out.trans (below_draws _ wr 1)
      have hi1 : (0 : Int) ≤ (j : Int) := by omega
      have hi3 : (j : Int) + 1 < (n : Int) := by omega
      have hw2 := wr64 ((j : Int) + 2) (by omega)
      have hto2 : ((j : Int) + 2).toNat = j + 2 := by omega
      have hi4 : (j : Int) ≤ (j : Int) + 2 := by omega
      have hmc := HMC.out.1
      have hi5 : (j : Int) + 2 ≤ (cap : Int) := by omega
      have hcj : ¬ cap = j := by omega
      go_wp2_with fail
      have G1 : Below wr.heap.size wr (wr.alloc (.cells #[] 3)).drew := (below1 wr (.cells #[] 3)).trans (below_draws _ _ 1)
      have SRC := Lib.hid ((HX4.out.keep hbe.out (by rw [HZ3.out]; have := HB2.out.size; omega)).keep G1 (by have := HB2.out.size; rw [← HZ3.out] at this; omega))
      have HCB := Lib.hid (show ∀ W, Below w3.heap.size w3 W → Calls Try.prog 76 #[.slice (some ⟨b, off + j, none⟩) 2 (cap - j)] W fun e w' => ∃ u, e = .returned u ∧ OwnL w' W.heap.size u [L.getD j [], L.getD (j + 1) []] ∧ Below W.heap.size W w' from fun W B =>
        l7Copy_any [L.getD j [], L.getD (j + 1) []] _ w3.heap.size W ((rows_part (j := j) (m := 2) (fun i hi => ⟨(HC3.out i hi).1, (HC3.out i hi).2.upto (by rw [HZ3.out]; exact Nat.le_refl _)⟩) (by rw [HZ3.out]; exact hbb) HMC.out.2 (by omega) hmc).keep B (Nat.le_refl _)) B.size (by simp) (fun i hi => by
          match i, hi with
          | 0, _ => exact HRL.out j (by omega)
          | 1, _ => exact HRL.out (j + 1) hlt))
      generalize L.getD j [] = r0 at *
      generalize L.getD (j + 1) [] = r1 at *
      go_region_held3 (fun w' => True) (trivial)
        (first
          | (go_at_call 76; (with_reducible refine (HCB.out _ B4).mono ?_); rintro e w5 ⟨u5, rfl, o5, b5⟩; have B5 := below_then B4 B4.size b5; have K5 := o5.is; obtain ⟨a5, e5, rfl⟩ := o5.form; have G5 := below_then G4 G4.size b5; have HPT5 := hown.out.keep (G5.mono hown.out.le); have HN6 := heap_alloc_new w5 (.cells #[.int .i64 1, .slice a4 n4 e4, .slice a5 2 e5] 70))
          | (refine step_append_I (by rfl) _ _ (by with_reducible rfl) (by rfl) (by rfl) (OwnI.lit0 wr wr.heap.size (Nat.le_refl _)) SRC.out (by have := HLS.out; simp; omega) (by simp) ?_; intro a4 n4 e4 w4 hn4 o4 hg4; have G4 : Below wr.heap.size wr w4 := G1.grown hg4 (by simp) (fun k hk => by simp [Value.ownBlock] at hk; omega); have B4 := hbe.out.trans (G4.mono hbs))
          | (refine step_append_lies _ (by rfl) _ _ _ (by rfl) w3.heap.size 70 i0 _ 3 56 Try.underlying42 HI0.out HJ0.out HJ1.out HJ2.out rfl (by omega) u7 acc.length _ (by rfl) (World.ownsRow.alloc HPT5.own _) ⟨w5.heap.size, 0, none⟩ 1 1 [.int .i64 1, .slice a4 n4 e4, .slice a5 2 e5] (by rfl) (by rfl) (World.news_of_block HN6) (by simp [Value.oneCell']) (by omega) (by unfold maxLen; omega) (by omega) (by simp; have := B5.size; omega) (w5.heap.size + 1) (by simp) ?_; intro gg cg w1 hown1 hgrow hat hlt9; have B9 := OwnTp.below B5 B5.size _ hgrow HPT5 (Nat.le_refl _)))
      have K4 : IS w4 wr.heap.size w4.heap.size (.slice a4 n4 e4) sh := o4.is
      have hel : TEl w5 (1, sh, [r0, r1]) (.slice a4 n4 e4) (.slice a5 2 e5) wr.heap.size w4.heap.size w5.heap.size := ⟨G4.size, b5.size, by simp, K4.keep b5 (Nat.le_refl _), K5⟩
      obtain ⟨V2', V3', hnew⟩ := OwnTp.push HPT5 hel hown.out.le hbs (Nat.le_refl _) hgrow hown1 (by simpa using hat)
      have HNEW := Lib.hid hnew
      have HB9 := Lib.hid B9
      clear hnew hel K4 K5 hgrow hown1 hat hlt9 HN6 HPT5 G5 G4 G1 o4 o5 b5 B4 B5 B9 hn4 hg4 Bd SRC HCB hw2 hto2
      go_wp2
      go_roundw
      case rel => exact ⟨j + 1, _, V2', V3', _, by omega, by go_num, by simp; omega, HE, HNEW, HB9⟩
      case measure => simp [intOf]; omega
    · have HJN := Lib.hid (show n = j + 1 by omega)
      have HACC := Lib.hid hacc.out
      have hdec : ¬ ((j : Int) + 1 < (n : Int)) := by have := HJN.out; omega
      have hj31 : j ≤ 31 := by omega
      clear hacc
      go_wp2
      clear hdec
      go_loopw [7, 9] (fun ov kv wr => ∃ (k : Nat) (acc : List TermL) (V2 V3 : Nat → Value) (m : Nat), k + 2 ≤ n ∧ kv = .int .i64 ((k : Int) + 1) ∧ acc.length ≤ 31 + k ∧ Hid (acc = (List.range j).map (posT L sh) ++ (List.range k).map (negT L sh)) ∧ Hid (OwnTp wr w3.heap.size ov acc V2 V3 m) ∧ Hid (Below w3.heap.size w3 wr)) (fun _ kv _ => n - (intOf kv).toNat)
      case atStart => exact ⟨0, acc, V2, V3, m, by omega, rfl, by omega, Lib.hid (by rw [HACC.out]; simp), hown, hbe⟩
      case round =>
        clear hown hbe hal HACC
        obtain ⟨k, acc, V2, V3, m, hk, rfl, hal, hacc, hown, hbe⟩ := hrel
        by_cases hlt : k + 2 < n
        · have hbs := hbe.out.size
          have HE := Lib.hid (show acc ++ [negT L sh k] = (List.range j).map (posT L sh) ++ (List.range (k + 1)).map (negT L sh) by
            rw [hacc.out, List.append_assoc, range_snoc (negT L sh) k])
          rw [show negT L sh k = (-1, sh, [L.getD (k + 1) []]) from rfl] at HE
          have hi1 : (0 : Int) ≤ (k : Int) + 1 := by omega
          have hi3 : (k : Int) + 1 + 1 < (n : Int) := by omega
          have hw2 := wr64 ((k : Int) + 1 + 1) (by omega)
          have hto1 : ((k : Int) + 1).toNat = k + 1 := by omega
          have hto2 : ((k : Int) + 1 + 1).toNat = k + 1 + 1 := by omega
          have hi4 : (k : Int) + 1 ≤ (k : Int) + 1 + 1 := by omega
          have hmc := HMC.out.1
          have hi5 : (k : Int) + 1 + 1 ≤ (cap : Int) := by omega
          have hcj : ¬ cap = k + 1 := by omega
          have G1 : Below wr.heap.size wr (wr.alloc (.cells #[] 3)).drew := (below1 wr (.cells #[] 3)).trans (below_draws _ _ 1)
          have SRC := Lib.hid ((HX4.out.keep hbe.out (by rw [HZ3.out]; have := HB2.out.size; omega)).keep G1 (by have := HB2.out.size; rw [← HZ3.out] at this; omega))
          have HCB := Lib.hid (show ∀ W, Below w3.heap.size w3 W → Calls Try.prog 76 #[.slice (some ⟨b, off + (k + 1), none⟩) 1 (cap - (k + 1))] W fun e w' => ∃ u, e = .returned u ∧ OwnL w' W.heap.size u [L.getD (k + 1) []] ∧ Below W.heap.size W w' from fun W B =>
            l7Copy_any [L.getD (k + 1) []] _ w3.heap.size W ((rows_part (j := k + 1) (m := 1) (fun i hi => ⟨(HC3.out i hi).1, (HC3.out i hi).2.upto (by rw [HZ3.out]; exact Nat.le_refl _)⟩) (by rw [HZ3.out]; exact hbb) HMC.out.2 (by omega) hmc).keep B (Nat.le_refl _)) B.size (by simp) (fun i hi => by
              match i, hi with
              | 0, _ => exact HRL.out (k + 1) (by omega)))
          generalize L.getD (k + 1) [] = r0 at *
          go_wp2_with fail
          go_region_held3 (fun w' => True) (trivial)
            (first
              | (go_at_call 76; (with_reducible refine (HCB.out _ B4).mono ?_); rintro e w5 ⟨u5, rfl, o5, b5⟩; have B5 := below_then B4 B4.size b5; have K5 := o5.is; obtain ⟨a5, e5, rfl⟩ := o5.form; have G5 := below_then G4 G4.size b5; have HPT5 := hown.out.keep (G5.mono hown.out.le); have HN6 := heap_alloc_new w5 (.cells #[.int .i64 (-1), .slice a4 n4 e4, .slice a5 1 e5] 70))
              | (refine step_append_I (by rfl) _ _ (by with_reducible rfl) (by rfl) (by rfl) (OwnI.lit0 wr wr.heap.size (Nat.le_refl _)) SRC.out (by have := HLS.out; simp; omega) (by simp) ?_; intro a4 n4 e4 w4 hn4 o4 hg4; have G4 : Below wr.heap.size wr w4 := G1.grown hg4 (by simp) (fun k hk => by simp [Value.ownBlock] at hk; omega); have B4 := hbe.out.trans (G4.mono hbs))
              | (refine step_append_lies _ (by rfl) _ _ _ (by rfl) w3.heap.size 70 i0 _ 3 56 Try.underlying42 HI0.out HJ0.out HJ1.out HJ2.out rfl (by omega) _ acc.length _ (by rfl) (World.ownsRow.alloc HPT5.own _) ⟨w5.heap.size, 0, none⟩ 1 1 [.int .i64 (-1), .slice a4 n4 e4, .slice a5 1 e5] (by rfl) (by rfl) (World.news_of_block HN6) (by simp [Value.oneCell']) (by omega) (by unfold maxLen; omega) (by omega) (by simp; have := B5.size; omega) (w5.heap.size + 1) (by simp) ?_; intro gg cg w1 hown1 hgrow hat hlt9; have B9 := OwnTp.below B5 B5.size _ hgrow HPT5 (Nat.le_refl _)))
          have K4 : IS w4 wr.heap.size w4.heap.size (.slice a4 n4 e4) sh := o4.is
          have hel : TEl w5 (-1, sh, [r0]) (.slice a4 n4 e4) (.slice a5 1 e5) wr.heap.size w4.heap.size w5.heap.size := ⟨G4.size, b5.size, by simp, K4.keep b5 (Nat.le_refl _), K5⟩
          obtain ⟨V2', V3', hnew⟩ := OwnTp.push HPT5 hel hown.out.le hbs (Nat.le_refl _) hgrow hown1 (by simpa using hat)
          have HNEW := Lib.hid hnew
          have HB9 := Lib.hid B9
          clear hnew hel K4 K5 hgrow hown1 hat hlt9 HN6 HPT5 G5 G4 G1 o4 o5 b5 B4 B5 B9 hn4 hg4 SRC HCB hw2 hto2 hto1
          go_wp2
          go_roundw
          case rel => exact ⟨k + 1, _, V2', V3', _, by omega, by go_num, by simp; omega, HE, HNEW, HB9⟩
          case measure => simp [intOf]; omega
        · have HFIN := Lib.hid (show RES = (acc, true) by
            rw [HRS.out, hacc.out]
            unfold serL
            rw [← HN.out, show n - 1 = j by have := HJN.out; omega, show n - 2 = k by have := HJN.out; omega])
          have hdec : ¬ ((k : Int) + 1 + 1 < (n : Int)) := by omega
          go_wp2
          go_ret2
          exact ⟨_, by rw [HFIN.out]; rfl, by rw [HFIN.out]; exact hown.out.is.mono HB3.out.size (Nat.le_refl _), HB3.out.trans (hbe.out.mono HB3.out.size)⟩
end Go.Proofs.Ytchkcjpahlimjaa
