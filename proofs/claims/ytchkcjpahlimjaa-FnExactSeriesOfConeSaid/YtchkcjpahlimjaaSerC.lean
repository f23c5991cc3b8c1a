/- The series of a cone: the program's walk. -/
import Derived.Test.YtchkcjpahlimjaaOwnT
import Derived.Test.YtchkcjpahlimjaaB5
import Derived.Test.YtchkcjpahlimjaaB2
import Derived.Lib.SliceRun
namespace Go.Proofs.Ytchkcjpahlimjaa
open Go.RowKit
set_option linter.unusedVariables false
set_option linter.unusedSimpArgs false

def posT (L : List (List Int)) (sh : List Int) (k : Nat) : TermL := (1, sh, [L.getD k [], L.getD (k + 1) []])
def negT (L : List (List Int)) (sh : List Int) (k : Nat) : TermL := (-1, sh, [L.getD (k + 1) []])
def serL (L : List (List Int)) (sh : List Int) : List TermL := (List.range (L.length - 1)).map (posT L sh) ++ (List.range (L.length - 2)).map (negT L sh)
def serOk (L : List (List Int)) (sh : List Int) : Bool := decide (L ≠ []) && (vecB sh && (decide (sh.length = 2) && decide (L.length ≤ 31)))
def serC (U V sh : List Int) : List TermL × Bool := if serOk (splitC U V) sh then (serL (splitC U V) sh, true) else ([], false)
theorem serC_no {U V sh : List Int} (h : serOk (splitC U V) sh = false) : serC U V sh = ([], false) := by unfold serC; rw [h]; rfl
theorem serC_yes {U V sh : List Int} (h : serOk (splitC U V) sh = true) : serC U V sh = (serL (splitC U V) sh, true) := by unfold serC; rw [h]; rfl
theorem splitC_two {U V : List Int} (h : splitC U V ≠ []) : 2 ≤ (splitC U V).length := by
  cases hc : coneB U V
  · exact absurd (by unfold splitC; rw [hc]; rfl) h
  · obtain ⟨x, y, p, q, rfl, rfl, bx, bY, bp, bq, hg, hg2, hd⟩ := cone_parts hc
    have e : splitC [x, y] [p, q] = splitP p q (x * q - y * p).toNat x y := by unfold splitC; rw [hc]; simp [crossI]
    rw [e]
    obtain ⟨k, hk⟩ : ∃ k, (x * q - y * p).toNat = k + 1 := ⟨(x * q - y * p).toNat - 1, by omega⟩
    rw [hk, splitP_succ p q k (by omega)]
    have hs : Spl p q x y (k + 1) := ⟨bx, bY, hg, by omega, by omega⟩
    obtain ⟨k', hk', hn⟩ := hs.next bp bq (by omega)
    obtain rfl : k' = k := by omega
    have := (splitP_all bp bq _ _ _ hn).2.2
    simp; omega

set_option maxRecDepth 100000 in
set_option maxHeartbeats 8000000 in
theorem implSeriesOfCone_any (U V sh : List Int) (v1 v2 vs : Value) (hb : Nat) (w : World) (i1 : ISr w hb v1 U) (i2 : ISr w hb v2 V) (i3 : ISr w hb vs sh) (hhb : hb ≤ w.heap.size) :
    Calls Try.prog 37 #[.agg #[v1, v2], vs] w fun e w' => ∃ u, e = .returned (.tuple #[u, .bool (serC U V sh).2]) ∧ TS w' w.heap.size w'.heap.size u (serC U V sh).1 ∧ Below w.heap.size w w' := by
  have HB0 := Lib.hid (below1 w (.cells #[v1, v2] 28))
  have C0 := implSplitCone_any U V v1 v2 hb _ (i1.keep HB0.out hhb) (i2.keep HB0.out hhb) (by have := HB0.out.size; omega)
  obtain ⟨hall, hlen⟩ := splitC_all U V
  have HR := Lib.hid hall.row
  have HTWO := Lib.hid (splitC_two (U := U) (V := V))
  have HNO := Lib.hid (serC_no (U := U) (V := V) (sh := sh))
  have HYES := Lib.hid (serC_yes (U := U) (V := V) (sh := sh))
  have HEN := fun W n c => Lib.run_eql_slice_nil (P := Try.prog) W 26 22 none n c 0 0 Try.underlying26
  have HEQ := fun W a n c => Lib.run_eql_slice_nil (P := Try.prog) W 26 22 (some a) n c 0 0 Try.underlying26
  simp only [Option.isNone_none, Option.isNone_some] at HEN HEQ
  generalize serC U V sh = RES at *
  generalize splitC U V = L at *
  have HI3 := Lib.hid i3
  obtain ⟨a1, c1, rfl, -⟩ := id i1
  obtain ⟨a2, c2, rfl, -⟩ := id i2
  obtain ⟨a3, c3, rfl, -⟩ := id i3
  clear i1 i2 i3 hall
  go_enter Try.func37, Try.ntmps37
  go_wp2_with fail
  refine C0.mono ?_
  rintro e w2 ⟨u2, rfl, hown, hnil, b2⟩
  have HB2 := Lib.hid (below_then HB0.out HB0.out.size b2)
  have HIS := Lib.hid hown.is.read
  by_cases hL : L = []
  · obtain rfl := hnil hL
    have hr := HNO.out (by unfold serOk; rw [decide_eq_false (by simpa using hL)]; rfl)
    have HRS := Lib.hid hr
    clear hown hnil hr b2 C0
    go_wp2
    go_ret2
    exact ⟨.slice none 0 0, by rw [HRS.out]; rfl, by rw [HRS.out]; exact TS.nil _ _ _, HB2.out⟩
  have hn2 := HTWO.out hL
  rcases hown.is.read.cases with ⟨e, -⟩ | ⟨-, -, b, off, cap, Vf, rfl, hbb, hcc⟩
  · exact absurd e hL
  have HCC := Lib.hid hcc
  clear hown hnil b2 C0 hcc
  have CV := implIsVector_any sh _ hb w2 (HI3.out.keep HB2.out hhb)
  have HLEN := Lib.hid hlen
  obtain ⟨n, hn⟩ : ∃ n, n = L.length := ⟨_, rfl⟩
  rw [← hn] at hn2 HCC HIS hlen ⊢
  have HN := Lib.hid hn
  clear hn
  have SOK := Lib.hid (show serOk L sh = (vecB sh && (decide (sh.length = 2) && decide (L.length ≤ 31))) by unfold serOk; rw [decide_eq_true (by simpa using hL)]; rfl)
  go_wp2_with fail
  cases hv : vecB sh
  · rw [hv] at CV
    refine CV.mono ?_
    rintro e w3 ⟨rfl, d3, hw3⟩
    have HB3 := Lib.hid (HB2.out.trans (hw3 ▸ below_draws w.heap.size w2 d3))
    have HRS := Lib.hid (HNO.out (by rw [SOK.out, hv]; rfl))
    clear hw3 CV hv
    go_wp2
    go_ret2
    exact ⟨.slice none 0 0, by rw [HRS.out]; rfl, by rw [HRS.out]; exact TS.nil _ _ _, HB3.out⟩
  rw [hv] at CV
  refine CV.mono ?_
  rintro e w3 ⟨rfl, d3, hw3⟩
  have c3 : Below w2.heap.size w2 w3 := hw3 ▸ below_draws _ _ _
  have HZ3 := Lib.hid (show w3.heap.size = w2.heap.size by rw [hw3]; rfl)
  have HB3 := Lib.hid (below_then HB2.out HB2.out.size c3)
  have HC3 := Lib.hid (show ∀ i, i < n → w3.cell? ⟨b, off + i, none⟩ = some (Vf i) ∧ ISr w3 w2.heap.size (Vf i) (L.getD i []) from fun i hi => ⟨(c3.cell (p := ⟨b, off + i, none⟩) hbb).trans (HCC.out i hi).1, (HCC.out i hi).2.keep c3 (Nat.le_refl _)⟩)
  have HX3 := Lib.hid (HI3.out.keep HB3.out hhb)
  have HMC := Lib.hid (show n ≤ cap ∧ cap ≤ maxLen from by
    obtain ⟨x, y, hxy, h1, h2, -⟩ := HIS.out
    injection hxy with e1 e2 e3
    subst e3
    exact ⟨by rw [HN.out]; exact h1, h2⟩)
  clear hw3 CV c3 HCC HIS
  by_cases hs2 : sh.length = 2
  case neg =>
    have hne : ((sh.length : Int) != 2) = true := by rw [bne_iff_ne]; omega
    have HRS := Lib.hid (HNO.out (by rw [SOK.out, decide_eq_false hs2, Bool.false_and, Bool.and_false]))
    clear hv
    generalize sh.length = ls at *
    clear hs2
    go_wp2
    go_ret2
    exact ⟨.slice none 0 0, by rw [HRS.out]; rfl, by rw [HRS.out]; exact TS.nil _ _ _, HB3.out⟩
  by_cases hn31 : n ≤ 31
  case neg =>
    have HRS := Lib.hid (HNO.out (by rw [SOK.out, ← HN.out, decide_eq_false hn31, Bool.and_false, Bool.and_false]))
    have hgt : (60 : Int) < 2 * (n : Int) - 3 := by omega
    have hw1 := wr64 (2 * (n : Int)) (by omega)
    have hw2 := wr64 (2 * (n : Int) - 3) (by omega)
    have hne : ((sh.length : Int) != 2) = false := by rw [hs2]; rfl
    clear hv hs2
    generalize sh.length = ls at *
    go_wp2
    go_ret2
    exact ⟨.slice none 0 0, by rw [HRS.out]; rfl, by rw [HRS.out]; exact TS.nil _ _ _, HB3.out⟩
  have HRS := Lib.hid (HYES.out (by rw [SOK.out, hv, ← HN.out, decide_eq_true hs2, decide_eq_true hn31]; rfl))
  have hgt : ¬ (60 : Int) < 2 * (n : Int) - 3 := by omega
  have hw1 := wr64 (2 * (n : Int)) (by omega)
  have hw2 := wr64 (2 * (n : Int) - 3) (by omega)
  have hne : ((sh.length : Int) != 2) = false := by rw [hs2]; rfl
  have HS2 := Lib.hid hs2
  clear hv hs2 SOK HNO HYES HTWO
  have hs63 : sh.length ≤ 1000 := by rw [HS2.out]; omega
  obtain ⟨ls, hls⟩ : ∃ ls, ls = sh.length := ⟨_, rfl⟩
  rw [← hls] at hne
  have HLS := Lib.hid hls
  rw [← hls] at hs63
  have CS := fun W (B : Below w3.heap.size w3 W) => copyInts_any sh (.slice a3 ls c3) hb W (by have := HX3.out.keep B (by rw [HZ3.out]; have := HB2.out.size; omega); rw [HLS.out]; exact this) (by rw [← HLS.out]; omega)
  rw [← hls]
  clear hls
  go_wp2
  clear HEN HEQ
  clear hgt hw1 hw2 hne
  obtain ⟨i0, hi0, hz0, hz1, hz2⟩ := info_parts info_term
  have HI0 := Lib.hid hi0; clear hi0
  have HJ0 := Lib.hid hz0; clear hz0
  have HJ1 := Lib.hid hz1; clear hz1
  have HJ2 := Lib.hid hz2; clear hz2
  have HRL := Lib.hid (show ∀ i, i < n → (L.getD i []).length ≤ 1000000 from fun i hi => by
    obtain ⟨x, y, e, -⟩ := HR.out i (by rw [← HN.out]; exact hi)
    rw [e]; simp)
  have CR := fun i (hi : i < n) W (B : Below w3.heap.size w3 W) => copyInts_any (L.getD i []) (Vf i) w3.heap.size W (((HC3.out i hi).2.upto (by rw [HZ3.out]; exact Nat.le_refl _)).keep B (Nat.le_refl _)) (HRL.out i hi)
  have HCW := Lib.hid (show ∀ i, i < n → ∀ W, Below w3.heap.size w3 W → W.cell? ⟨b, off + i, none⟩ = some (Vf i) from fun i hi W B => (B.cell (p := ⟨b, off + i, none⟩) (by rw [HZ3.out]; exact hbb)).trans (HC3.out i hi).1)
  go_loopw [7, 8] (fun ov kv wr => ∃ (j : Nat) (acc : List TermL) (V2 V3 : Nat → Value) (m : Nat), j + 1 ≤ n ∧ kv = .int .i64 ((j : Int) + 1) ∧ acc.length ≤ j ∧ Hid (acc = (List.range j).map (posT L sh)) ∧ Hid (OwnTp wr w3.heap.size ov acc V2 V3 m) ∧ Hid (Below w3.heap.size w3 wr)) (fun _ kv _ => n - (intOf kv).toNat)
  case atStart => exact ⟨0, [], fun _ => .slice none 0 0, fun _ => .slice none 0 0, w3.heap.size, by omega, rfl, Nat.le_refl _, Lib.hid rfl, OwnTp.nil _ _ _ _ _ (Nat.le_refl _), Below.refl _ _⟩
  case round =>
    obtain ⟨j, acc, V2, V3, m, hj, rfl, hal, hacc, hown, hbe⟩ := hrel
    by_cases hlt : j + 1 < n
    · have hbs := hbe.out.size
      have hc0 := HCW.out j (by omega) wr hbe.out
      have hc1 := HCW.out (j + 1) hlt wr hbe.out
      have HE := Lib.hid (range_snoc (posT L sh) j)
      rw [← hacc.out, show posT L sh j = (1, sh, [L.getD j [], L.getD (j + 1) []]) from rfl] at HE
      have Bd : Below w3.heap.size w3 wr.drew := hbe.out.trans (below_draws _ wr 1)
      have CA := CR j (by omega)
      have CB := CR (j + 1) hlt
      have HCW0 := Lib.hid (HCW.out j (by omega))
      have HCW1 := Lib.hid (HCW.out (j + 1) hlt)
      have CS1 := CS
      clear CR CS
      generalize Vf j = x0 at *
      generalize Vf (j + 1) = x1 at *
      generalize L.getD j [] = r0 at *
      generalize L.getD (j + 1) [] = r1 at *
      have hi1 : (0 : Int) ≤ (j : Int) := by omega
      have hi2 : (j : Int) < (n : Int) := by omega
      have hi3 : (j : Int) + 1 < (n : Int) := by omega
      have hi4 : (0 : Int) ≤ (j : Int) + 1 := by omega
      have hto1 : ((j : Int) + 1).toNat = j + 1 := by omega
      have hw1 := wr64 (j : Int) (by omega)
      go_wp2_with fail
      go_region_held3 (fun w' => w'.cell? ⟨b, off + j, none⟩ = some x0 ∧ w'.cell? ⟨b, off + (j + 1), none⟩ = some x1)
        (first | exact ⟨hc0, hc1⟩ | exact ⟨p9, q9⟩ | exact ⟨p5, q5⟩ | exact ⟨p4, q4⟩ | exact ⟨p3, q3⟩ | go_keep)
        (first
          | (go_at_call 59; (with_reducible refine (CB _ B4).mono ?_); rintro e w6 ⟨u6, rfl, o6, b6⟩; have B5 := below_then B4 B4.size b6; have p5 := HCW0.out _ B5; have q5 := HCW1.out _ B5; obtain ⟨a6, e6, rfl⟩ := o6.form; have K6 := o6.is; have G6 := below_then G5 G5.size b6; have HPT6 := hown.out.keep (G6.mono hown.out.le); have G7 := below1 w6 (.cells #[.slice a5 r0.length e5, .slice a6 r1.length e6] 22); have HPT7 := HPT6.keep (G7.mono (Nat.le_trans hown.out.le G6.size)); have HN6 := heap_alloc_new (w6.alloc (.cells #[.slice a5 r0.length e5, .slice a6 r1.length e6] 22)) (.cells #[.int .i64 1, .slice a4 sh.length e4, .slice (some ⟨w6.heap.size, 0, none⟩) 2 2] 70); rw [World.size_alloc] at HN6)
          | (go_at_call 59; (with_reducible refine (CA _ B3).mono ?_); rintro e w5 ⟨u5, rfl, o5, b5⟩; have B4 := below_then B3 B3.size b5; have p4 := HCW0.out _ B4; have q4 := HCW1.out _ B4; obtain ⟨a5, e5, rfl⟩ := o5.form; have K5 := o5.is; have G5 := below_then G4 G4.size b5)
          | (go_at_call 59; (with_reducible refine (CS1 _ Bd).mono ?_); rintro e w4 ⟨u4, rfl, o4, b4⟩; have B3 := below_then Bd Bd.size b4; have p3 := HCW0.out _ B3; have q3 := HCW1.out _ B3; obtain ⟨a4, e4, rfl⟩ := o4.form; have K4 := o4.is; have G4 : Below wr.heap.size wr w4 := (below_draws _ wr 1).trans b4)
          | (refine step_append_lies _ (by rfl) _ _ _ (by rfl) w3.heap.size 70 i0 _ 3 56 Try.underlying42 HI0.out HJ0.out HJ1.out HJ2.out rfl (by omega) u7 acc.length _ (by rfl) (World.ownsRow.alloc HPT7.own _) ⟨w6.heap.size + 1, 0, none⟩ 1 1 [.int .i64 1, .slice a4 sh.length e4, .slice (some ⟨w6.heap.size, 0, none⟩) 2 2] (by rfl) (by rfl) (World.news_of_block HN6) (by simp [Value.oneCell']) (by omega) (by unfold maxLen; omega) (by omega) (by simp; have := B5.size; omega) (w6.heap.size + 1 + 1) (by simp) ?_; intro gg cg w1 hown1 hgrow hat hlt9; have B9 := OwnTp.below (B5.trans (G7.mono B5.size)) (by simp; have := B5.size; omega) _ hgrow HPT7 (Nat.le_refl _); have p9 := HCW0.out _ B9; have q9 := HCW1.out _ B9))
      have K4' : IS (w6.alloc (.cells #[.slice a5 r0.length e5, .slice a6 r1.length e6] 22)) wr.heap.size w4.heap.size (.slice a4 sh.length e4) sh := ((K4.keep b5 (Nat.le_refl _)).keep b6 b5.size).keep G7 (Nat.le_trans b5.size b6.size)
      have GL := ISS.lit2 (lo := w4.heap.size) (K5.keep b6 (Nat.le_refl _)) K6 (Nat.le_refl _) (Nat.le_refl _) b5.size (Nat.le_refl _) b6.size
      have hel : TEl (w6.alloc (.cells #[.slice a5 r0.length e5, .slice a6 r1.length e6] 22)) (1, sh, [r0, r1]) (.slice a4 sh.length e4) (.slice (some ⟨w6.heap.size, 0, none⟩) 2 2) wr.heap.size w4.heap.size (w6.heap.size + 1) := ⟨G4.size, by have := b5.size; have := b6.size; omega, by simp, K4', GL⟩
      obtain ⟨V2', V3', hnew⟩ := OwnTp.push HPT7 hel hown.out.le hbs (by simp) hgrow hown1 (by simpa using hat)
      have HNEW := Lib.hid hnew
      have HB9 := Lib.hid B9
      clear hnew hel GL K4' hgrow hown1 hat hlt9 HN6 HPT7 HPT6 G7 G6 G5 G4 K4 K5 K6 o4 o5 o6 b4 b5 b6 B3 B4 B5 B9 p3 q3 p4 q4 p5 q5 p9 q9 CA CB hc0 hc1 hw1 CS1 Bd
      go_wp2
      go_roundw
      case rel => exact ⟨j + 1, _, V2', V3', _, by omega, by go_num, by simp; omega, HE, HNEW, HB9⟩
      case measure => simp [intOf]; omega
    · have hjn : n = j + 1 := by omega
      have hcap1 : ¬ cap = 1 := by have := HMC.out.1; omega
      have hcc1 : (1 : Int) ≤ (n : Int) - 1 := by omega
      have hmc := HMC.out.1
      have hmm := HMC.out.2
      unfold maxLen at hmm
      have hjc : (n : Int) - 1 ≤ (cap : Int) := by omega
      have hj1 : ((n : Int) - 1).toNat = n - 1 := by omega
      have hw3j := wr64 ((n : Int) - 1) (by omega)
      have hdec : ¬ ((j : Int) + 1 < (n : Int)) := by omega
      have HJN := Lib.hid hjn
      clear hjn
      go_wp2
      obtain ⟨q, hq⟩ : ∃ q, q = n - 1 - 1 := ⟨_, rfl⟩
      rw [← hq]
      have HQ1 := Lib.hid (show q + 1 = j by have := HJN.out; omega)
      have HACC := Lib.hid hacc.out
      have hjq : j ≤ 31 := by omega
      have hq30 : q ≤ 30 := by omega
      clear hq hj1 hw3j hjc hcc1 hcap1 hmc hmm hacc hdec
      go_loopw [7, 62] (fun ov kv wr => ∃ (k : Nat) (acc : List TermL) (V2 V3 : Nat → Value) (m : Nat), k ≤ q ∧ kv = .int .i64 k ∧ acc.length ≤ 31 + k ∧ Hid (acc = (List.range j).map (posT L sh) ++ (List.range k).map (negT L sh)) ∧ Hid (OwnTp wr w3.heap.size ov acc V2 V3 m) ∧ Hid (Below w3.heap.size w3 wr)) (fun _ kv _ => q - (intOf kv).toNat)
      case atStart => exact ⟨0, acc, V2, V3, m, by omega, rfl, by omega, Lib.hid (by rw [HACC.out]; simp), hown, hbe⟩
      case round =>
        clear hown hbe hal HACC
        obtain ⟨k, acc, V2, V3, m, hk, rfl, hal, hacc, hown, hbe⟩ := hrel
        by_cases hlt : k < q
        · have hbs := hbe.out.size
          have hc0 : wr.cell? ⟨b, off + 1 + k, none⟩ = some (Vf (k + 1)) := by
            have := HCW.out (k + 1) (by have := HQ1.out; have := HJN.out; omega) wr hbe.out
            rw [show off + 1 + k = off + (k + 1) by omega]; exact this
          have HE := Lib.hid (show acc ++ [negT L sh k] = (List.range j).map (posT L sh) ++ (List.range (k + 1)).map (negT L sh) by
            rw [hacc.out, List.append_assoc, range_snoc (negT L sh) k])
          rw [show negT L sh k = (-1, sh, [L.getD (k + 1) []]) from rfl] at HE
          have CA := CR (k + 1) (by have := HQ1.out; have := HJN.out; omega)
          have CS1 := CS
          clear CR CS
          generalize Vf (k + 1) = x0 at *
          generalize L.getD (k + 1) [] = r0 at *
          go_wp2_with fail
          refine (CS1 _ hbe.out).mono ?_
          rintro e w4 ⟨u4, rfl, o4, b4⟩
          have B4 := Lib.hid (below_then hbe.out hbs b4)
          obtain ⟨a4, e4, rfl⟩ := o4.form
          have K4 := Lib.hid o4.is
          have HPT4 := Lib.hid (hown.out.keep (b4.mono hown.out.le))
          have HS4 := Lib.hid b4.size
          clear o4 b4
          go_wp2_with fail
          refine (CA _ B4.out).mono ?_
          rintro e w5 ⟨u5, rfl, o5, b5⟩
          have B5 := Lib.hid (below_then B4.out B4.out.size b5)
          obtain ⟨a5, e5, rfl⟩ := o5.form
          have K5 := Lib.hid o5.is
          have HPT5 := Lib.hid (HPT4.out.keep (b5.mono HPT4.out.le))
          have HS5 := Lib.hid b5.size
          have K4' := Lib.hid (K4.out.keep b5 (Nat.le_refl _))
          clear o5 b5 hc0
          have G7 := Lib.hid (below1 w5 (.cells #[.slice a5 r0.length e5] 22))
          have HPT7 := Lib.hid (HPT5.out.keep (G7.out.mono HPT5.out.le))
          have HN6 := Lib.hid (heap_alloc_new (w5.alloc (.cells #[.slice a5 r0.length e5] 22)) (.cells #[.int .i64 (-1), .slice a4 sh.length e4, .slice (some ⟨w5.heap.size, 0, none⟩) 1 1] 70))
          rw [World.size_alloc] at HN6
          go_wp2_with (at_builtin; refine wpList_append_lies _ rfl _ _ _ rfl w3.heap.size 70 i0 _ 3 56 Try.underlying42 HI0.out HJ0.out HJ1.out HJ2.out rfl (by omega) _ acc.length _ rfl (World.ownsRow.alloc HPT7.out.own _) ⟨w5.heap.size + 1, 0, none⟩ 1 1 [.int .i64 (-1), .slice a4 sh.length e4, .slice (some ⟨w5.heap.size, 0, none⟩) 1 1] rfl rfl (World.news_of_block HN6.out) (by simp [Value.oneCell']) (by omega) (by unfold maxLen; omega) (by omega) (by simp; have := B5.out.size; omega) (w5.heap.size + 1 + 1) (by simp) ?_)
          intro gg cg w1 hown1 hgrow hat hlt9
          have GL := ISS.lit1 (lo := w4.heap.size) K5.out (Nat.le_refl _) HS5.out (Nat.le_refl _)
          have hel : TEl (w5.alloc (.cells #[.slice a5 r0.length e5] 22)) (-1, sh, [r0]) (.slice a4 sh.length e4) (.slice (some ⟨w5.heap.size, 0, none⟩) 1 1) wr.heap.size w4.heap.size (w5.heap.size + 1) := ⟨HS4.out, by have := HS5.out; omega, by simp, K4'.out.keep G7.out HS5.out, GL⟩
          obtain ⟨V2', V3', hnew⟩ := OwnTp.push HPT7.out hel hown.out.le hbs (by simp) hgrow hown1 (by simpa using hat)
          have HNEW := Lib.hid hnew
          have HB9 := Lib.hid (OwnTp.below (B5.out.trans (G7.out.mono B5.out.size)) (by simp; have := B5.out.size; omega) _ hgrow HPT7.out (Nat.le_refl _))
          clear hnew hel GL hgrow hown1 hat hlt9
          go_wp2
          go_roundw
          case rel =>
            exact ⟨k + 1, _, V2', V3', _, by omega, by go_num, by simp; omega, HE, HNEW, HB9⟩
          case measure => simp [intOf]; omega
        · obtain rfl : k = q := by omega
          have HFIN := Lib.hid (show RES = (acc, true) by
            rw [HRS.out, hacc.out]
            unfold serL
            rw [← HN.out, show n - 1 = j by have := HJN.out; omega, show n - 2 = k by have := HQ1.out; have := HJN.out; omega])
          go_wp2
          go_ret2
          exact ⟨_, by rw [HFIN.out]; rfl, by rw [HFIN.out]; exact hown.out.is.mono HB3.out.size (Nat.le_refl _), HB3.out.trans (hbe.out.mono HB3.out.size)⟩
end Go.Proofs.Ytchkcjpahlimjaa
