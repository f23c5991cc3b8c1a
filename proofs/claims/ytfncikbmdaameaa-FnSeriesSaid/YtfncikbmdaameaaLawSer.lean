/- The statement on series: the walk. -/
import Derived.Test.YtfncikbmdaameaaDrN
import Derived.Test.YtfncikbmdaameaaSrL
import Derived.Test.YtfncikbmdaameaaSmT
import Derived.Test.YtfncikbmdaameaaHlp
import Derived.Test.YtfncikbmdaameaaB2
import Derived.Test.YtfncikbmdaameaaCTm
import Derived.Deep.RegionHeld3
import Derived.Deep.DeepCutAuto
namespace Go.Proofs.Ytfncikbmdaameaa
open Go.RowKit
set_option linter.unusedVariables false
set_option linter.unusedSimpArgs false

set_option maxRecDepth 100000 in
set_option maxHeartbeats 16000000 in
theorem lawFnSeries (v : Value) (l : List Int) (w : World) (h : ISb w w.heap.size v l) :
    Calls Try.prog 10 #[v] w fun e w' => e = .returned (.bool true) ∧ Below w.heap.size w w' := by
  have HBG := big_any v l w.heap.size w h
  have CC := DrawSeriesOfCone_any v l w.heap.size w h (Nat.le_refl _)
  have HI := Lib.hid h
  clear h
  cases hbig : decide (1048576 < l.length)
  case true =>
    rw [hbig] at HBG
    go_enter Try.func10, Try.ntmps10
    go_wp2_with (go_at_call 22; (with_reducible refine HBG.mono ?_); rintro e w' ⟨rfl, rfl⟩)
    go_ret
    exact ⟨rfl, Below.refl _ _⟩
  rw [hbig] at HBG
  clear hbig
  go_enter Try.func10, Try.ntmps10
  go_wp2_with (go_at_call 22; (with_reducible refine HBG.mono ?_); rintro e w' ⟨rfl, rfl⟩)
  clear HBG
  refine CC.mono ?_
  rintro e w1 ⟨⟨u1, u2, u3, U, V, S, rfl, i1, i2, i3, hSl, hSb⟩, c1⟩
  clear CC
  have HB1 := Lib.hid c1
  have F_U := Lib.hid (i1.read)
  have F_V := Lib.hid (i2.read)
  have F_S := Lib.hid (i3.read)
  clear c1
  clear i1 i2 i3
  obtain ⟨a1, q1, e1, -⟩ := id F_U.out
  subst e1
  obtain ⟨a2, q2, e2, -⟩ := id F_V.out
  subst e2
  obtain ⟨a3, q3, e3, -⟩ := id F_S.out
  subst e3
  have c2 := below1 w1 (.cells #[.slice a1 U.length q1, .slice a2 V.length q2] 64)
  have HB2 := Lib.hid (below_then HB1.out HB1.out.size c2)
  clear HB1
  have ho := (F_U.out.keep c2 (Nat.le_refl _)).upto c2.size
  clear F_U
  have F_U := Lib.hid ho
  clear ho
  have ho := (F_V.out.keep c2 (Nat.le_refl _)).upto c2.size
  clear F_V
  have F_V := Lib.hid ho
  clear ho
  have ho := (F_S.out.keep c2 (Nat.le_refl _)).upto c2.size
  clear F_S
  have F_S := Lib.hid ho
  clear ho
  have X_c := Lib.hid (CB.new w1 (.slice a1 U.length q1) (.slice a2 V.length q2))
  clear c2
  have x0 := X_c.out.c0
  have x1 := X_c.out.c1
  have CC := implSeriesOfCone_any U V S _ _ _ _ (w1.alloc (.cells #[.slice a1 U.length q1, .slice a2 V.length q2] 64)) F_U.out F_V.out F_S.out (Nat.le_refl _)
  go_wp2_with fail
  refine CC.mono ?_
  rintro e w3 ⟨u4, rfl, k4, c3⟩
  clear CC
  have HB3 := Lib.hid (below_then HB2.out HB2.out.size c3)
  clear HB2
  have ho := (F_U.out.keep c3 (Nat.le_refl _)).upto c3.size
  clear F_U
  have F_U := Lib.hid ho
  clear ho
  have ho := (F_V.out.keep c3 (Nat.le_refl _)).upto c3.size
  clear F_V
  have F_V := Lib.hid ho
  clear ho
  have ho := (F_S.out.keep c3 (Nat.le_refl _)).upto c3.size
  clear F_S
  have F_S := Lib.hid ho
  clear ho
  have ho := X_c.out.below c3
  clear X_c
  have X_c := Lib.hid ho
  clear ho
  have F_l := Lib.hid (k4.read)
  clear c3
  clear k4 x0 x1
  obtain ⟨a4, q4, e4, -⟩ := id F_l.out
  subst e4
  have x0 := X_c.out.c0
  have x1 := X_c.out.c1
  have CC := specSeriesOfCone_any U V S _ _ _ _ w3 F_U.out F_V.out F_S.out (Nat.le_refl _)
  go_wp2_with fail
  refine CC.mono ?_
  rintro e w4 ⟨u5, rfl, k5, c4⟩
  clear CC
  have HB4 := Lib.hid (below_then HB3.out HB3.out.size c4)
  clear HB3
  have ho := (F_U.out.keep c4 (Nat.le_refl _)).upto c4.size
  clear F_U
  have F_U := Lib.hid ho
  clear ho
  have ho := (F_V.out.keep c4 (Nat.le_refl _)).upto c4.size
  clear F_V
  have F_V := Lib.hid ho
  clear ho
  have ho := (F_S.out.keep c4 (Nat.le_refl _)).upto c4.size
  clear F_S
  have F_S := Lib.hid ho
  clear ho
  have ho := (F_l.out.keep c4 (Nat.le_refl _)).upto c4.size
  clear F_l
  have F_l := Lib.hid ho
  clear ho
  have ho := X_c.out.below c4
  clear X_c
  have X_c := Lib.hid ho
  clear ho
  have F_m := Lib.hid (k5.read)
  clear c4
  clear k5 x0 x1
  obtain ⟨a5, q5, e5, -⟩ := id F_m.out
  subst e5
  have CC := DrawTermAt_any v l w.heap.size w4 (HI.out.keep HB4.out (Nat.le_refl _)) HB4.out.size
  go_wp2_with fail
  refine CC.mono ?_
  rintro e w5 ⟨⟨s, u6, u7, u8, TU, TG, X, rfl, hs, i6, i7, i8⟩, c5⟩
  clear CC
  have HB5 := Lib.hid (below_then HB4.out HB4.out.size c5)
  clear HB4
  have ho := (F_U.out.keep c5 (Nat.le_refl _)).upto c5.size
  clear F_U
  have F_U := Lib.hid ho
  clear ho
  have ho := (F_V.out.keep c5 (Nat.le_refl _)).upto c5.size
  clear F_V
  have F_V := Lib.hid ho
  clear ho
  have ho := (F_S.out.keep c5 (Nat.le_refl _)).upto c5.size
  clear F_S
  have F_S := Lib.hid ho
  clear ho
  have ho := (F_l.out.keep c5 (Nat.le_refl _)).upto c5.size
  clear F_l
  have F_l := Lib.hid ho
  clear ho
  have ho := (F_m.out.keep c5 (Nat.le_refl _)).upto c5.size
  clear F_m
  have F_m := Lib.hid ho
  clear ho
  have ho := X_c.out.below c5
  clear X_c
  have X_c := Lib.hid ho
  clear ho
  have F_TU := Lib.hid (i6)
  have F_TG := Lib.hid (i7)
  have F_X := Lib.hid (i8)
  clear c5
  clear i6 i7 i8
  obtain ⟨a6, q6, e6, -⟩ := id F_TU.out
  subst e6
  obtain ⟨a7, q7, e7, -⟩ := id F_TG.out
  subst e7
  obtain ⟨a8, q8, e8, -⟩ := id F_X.out
  subst e8
  have c6 := below1 w5 (.cells #[.int .i64 s, .slice a6 TU.length q6, .slice a7 TG.length q7] 92)
  have HB6 := Lib.hid (below_then HB5.out HB5.out.size c6)
  clear HB5
  have ho := (F_U.out.keep c6 (Nat.le_refl _)).upto c6.size
  clear F_U
  have F_U := Lib.hid ho
  clear ho
  have ho := (F_V.out.keep c6 (Nat.le_refl _)).upto c6.size
  clear F_V
  have F_V := Lib.hid ho
  clear ho
  have ho := (F_S.out.keep c6 (Nat.le_refl _)).upto c6.size
  clear F_S
  have F_S := Lib.hid ho
  clear ho
  have ho := (F_l.out.keep c6 (Nat.le_refl _)).upto c6.size
  clear F_l
  have F_l := Lib.hid ho
  clear ho
  have ho := (F_m.out.keep c6 (Nat.le_refl _)).upto c6.size
  clear F_m
  have F_m := Lib.hid ho
  clear ho
  have ho := (F_TU.out.keep c6 (Nat.le_refl _)).upto c6.size
  clear F_TU
  have F_TU := Lib.hid ho
  clear ho
  have ho := (F_TG.out.keep c6 (Nat.le_refl _)).upto c6.size
  clear F_TG
  have F_TG := Lib.hid ho
  clear ho
  have ho := (F_X.out.keep c6 (Nat.le_refl _)).upto c6.size
  clear F_X
  have F_X := Lib.hid ho
  clear ho
  have ho := X_c.out.below c6
  clear X_c
  have X_c := Lib.hid ho
  clear ho
  have X_t := Lib.hid (TB.new w5 s (.slice a6 TU.length q6) (.slice a7 TG.length q7))
  clear c6
  have CC := DrawSeriesAt_any v l w.heap.size (w5.alloc (.cells #[.int .i64 s, .slice a6 TU.length q6, .slice a7 TG.length q7] 92)) (HI.out.keep HB6.out (Nat.le_refl _)) HB6.out.size
  go_wp2_with fail
  refine CC.mono ?_
  rintro e w7 ⟨⟨u9, u10, ts, Y, rfl, k9, k10⟩, c7⟩
  clear CC
  have HB7 := Lib.hid (below_then HB6.out HB6.out.size c7)
  clear HB6
  have ho := (F_U.out.keep c7 (Nat.le_refl _)).upto c7.size
  clear F_U
  have F_U := Lib.hid ho
  clear ho
  have ho := (F_V.out.keep c7 (Nat.le_refl _)).upto c7.size
  clear F_V
  have F_V := Lib.hid ho
  clear ho
  have ho := (F_S.out.keep c7 (Nat.le_refl _)).upto c7.size
  clear F_S
  have F_S := Lib.hid ho
  clear ho
  have ho := (F_l.out.keep c7 (Nat.le_refl _)).upto c7.size
  clear F_l
  have F_l := Lib.hid ho
  clear ho
  have ho := (F_m.out.keep c7 (Nat.le_refl _)).upto c7.size
  clear F_m
  have F_m := Lib.hid ho
  clear ho
  have ho := (F_TU.out.keep c7 (Nat.le_refl _)).upto c7.size
  clear F_TU
  have F_TU := Lib.hid ho
  clear ho
  have ho := (F_TG.out.keep c7 (Nat.le_refl _)).upto c7.size
  clear F_TG
  have F_TG := Lib.hid ho
  clear ho
  have ho := (F_X.out.keep c7 (Nat.le_refl _)).upto c7.size
  clear F_X
  have F_X := Lib.hid ho
  clear ho
  have ho := X_c.out.below c7
  clear X_c
  have X_c := Lib.hid ho
  clear ho
  have ho := X_t.out.below c7
  clear X_t
  have X_t := Lib.hid ho
  clear ho
  have F_ts := Lib.hid (k9)
  have F_Y := Lib.hid (k10)
  clear c7
  clear k9 k10
  obtain ⟨a9, q9, e9, -⟩ := id F_ts.out
  subst e9
  obtain ⟨a10, q10, e10, -⟩ := id F_Y.out
  subst e10
  clear HI
  go_upto_region 8 with fail
  obtain ⟨wz, hwz⟩ : ∃ wz, wz = w7 := ⟨_, rfl⟩
  subst hwz
  generalize w1.heap.size = n1 at *
  generalize w5.heap.size = n5 at *
  have hss : -9223372036854775808 ≤ s ∧ s ≤ 9223372036854775807 := by omega
  have C1 := fun W (Q : Below wz.heap.size wz W) => implTermAt_any s TU TG X _ _ _ _ W hss (F_TU.out.keep Q (Nat.le_refl _)) (F_TG.out.keep Q (Nat.le_refl _)) (F_X.out.keep Q (Nat.le_refl _)) Q.size
  have C2 := fun W (Q : Below wz.heap.size wz W) => specTermAt_any s TU TG X _ _ _ _ W hss (F_TU.out.keep Q (Nat.le_refl _)) (F_TG.out.keep Q (Nat.le_refl _)) (F_X.out.keep Q (Nat.le_refl _)) Q.size
  have C3 := fun W (Q : Below wz.heap.size wz W) => implSeriesAt_any ts Y _ _ _ W (F_ts.out.keep Q (Nat.le_refl _)) (F_Y.out.keep Q (Nat.le_refl _)) Q.size
  have C4 := fun W (Q : Below wz.heap.size wz W) => specSeriesAt_any ts Y _ _ _ W (F_ts.out.keep Q (Nat.le_refl _)) (F_Y.out.keep Q (Nat.le_refl _)) Q.size
  have C5 := fun W (Q : Below wz.heap.size wz W) => implIsTerm_any s TU TG _ _ _ W hss (F_TU.out.keep Q (Nat.le_refl _)) (F_TG.out.keep Q (Nat.le_refl _)) Q.size
  have C6 := fun W (Q : Below wz.heap.size wz W) => specIsTerm_any s TU TG _ _ _ W hss (F_TU.out.keep Q (Nat.le_refl _)) (F_TG.out.keep Q (Nat.le_refl _)) Q.size
  have C7 := fun W (Q : Below wz.heap.size wz W) => implCountTerms_any ts _ _ W (F_ts.out.keep Q (Nat.le_refl _)) Q.size
  have C8 := fun W (Q : Below wz.heap.size wz W) => specCountTerms_any ts _ _ W (F_ts.out.keep Q (Nat.le_refl _)) Q.size
  have C9 := fun W (Q : Below wz.heap.size wz W) => toBelow (sameTerms_same (serC U V S).1 _ _ _ _ W (F_l.out.keep Q (Nat.le_refl _)) (F_m.out.keep Q (Nat.le_refl _)))
  generalize termAt s TU TG X = r1 at *
  generalize serAt ts Y = r2 at *
  generalize termB s TU TG = r3 at *
  generalize cnT ts = r4 at *
  go_cut [85] (fun s wx => s = .bool false ∧ Hid (Below wz.heap.size wz wx))
  case first =>
    as_aux_lemma =>
      have x0 := X_t.out.c0
      have x1 := X_t.out.c1
      have x2 := X_t.out.c2
      have BB : Below wz.heap.size wz wz.drew := below_draws wz.heap.size wz 1
      generalize (serC U V S).2 = ok at *
      go_region_held3 (fun w' => w'.cell? ⟨n5, 0, none⟩ = some (.int .i64 s) ∧ w'.cell? ⟨n5, 1, none⟩ = some (.slice a6 TU.length q6) ∧ w'.cell? ⟨n5, 2, none⟩ = some (.slice a7 TG.length q7))
        (first | exact ⟨x0, x1, x2⟩ | exact ⟨(X_t.out.below BB).c0, (X_t.out.below BB).c1, (X_t.out.below BB).c2⟩ | go_keep)
        (first
            | (go_at_call 100; (with_reducible refine (C9 _ BB).mono ?_); rintro e y1 ⟨rfl, d1⟩; have BB := below_then BB BB.size d1)
            | (go_at_call 101; (with_reducible refine (C1 _ BB).mono ?_); rintro e y2 ⟨rfl, d2⟩; have BB := below_then BB BB.size d2)
            | (go_at_call 102; (with_reducible refine (C2 _ BB).mono ?_); rintro e y3 ⟨rfl, d3⟩; have BB := below_then BB BB.size d3)
            | (go_at_call 103; (with_reducible refine (C3 _ BB).mono ?_); rintro e y4 ⟨rfl, d4⟩; have BB := below_then BB BB.size d4)
            | (go_at_call 104; (with_reducible refine (C4 _ BB).mono ?_); rintro e y5 ⟨rfl, d5⟩; have BB := below_then BB BB.size d5)
            | (go_at_call 105; (with_reducible refine (C5 _ BB).mono ?_); rintro e y6 ⟨rfl, d6⟩; have BB := below_then BB BB.size d6)
            | (go_at_call 106; (with_reducible refine (C6 _ BB).mono ?_); rintro e y7 ⟨rfl, d7⟩; have BB := below_then BB BB.size d7)
            | (go_at_call 20; (with_reducible refine (C7 _ BB).mono ?_); rintro e y8 ⟨rfl, d8⟩; have BB := below_then BB BB.size d8)
            | (go_at_call 18; (with_reducible refine (C8 _ BB).mono ?_); rintro e y9 ⟨rfl, d9⟩; have BB := below_then BB BB.size d9))
      go_wp2_with fail
      go_meet
      exact ⟨rfl, Lib.hid BB⟩
  case rest =>
  obtain ⟨rfl, HC⟩ := hcut
  clear C1 C2 C3 C4 C5 C6 C7 C8 C9 X_t F_TU F_TG F_X F_ts F_Y F_m
  cases hok : serOk (splitC U V) S
  · rw [serC_no hok]
    clear F_l
    go_wp2
    go_ret
    exact ⟨rfl, below_then HB7.out HB7.out.size HC.out⟩
  have hco : coneB U V = true := by
    cases h : coneB U V
    · rw [show splitC U V = [] by unfold splitC; rw [h]; rfl] at hok
      unfold serOk at hok; simp at hok
    · rfl
  rw [serC_yes hok] at F_l ⊢
  have hS : S.length = 2 := by
    unfold serOk at hok
    simp only [Bool.and_eq_true, decide_eq_true_eq] at hok
    exact hok.2.2.1
  obtain ⟨s0, s1, rfl⟩ := len2k hS
  have b0 := allIn_at hSb 0 (by simp)
  have b1 := allIn_at hSb 1 (by simp)
  simp only [List.getD_cons_zero, List.getD_cons_succ] at b0 b1
  have hll := (serC_tot U V [s0, s1]).2
  rw [serC_yes hok] at hll
  have hll : (serL (splitC U V) [s0, s1]).length ≤ 60 := hll
  have CT := Lib.hid (fun W (Q : Below wz.heap.size wz W) => implCountTerms_any (serL (splitC U V) [s0, s1]) _ _ W (F_l.out.keep Q (Nat.le_refl _)) Q.size)
  rw [cnT_serL [s0, s1] (split_told hco).len] at CT
  have SA := Lib.hid (fun (x : List Int) (u : Value) (hb : Nat) W (Q : Below wz.heap.size wz W) (hx : ISr W hb u x) (hhb : hb ≤ W.heap.size) (hwb : wz.heap.size ≤ hb) => implSeriesAt_any (serL (splitC U V) [s0, s1]) x _ u hb W ((F_l.out.keep Q (Nat.le_refl _)).upto hwb) hx hhb)
  have ON := Lib.hid (fun (a b : Int) (ha : -6 ≤ a ∧ a ≤ 6) (hb : -6 ≤ b ∧ b ≤ 6) => ser_once (x := [s0 + a, s1 + b]) (p := a) (q := b) hco hok ha hb (by simp [vecB, allIn, inB]; omega) rfl (by show [s0 + a - s0, s1 + b - s1] = _; rw [show s0 + a - s0 = a by omega, show s1 + b - s1 = b by omega]))
  dsimp only at F_l ⊢
  generalize serL (splitC U V) [s0, s1] = LL at *
  clear hok hco hSl hSb hS
  have hB7 := HB7.out.size
  rw [show [s0, s1].length = 2 from rfl] at F_S ⊢
  go_wp2_with fail
  go_loopw [13] (fun i wr => ∃ a : Int, (-6 ≤ a ∧ a ≤ 7) ∧ i = .int .i64 a ∧ Hid (Below wz.heap.size wz wr)) (fun i _ => (7 - intOf i).toNat)
  case atStart => exact ⟨-6, by omega, rfl, HC⟩
  case round =>
    clear HC
    obtain ⟨a, ha, rfl, HE⟩ := hrel
    by_cases hlt : a ≤ 6
    · have hdec : decide (a ≤ 6) = true := by simpa using hlt
      generalize hwy : wr = wy at *
      clear hwy
      go_wp2_with fail
      go_loopw [14] (fun i wx => ∃ b : Int, (-6 ≤ b ∧ b ≤ 7) ∧ i = .int .i64 b ∧ Hid (Below wz.heap.size wz wx)) (fun i _ => (7 - intOf i).toNat)
      case atStart => exact ⟨-6, by omega, rfl, HE⟩
      case round =>
        clear HE
        obtain ⟨b, hb, rfl, HX⟩ := hrel
        by_cases hlb : b ≤ 6
        · have hdecb : decide (b ≤ 6) = true := by simpa using hlb
          have hon := ON.out a b (by omega) (by omega)
          have x0 := (X_c.out.below HX.out).c0
          have x1 := (X_c.out.below HX.out).c1
          have cA := below1 wr (.cells #[.int .i64 a, .int .i64 b] 3)
          have QA := below_then HX.out HX.out.size cA
          have HQA := Lib.hid QA
          have hq1 : wz.heap.size ≤ wr.heap.size + 1 := Nat.le_trans HX.out.size (Nat.le_succ _)
          have IC := specInCone_any U V [a, b] _ _ _ (wr.heap.size + 1) _ ((F_U.out.keep QA (Nat.le_refl _)).upto hq1) ((F_V.out.keep QA (Nat.le_refl _)).upto hq1) (IS.lit2 wr wr.heap.size (Nat.le_refl _) a b).read (by simp)
          clear cA QA
          go_wp2_with fail
          refine IC.mono ?_
          clear IC
          rintro e w11 ⟨rfl, c11⟩
          have HQ := Lib.hid (below_then HQA.out HQA.out.size c11)
          clear c11 HQA HX x0 x1 hq1
          have cA := below1 w11 (.cells #[.int .i64 a, .int .i64 b] 3)
          have QA := below_then HQ.out HQ.out.size cA
          have HQA := Lib.hid QA
          have hq1 : wz.heap.size ≤ w11.heap.size + 1 := Nat.le_trans HQ.out.size (Nat.le_succ _)
          have PL := plus_any [s0, s1] [a, b] (.slice a3 2 q3) (.slice (some ⟨w11.heap.size, 0, none⟩) 2 2) (w11.heap.size + 1) _ ((F_S.out.keep QA (Nat.le_refl _)).upto hq1) (IS.lit2 w11 w11.heap.size (Nat.le_refl _) a b).read (by simp) (by simp) (by simp) (fun k hk => by
            rcases (show k = 0 ∨ k = 1 by simp at hk; omega) with rfl | rfl
            · show _ ≤ s0 + a ∧ s0 + a ≤ _; omega
            · show _ ≤ s1 + b ∧ s1 + b ≤ _; omega)
          rw [show List.zipWith (· + ·) [s0, s1] [a, b] = [s0 + a, s1 + b] from rfl] at PL
          clear cA QA hq1
          have HON := Lib.hid hon
          clear hon
          cases hin : inC U V [a, b]
          · have hsv : serAt LL [s0 + a, s1 + b] = 0 := by rw [HON.out, hin]; rfl
            have hnv : ((0 : Int) != 0) = false := rfl
            go_wp2_with fail
            refine PL.mono ?_
            clear PL
            rintro e w12 ⟨u12, rfl, k12, c12⟩
            have HQ2 := Lib.hid (below_then HQA.out HQA.out.size c12)
            have SS := SA.out [s0 + a, s1 + b] u12 w12.heap.size w12 HQ2.out k12.read (Nat.le_refl _) HQ2.out.size
            rw [hsv] at SS
            clear c12 k12 HQA HQ
            go_wp2_with fail
            refine SS.mono ?_
            clear SS
            rintro e w13 ⟨rfl, c13⟩
            have HQ3 := Lib.hid (below_then HQ2.out HQ2.out.size c13)
            clear c13 HQ2 hsv hin
            go_wp2
            go_roundw
            case rel => exact ⟨b + 1, by omega, by go_num, HQ3⟩
            case measure => simp [intOf]; omega
          · have hsv : serAt LL [s0 + a, s1 + b] = 1 := by rw [HON.out, hin]; rfl
            have hnv : ((1 : Int) != 1) = false := rfl
            go_wp2_with fail
            refine PL.mono ?_
            clear PL
            rintro e w12 ⟨u12, rfl, k12, c12⟩
            have HQ2 := Lib.hid (below_then HQA.out HQA.out.size c12)
            have SS := SA.out [s0 + a, s1 + b] u12 w12.heap.size w12 HQ2.out k12.read (Nat.le_refl _) HQ2.out.size
            rw [hsv] at SS
            clear c12 k12 HQA HQ
            go_wp2_with fail
            refine SS.mono ?_
            clear SS
            rintro e w13 ⟨rfl, c13⟩
            have HQ3 := Lib.hid (below_then HQ2.out HQ2.out.size c13)
            clear c13 HQ2 hsv hin
            go_wp2
            go_roundw
            case rel => exact ⟨b + 1, by omega, by go_num, HQ3⟩
            case measure => simp [intOf]; omega
        · obtain rfl : b = 7 := by omega
          have hdecb : decide ((7 : Int) ≤ 6) = false := by simp
          have HZ := Lib.hid HX.out
          go_wp2
          go_roundw
          case rel => exact ⟨a + 1, by omega, rfl, HZ⟩
          case measure => simp [intOf]; omega
    · obtain rfl : a = 7 := by omega
      have hdec : decide ((7 : Int) ≤ 6) = false := by simp
      have CT' := CT.out _ HE.out
      go_wp2_with fail
      refine CT'.mono ?_
      rintro e w20 ⟨rfl, c20⟩
      have HF := Lib.hid (below_then HE.out HE.out.size c20)
      clear c20
      go_wp2
      go_ret
      exact ⟨rfl, below_then HB7.out HB7.out.size HF.out⟩
end Go.Proofs.Ytfncikbmdaameaa
