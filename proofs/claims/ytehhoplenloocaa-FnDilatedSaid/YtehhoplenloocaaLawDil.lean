/- The statement on dilated polygons: the walk. -/
import Derived.Test.YtehhoplenloocaaB13
import Derived.Test.YtehhoplenloocaaB14
import Derived.Test.YtehhoplenloocaaTot
import Derived.Test.YtehhoplenloocaaSame
import Derived.Test.YtehhoplenloocaaB1
import Derived.Deep.DeepCutAuto
namespace Go.Proofs.Ytehhoplenloocaa
open Go.RowKit
set_option linter.unusedVariables false
set_option linter.unusedSimpArgs false

theorem sameLd (l : List (List Int)) (v1 v2 : Value) (h1 h2 : Nat) (w : World) (i1 : ISSr w h1 v1 l) (i2 : ISSr w h2 v2 l) : Calls Try.prog 15 #[v1, v2] w fun e w' => e = .returned (.bool true) ∧ Below w.heap.size w w' := by
  have := toBelow (sameLists_any l l v1 v2 h1 h2 w i1 i2)
  rwa [decide_eq_true rfl] at this
theorem sameId (l : List Int) (v1 v2 : Value) (h1 h2 : Nat) (w : World) (i1 : ISr w h1 v1 l) (i2 : ISr w h2 v2 l) : Calls Try.prog 18 #[v1, v2] w fun e w' => e = .returned (.bool true) ∧ Below w.heap.size w w' := by
  have := toBelow (sameInts_any l l v1 v2 h1 h2 w i1 i2)
  rwa [decide_eq_true rfl] at this

set_option maxRecDepth 100000 in
set_option maxHeartbeats 16000000 in
theorem lawFnDilated (v : Value) (l : List Int) (w : World) (h : ISb w w.heap.size v l) :
    Calls Try.prog 3 #[v] w fun e w' => e = .returned (.bool true) ∧ Below w.heap.size w w' := by
  have HBG := big_any v l w.heap.size w h
  have CC := DrawDilatePolygon_any v l w.heap.size w h (Nat.le_refl _)
  have HI := Lib.hid h
  clear h
  cases hbig : decide (1048576 < l.length)
  case true =>
    rw [hbig] at HBG
    go_enter Try.func3, Try.ntmps3
    go_wp2_with (go_at_call 6; (with_reducible refine HBG.mono ?_); rintro e w' ⟨rfl, rfl⟩)
    go_ret
    exact ⟨rfl, Below.refl _ _⟩
  rw [hbig] at HBG
  clear hbig
  go_enter Try.func3, Try.ntmps3
  go_wp2_with (go_at_call 6; (with_reducible refine HBG.mono ?_); rintro e w' ⟨rfl, rfl⟩)
  clear HBG
  refine CC.mono ?_
  rintro e w1 ⟨⟨u1, t, M, rfl, i1, ht1, ht2⟩, c1⟩
  clear CC
  have HB1 := Lib.hid c1
  have F_M := Lib.hid (i1.read)
  clear c1
  clear i1
  obtain ⟨a1, q1, e1, -⟩ := id F_M.out
  subst e1
  have CC := implDilate_any M _ t _ w1 F_M.out (Nat.le_refl _)
  go_wp2_with fail
  refine CC.mono ?_
  rintro e w2 ⟨u2, rfl, k2, c2⟩
  clear CC
  have HB2 := Lib.hid (below_then HB1.out HB1.out.size c2)
  clear HB1
  have ho := (F_M.out.keep c2 (Nat.le_refl _)).upto c2.size
  clear F_M
  have F_M := Lib.hid ho
  clear ho
  have F_D := Lib.hid (k2.read)
  clear c2
  clear k2
  obtain ⟨a2, q2, e2, -⟩ := id F_D.out
  subst e2
  have CC := specDilate_any M _ t _ w2 F_M.out (Nat.le_refl _)
  go_wp2_with fail
  refine CC.mono ?_
  rintro e w3 ⟨u3, rfl, k3, c3⟩
  clear CC
  have HB3 := Lib.hid (below_then HB2.out HB2.out.size c3)
  clear HB2
  have ho := (F_M.out.keep c3 (Nat.le_refl _)).upto c3.size
  clear F_M
  have F_M := Lib.hid ho
  clear ho
  have ho := (F_D.out.keep c3 (Nat.le_refl _)).upto c3.size
  clear F_D
  have F_D := Lib.hid ho
  clear ho
  have F_E := Lib.hid (k3.read)
  clear c3
  clear k3
  obtain ⟨a3, q3, e3, -⟩ := id F_E.out
  subst e3
  have CC := DrawEhrhartAt_any v l w.heap.size w3 (HI.out.keep HB3.out (Nat.le_refl _)) HB3.out.size
  go_wp2_with fail
  refine CC.mono ?_
  rintro e w4 ⟨⟨u4, k, A, rfl, i4, hk1, hk2⟩, c4⟩
  clear CC
  have HB4 := Lib.hid (below_then HB3.out HB3.out.size c4)
  clear HB3
  have ho := (F_M.out.keep c4 (Nat.le_refl _)).upto c4.size
  clear F_M
  have F_M := Lib.hid ho
  clear ho
  have ho := (F_D.out.keep c4 (Nat.le_refl _)).upto c4.size
  clear F_D
  have F_D := Lib.hid ho
  clear ho
  have ho := (F_E.out.keep c4 (Nat.le_refl _)).upto c4.size
  clear F_E
  have F_E := Lib.hid ho
  clear ho
  have F_A := Lib.hid (i4.read)
  clear c4
  clear i4
  obtain ⟨a4, q4, e4, -⟩ := id F_A.out
  subst e4
  have CC := DrawSeriesTop_any v l w.heap.size w4 (HI.out.keep HB4.out (Nat.le_refl _)) HB4.out.size
  go_wp2_with fail
  refine CC.mono ?_
  rintro e w5 ⟨⟨u5, B, rfl, i5⟩, c5⟩
  clear CC
  have HB5 := Lib.hid (below_then HB4.out HB4.out.size c5)
  clear HB4
  have ho := (F_M.out.keep c5 (Nat.le_refl _)).upto c5.size
  clear F_M
  have F_M := Lib.hid ho
  clear ho
  have ho := (F_D.out.keep c5 (Nat.le_refl _)).upto c5.size
  clear F_D
  have F_D := Lib.hid ho
  clear ho
  have ho := (F_E.out.keep c5 (Nat.le_refl _)).upto c5.size
  clear F_E
  have F_E := Lib.hid ho
  clear ho
  have ho := (F_A.out.keep c5 (Nat.le_refl _)).upto c5.size
  clear F_A
  have F_A := Lib.hid ho
  clear ho
  have F_B := Lib.hid (i5.read)
  clear c5
  clear i5
  obtain ⟨a5, q5, e5, -⟩ := id F_B.out
  subst e5
  have CC := implSeriesTop_any B _ _ w5 F_B.out (Nat.le_refl _)
  go_wp2_with fail
  refine CC.mono ?_
  rintro e w6 ⟨u6, rfl, k6, c6⟩
  clear CC
  have HB6 := Lib.hid (below_then HB5.out HB5.out.size c6)
  clear HB5
  have ho := (F_M.out.keep c6 (Nat.le_refl _)).upto c6.size
  clear F_M
  have F_M := Lib.hid ho
  clear ho
  have ho := (F_D.out.keep c6 (Nat.le_refl _)).upto c6.size
  clear F_D
  have F_D := Lib.hid ho
  clear ho
  have ho := (F_E.out.keep c6 (Nat.le_refl _)).upto c6.size
  clear F_E
  have F_E := Lib.hid ho
  clear ho
  have ho := (F_A.out.keep c6 (Nat.le_refl _)).upto c6.size
  clear F_A
  have F_A := Lib.hid ho
  clear ho
  have ho := (F_B.out.keep c6 (Nat.le_refl _)).upto c6.size
  clear F_B
  have F_B := Lib.hid ho
  clear ho
  have F_T := Lib.hid (k6.read)
  clear c6
  clear k6
  obtain ⟨a6, q6, e6, -⟩ := id F_T.out
  subst e6
  have CC := DrawAtLeastPoints_any v l w.heap.size w6 (HI.out.keep HB6.out (Nat.le_refl _)) HB6.out.size
  go_wp2_with fail
  refine CC.mono ?_
  rintro e w7 ⟨⟨u7, n, C, rfl, i7, hn1, hn2⟩, c7⟩
  clear CC
  have HB7 := Lib.hid (below_then HB6.out HB6.out.size c7)
  clear HB6
  have ho := (F_M.out.keep c7 (Nat.le_refl _)).upto c7.size
  clear F_M
  have F_M := Lib.hid ho
  clear ho
  have ho := (F_D.out.keep c7 (Nat.le_refl _)).upto c7.size
  clear F_D
  have F_D := Lib.hid ho
  clear ho
  have ho := (F_E.out.keep c7 (Nat.le_refl _)).upto c7.size
  clear F_E
  have F_E := Lib.hid ho
  clear ho
  have ho := (F_A.out.keep c7 (Nat.le_refl _)).upto c7.size
  clear F_A
  have F_A := Lib.hid ho
  clear ho
  have ho := (F_B.out.keep c7 (Nat.le_refl _)).upto c7.size
  clear F_B
  have F_B := Lib.hid ho
  clear ho
  have ho := (F_T.out.keep c7 (Nat.le_refl _)).upto c7.size
  clear F_T
  have F_T := Lib.hid ho
  clear ho
  have F_C := Lib.hid (i7.read)
  clear c7
  clear i7
  obtain ⟨a7, q7, e7, -⟩ := id F_C.out
  subst e7
  have CC := implAtLeast_any C n _ _ w7 F_C.out (Nat.le_refl _)
  go_wp2_with fail
  refine CC.mono ?_
  rintro e w8 ⟨rfl, c8⟩
  clear CC
  have HB8 := Lib.hid (below_then HB7.out HB7.out.size c8)
  clear HB7
  have ho := (F_M.out.keep c8 (Nat.le_refl _)).upto c8.size
  clear F_M
  have F_M := Lib.hid ho
  clear ho
  have ho := (F_D.out.keep c8 (Nat.le_refl _)).upto c8.size
  clear F_D
  have F_D := Lib.hid ho
  clear ho
  have ho := (F_E.out.keep c8 (Nat.le_refl _)).upto c8.size
  clear F_E
  have F_E := Lib.hid ho
  clear ho
  have ho := (F_A.out.keep c8 (Nat.le_refl _)).upto c8.size
  clear F_A
  have F_A := Lib.hid ho
  clear ho
  have ho := (F_B.out.keep c8 (Nat.le_refl _)).upto c8.size
  clear F_B
  have F_B := Lib.hid ho
  clear ho
  have ho := (F_T.out.keep c8 (Nat.le_refl _)).upto c8.size
  clear F_T
  have F_T := Lib.hid ho
  clear ho
  have ho := (F_C.out.keep c8 (Nat.le_refl _)).upto c8.size
  clear F_C
  have F_C := Lib.hid ho
  clear ho
  clear c8
  clear HI
  go_upto_region 11 with fail
  obtain ⟨wz, hwz⟩ : ∃ wz, wz = w8 := ⟨_, rfl⟩
  subst hwz
  have EA := fun (x : Int) W (R : Below wz.heap.size wz W) => implEhrhartAt_any A x _ _ W (F_A.out.keep R (Nat.le_refl _)) R.size
  have EB := fun (x : Int) W (R : Below wz.heap.size wz W) => specEhrhartAt_any A x _ _ W (F_A.out.keep R (Nat.le_refl _)) R.size
  have EC := Lib.hid (fun (x : Int) W (R : Below wz.heap.size wz W) => implEhrhartAt_any C x _ _ W (F_C.out.keep R (Nat.le_refl _)) R.size)
  have EM := Lib.hid (fun (x : Int) W (R : Below wz.heap.size wz W) => implEhrhartAt_any M x _ _ W (F_M.out.keep R (Nat.le_refl _)) R.size)
  have ST := fun W (R : Below wz.heap.size wz W) => specSeriesTop_any B _ _ W (F_B.out.keep R (Nat.le_refl _)) R.size
  have AL := fun W (R : Below wz.heap.size wz W) => specAtLeast_any C n _ _ W (F_C.out.keep R (Nat.le_refl _)) R.size
  have OA := fun W (R : Below wz.heap.size wz W) => implEhrhartOf_any A _ _ W (F_A.out.keep R (Nat.le_refl _)) R.size
  have OB := fun W (R : Below wz.heap.size wz W) => specEhrhartOf_any A _ _ W (F_A.out.keep R (Nat.le_refl _)) R.size
  have AB := Lib.hid (fun W (R : Below wz.heap.size wz W) => specAreaTwice_any B _ _ W (F_B.out.keep R (Nat.le_refl _)) R.size)
  have AM := Lib.hid (fun W (R : Below wz.heap.size wz W) => specAreaTwice_any M _ _ W (F_M.out.keep R (Nat.le_refl _)) R.size)
  have AD := Lib.hid (fun W (R : Below wz.heap.size wz W) => specAreaTwice_any (dilV M t).1 _ _ W (F_D.out.keep R (Nat.le_refl _)) R.size)
  have ID := Lib.hid (fun W (R : Below wz.heap.size wz W) => specInner_any (dilV M t).1 _ _ W (F_D.out.keep R (Nat.le_refl _)) R.size)
  have PD := Lib.hid (fun W (R : Below wz.heap.size wz W) => polygonPoints_any (dilV M t).1 _ _ W (F_D.out.keep R (Nat.le_refl _)) R.size)
  have SD := fun W (R : Below wz.heap.size wz W) => sameLd (dilV M t).1 _ _ _ _ W (F_D.out.keep R (Nat.le_refl _)) (F_E.out.keep R (Nat.le_refl _))
  have S1 := Lib.hid (fun W u (R : Below wz.heap.size wz W) (k : ISr W W.heap.size u (stF B)) => sameId (stF B) _ _ _ _ W (F_T.out.keep R (Nat.le_refl _)) k)
  go_cut [92] (fun s wx => s = .bool false ∧ Hid (Below wz.heap.size wz wx))
  case first =>
    as_aux_lemma =>
      have BB : Below wz.heap.size wz wz := Below.refl _ _
      generalize (dilV M t).2 = ok at *
      generalize alV C n = al at *
      generalize ehV A k = ea at *
      go_wp2_with (first
          | (go_at_call 15; (with_reducible refine (SD _ BB).mono ?_); rintro e y1 ⟨rfl, d1⟩; have BB := below_then BB BB.size d1)
          | (go_at_call 16; (with_reducible refine (EA _ _ BB).mono ?_); rintro e y2 ⟨rfl, d2⟩; have BB := below_then BB BB.size d2)
          | (go_at_call 17; (with_reducible refine (EB _ _ BB).mono ?_); rintro e y3 ⟨rfl, d3⟩; have BB := below_then BB BB.size d3)
          | (go_at_call 19; (with_reducible refine (ST _ BB).mono ?_); rintro e y4 ⟨p4, rfl, k4, d4⟩; have T1 := S1.out _ _ (below_then BB BB.size d4) k4.read; have BB := below_then BB BB.size d4)
          | (go_at_call 18; (with_reducible refine (T1).mono ?_); rintro e y5 ⟨rfl, d5⟩; have BB := below_then BB BB.size d5)
          | (go_at_call 20; (with_reducible refine (AL _ BB).mono ?_); rintro e y6 ⟨rfl, d6⟩; have BB := below_then BB BB.size d6)
          | (go_at_call 21; (with_reducible refine (OA _ BB).mono ?_); rintro e y7 ⟨p7, rfl, k7, d7⟩; have BB := below_then BB BB.size d7)
          | (go_at_call 22; (with_reducible refine (OB _ BB).mono ?_); rintro e y8 ⟨p8, rfl, k8, d8⟩; have T2 := sameId (eoF A) _ _ _ _ _ (k7.read.keep d8 (Nat.le_refl _)) k8.read; have BB := below_then BB BB.size d8)
          | (go_at_call 18; (with_reducible refine (T2).mono ?_); rintro e y9 ⟨rfl, d9⟩; have BB := below_then BB BB.size d9)
          | fail)
      go_meet
      exact ⟨rfl, Lib.hid BB⟩
  case rest =>
  obtain ⟨rfl, HC⟩ := hcut
  clear EA EB ST AL OA OB SD S1 F_E
  go_upto_region 13 with fail
  generalize hwy : wc = wy at *
  clear hwy
  go_cut [102] (fun s wx => s = .bool false ∧ Hid (Below wz.heap.size wz wx))
  case first =>
    as_aux_lemma =>
      cases hB : isPolyB B
      · have eB : stF B = [] := by unfold stF; rw [hB]; rfl
        have hd : decide (((stF B).length : Int) > 0) = false := by rw [eB]; rfl
        have hz : (stF B).length = 0 := by rw [eB]; rfl
        have hnz : ¬ 0 < (stF B).length := by omega
        clear eB hz
        generalize stF B = SB at *
        go_wp2_with fail
        go_meet
        exact ⟨rfl, HC⟩
      · have hsum := top_sum hB
        have eB : stF B = [1, ehI B 1 - 3, inV B] := by unfold stF; rw [hB]; rfl
        have ba := arV_bd B hB
        have bb := bdV_bd B hB
        have b1 := tdiv2_bd (a := 2 + bdV B * 1 + arV B * 1 * 1) (M := 100000) (by omega)
        have b2 := tdiv2_bd (a := arV B - bdV B + 2) (M := 100000) (by omega)
        rw [← inV_poly B hB] at b2
        have b1 : -100000 ≤ ehI B 1 ∧ ehI B 1 ≤ 100000 := b1
        have TT := total_any (stF B) _ _ wy (F_T.out.keep HC.out (Nat.le_refl _)) (by rw [eB]; simp) (by
          rw [eB]
          intro x hx
          simp only [List.mem_cons, List.not_mem_nil, or_false] at hx
          omega)
        have es : (stF B).sum = arV B := by rw [eB]; simp; omega
        rw [es] at TT
        have AB2 := AB.out wy HC.out
        have hd : decide (((stF B).length : Int) > 0) = true := by rw [eB]; rfl
        have hpz : 0 < (stF B).length := by rw [eB]; simp
        clear eB es hsum ba bb b1 b2
        generalize arV B = av at *
        generalize stF B = SB at *
        go_wp2_with (first
          | (go_at_call 23; (with_reducible refine TT.mono ?_); rintro e y1 ⟨rfl, rfl⟩)
          | (go_at_call 24; (with_reducible refine AB2.mono ?_); rintro e y2 ⟨rfl, d2⟩; have BB := below_then HC.out HC.out.size d2)
          | fail)
        go_meet
        exact ⟨rfl, Lib.hid BB⟩
  case rest =>
  obtain ⟨rfl, HC2⟩ := hcut
  clear AB F_T F_B HC
  go_upto_region 15 with fail
  generalize hwy : wc = wv at *
  clear hwy
  have hal := fun h => al_law (ls := C) (n := n) h
  go_cut [123] (fun s wx => s = .bool false ∧ Hid (Below wz.heap.size wz wx))
  case first =>
    as_aux_lemma =>
      generalize alV C n = al at *
      by_cases h0 : 0 < al
      · obtain ⟨g1, g2, g3⟩ := hal h0
        have d0 : decide (al > 0) = true := by rw [decide_eq_true_eq]; exact h0
        by_cases h1 : al ≤ 1000
        · have d1 : decide (al ≤ 1000) = true := by rw [decide_eq_true_eq]; exact h1
          have E1 := EC.out al wv HC2.out
          have E2 := Lib.hid (EC.out (al - 1))
          have v1 : ehV C al = ehI C al := by unfold ehV; rw [if_pos (by rw [g1, Bool.true_and]; exact inB_iff.2 ⟨by omega, by omega⟩)]
          have v2 : ehV C (al - 1) = ehI C (al - 1) := by unfold ehV; rw [if_pos (by rw [g1, Bool.true_and]; exact inB_iff.2 ⟨by omega, by omega⟩)]
          rw [v1] at E1
          rw [v2] at E2
          clear v1 v2 hal g1
          generalize ehI C al = x1 at *
          generalize ehI C (al - 1) = x2 at *
          have d2 : decide (x1 < n) = false := by rw [decide_eq_false_iff_not]; omega
          have d3 : decide (x2 ≥ n) = false := by rw [decide_eq_false_iff_not]; omega
          go_wp2_with (first
            | (go_at_call 16; (with_reducible refine E1.mono ?_); rintro e y1 ⟨rfl, d1⟩; have BB := below_then HC2.out HC2.out.size d1)
            | (go_at_call 16; (with_reducible refine (E2.out _ BB).mono ?_); rintro e y2 ⟨rfl, d2⟩; have BB := below_then BB BB.size d2)
            | fail)
          go_meet
          exact ⟨rfl, Lib.hid BB⟩
        · have d1 : decide (al ≤ 1000) = false := by rw [decide_eq_false_iff_not]; exact h1
          go_wp2_with fail
          go_meet
          exact ⟨rfl, HC2⟩
      · have d0 : decide (al > 0) = false := by rw [decide_eq_false_iff_not]; exact h0
        go_wp2_with fail
        go_meet
        exact ⟨rfl, HC2⟩
  case rest =>
  obtain ⟨rfl, HC3⟩ := hcut
  clear EC F_C F_A hal HC2
  cases hok : (dilV M t).2
  · go_wp2
    go_ret
    exact ⟨rfl, below_then HB8.out HB8.out.size HC3.out⟩
  obtain ⟨p1, p2, p3, p4⟩ : isPolyB M = true ∧ (1 ≤ t ∧ t ≤ 50) ∧ isPolyB (timesL M t) = true ∧ (dilV M t).1 = timesL M t := by
    unfold dilV at hok ⊢
    by_cases hc : (isPolyB M && (inB t 1 50 && isPolyB (timesL M t))) = true
    · rw [if_pos hc]
      simp only [Bool.and_eq_true] at hc
      exact ⟨hc.1, inB_iff.1 hc.2.1, hc.2.2, rfl⟩
    · rw [if_neg hc] at hok; cases hok
  obtain ⟨a1', a2', a3'⟩ := dil_law p1 p2.1 p3
  have va : arV (dilV M t).1 = t * t * arV M := by rw [p4, arV_of p3, arV_of p1]; exact a1'
  have v1 : ehV M t = ((polL (dilV M t).1).length : Int) := by unfold ehV; rw [if_pos (by rw [p1, Bool.true_and]; exact inB_iff.2 ⟨by omega, by omega⟩), p4]; exact a2'
  have v2 : ehV M (-t) = inV (dilV M t).1 := by unfold ehV; rw [if_pos (by rw [p1, Bool.true_and]; exact inB_iff.2 ⟨by omega, by omega⟩), p4]; exact a3'
  have v3 : arV (dilV M t).1 ≤ 2000 → polV (dilV M t).1 = polL (dilV M t).1 := fun h => by rw [p4] at h ⊢; unfold polV; rw [p3, ← arV_of p3, decide_eq_true h]; rfl
  have ba := arV_bd M p1
  have tb : 1 ≤ t * t ∧ t * t ≤ 2500 := ⟨Int.le_trans (by omega) (Int.mul_le_mul p2.1 p2.1 (by omega) (by omega)), Int.le_trans (Int.mul_le_mul p2.2 p2.2 (by omega) (by omega)) (by omega)⟩
  have xb := mul_bdH (M := 2500) (N := 60000) (a := t * t) (b := arV M) (by omega) ba
  have AD2 := AD.out wc HC3.out
  rw [va] at AD2 v3
  have AM2 := AM.out
  have EM1 := EM.out t
  have EM2 := EM.out (-t)
  have PD2 := PD.out
  have ID2 := ID.out
  rw [v1] at EM1
  rw [v2] at EM2
  clear va v1 v2 a1' a2' a3' p3 p4 AD AM EM ID PD hok
  generalize arV M = am at *
  generalize hq : (dilV M t).1 = q at *
  clear hq
  generalize inV q = iv at *
  obtain ⟨tt, htt⟩ : ∃ tt, t * t = tt := ⟨_, rfl⟩
  rw [htt] at tb xb AD2 v3
  obtain ⟨x, hx⟩ : ∃ x, tt * am = x := ⟨_, rfl⟩
  rw [hx] at xb AD2 v3
  by_cases h2 : x ≤ 2000
  · have d2 : decide (x > 2000) = false := by rw [decide_eq_false_iff_not]; omega
    rw [v3 h2] at PD2
    clear v3
    go_wp2_with (first
      | (go_at_call 24; (with_reducible refine AD2.mono ?_); rintro e y1 ⟨rfl, d1⟩; have BB := below_then HC3.out HC3.out.size d1)
      | (go_at_call 24; (with_reducible refine (AM2 _ BB).mono ?_); rintro e y2 ⟨rfl, d1⟩; have BB := below_then BB BB.size d1)
      | (go_at_call 16; (with_reducible refine (EM1 _ BB).mono ?_); rintro e y3 ⟨rfl, d1⟩; have BB := below_then BB BB.size d1)
      | (go_at_call 16; (with_reducible refine (EM2 _ BB).mono ?_); rintro e y4 ⟨rfl, d1⟩; have BB := below_then BB BB.size d1)
      | (go_at_call 25; (with_reducible refine (PD2 _ BB).mono ?_); rintro e y5 ⟨u, rfl, k5, d1⟩; obtain ⟨a5', q5', e5', -⟩ := id k5; subst e5'; have BB := below_then BB BB.size d1)
      | (go_at_call 26; (with_reducible refine (ID2 _ BB).mono ?_); rintro e y6 ⟨rfl, d1⟩; have BB := below_then BB BB.size d1)
      | fail)
    go_ret
    exact ⟨rfl, below_then HB8.out HB8.out.size BB⟩
  · have d2 : decide (x > 2000) = true := by rw [decide_eq_true_eq]; omega
    clear v3
    go_wp2_with (first
      | (go_at_call 24; (with_reducible refine AD2.mono ?_); rintro e y1 ⟨rfl, d1⟩; have BB := below_then HC3.out HC3.out.size d1)
      | (go_at_call 24; (with_reducible refine (AM2 _ BB).mono ?_); rintro e y2 ⟨rfl, d1⟩; have BB := below_then BB BB.size d1)
      | (go_at_call 16; (with_reducible refine (EM2 _ BB).mono ?_); rintro e y4 ⟨rfl, d1⟩; have BB := below_then BB BB.size d1)
      | (go_at_call 26; (with_reducible refine (ID2 _ BB).mono ?_); rintro e y6 ⟨rfl, d1⟩; have BB := below_then BB BB.size d1)
      | fail)
    go_ret
    exact ⟨rfl, below_then HB8.out HB8.out.size BB⟩
end Go.Proofs.Ytehhoplenloocaa
