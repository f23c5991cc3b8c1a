/- The statement on the corners of a polygon: the walk. -/
import Derived.Test.YtehhoplenloocaaDrX
import Derived.Test.YtehhoplenloocaaCrnP
import Derived.Test.YtehhoplenloocaaPwm
import Derived.Test.YtehhoplenloocaaSmT
import Derived.Test.YtehhoplenloocaaHlp
import Derived.Test.YtehhoplenloocaaB1
import Derived.Deep.RegionHeld3
import Derived.Deep.DeepCutAuto
namespace Go.Proofs.Ytehhoplenloocaa
open Go.RowKit
set_option linter.unusedVariables false
set_option linter.unusedSimpArgs false

set_option maxRecDepth 100000 in
set_option maxHeartbeats 16000000 in
theorem lawFnCorners (v : Value) (l : List Int) (w : World) (h : ISb w w.heap.size v l) :
    Calls Try.prog 5 #[v] w fun e w' => e = .returned (.bool true) ∧ Below w.heap.size w w' := by
  have HBG := big_any v l w.heap.size w h
  have CC := DrawCornerTerms_any v l w.heap.size w h (Nat.le_refl _)
  have HI := Lib.hid h
  clear h
  cases hbig : decide (1048576 < l.length)
  case true =>
    rw [hbig] at HBG
    go_enter Try.func5, Try.ntmps5
    go_wp2_with (go_at_call 6; (with_reducible refine HBG.mono ?_); rintro e w' ⟨rfl, rfl⟩)
    go_ret
    exact ⟨rfl, Below.refl _ _⟩
  rw [hbig] at HBG
  clear hbig
  go_enter Try.func5, Try.ntmps5
  go_wp2_with (go_at_call 6; (with_reducible refine HBG.mono ?_); rintro e w' ⟨rfl, rfl⟩)
  clear HBG
  refine CC.mono ?_
  rintro e w1 ⟨⟨u1, M, rfl, i1⟩, c1⟩
  clear CC
  have HB1 := Lib.hid c1
  have F_M := Lib.hid (i1.read)
  clear c1
  clear i1
  obtain ⟨a1, q1, e1, -⟩ := id F_M.out
  subst e1
  have CC := implCornerTerms_any M _ _ w1 F_M.out (Nat.le_refl _)
  go_wp2_with fail
  refine CC.mono ?_
  rintro e w2 ⟨u2, rfl, k2, c2⟩
  clear CC
  have HB2 := Lib.hid (below_then HB1.out HB1.out.size c2)
  clear HB1
  have ho := (F_M.out.keep c2 (Nat.le_refl _)).upto c2.size
  clear F_M
  have F_M := Lib.hid ho
  clear ho
  have F_l := Lib.hid (k2.read)
  clear c2
  clear k2
  obtain ⟨a2, q2, e2, -⟩ := id F_l.out
  subst e2
  have CC := specCornerTerms_any M _ _ w2 F_M.out (Nat.le_refl _)
  go_wp2_with fail
  refine CC.mono ?_
  rintro e w3 ⟨u3, rfl, k3, c3⟩
  clear CC
  have HB3 := Lib.hid (below_then HB2.out HB2.out.size c3)
  clear HB2
  have ho := (F_M.out.keep c3 (Nat.le_refl _)).upto c3.size
  clear F_M
  have F_M := Lib.hid ho
  clear ho
  have ho := (F_l.out.keep c3 (Nat.le_refl _)).upto c3.size
  clear F_l
  have F_l := Lib.hid ho
  clear ho
  have F_m := Lib.hid (k3.read)
  clear c3
  clear k3
  obtain ⟨a3, q3, e3, -⟩ := id F_m.out
  subst e3
  have CC := DrawTermValue_any v l w.heap.size w3 (HI.out.keep HB3.out (Nat.le_refl _)) HB3.out.size
  go_wp2_with fail
  refine CC.mono ?_
  rintro e w4 ⟨⟨s, u6, u7, x, y, TU, TG, rfl, hs, hx, hy, i6, i7⟩, c4⟩
  clear CC
  have HB4 := Lib.hid (below_then HB3.out HB3.out.size c4)
  clear HB3
  have ho := (F_M.out.keep c4 (Nat.le_refl _)).upto c4.size
  clear F_M
  have F_M := Lib.hid ho
  clear ho
  have ho := (F_l.out.keep c4 (Nat.le_refl _)).upto c4.size
  clear F_l
  have F_l := Lib.hid ho
  clear ho
  have ho := (F_m.out.keep c4 (Nat.le_refl _)).upto c4.size
  clear F_m
  have F_m := Lib.hid ho
  clear ho
  have F_TU := Lib.hid (i6)
  have F_TG := Lib.hid (i7)
  clear c4
  clear i6 i7
  obtain ⟨a6, q6, e6, -⟩ := id F_TU.out
  subst e6
  obtain ⟨a7, q7, e7, -⟩ := id F_TG.out
  subst e7
  have c5 := below1 w4 (.cells #[.int .i64 s, .slice a6 TU.length q6, .slice a7 TG.length q7] 50)
  have HB5 := Lib.hid (below_then HB4.out HB4.out.size c5)
  clear HB4
  have ho := (F_M.out.keep c5 (Nat.le_refl _)).upto c5.size
  clear F_M
  have F_M := Lib.hid ho
  clear ho
  have ho := (F_l.out.keep c5 (Nat.le_refl _)).upto c5.size
  clear F_l
  have F_l := Lib.hid ho
  clear ho
  have ho := (F_m.out.keep c5 (Nat.le_refl _)).upto c5.size
  clear F_m
  have F_m := Lib.hid ho
  clear ho
  have ho := (F_TU.out.keep c5 (Nat.le_refl _)).upto c5.size
  clear F_TU
  have F_TU := Lib.hid ho
  clear ho
  have ho := (F_TG.out.keep c5 (Nat.le_refl _)).upto c5.size
  clear F_TG
  have F_TG := Lib.hid ho
  clear ho
  have X_t := Lib.hid (TB.new w4 s (.slice a6 TU.length q6) (.slice a7 TG.length q7))
  clear c5
  have hss : -9223372036854775808 ≤ s ∧ s ≤ 9223372036854775807 := by omega
  have x0 := X_t.out.c0
  have x1 := X_t.out.c1
  have x2 := X_t.out.c2
  have CC := implTermValue_any s TU TG _ _ x y _ (w4.alloc (.cells #[.int .i64 s, .slice a6 TU.length q6, .slice a7 TG.length q7] 50)) hss F_TU.out F_TG.out (Nat.le_refl _)
  go_wp2_with fail
  refine CC.mono ?_
  rintro e w6 ⟨rfl, c6⟩
  clear CC
  have HB6 := Lib.hid (below_then HB5.out HB5.out.size c6)
  clear HB5
  have ho := (F_M.out.keep c6 (Nat.le_refl _)).upto c6.size
  clear F_M
  have F_M := Lib.hid ho
  clear ho
  have ho := (F_l.out.keep c6 (Nat.le_refl _)).upto c6.size
  clear F_l
  have F_l := Lib.hid ho
  clear ho
  have ho := (F_m.out.keep c6 (Nat.le_refl _)).upto c6.size
  clear F_m
  have F_m := Lib.hid ho
  clear ho
  have ho := (F_TU.out.keep c6 (Nat.le_refl _)).upto c6.size
  clear F_TU
  have F_TU := Lib.hid ho
  clear ho
  have ho := (F_TG.out.keep c6 (Nat.le_refl _)).upto c6.size
  clear F_TG
  have F_TG := Lib.hid ho
  clear ho
  have ho := X_t.out.below c6
  clear X_t
  have X_t := Lib.hid ho
  clear ho
  clear c6
  clear x0 x1 x2
  have x0 := X_t.out.c0
  have x1 := X_t.out.c1
  have x2 := X_t.out.c2
  have CC := specTermValue_any s TU TG _ _ x y _ w6 hss F_TU.out F_TG.out (Nat.le_refl _)
  go_wp2_with fail
  refine CC.mono ?_
  rintro e w7 ⟨rfl, c7⟩
  clear CC
  have HB7 := Lib.hid (below_then HB6.out HB6.out.size c7)
  clear HB6
  have ho := (F_M.out.keep c7 (Nat.le_refl _)).upto c7.size
  clear F_M
  have F_M := Lib.hid ho
  clear ho
  have ho := (F_l.out.keep c7 (Nat.le_refl _)).upto c7.size
  clear F_l
  have F_l := Lib.hid ho
  clear ho
  have ho := (F_m.out.keep c7 (Nat.le_refl _)).upto c7.size
  clear F_m
  have F_m := Lib.hid ho
  clear ho
  have ho := (F_TU.out.keep c7 (Nat.le_refl _)).upto c7.size
  clear F_TU
  have F_TU := Lib.hid ho
  clear ho
  have ho := (F_TG.out.keep c7 (Nat.le_refl _)).upto c7.size
  clear F_TG
  have F_TG := Lib.hid ho
  clear ho
  have ho := X_t.out.below c7
  clear X_t
  have X_t := Lib.hid ho
  clear ho
  clear c7
  clear x0 x1 x2 X_t
  have CC := DrawSeriesValue_any v l w.heap.size w7 (HI.out.keep HB7.out (Nat.le_refl _)) HB7.out.size
  go_wp2_with fail
  refine CC.mono ?_
  rintro e w8 ⟨⟨u8, x8, y8, ts, rfl, hx8, hy8, i8⟩, c8⟩
  clear CC
  have HB8 := Lib.hid (below_then HB7.out HB7.out.size c8)
  clear HB7
  have ho := (F_M.out.keep c8 (Nat.le_refl _)).upto c8.size
  clear F_M
  have F_M := Lib.hid ho
  clear ho
  have ho := (F_l.out.keep c8 (Nat.le_refl _)).upto c8.size
  clear F_l
  have F_l := Lib.hid ho
  clear ho
  have ho := (F_m.out.keep c8 (Nat.le_refl _)).upto c8.size
  clear F_m
  have F_m := Lib.hid ho
  clear ho
  have ho := (F_TU.out.keep c8 (Nat.le_refl _)).upto c8.size
  clear F_TU
  have F_TU := Lib.hid ho
  clear ho
  have ho := (F_TG.out.keep c8 (Nat.le_refl _)).upto c8.size
  clear F_TG
  have F_TG := Lib.hid ho
  clear ho
  have F_ts := Lib.hid (i8)
  clear c8
  clear i8
  obtain ⟨a8, q8, e8, -⟩ := id F_ts.out
  subst e8
  have CC := implSeriesValue_any ts _ x8 y8 _ w8 F_ts.out (Nat.le_refl _)
  go_wp2_with fail
  refine CC.mono ?_
  rintro e w9 ⟨rfl, c9⟩
  clear CC
  have HB9 := Lib.hid (below_then HB8.out HB8.out.size c9)
  clear HB8
  have ho := (F_M.out.keep c9 (Nat.le_refl _)).upto c9.size
  clear F_M
  have F_M := Lib.hid ho
  clear ho
  have ho := (F_l.out.keep c9 (Nat.le_refl _)).upto c9.size
  clear F_l
  have F_l := Lib.hid ho
  clear ho
  have ho := (F_m.out.keep c9 (Nat.le_refl _)).upto c9.size
  clear F_m
  have F_m := Lib.hid ho
  clear ho
  have ho := (F_TU.out.keep c9 (Nat.le_refl _)).upto c9.size
  clear F_TU
  have F_TU := Lib.hid ho
  clear ho
  have ho := (F_TG.out.keep c9 (Nat.le_refl _)).upto c9.size
  clear F_TG
  have F_TG := Lib.hid ho
  clear ho
  have ho := (F_ts.out.keep c9 (Nat.le_refl _)).upto c9.size
  clear F_ts
  have F_ts := Lib.hid ho
  clear ho
  clear c9
  have CC := specSeriesValue_any ts _ x8 y8 _ w9 F_ts.out (Nat.le_refl _)
  go_wp2_with fail
  refine CC.mono ?_
  rintro e w10 ⟨rfl, c10⟩
  clear CC
  have HB10 := Lib.hid (below_then HB9.out HB9.out.size c10)
  clear HB9
  have ho := (F_M.out.keep c10 (Nat.le_refl _)).upto c10.size
  clear F_M
  have F_M := Lib.hid ho
  clear ho
  have ho := (F_l.out.keep c10 (Nat.le_refl _)).upto c10.size
  clear F_l
  have F_l := Lib.hid ho
  clear ho
  have ho := (F_m.out.keep c10 (Nat.le_refl _)).upto c10.size
  clear F_m
  have F_m := Lib.hid ho
  clear ho
  have ho := (F_TU.out.keep c10 (Nat.le_refl _)).upto c10.size
  clear F_TU
  have F_TU := Lib.hid ho
  clear ho
  have ho := (F_TG.out.keep c10 (Nat.le_refl _)).upto c10.size
  clear F_TG
  have F_TG := Lib.hid ho
  clear ho
  have ho := (F_ts.out.keep c10 (Nat.le_refl _)).upto c10.size
  clear F_ts
  have F_ts := Lib.hid ho
  clear ho
  clear c10
  have CC := DrawPointsValue_any v l w.heap.size w10 (HI.out.keep HB10.out (Nat.le_refl _)) HB10.out.size
  go_wp2_with fail
  refine CC.mono ?_
  rintro e w11 ⟨⟨u9, x9, y9, ps, rfl, hx9, hy9, i9⟩, c11⟩
  clear CC
  have HB11 := Lib.hid (below_then HB10.out HB10.out.size c11)
  clear HB10
  have ho := (F_M.out.keep c11 (Nat.le_refl _)).upto c11.size
  clear F_M
  have F_M := Lib.hid ho
  clear ho
  have ho := (F_l.out.keep c11 (Nat.le_refl _)).upto c11.size
  clear F_l
  have F_l := Lib.hid ho
  clear ho
  have ho := (F_m.out.keep c11 (Nat.le_refl _)).upto c11.size
  clear F_m
  have F_m := Lib.hid ho
  clear ho
  have ho := (F_TU.out.keep c11 (Nat.le_refl _)).upto c11.size
  clear F_TU
  have F_TU := Lib.hid ho
  clear ho
  have ho := (F_TG.out.keep c11 (Nat.le_refl _)).upto c11.size
  clear F_TG
  have F_TG := Lib.hid ho
  clear ho
  have ho := (F_ts.out.keep c11 (Nat.le_refl _)).upto c11.size
  clear F_ts
  have F_ts := Lib.hid ho
  clear ho
  have F_ps := Lib.hid (i9)
  clear c11
  clear i9
  obtain ⟨a9, q9, e9, -⟩ := id F_ps.out
  subst e9
  have CC := toBelow (implPointsValue_any ps _ x9 y9 _ w11 F_ps.out)
  go_wp2_with fail
  refine CC.mono ?_
  rintro e w12 ⟨rfl, c12⟩
  clear CC
  have HB12 := Lib.hid (below_then HB11.out HB11.out.size c12)
  clear HB11
  have ho := (F_M.out.keep c12 (Nat.le_refl _)).upto c12.size
  clear F_M
  have F_M := Lib.hid ho
  clear ho
  have ho := (F_l.out.keep c12 (Nat.le_refl _)).upto c12.size
  clear F_l
  have F_l := Lib.hid ho
  clear ho
  have ho := (F_m.out.keep c12 (Nat.le_refl _)).upto c12.size
  clear F_m
  have F_m := Lib.hid ho
  clear ho
  have ho := (F_TU.out.keep c12 (Nat.le_refl _)).upto c12.size
  clear F_TU
  have F_TU := Lib.hid ho
  clear ho
  have ho := (F_TG.out.keep c12 (Nat.le_refl _)).upto c12.size
  clear F_TG
  have F_TG := Lib.hid ho
  clear ho
  have ho := (F_ts.out.keep c12 (Nat.le_refl _)).upto c12.size
  clear F_ts
  have F_ts := Lib.hid ho
  clear ho
  have ho := (F_ps.out.keep c12 (Nat.le_refl _)).upto c12.size
  clear F_ps
  have F_ps := Lib.hid ho
  clear ho
  clear c12
  have CC := toBelow (specPointsValue_any ps _ x9 y9 _ w12 F_ps.out)
  go_wp2_with fail
  refine CC.mono ?_
  rintro e w13 ⟨rfl, c13⟩
  clear CC
  have HB13 := Lib.hid (below_then HB12.out HB12.out.size c13)
  clear HB12
  have ho := (F_M.out.keep c13 (Nat.le_refl _)).upto c13.size
  clear F_M
  have F_M := Lib.hid ho
  clear ho
  have ho := (F_l.out.keep c13 (Nat.le_refl _)).upto c13.size
  clear F_l
  have F_l := Lib.hid ho
  clear ho
  have ho := (F_m.out.keep c13 (Nat.le_refl _)).upto c13.size
  clear F_m
  have F_m := Lib.hid ho
  clear ho
  have ho := (F_TU.out.keep c13 (Nat.le_refl _)).upto c13.size
  clear F_TU
  have F_TU := Lib.hid ho
  clear ho
  have ho := (F_TG.out.keep c13 (Nat.le_refl _)).upto c13.size
  clear F_TG
  have F_TG := Lib.hid ho
  clear ho
  have ho := (F_ts.out.keep c13 (Nat.le_refl _)).upto c13.size
  clear F_ts
  have F_ts := Lib.hid ho
  clear ho
  have ho := (F_ps.out.keep c13 (Nat.le_refl _)).upto c13.size
  clear F_ps
  have F_ps := Lib.hid ho
  clear ho
  clear c13
  have CC := DrawCornerCone_any v l w.heap.size w13 (HI.out.keep HB13.out (Nat.le_refl _)) HB13.out.size
  go_wp2_with fail
  refine CC.mono ?_
  rintro e w14 ⟨⟨u10, k, Q, rfl, i10, hk1, hk2⟩, c14⟩
  clear CC
  have HB14 := Lib.hid (below_then HB13.out HB13.out.size c14)
  clear HB13
  have ho := (F_M.out.keep c14 (Nat.le_refl _)).upto c14.size
  clear F_M
  have F_M := Lib.hid ho
  clear ho
  have ho := (F_l.out.keep c14 (Nat.le_refl _)).upto c14.size
  clear F_l
  have F_l := Lib.hid ho
  clear ho
  have ho := (F_m.out.keep c14 (Nat.le_refl _)).upto c14.size
  clear F_m
  have F_m := Lib.hid ho
  clear ho
  have ho := (F_TU.out.keep c14 (Nat.le_refl _)).upto c14.size
  clear F_TU
  have F_TU := Lib.hid ho
  clear ho
  have ho := (F_TG.out.keep c14 (Nat.le_refl _)).upto c14.size
  clear F_TG
  have F_TG := Lib.hid ho
  clear ho
  have ho := (F_ts.out.keep c14 (Nat.le_refl _)).upto c14.size
  clear F_ts
  have F_ts := Lib.hid ho
  clear ho
  have ho := (F_ps.out.keep c14 (Nat.le_refl _)).upto c14.size
  clear F_ps
  have F_ps := Lib.hid ho
  clear ho
  have F_Q := Lib.hid (i10.read)
  clear c14
  clear i10
  obtain ⟨a10, q10, e10, -⟩ := id F_Q.out
  subst e10
  have CC := implCornerCone_any Q k _ _ w14 F_Q.out (Nat.le_refl _)
  go_wp2_with fail
  refine CC.mono ?_
  rintro e w15 ⟨u11, u12, rfl, k11, c15⟩
  clear CC
  have HB15 := Lib.hid (below_then HB14.out HB14.out.size c15)
  clear HB14
  have ho := (F_M.out.keep c15 (Nat.le_refl _)).upto c15.size
  clear F_M
  have F_M := Lib.hid ho
  clear ho
  have ho := (F_l.out.keep c15 (Nat.le_refl _)).upto c15.size
  clear F_l
  have F_l := Lib.hid ho
  clear ho
  have ho := (F_m.out.keep c15 (Nat.le_refl _)).upto c15.size
  clear F_m
  have F_m := Lib.hid ho
  clear ho
  have ho := (F_TU.out.keep c15 (Nat.le_refl _)).upto c15.size
  clear F_TU
  have F_TU := Lib.hid ho
  clear ho
  have ho := (F_TG.out.keep c15 (Nat.le_refl _)).upto c15.size
  clear F_TG
  have F_TG := Lib.hid ho
  clear ho
  have ho := (F_ts.out.keep c15 (Nat.le_refl _)).upto c15.size
  clear F_ts
  have F_ts := Lib.hid ho
  clear ho
  have ho := (F_ps.out.keep c15 (Nat.le_refl _)).upto c15.size
  clear F_ps
  have F_ps := Lib.hid ho
  clear ho
  have ho := (F_Q.out.keep c15 (Nat.le_refl _)).upto c15.size
  clear F_Q
  have F_Q := Lib.hid ho
  clear ho
  have F_D := Lib.hid (k11.fstR)
  have F_E := Lib.hid (k11.sndR)
  clear c15
  clear k11
  obtain ⟨a11, q11, e11, -⟩ := id F_D.out
  subst e11
  obtain ⟨a12, q12, e12, -⟩ := id F_E.out
  subst e12
  have c16 := below1 w15 (.cells #[.slice a11 (corV Q k).1.1.length q11, .slice a12 (corV Q k).1.2.length q12] 62)
  have HB16 := Lib.hid (below_then HB15.out HB15.out.size c16)
  clear HB15
  have ho := (F_M.out.keep c16 (Nat.le_refl _)).upto c16.size
  clear F_M
  have F_M := Lib.hid ho
  clear ho
  have ho := (F_l.out.keep c16 (Nat.le_refl _)).upto c16.size
  clear F_l
  have F_l := Lib.hid ho
  clear ho
  have ho := (F_m.out.keep c16 (Nat.le_refl _)).upto c16.size
  clear F_m
  have F_m := Lib.hid ho
  clear ho
  have ho := (F_TU.out.keep c16 (Nat.le_refl _)).upto c16.size
  clear F_TU
  have F_TU := Lib.hid ho
  clear ho
  have ho := (F_TG.out.keep c16 (Nat.le_refl _)).upto c16.size
  clear F_TG
  have F_TG := Lib.hid ho
  clear ho
  have ho := (F_ts.out.keep c16 (Nat.le_refl _)).upto c16.size
  clear F_ts
  have F_ts := Lib.hid ho
  clear ho
  have ho := (F_ps.out.keep c16 (Nat.le_refl _)).upto c16.size
  clear F_ps
  have F_ps := Lib.hid ho
  clear ho
  have ho := (F_Q.out.keep c16 (Nat.le_refl _)).upto c16.size
  clear F_Q
  have F_Q := Lib.hid ho
  clear ho
  have ho := (F_D.out.keep c16 (Nat.le_refl _)).upto c16.size
  clear F_D
  have F_D := Lib.hid ho
  clear ho
  have ho := (F_E.out.keep c16 (Nat.le_refl _)).upto c16.size
  clear F_E
  have F_E := Lib.hid ho
  clear ho
  have X_c := Lib.hid (CB.new w15 (.slice a11 (corV Q k).1.1.length q11) (.slice a12 (corV Q k).1.2.length q12))
  clear c16
  have CC := specCornerCone_any Q k _ _ (w15.alloc (.cells #[.slice a11 (corV Q k).1.1.length q11, .slice a12 (corV Q k).1.2.length q12] 62)) F_Q.out (Nat.le_refl _)
  go_wp2_with fail
  refine CC.mono ?_
  rintro e w17 ⟨u13, u14, rfl, k13, c17⟩
  clear CC
  have HB17 := Lib.hid (below_then HB16.out HB16.out.size c17)
  clear HB16
  have ho := (F_M.out.keep c17 (Nat.le_refl _)).upto c17.size
  clear F_M
  have F_M := Lib.hid ho
  clear ho
  have ho := (F_l.out.keep c17 (Nat.le_refl _)).upto c17.size
  clear F_l
  have F_l := Lib.hid ho
  clear ho
  have ho := (F_m.out.keep c17 (Nat.le_refl _)).upto c17.size
  clear F_m
  have F_m := Lib.hid ho
  clear ho
  have ho := (F_TU.out.keep c17 (Nat.le_refl _)).upto c17.size
  clear F_TU
  have F_TU := Lib.hid ho
  clear ho
  have ho := (F_TG.out.keep c17 (Nat.le_refl _)).upto c17.size
  clear F_TG
  have F_TG := Lib.hid ho
  clear ho
  have ho := (F_ts.out.keep c17 (Nat.le_refl _)).upto c17.size
  clear F_ts
  have F_ts := Lib.hid ho
  clear ho
  have ho := (F_ps.out.keep c17 (Nat.le_refl _)).upto c17.size
  clear F_ps
  have F_ps := Lib.hid ho
  clear ho
  have ho := (F_Q.out.keep c17 (Nat.le_refl _)).upto c17.size
  clear F_Q
  have F_Q := Lib.hid ho
  clear ho
  have ho := (F_D.out.keep c17 (Nat.le_refl _)).upto c17.size
  clear F_D
  have F_D := Lib.hid ho
  clear ho
  have ho := (F_E.out.keep c17 (Nat.le_refl _)).upto c17.size
  clear F_E
  have F_E := Lib.hid ho
  clear ho
  have ho := X_c.out.below c17
  clear X_c
  have X_c := Lib.hid ho
  clear ho
  have F_G := Lib.hid (k13.fstR)
  have F_H := Lib.hid (k13.sndR)
  clear c17
  clear k13
  obtain ⟨a13, q13, e13, -⟩ := id F_G.out
  subst e13
  obtain ⟨a14, q14, e14, -⟩ := id F_H.out
  subst e14
  have c18 := below1 w17 (.cells #[.slice a13 (corV Q k).1.1.length q13, .slice a14 (corV Q k).1.2.length q14] 62)
  have HB18 := Lib.hid (below_then HB17.out HB17.out.size c18)
  clear HB17
  have ho := (F_M.out.keep c18 (Nat.le_refl _)).upto c18.size
  clear F_M
  have F_M := Lib.hid ho
  clear ho
  have ho := (F_l.out.keep c18 (Nat.le_refl _)).upto c18.size
  clear F_l
  have F_l := Lib.hid ho
  clear ho
  have ho := (F_m.out.keep c18 (Nat.le_refl _)).upto c18.size
  clear F_m
  have F_m := Lib.hid ho
  clear ho
  have ho := (F_TU.out.keep c18 (Nat.le_refl _)).upto c18.size
  clear F_TU
  have F_TU := Lib.hid ho
  clear ho
  have ho := (F_TG.out.keep c18 (Nat.le_refl _)).upto c18.size
  clear F_TG
  have F_TG := Lib.hid ho
  clear ho
  have ho := (F_ts.out.keep c18 (Nat.le_refl _)).upto c18.size
  clear F_ts
  have F_ts := Lib.hid ho
  clear ho
  have ho := (F_ps.out.keep c18 (Nat.le_refl _)).upto c18.size
  clear F_ps
  have F_ps := Lib.hid ho
  clear ho
  have ho := (F_Q.out.keep c18 (Nat.le_refl _)).upto c18.size
  clear F_Q
  have F_Q := Lib.hid ho
  clear ho
  have ho := (F_D.out.keep c18 (Nat.le_refl _)).upto c18.size
  clear F_D
  have F_D := Lib.hid ho
  clear ho
  have ho := (F_E.out.keep c18 (Nat.le_refl _)).upto c18.size
  clear F_E
  have F_E := Lib.hid ho
  clear ho
  have ho := (F_G.out.keep c18 (Nat.le_refl _)).upto c18.size
  clear F_G
  have F_G := Lib.hid ho
  clear ho
  have ho := (F_H.out.keep c18 (Nat.le_refl _)).upto c18.size
  clear F_H
  have F_H := Lib.hid ho
  clear ho
  have ho := X_c.out.below c18
  clear X_c
  have X_c := Lib.hid ho
  clear ho
  have X_d := Lib.hid (CB.new w17 (.slice a13 (corV Q k).1.1.length q13) (.slice a14 (corV Q k).1.2.length q14))
  clear c18
  have CC := DrawPowerMod_any v l w.heap.size (w17.alloc (.cells #[.slice a13 (corV Q k).1.1.length q13, .slice a14 (corV Q k).1.2.length q14] 62)) (HI.out.keep HB18.out (Nat.le_refl _)) HB18.out.size
  go_wp2_with fail
  refine CC.mono ?_
  rintro e w19 ⟨⟨r, i, rfl, hr, hi⟩, c19⟩
  clear CC
  have HB19 := Lib.hid (below_then HB18.out HB18.out.size c19)
  clear HB18
  have ho := (F_M.out.keep c19 (Nat.le_refl _)).upto c19.size
  clear F_M
  have F_M := Lib.hid ho
  clear ho
  have ho := (F_l.out.keep c19 (Nat.le_refl _)).upto c19.size
  clear F_l
  have F_l := Lib.hid ho
  clear ho
  have ho := (F_m.out.keep c19 (Nat.le_refl _)).upto c19.size
  clear F_m
  have F_m := Lib.hid ho
  clear ho
  have ho := (F_TU.out.keep c19 (Nat.le_refl _)).upto c19.size
  clear F_TU
  have F_TU := Lib.hid ho
  clear ho
  have ho := (F_TG.out.keep c19 (Nat.le_refl _)).upto c19.size
  clear F_TG
  have F_TG := Lib.hid ho
  clear ho
  have ho := (F_ts.out.keep c19 (Nat.le_refl _)).upto c19.size
  clear F_ts
  have F_ts := Lib.hid ho
  clear ho
  have ho := (F_ps.out.keep c19 (Nat.le_refl _)).upto c19.size
  clear F_ps
  have F_ps := Lib.hid ho
  clear ho
  have ho := (F_Q.out.keep c19 (Nat.le_refl _)).upto c19.size
  clear F_Q
  have F_Q := Lib.hid ho
  clear ho
  have ho := (F_D.out.keep c19 (Nat.le_refl _)).upto c19.size
  clear F_D
  have F_D := Lib.hid ho
  clear ho
  have ho := (F_E.out.keep c19 (Nat.le_refl _)).upto c19.size
  clear F_E
  have F_E := Lib.hid ho
  clear ho
  have ho := (F_G.out.keep c19 (Nat.le_refl _)).upto c19.size
  clear F_G
  have F_G := Lib.hid ho
  clear ho
  have ho := (F_H.out.keep c19 (Nat.le_refl _)).upto c19.size
  clear F_H
  have F_H := Lib.hid ho
  clear ho
  have ho := X_c.out.below c19
  clear X_c
  have X_c := Lib.hid ho
  clear ho
  have ho := X_d.out.below c19
  clear X_d
  have X_d := Lib.hid ho
  clear ho
  clear c19
  clear HI
  go_upto_region 19 with fail
  obtain ⟨wz, hwz⟩ : ∃ wz, wz = w19 := ⟨_, rfl⟩
  subst hwz
  generalize w15.heap.size = n1 at *
  generalize w17.heap.size = n2 at *
  have C1 := fun W (R : Below wz.heap.size wz W) => toBelow (sameTerms_same (ctV M).1 _ _ _ _ W (F_l.out.keep R (Nat.le_refl _)) (F_m.out.keep R (Nat.le_refl _)))
  have C2 := fun W (R : Below wz.heap.size wz W) => sameCone_any _ _ _ _ _ _ _ _ _ W (F_D.out.keep R (Nat.le_refl _)) (F_E.out.keep R (Nat.le_refl _)) (F_G.out.keep R (Nat.le_refl _)) (F_H.out.keep R (Nat.le_refl _)) R.size
  rw [show ∀ (a b : List Int), (decide (a = a) && decide (b = b)) = true from fun a b => by simp] at C2
  have C3 := fun W (R : Below wz.heap.size wz W) => toBelow0 (implPowerModG r i W)
  have C4 := fun W (R : Below wz.heap.size wz W) => toBelow0 (specPowerMod_any r i W)
  have AM := Lib.hid (fun W (R : Below wz.heap.size wz W) => specAreaTwice_any M _ _ W (F_M.out.keep R (Nat.le_refl _)) R.size)
  have PM := Lib.hid (fun W (R : Below wz.heap.size wz W) => polygonPoints_any M _ _ W (F_M.out.keep R (Nat.le_refl _)) R.size)
  have SV := Lib.hid (fun W (R : Below wz.heap.size wz W) => implSeriesValue_any (ctV M).1 _ x y _ W (F_l.out.keep R (Nat.le_refl _)) R.size)
  generalize hcq : corV Q k = cq at *
  clear hcq
  generalize powP r i = pr at *
  generalize (ptsV ps x9 y9).1 = v1 at *
  generalize (ptsV ps x9 y9).2 = v2 at *
  generalize (serV ts x8 y8).1 = v3 at *
  generalize (serV ts x8 y8).2 = v4 at *
  generalize (termV s TU TG x y).1 = v5 at *
  generalize (termV s TU TG x y).2 = v6 at *
  go_cut [195] (fun s wx => s = .bool false ∧ Hid (Below wz.heap.size wz wx))
  case first =>
    as_aux_lemma =>
      have x0 := X_c.out.c0
      have x1 := X_c.out.c1
      have x2 := X_d.out.c0
      have x3 := X_d.out.c1
      clear AM PM SV
      generalize (ctV M).2 = ok at *
      have BB : Below wz.heap.size wz wz := Below.refl _ _
      go_wp2_with (first
          | (go_at_call 57; (with_reducible refine (C1 _ BB).mono ?_); rintro e y1 ⟨rfl, d1⟩; have BB := below_then BB BB.size d1; have x0 := (X_c.out.below BB).c0; have x1 := (X_c.out.below BB).c1; have x2 := (X_d.out.below BB).c0; have x3 := (X_d.out.below BB).c1)
          | (go_at_call 58; (with_reducible refine (C2 _ BB).mono ?_); rintro e y2 ⟨rfl, d2⟩; have BB := below_then BB BB.size d2)
          | (go_at_call 59; (with_reducible refine (C3 _ BB).mono ?_); rintro e y3 ⟨rfl, d3⟩; have BB := below_then BB BB.size d3)
          | (go_at_call 60; (with_reducible refine (C4 _ BB).mono ?_); rintro e y4 ⟨rfl, d4⟩; have BB := below_then BB BB.size d4)
          | fail)
      go_wp2_with fail
      go_meet
      exact ⟨rfl, Lib.hid BB⟩
  case rest =>
  obtain ⟨rfl, HC⟩ := hcut
  clear C1 C2 C3 C4 X_c X_d F_TU F_TG F_ts F_ps F_Q F_D F_E F_G F_H F_m
  cases hok : (ctV M).2
  · go_wp2
    go_ret
    exact ⟨rfl, below_then HB19.out HB19.out.size HC.out⟩
  obtain ⟨p1, p2, p3⟩ : isPolyB M = true ∧ ctAll M M.length = true ∧ (ctV M).1 = ctK M M.length := by
    unfold ctV at hok ⊢
    by_cases hc : (isPolyB M && (ctAll M M.length && decide ((ctK M M.length).length ≤ 60))) = true
    · rw [if_pos hc]
      simp only [Bool.and_eq_true] at hc
      exact ⟨hc.1, hc.2.1, rfl⟩
    · rw [if_neg hc] at hok; cases hok
  have AM2 := AM.out wc HC.out
  by_cases ha : arV M > 2000
  · have hd : decide (arV M > 2000) = true := decide_eq_true ha
    clear PM SV F_l
    generalize arV M = am at *
    go_wp2_with (first
      | (go_at_call 24; (with_reducible refine AM2.mono ?_); rintro e y1 ⟨rfl, d1⟩; have BB := below_then HC.out HC.out.size d1)
      | fail)
    go_ret
    exact ⟨rfl, below_then HB19.out HB19.out.size BB⟩
  have hd : decide (arV M > 2000) = false := decide_eq_false ha
  have pv : polV M = polL M := by
    rw [arV_of p1] at ha
    unfold polV; rw [p1, decide_eq_true (show arL M ≤ 2000 by omega)]; rfl
  have hlaw := fun h1 h2 => crn_law p1 p2 (s := x) (u := y) h1 h2
  rw [← p3, ← pv] at hlaw
  have PM2 := PM.out
  clear pv p1 p2 p3 PM
  have PV := fun (u : Value) (hb : Nat) W (hx : ISSr W hb u (polV M)) => toBelow (implPointsValue_any (polV M) u x y hb W hx)
  have SV2 := SV.out
  clear SV
  generalize arV M = am at *
  generalize polV M = pm at *
  generalize (ptsV pm x y).1 = z1 at *
  generalize (ptsV pm x y).2 = z2 at *
  generalize hts : (ctV M).1 = tm at *
  clear hts hok
  generalize (serV tm x y).1 = z3 at *
  generalize (serV tm x y).2 = z4 at *
  go_upto_region 25 with (first
    | (go_at_call 24; (with_reducible refine AM2.mono ?_); rintro e y1 ⟨rfl, d1⟩; have BB := below_then HC.out HC.out.size d1)
    | (go_at_call 25; (with_reducible refine (PM2 _ BB).mono ?_); rintro e y2 ⟨u, rfl, k5, d1⟩; obtain ⟨a5', q5', e5', -⟩ := id k5; subst e5'; have BB := below_then BB BB.size d1; have PV2 := PV _ _ _ k5.read)
    | (go_at_call 51; (with_reducible refine PV2.mono ?_); rintro e y3 ⟨rfl, d1⟩; have BB := below_then BB BB.size d1)
    | (go_at_call 48; (with_reducible refine (SV2 _ BB).mono ?_); rintro e y4 ⟨rfl, d1⟩; have BB := below_then BB BB.size d1; clear k5 PV2)
    | fail)
  cases z2
  · go_wp2
    go_ret
    exact ⟨rfl, below_then HB19.out HB19.out.size BB⟩
  cases z4
  · go_wp2
    go_ret
    exact ⟨rfl, below_then HB19.out HB19.out.size BB⟩
  have hz := hlaw rfl rfl
  subst hz
  go_wp2
  go_ret
  exact ⟨ret_bool (by simp), below_then HB19.out HB19.out.size BB⟩
end Go.Proofs.Ytehhoplenloocaa
