/- The statement on cones: the walk. -/
import Derived.Test.YtfncikbmdaameaaDrI
import Derived.Test.YtfncikbmdaameaaCns
import Derived.Test.YtfncikbmdaameaaHlp
import Derived.Test.YtfncikbmdaameaaConeI
import Derived.Test.YtfncikbmdaameaaB2
import Derived.Deep.RegionHeld3
import Derived.Deep.DeepCutAuto
namespace Go.Proofs.Ytfncikbmdaameaa
open Go.RowKit
set_option linter.unusedVariables false
set_option linter.unusedSimpArgs false

set_option maxRecDepth 100000 in
set_option maxHeartbeats 16000000 in
theorem lawFnCones (v : Value) (l : List Int) (w : World) (h : ISb w w.heap.size v l) :
    Calls Try.prog 8 #[v] w fun e w' => e = .returned (.bool true) ∧ Below w.heap.size w w' := by
  have HBG := big_any v l w.heap.size w h
  have CC := DrawSplitCone_any v l w.heap.size w h (Nat.le_refl _)
  have HI := Lib.hid h
  clear h
  cases hbig : decide (1048576 < l.length)
  case true =>
    rw [hbig] at HBG
    go_enter Try.func8, Try.ntmps8
    go_wp2_with (go_at_call 22; (with_reducible refine HBG.mono ?_); rintro e w' ⟨rfl, rfl⟩)
    go_ret
    exact ⟨rfl, Below.refl _ _⟩
  rw [hbig] at HBG
  clear hbig
  go_enter Try.func8, Try.ntmps8
  go_wp2_with (go_at_call 22; (with_reducible refine HBG.mono ?_); rintro e w' ⟨rfl, rfl⟩)
  clear HBG
  refine CC.mono ?_
  rintro e w1 ⟨⟨u1, u2, U, V, rfl, i1, i2⟩, c1⟩
  clear CC
  have HB1 := Lib.hid c1
  have F_U := Lib.hid (i1.read)
  have F_V := Lib.hid (i2.read)
  clear c1
  clear i1 i2
  obtain ⟨a1, q1, e1, -⟩ := id F_U.out
  subst e1
  obtain ⟨a2, q2, e2, -⟩ := id F_V.out
  subst e2
  have c2 := below1 w1 (.cells #[.slice a1 U.length q1, .slice a2 V.length q2] 64)
  have HB2 := Lib.hid (below_then HB1.out HB1.out.size c2)
  clear HB1
  have ho := (F_U.out.keep c2 (Nat.le_refl _)).upto c2.size
  clear F_U
  have F_U := Lib.hid ho
  clear ho
  have ho := (F_V.out.keep c2 (Nat.le_refl _)).upto c2.size
  clear F_V
  have F_V := Lib.hid ho
  clear ho
  have X_c := Lib.hid (CB.new w1 (.slice a1 U.length q1) (.slice a2 V.length q2))
  clear c2
  have x0 := X_c.out.c0
  have x1 := X_c.out.c1
  have CC := implSplitCone_law U V _ _ _ (w1.alloc (.cells #[.slice a1 U.length q1, .slice a2 V.length q2] 64)) F_U.out F_V.out (Nat.le_refl _)
  go_wp2_with fail
  refine CC.mono ?_
  rintro e w3 ⟨u3, rfl, k3, c3⟩
  clear CC
  have HB3 := Lib.hid (below_then HB2.out HB2.out.size c3)
  clear HB2
  have ho := (F_U.out.keep c3 (Nat.le_refl _)).upto c3.size
  clear F_U
  have F_U := Lib.hid ho
  clear ho
  have ho := (F_V.out.keep c3 (Nat.le_refl _)).upto c3.size
  clear F_V
  have F_V := Lib.hid ho
  clear ho
  have ho := X_c.out.below c3
  clear X_c
  have X_c := Lib.hid ho
  clear ho
  have F_l := Lib.hid (k3.read)
  clear c3
  clear k3 x0 x1
  obtain ⟨a3, q3, e3, -⟩ := id F_l.out
  subst e3
  have x0 := X_c.out.c0
  have x1 := X_c.out.c1
  have CC := implTurnsOf_law U V _ _ _ w3 F_U.out F_V.out (Nat.le_refl _)
  go_wp2_with fail
  refine CC.mono ?_
  rintro e w4 ⟨u4, rfl, k4, c4⟩
  clear CC
  have HB4 := Lib.hid (below_then HB3.out HB3.out.size c4)
  clear HB3
  have ho := (F_U.out.keep c4 (Nat.le_refl _)).upto c4.size
  clear F_U
  have F_U := Lib.hid ho
  clear ho
  have ho := (F_V.out.keep c4 (Nat.le_refl _)).upto c4.size
  clear F_V
  have F_V := Lib.hid ho
  clear ho
  have ho := (F_l.out.keep c4 (Nat.le_refl _)).upto c4.size
  clear F_l
  have F_l := Lib.hid ho
  clear ho
  have ho := X_c.out.below c4
  clear X_c
  have X_c := Lib.hid ho
  clear ho
  have F_t := Lib.hid (k4.read)
  clear c4
  clear k4 x0 x1
  obtain ⟨a4, q4, e4, -⟩ := id F_t.out
  subst e4
  have CC := DrawInCone_any v l w.heap.size w4 (HI.out.keep HB4.out (Nat.le_refl _)) HB4.out.size
  go_wp2_with fail
  refine CC.mono ?_
  rintro e w5 ⟨⟨u5, u6, u7, A, B, X, rfl, i5, i6, i7, hX, hXb⟩, c5⟩
  clear CC
  have HB5 := Lib.hid (below_then HB4.out HB4.out.size c5)
  clear HB4
  have ho := (F_U.out.keep c5 (Nat.le_refl _)).upto c5.size
  clear F_U
  have F_U := Lib.hid ho
  clear ho
  have ho := (F_V.out.keep c5 (Nat.le_refl _)).upto c5.size
  clear F_V
  have F_V := Lib.hid ho
  clear ho
  have ho := (F_l.out.keep c5 (Nat.le_refl _)).upto c5.size
  clear F_l
  have F_l := Lib.hid ho
  clear ho
  have ho := (F_t.out.keep c5 (Nat.le_refl _)).upto c5.size
  clear F_t
  have F_t := Lib.hid ho
  clear ho
  have ho := X_c.out.below c5
  clear X_c
  have X_c := Lib.hid ho
  clear ho
  have F_A := Lib.hid (i5.read)
  have F_B := Lib.hid (i6.read)
  have F_X := Lib.hid (i7.read)
  clear c5
  clear i5 i6 i7 hX hXb
  obtain ⟨a5, q5, e5, -⟩ := id F_A.out
  subst e5
  obtain ⟨a6, q6, e6, -⟩ := id F_B.out
  subst e6
  obtain ⟨a7, q7, e7, -⟩ := id F_X.out
  subst e7
  have c6 := below1 w5 (.cells #[.slice a5 A.length q5, .slice a6 B.length q6] 64)
  have HB6 := Lib.hid (below_then HB5.out HB5.out.size c6)
  clear HB5
  have ho := (F_U.out.keep c6 (Nat.le_refl _)).upto c6.size
  clear F_U
  have F_U := Lib.hid ho
  clear ho
  have ho := (F_V.out.keep c6 (Nat.le_refl _)).upto c6.size
  clear F_V
  have F_V := Lib.hid ho
  clear ho
  have ho := (F_l.out.keep c6 (Nat.le_refl _)).upto c6.size
  clear F_l
  have F_l := Lib.hid ho
  clear ho
  have ho := (F_t.out.keep c6 (Nat.le_refl _)).upto c6.size
  clear F_t
  have F_t := Lib.hid ho
  clear ho
  have ho := (F_A.out.keep c6 (Nat.le_refl _)).upto c6.size
  clear F_A
  have F_A := Lib.hid ho
  clear ho
  have ho := (F_B.out.keep c6 (Nat.le_refl _)).upto c6.size
  clear F_B
  have F_B := Lib.hid ho
  clear ho
  have ho := (F_X.out.keep c6 (Nat.le_refl _)).upto c6.size
  clear F_X
  have F_X := Lib.hid ho
  clear ho
  have ho := X_c.out.below c6
  clear X_c
  have X_c := Lib.hid ho
  clear ho
  have X_a := Lib.hid (CB.new w5 (.slice a5 A.length q5) (.slice a6 B.length q6))
  clear c6
  have CC := DrawConeOfTurns_any v l w.heap.size (w5.alloc (.cells #[.slice a5 A.length q5, .slice a6 B.length q6] 64)) (HI.out.keep HB6.out (Nat.le_refl _)) HB6.out.size
  go_wp2_with fail
  refine CC.mono ?_
  rintro e w7 ⟨⟨u8, tl, rfl, k8⟩, c7⟩
  clear CC
  have HB7 := Lib.hid (below_then HB6.out HB6.out.size c7)
  clear HB6
  have ho := (F_U.out.keep c7 (Nat.le_refl _)).upto c7.size
  clear F_U
  have F_U := Lib.hid ho
  clear ho
  have ho := (F_V.out.keep c7 (Nat.le_refl _)).upto c7.size
  clear F_V
  have F_V := Lib.hid ho
  clear ho
  have ho := (F_l.out.keep c7 (Nat.le_refl _)).upto c7.size
  clear F_l
  have F_l := Lib.hid ho
  clear ho
  have ho := (F_t.out.keep c7 (Nat.le_refl _)).upto c7.size
  clear F_t
  have F_t := Lib.hid ho
  clear ho
  have ho := (F_A.out.keep c7 (Nat.le_refl _)).upto c7.size
  clear F_A
  have F_A := Lib.hid ho
  clear ho
  have ho := (F_B.out.keep c7 (Nat.le_refl _)).upto c7.size
  clear F_B
  have F_B := Lib.hid ho
  clear ho
  have ho := (F_X.out.keep c7 (Nat.le_refl _)).upto c7.size
  clear F_X
  have F_X := Lib.hid ho
  clear ho
  have ho := X_c.out.below c7
  clear X_c
  have X_c := Lib.hid ho
  clear ho
  have ho := X_a.out.below c7
  clear X_a
  have X_a := Lib.hid ho
  clear ho
  have F_T := Lib.hid (k8.read)
  clear c7
  clear k8
  obtain ⟨a8, q8, e8, -⟩ := id F_T.out
  subst e8
  have CC := implConeOfTurns_any tl _ _ w7 F_T.out (Nat.le_refl _)
  go_wp2_with fail
  refine CC.mono ?_
  rintro e w8 ⟨u9, u10, rfl, k9, c8⟩
  clear CC
  have HB8 := Lib.hid (below_then HB7.out HB7.out.size c8)
  clear HB7
  have ho := (F_U.out.keep c8 (Nat.le_refl _)).upto c8.size
  clear F_U
  have F_U := Lib.hid ho
  clear ho
  have ho := (F_V.out.keep c8 (Nat.le_refl _)).upto c8.size
  clear F_V
  have F_V := Lib.hid ho
  clear ho
  have ho := (F_l.out.keep c8 (Nat.le_refl _)).upto c8.size
  clear F_l
  have F_l := Lib.hid ho
  clear ho
  have ho := (F_t.out.keep c8 (Nat.le_refl _)).upto c8.size
  clear F_t
  have F_t := Lib.hid ho
  clear ho
  have ho := (F_A.out.keep c8 (Nat.le_refl _)).upto c8.size
  clear F_A
  have F_A := Lib.hid ho
  clear ho
  have ho := (F_B.out.keep c8 (Nat.le_refl _)).upto c8.size
  clear F_B
  have F_B := Lib.hid ho
  clear ho
  have ho := (F_X.out.keep c8 (Nat.le_refl _)).upto c8.size
  clear F_X
  have F_X := Lib.hid ho
  clear ho
  have ho := (F_T.out.keep c8 (Nat.le_refl _)).upto c8.size
  clear F_T
  have F_T := Lib.hid ho
  clear ho
  have ho := X_c.out.below c8
  clear X_c
  have X_c := Lib.hid ho
  clear ho
  have ho := X_a.out.below c8
  clear X_a
  have X_a := Lib.hid ho
  clear ho
  have F_D := Lib.hid (k9.fstR)
  have F_E := Lib.hid (k9.sndR)
  clear c8
  clear k9
  obtain ⟨a9, q9, e9, -⟩ := id F_D.out
  subst e9
  obtain ⟨a10, q10, e10, -⟩ := id F_E.out
  subst e10
  have c9 := below1 w8 (.cells #[.slice a9 (turnV tl).1.1.length q9, .slice a10 (turnV tl).1.2.length q10] 64)
  have HB9 := Lib.hid (below_then HB8.out HB8.out.size c9)
  clear HB8
  have ho := (F_U.out.keep c9 (Nat.le_refl _)).upto c9.size
  clear F_U
  have F_U := Lib.hid ho
  clear ho
  have ho := (F_V.out.keep c9 (Nat.le_refl _)).upto c9.size
  clear F_V
  have F_V := Lib.hid ho
  clear ho
  have ho := (F_l.out.keep c9 (Nat.le_refl _)).upto c9.size
  clear F_l
  have F_l := Lib.hid ho
  clear ho
  have ho := (F_t.out.keep c9 (Nat.le_refl _)).upto c9.size
  clear F_t
  have F_t := Lib.hid ho
  clear ho
  have ho := (F_A.out.keep c9 (Nat.le_refl _)).upto c9.size
  clear F_A
  have F_A := Lib.hid ho
  clear ho
  have ho := (F_B.out.keep c9 (Nat.le_refl _)).upto c9.size
  clear F_B
  have F_B := Lib.hid ho
  clear ho
  have ho := (F_X.out.keep c9 (Nat.le_refl _)).upto c9.size
  clear F_X
  have F_X := Lib.hid ho
  clear ho
  have ho := (F_T.out.keep c9 (Nat.le_refl _)).upto c9.size
  clear F_T
  have F_T := Lib.hid ho
  clear ho
  have ho := (F_D.out.keep c9 (Nat.le_refl _)).upto c9.size
  clear F_D
  have F_D := Lib.hid ho
  clear ho
  have ho := (F_E.out.keep c9 (Nat.le_refl _)).upto c9.size
  clear F_E
  have F_E := Lib.hid ho
  clear ho
  have ho := X_c.out.below c9
  clear X_c
  have X_c := Lib.hid ho
  clear ho
  have ho := X_a.out.below c9
  clear X_a
  have X_a := Lib.hid ho
  clear ho
  have X_d := Lib.hid (CB.new w8 (.slice a9 (turnV tl).1.1.length q9) (.slice a10 (turnV tl).1.2.length q10))
  clear c9
  have CC := specConeOfTurns_any tl _ _ (w8.alloc (.cells #[.slice a9 (turnV tl).1.1.length q9, .slice a10 (turnV tl).1.2.length q10] 64)) F_T.out (Nat.le_refl _)
  go_wp2_with fail
  refine CC.mono ?_
  rintro e w10 ⟨u11, u12, rfl, k11, c10⟩
  clear CC
  have HB10 := Lib.hid (below_then HB9.out HB9.out.size c10)
  clear HB9
  have ho := (F_U.out.keep c10 (Nat.le_refl _)).upto c10.size
  clear F_U
  have F_U := Lib.hid ho
  clear ho
  have ho := (F_V.out.keep c10 (Nat.le_refl _)).upto c10.size
  clear F_V
  have F_V := Lib.hid ho
  clear ho
  have ho := (F_l.out.keep c10 (Nat.le_refl _)).upto c10.size
  clear F_l
  have F_l := Lib.hid ho
  clear ho
  have ho := (F_t.out.keep c10 (Nat.le_refl _)).upto c10.size
  clear F_t
  have F_t := Lib.hid ho
  clear ho
  have ho := (F_A.out.keep c10 (Nat.le_refl _)).upto c10.size
  clear F_A
  have F_A := Lib.hid ho
  clear ho
  have ho := (F_B.out.keep c10 (Nat.le_refl _)).upto c10.size
  clear F_B
  have F_B := Lib.hid ho
  clear ho
  have ho := (F_X.out.keep c10 (Nat.le_refl _)).upto c10.size
  clear F_X
  have F_X := Lib.hid ho
  clear ho
  have ho := (F_T.out.keep c10 (Nat.le_refl _)).upto c10.size
  clear F_T
  have F_T := Lib.hid ho
  clear ho
  have ho := (F_D.out.keep c10 (Nat.le_refl _)).upto c10.size
  clear F_D
  have F_D := Lib.hid ho
  clear ho
  have ho := (F_E.out.keep c10 (Nat.le_refl _)).upto c10.size
  clear F_E
  have F_E := Lib.hid ho
  clear ho
  have ho := X_c.out.below c10
  clear X_c
  have X_c := Lib.hid ho
  clear ho
  have ho := X_a.out.below c10
  clear X_a
  have X_a := Lib.hid ho
  clear ho
  have ho := X_d.out.below c10
  clear X_d
  have X_d := Lib.hid ho
  clear ho
  have F_G := Lib.hid (k11.fstR)
  have F_H := Lib.hid (k11.sndR)
  clear c10
  clear k11
  obtain ⟨a11, q11, e11, -⟩ := id F_G.out
  subst e11
  obtain ⟨a12, q12, e12, -⟩ := id F_H.out
  subst e12
  have c11 := below1 w10 (.cells #[.slice a11 (turnV tl).1.1.length q11, .slice a12 (turnV tl).1.2.length q12] 64)
  have HB11 := Lib.hid (below_then HB10.out HB10.out.size c11)
  clear HB10
  have ho := (F_U.out.keep c11 (Nat.le_refl _)).upto c11.size
  clear F_U
  have F_U := Lib.hid ho
  clear ho
  have ho := (F_V.out.keep c11 (Nat.le_refl _)).upto c11.size
  clear F_V
  have F_V := Lib.hid ho
  clear ho
  have ho := (F_l.out.keep c11 (Nat.le_refl _)).upto c11.size
  clear F_l
  have F_l := Lib.hid ho
  clear ho
  have ho := (F_t.out.keep c11 (Nat.le_refl _)).upto c11.size
  clear F_t
  have F_t := Lib.hid ho
  clear ho
  have ho := (F_A.out.keep c11 (Nat.le_refl _)).upto c11.size
  clear F_A
  have F_A := Lib.hid ho
  clear ho
  have ho := (F_B.out.keep c11 (Nat.le_refl _)).upto c11.size
  clear F_B
  have F_B := Lib.hid ho
  clear ho
  have ho := (F_X.out.keep c11 (Nat.le_refl _)).upto c11.size
  clear F_X
  have F_X := Lib.hid ho
  clear ho
  have ho := (F_T.out.keep c11 (Nat.le_refl _)).upto c11.size
  clear F_T
  have F_T := Lib.hid ho
  clear ho
  have ho := (F_D.out.keep c11 (Nat.le_refl _)).upto c11.size
  clear F_D
  have F_D := Lib.hid ho
  clear ho
  have ho := (F_E.out.keep c11 (Nat.le_refl _)).upto c11.size
  clear F_E
  have F_E := Lib.hid ho
  clear ho
  have ho := (F_G.out.keep c11 (Nat.le_refl _)).upto c11.size
  clear F_G
  have F_G := Lib.hid ho
  clear ho
  have ho := (F_H.out.keep c11 (Nat.le_refl _)).upto c11.size
  clear F_H
  have F_H := Lib.hid ho
  clear ho
  have ho := X_c.out.below c11
  clear X_c
  have X_c := Lib.hid ho
  clear ho
  have ho := X_a.out.below c11
  clear X_a
  have X_a := Lib.hid ho
  clear ho
  have ho := X_d.out.below c11
  clear X_d
  have X_d := Lib.hid ho
  clear ho
  have X_e := Lib.hid (CB.new w10 (.slice a11 (turnV tl).1.1.length q11) (.slice a12 (turnV tl).1.2.length q12))
  clear c11
  clear HI
  go_upto_region 10 with fail
  generalize (w10.alloc (.cells #[.slice a11 (turnV tl).1.1.length q11, .slice a12 (turnV tl).1.2.length q12] 64)) = wz at *
  generalize w1.heap.size = n1 at *
  generalize w5.heap.size = n5 at *
  generalize w8.heap.size = n8 at *
  generalize w10.heap.size = n10 at *
  have hls := (splitC_tot U V).2
  have hlt := turnsC_len U V
  have C1 := fun W (Q : Below wz.heap.size wz W) => specSplitCone_law U V _ _ _ W (F_U.out.keep Q (Nat.le_refl _)) (F_V.out.keep Q (Nat.le_refl _)) Q.size
  have C2 := fun W (Q : Below wz.heap.size wz W) => specTurnsOf_law U V _ _ _ W (F_U.out.keep Q (Nat.le_refl _)) (F_V.out.keep Q (Nat.le_refl _)) Q.size
  have C3 := fun W (Q : Below wz.heap.size wz W) => implInCone_any A B X _ _ _ _ W (F_A.out.keep Q (Nat.le_refl _)) (F_B.out.keep Q (Nat.le_refl _)) (F_X.out.keep Q (Nat.le_refl _)) Q.size
  have C4 := fun W (Q : Below wz.heap.size wz W) => specInCone_any A B X _ _ _ _ W (F_A.out.keep Q (Nat.le_refl _)) (F_B.out.keep Q (Nat.le_refl _)) (F_X.out.keep Q (Nat.le_refl _)) Q.size
  have C5 := fun W (Q : Below wz.heap.size wz W) => sameCone_any _ _ _ _ _ _ _ _ _ W (F_D.out.keep Q (Nat.le_refl _)) (F_E.out.keep Q (Nat.le_refl _)) (F_G.out.keep Q (Nat.le_refl _)) (F_H.out.keep Q (Nat.le_refl _)) Q.size
  have C6 := fun W (Q : Below wz.heap.size wz W) => implConeIndex_any U V _ _ _ W (F_U.out.keep Q (Nat.le_refl _)) (F_V.out.keep Q (Nat.le_refl _)) Q.size
  have C7 := fun W (Q : Below wz.heap.size wz W) => specConeIndex_any U V _ _ _ W (F_U.out.keep Q (Nat.le_refl _)) (F_V.out.keep Q (Nat.le_refl _)) Q.size
  have C8 := fun W (Q : Below wz.heap.size wz W) => implIsCone_any U V _ _ _ W (F_U.out.keep Q (Nat.le_refl _)) (F_V.out.keep Q (Nat.le_refl _)) Q.size
  have C9 := fun W (Q : Below wz.heap.size wz W) => specIsCone_any U V _ _ _ W (F_U.out.keep Q (Nat.le_refl _)) (F_V.out.keep Q (Nat.le_refl _)) Q.size
  have C10 := Lib.hid (fun W (Q : Below wz.heap.size wz W) => implTurnsOf_law _ _ _ _ _ W (F_D.out.keep Q (Nat.le_refl _)) (F_E.out.keep Q (Nat.le_refl _)) Q.size)
  have C11 := Lib.hid (fun (i : Nat) u (W : World) (Q : Below wz.heap.size wz W) (hi : ISr W wz.heap.size u ((splitC U V).getD i [])) => implInCone_any U V ((splitC U V).getD i []) _ _ _ _ W (F_U.out.keep Q (Nat.le_refl _)) (F_V.out.keep Q (Nat.le_refl _)) hi Q.size)
  rw [show ∀ (a b : List Int), (decide (a = a) && decide (b = b)) = true from fun a b => by simp] at C5
  generalize hidx : idxI U V = idx at *
  generalize hin : inC A B X = inb at *
  clear hidx hin
  go_cut [84] (fun s wx => s = .bool false ∧ Hid (Below wz.heap.size wz wx))
  case first =>
    as_aux_lemma =>
      have x0 := X_c.out.c0
      have x1 := X_c.out.c1
      have x2 := X_a.out.c0
      have x3 := X_a.out.c1
      have x4 := X_d.out.c0
      have x5 := X_d.out.c1
      have x6 := X_e.out.c0
      have x7 := X_e.out.c1
      have BB : Below wz.heap.size wz wz.drew := below_draws wz.heap.size wz 1
      clear C10 C11
      go_region_held3 (fun w' => w'.cell? ⟨n1, 0, none⟩ = some (.slice a1 U.length q1) ∧ w'.cell? ⟨n1, 1, none⟩ = some (.slice a2 V.length q2) ∧ w'.cell? ⟨n5, 0, none⟩ = some (.slice a5 A.length q5) ∧ w'.cell? ⟨n5, 1, none⟩ = some (.slice a6 B.length q6) ∧ w'.cell? ⟨n8, 0, none⟩ = some (.slice a9 (turnV tl).1.1.length q9) ∧ w'.cell? ⟨n8, 1, none⟩ = some (.slice a10 (turnV tl).1.2.length q10) ∧ w'.cell? ⟨n10, 0, none⟩ = some (.slice a11 (turnV tl).1.1.length q11) ∧ w'.cell? ⟨n10, 1, none⟩ = some (.slice a12 (turnV tl).1.2.length q12))
        (first | exact ⟨x0, x1, x2, x3, x4, x5, x6, x7⟩ | exact ⟨(X_c.out.below BB).c0, (X_c.out.below BB).c1, (X_a.out.below BB).c0, (X_a.out.below BB).c1, (X_d.out.below BB).c0, (X_d.out.below BB).c1, (X_e.out.below BB).c0, (X_e.out.below BB).c1⟩ | go_keep)
        (first
            | (go_at_call 66; (with_reducible refine (C1 _ BB).mono ?_); rintro e y1 ⟨v1, rfl, m1, d1⟩; have BB := below_then BB BB.size d1)
            | (go_at_call 26; have Q := toBelow (sameLists_any (splitC U V) (splitC U V) _ v1 _ _ y1 (F_l.out.keep BB (Nat.le_refl _)) m1.read); (with_reducible refine Q.mono ?_); rw [decide_eq_true (rfl : splitC U V = splitC U V)]; rintro e y2 ⟨rfl, d2⟩; have BB := below_then BB BB.size d2)
            | (go_at_call 68; (with_reducible refine (C2 _ BB).mono ?_); rintro e y3 ⟨v3, rfl, m3, d3⟩; have BB := below_then BB BB.size d3)
            | (go_at_call 67; have Q := toBelow (sameInts_any (turnsL (splitC U V)) (turnsL (splitC U V)) _ v3 _ _ y3 (F_t.out.keep BB (Nat.le_refl _)) m3.read); (with_reducible refine Q.mono ?_); rw [decide_eq_true (rfl : turnsL (splitC U V) = turnsL (splitC U V))]; rintro e y4 ⟨rfl, d4⟩; have BB := below_then BB BB.size d4)
            | (go_at_call 69; (with_reducible refine (C3 _ BB).mono ?_); rintro e y5 ⟨rfl, d5⟩; have BB := below_then BB BB.size d5)
            | (go_at_call 70; (with_reducible refine (C4 _ BB).mono ?_); rintro e y6 ⟨rfl, d6⟩; have BB := below_then BB BB.size d6)
            | (go_at_call 71; (with_reducible refine (C5 _ BB).mono ?_); rintro e y7 ⟨rfl, d7⟩; have BB := below_then BB BB.size d7)
            | (go_at_call 72; (with_reducible refine (C6 _ BB).mono ?_); rintro e y8 ⟨rfl, d8⟩; have BB := below_then BB BB.size d8)
            | (go_at_call 73; (with_reducible refine (C7 _ BB).mono ?_); rintro e y9 ⟨rfl, d9⟩; have BB := below_then BB BB.size d9)
            | (go_at_call 74; (with_reducible refine (C8 _ BB).mono ?_); rintro e y10 ⟨rfl, d10⟩; have BB := below_then BB BB.size d10)
            | (go_at_call 75; (with_reducible refine (C9 _ BB).mono ?_); rintro e y11 ⟨rfl, d11⟩; have BB := below_then BB BB.size d11))
      go_wp2_with fail
      go_meet
      exact ⟨rfl, Lib.hid BB⟩
  case rest =>
  obtain ⟨rfl, HC⟩ := hcut
  clear C1 C2 C3 C4 C5 C6 C7 C8 X_a X_e F_A F_B F_X F_G F_H
  go_upto_region 12 with fail
  have HTV := Lib.hid (show ((turnV tl).2 = true → turnsL (splitC (turnV tl).1.1 (turnV tl).1.2) = tl) from fun h => by
    cases hk : turnOk tl
    · rw [turnV_no hk] at h; cases h
    · rw [turnV_yes hk]; exact turns_back hk)
  generalize (turnV tl).2 = okb at *
  generalize (turnV tl).1.1 = DA at *
  generalize (turnV tl).1.2 = DB at *
  go_cut [92] (fun s wx => s = .bool false ∧ Hid (Below wz.heap.size wz wx))
  case first =>
    as_aux_lemma =>
      cases okb
      · go_wp2_with fail
        go_meet
        exact ⟨rfl, HC⟩
      · rw [HTV.out rfl] at C10
        have y0 := (X_d.out.below HC.out).c0
        have y1 := (X_d.out.below HC.out).c1
        go_wp2_with (first
          | (go_at_call 61; (with_reducible refine (C10.out _ HC.out).mono ?_); rintro e z1 ⟨v1, rfl, m1, d1⟩; have BB := below_then HC.out HC.out.size d1)
          | (go_at_call 67; have Q := toBelow (sameInts_any tl tl v1 _ _ _ z1 m1.read (F_T.out.keep BB (Nat.le_refl _))); (with_reducible refine Q.mono ?_); rw [decide_eq_true (rfl : tl = tl)]; rintro e z2 ⟨rfl, d2⟩; have BB := below_then BB BB.size d2))
        go_meet
        exact ⟨rfl, Lib.hid BB⟩
  case rest =>
  clear HC
  obtain ⟨rfl, HC⟩ := hcut
  clear C10 X_d F_D F_E F_T HTV
  have x0 := (X_c.out.below HC.out).c0
  have x1 := (X_c.out.below HC.out).c1
  go_wp2_with fail
  refine (C9 _ HC.out).mono ?_
  clear C9
  rintro e w12 ⟨rfl, c12⟩
  have HE := Lib.hid (below_then HC.out HC.out.size c12)
  clear c12 x0 x1 HC
  cases hco : coneB U V
  · have hL : splitC U V = [] := by unfold splitC; rw [hco]; rfl
    rw [hL]
    have hT : turnsL [] = [] := rfl
    rw [hT]
    clear C11 hL hT hls hlt
    go_wp2
    go_ret
    exact ⟨rfl, below_then HB11.out HB11.out.size HE.out⟩
  have T := split_told hco
  have HTT := Lib.hid (turnsL_len (splitC U V))
  have HTD := Lib.hid (show turnsL (splitC U V) = (List.range ((splitC U V).length - 2)).map fun k => crossI ((splitC U V).getD k []) ((splitC U V).getD (k + 2) []) from rfl)
  generalize turnsL (splitC U V) = TL at *
  generalize splitC U V = L at *
  obtain ⟨n, hn⟩ : ∃ n, L.length = n := ⟨_, rfl⟩
  obtain ⟨m, hm⟩ : ∃ m, TL.length = m := ⟨_, rfl⟩
  have h2n : 2 ≤ n := by rw [← hn]; exact T.len
  have hmn : m + 2 = n := by rw [← hm, HTT.out, hn]; omega
  obtain ⟨bl, ol, Vl, rfl, hbl, hcl⟩ : ∃ b off, ∃ V : Nat → Value, a3 = some ⟨b, off, none⟩ ∧ b < wz.heap.size ∧ ∀ i, i < n → wz.cell? ⟨b, off + i, none⟩ = some (V i) ∧ ISr wz wz.heap.size (V i) (L.getD i []) := by
    obtain ⟨a', cap', e, -, -, hc⟩ := F_l.out
    injection e with e1 e2 e3
    obtain ⟨b, off, V, f1, f2, f3⟩ := hc (by intro e; rw [e] at hn; simp at hn; omega)
    exact ⟨b, off, V, e1.trans f1, f2, fun i hi => f3 i (by omega)⟩
  obtain ⟨bt, ot, hct⟩ : ∃ bt ot, ∀ k, k < m → a4 = some ⟨bt, ot, none⟩ ∧ bt < wz.heap.size ∧ wz.cell? ⟨bt, ot + k, none⟩ = some (.int .i64 (TL.getD k 0)) := by
    by_cases h0 : m = 0
    · exact ⟨0, 0, fun k hk => by omega⟩
    · obtain ⟨a', cap', e, -, -, hc⟩ := F_t.out
      injection e with e1 e2 e3
      obtain ⟨b, off, f1, f2, f3⟩ := hc (by intro e; rw [e] at hm; simp at hm; omega)
      exact ⟨b, off, fun k hk => ⟨e1.trans f1, f2, f3 k (by omega)⟩⟩
  have HROW := Lib.hid (fun i (hi : i < n) => T.all.row i (by rw [hn]; exact hi))
  have HTK := Lib.hid (fun k (hk : k < m) => show TL.getD k 0 = crossI (L.getD k []) (L.getD (k + 2) []) by
    rw [HTD.out, hn, List.getD_eq_getElem?_getD, List.getElem?_map, List.getElem?_range (by omega)]; rfl)
  have HT2 := Lib.hid (fun i (hi : i + 2 < n) => T.t2 i (by rw [hn]; exact hi))
  have HCR := Lib.hid (fun i (hi : i + 1 < n) => T.all.cr i (by rw [hn]; exact hi))
  have HIN := Lib.hid (fun i (hi : i < n) => T.inn i (by rw [hn]; exact hi))
  have H0 := Lib.hid T.fst
  have H1 := Lib.hid (show L.getD (n - 1) [] = V by rw [← hn]; exact T.lst)
  have HCL := Lib.hid hcl
  have HCT := Lib.hid hct
  rw [hn, hm]
  rw [hn] at hls
  clear T HTT HTD hcl hct hm hn hlt F_l F_t hco
  have HB12 := Lib.hid (below_then HB11.out HB11.out.size HE.out)
  have hbl2 : bl < w12.heap.size := Nat.lt_of_lt_of_le hbl HE.out.size
  go_upto_region 16 with fail
  go_cut [135] (fun s wx => s = .bool false ∧ Hid (Below wz.heap.size wz wx))
  case first =>
    as_aux_lemma =>
      obtain ⟨k1, hk1⟩ : ∃ k1 : Nat, n - 1 = k1 := ⟨_, rfl⟩
      rw [hk1] at H1
      have Q1 := Lib.hid (fun (W : World) (Q : Below wz.heap.size wz W) => toBelow (sameInts_any (L.getD 0 []) U (Vl 0) (.slice a1 U.length q1) _ _ W ((HCL.out 0 (by omega)).2.keep Q (Nat.le_refl _)) (F_U.out.keep Q (Nat.le_refl _))))
      have Q2 := Lib.hid (fun (W : World) (Q : Below wz.heap.size wz W) => toBelow (sameInts_any (L.getD k1 []) V (Vl k1) (.slice a2 V.length q2) _ _ W ((HCL.out k1 (by omega)).2.keep Q (Nat.le_refl _)) (F_V.out.keep Q (Nat.le_refl _))))
      have c0 := (HE.out.cell (p := ⟨bl, ol, none⟩) hbl).trans (HCL.out 0 (by omega)).1
      have c1 := (HE.out.cell (p := ⟨bl, ol + k1, none⟩) hbl).trans (HCL.out k1 (by omega)).1
      rw [H0.out, decide_eq_true (rfl : U = U)] at Q1
      rw [H1.out, decide_eq_true (rfl : V = V)] at Q2
      have x := Lib.hid (X_c.out.below HE.out)
      have x0 := x.out.c0
      have x1 := x.out.c1
      generalize Vl 0 = ul0 at *
      generalize Vl k1 = ul1 at *
      have HC0 := Lib.hid c0
      have HC1 := Lib.hid c1
      have g1 : decide ((n : Int) < 2) = false := by simp; omega
      have g2 : IntKind.i64.wrap ((n : Int) - 2) = (n : Int) - 2 := wr64 _ (by omega)
      have g3 : ((m : Int) != (n : Int) - 2) = false := by simp; omega
      have g4 : IntKind.i64.wrap ((n : Int) - 1) = (n : Int) - 1 := wr64 _ (by omega)
      have g5 : (n : Int) - 1 = (k1 : Int) := by omega
      have g9 : IntKind.i64.wrap (k1 : Int) = (k1 : Int) := wr64 _ (by omega)
      have g6 : (0 : Int) ≤ (k1 : Int) := by omega
      have g7 : (k1 : Int) < (n : Int) := by omega
      have g8 : (0 : Int) < (n : Int) := by omega
      have g10 : 0 < n := by omega
      have g11 : k1 < n := by omega
      have D0 : Below wz.heap.size wz w12.drew := HE.out.trans (below_draws wz.heap.size w12 1)
      have hn0 : ¬ n = 0 := by omega
      clear hmn hk1
      go_region_held3 (fun w' => w'.cell? ⟨n1, 0, none⟩ = some (.slice a1 U.length q1) ∧ w'.cell? ⟨n1, 1, none⟩ = some (.slice a2 V.length q2) ∧ w'.cell? ⟨bl, ol, none⟩ = some ul0 ∧ w'.cell? ⟨bl, ol + k1, none⟩ = some ul1)
        (first | exact ⟨x0, x1, c0, c1⟩ | exact ⟨(x.out.below BB).c0, (x.out.below BB).c1, z0, z1⟩ | go_keep)
        (first
          | (go_at_call 67; (with_reducible refine (Q1.out _ D0).mono ?_); rintro e y1 ⟨rfl, d1⟩; have D1 := below_then D0 D0.size d1; have BB := below_then (below_draws w12.heap.size w12 1) (Nat.le_refl _) d1; have z0 := (BB.cell (p := ⟨bl, ol, none⟩) hbl2).trans HC0.out; have z1 := (BB.cell (p := ⟨bl, ol + k1, none⟩) hbl2).trans HC1.out)
          | (go_at_call 67; (with_reducible refine (Q2.out _ D1).mono ?_); rintro e y2 ⟨rfl, d2⟩; have D2 := below_then D1 D1.size d2; have BB := below_then BB BB.size d2; have z0 := (BB.cell (p := ⟨bl, ol, none⟩) hbl2).trans HC0.out; have z1 := (BB.cell (p := ⟨bl, ol + k1, none⟩) hbl2).trans HC1.out))
      go_wp2_with fail
      go_meet
      exact ⟨rfl, Lib.hid D2⟩
  case rest =>
  clear HE hbl2
  obtain ⟨rfl, HE⟩ := hcut
  clear H0 H1 HB12
  go_wp2_with fail
  go_loopw [13] (fun i wr => ∃ j : Nat, j + 1 ≤ n ∧ i = .int .i64 ((j : Int) + 1) ∧ Hid (Below wz.heap.size wz wr)) (fun i _ => n - (intOf i).toNat)
  case atStart => exact ⟨0, by omega, rfl, HE⟩
  case round =>
    clear HE
    obtain ⟨j, hj, rfl, HE⟩ := hrel
    by_cases hlt : j + 1 < n
    · have hdec : decide ((j : Int) + 1 < (n : Int)) = true := by simp; omega
      obtain ⟨p0, r0, e0, bp0, br0⟩ := HROW.out j (by omega)
      obtain ⟨p1, r1, e1, bp1, br1⟩ := HROW.out (j + 1) (by omega)
      have hc1 := HCR.out j hlt
      have hi1 := HIN.out (j + 1) hlt
      have k0 := (HCL.out j (by omega)).2
      have k1 := (HCL.out (j + 1) (by omega)).2
      have cc := C11.out (j + 1) (Vl (j + 1))
      rw [hi1, e1] at cc
      rw [e0] at k0
      rw [e1] at k1
      rw [e0, e1] at hc1
      have c0 := (HE.out.cell (p := ⟨bl, ol + j, none⟩) hbl).trans (HCL.out j (by omega)).1
      have c1 := (HE.out.cell (p := ⟨bl, ol + (j + 1), none⟩) hbl).trans (HCL.out (j + 1) (by omega)).1
      have x := Lib.hid (X_c.out.below HE.out)
      have x0 := x.out.c0
      have x1 := x.out.c1
      have K0 := Lib.hid k0
      have K1 := Lib.hid k1
      have Q1 := Lib.hid (fun (W : World) (Q : Below wz.heap.size wz W) => toBelow (lawCross_any [p0, r0] [p1, r1] (Vl j) (Vl (j + 1)) _ _ W (k0.keep Q (Nat.le_refl _)) (k1.keep Q (Nat.le_refl _)) rfl rfl (in9 bp0 br0) (in9 bp1 br1)))
      have Q2 := Lib.hid (fun (W : World) (Q : Below wz.heap.size wz W) => cc W Q (k1.keep Q (Nat.le_refl _)))
      rw [hc1] at Q1
      have hjn : j + 1 < n := hlt
      have HVJ := Lib.hid (show ∀ i, i = j → Vl i = Vl j from fun i e => by rw [e])
      obtain ⟨ul0, hu0⟩ : ∃ u, Vl j = u := ⟨_, rfl⟩
      obtain ⟨ul1, hu1⟩ : ∃ u, Vl (j + 1) = u := ⟨_, rfl⟩
      rw [hu0] at Q1 c0
      rw [hu1] at Q1 Q2 c1
      have HU0 := Lib.hid hu0
      have HU1 := Lib.hid hu1
      have HC0 := Lib.hid c0
      have HC1 := Lib.hid c1
      have hblr : bl < wr.heap.size := Nat.lt_of_lt_of_le hbl HE.out.size
      have g1 : IntKind.i64.wrap ((j : Int) + 1 - 1) = (j : Int) := wr64 _ (by omega) |>.trans (by omega)
      have g1' : IntKind.i64.wrap (j : Int) = (j : Int) := wr64 _ (by omega)
      have g2 : (0 : Int) ≤ (j : Int) := by omega
      have g3 : (j : Int) < (n : Int) := by omega
      have g4 : (0 : Int) ≤ (j : Int) + 1 := by omega
      have g5 : (j : Int) + 1 < (n : Int) := by omega
      have g6 : ((j : Int) + 1).toNat = j + 1 := by omega
      have D0 : Below wz.heap.size wz wr.drew := HE.out.trans (below_draws wz.heap.size wr 1)
      clear k0 k1 cc hc1 hi1 e0 hu0 hu1 HVJ
      go_wp2_with fail
      go_cut [161] (fun s wx => s = .bool false ∧ Hid (Below wz.heap.size wz wx))
      case first =>
        as_aux_lemma =>
          go_region_held3 (fun w' => w'.cell? ⟨n1, 0, none⟩ = some (.slice a1 U.length q1) ∧ w'.cell? ⟨n1, 1, none⟩ = some (.slice a2 V.length q2) ∧ w'.cell? ⟨bl, ol + j, none⟩ = some ul0 ∧ w'.cell? ⟨bl, ol + (j + 1), none⟩ = some ul1)
            (first | exact ⟨x0, x1, c0, c1⟩ | exact ⟨(x.out.below BB).c0, (x.out.below BB).c1, z0, z1⟩ | go_keep)
            (first
              | (go_at_call 76; (with_reducible refine (Q1.out _ D0).mono ?_); rintro e y1 ⟨rfl, d1⟩; have D1 := below_then D0 D0.size d1; have BB := below_then (below_draws wr.heap.size wr 1) (Nat.le_refl _) d1; have z0 := (BB.cell (p := ⟨bl, ol + j, none⟩) hblr).trans HC0.out; have z1 := (BB.cell (p := ⟨bl, ol + (j + 1), none⟩) hblr).trans HC1.out)
              | (go_at_call 69; (with_reducible refine (Q2.out _ D1).mono ?_); rintro e y2 ⟨rfl, d2⟩; have D2 := below_then D1 D1.size d2; have BB := below_then BB BB.size d2; have z0 := (BB.cell (p := ⟨bl, ol + j, none⟩) hblr).trans HC0.out; have z1 := (BB.cell (p := ⟨bl, ol + (j + 1), none⟩) hblr).trans HC1.out))
          go_wp2_with fail
          go_meet
          exact ⟨rfl, Lib.hid D2⟩
      case rest =>
      clear HE c0 c1 x x0 x1 HC0 HC1 hblr D0 Q1 Q2
      obtain ⟨rfl, HE⟩ := hcut
      go_upto_region 23 with fail
      go_cut [199] (fun s wx => s = .bool false ∧ Hid (Below wz.heap.size wz wx))
      case first =>
        as_aux_lemma =>
          have g7 : IntKind.i64.wrap ((j : Int) + 1 + 1) = (j : Int) + 1 + 1 := wr64 _ (by omega)
          by_cases h2 : j + 2 < n
          · have hdec2 : decide ((j : Int) + 1 + 1 < (n : Int)) = true := by simp; omega
            obtain ⟨p2, r2, e2, bp2, br2⟩ := HROW.out (j + 2) (by omega)
            obtain ⟨p0', r0', e0, -, -⟩ := HROW.out j (by omega)
            have hc1 := HCR.out j (by omega)
            have hc2 := HCR.out (j + 1) (by omega)
            have ht2 := HT2.out j h2
            have htk := HTK.out j (by omega)
            obtain ⟨rfl, hbt, ct⟩ := HCT.out j (by omega)
            have k2 := (HCL.out (j + 2) (by omega)).2
            have k0' := (HCL.out j (by omega)).2
            rw [htk] at ct
            rw [e2] at k2
            rw [show j + 1 + 1 = j + 2 from rfl] at hc2
            rw [e0] at k0'
            rw [e0, e1, crossI_two] at hc1
            rw [e1, e2, crossI_two] at hc2
            rw [e0, e2, crossI_two] at ht2 ct
            have K0 := Lib.hid k0'
            obtain ⟨s1, s2⟩ := turn_eq hc1 hc2
            have hbd := cross_bd30 (x := p0') (y := r0') (p := p2) (q := r2) (by obtain ⟨a, b, e, h1, h2⟩ := HROW.out j (by omega); rw [e0] at e; injection e with e e'; injection e' with e'; omega) (by obtain ⟨a, b, e, h1, h2⟩ := HROW.out j (by omega); rw [e0] at e; injection e with e e'; injection e' with e'; omega) bp2 br2
            generalize p0' * r2 - r0' * p2 = tj at *
            have HLE := Lib.hid (show List.zipWith (· + ·) [p0', r0'] [p2, r2] = [p1, r1].map (· * tj) by
              show [p0' + p2, r0' + r2] = [p1 * tj, r1 * tj]
              rw [s1, s2, Int.mul_comm tj p1, Int.mul_comm tj r1])
            have c0 := (HE.out.cell (p := ⟨bl, ol + j, none⟩) hbl).trans (HCL.out j (by omega)).1
            have c1 := (HE.out.cell (p := ⟨bl, ol + (j + 1), none⟩) hbl).trans (HCL.out (j + 1) (by omega)).1
            have c2 : wc.cell? ⟨bl, ol + (j + 1 + 1), none⟩ = some (Vl (j + 2)) := (HE.out.cell (p := ⟨bl, ol + (j + 2), none⟩) hbl).trans (HCL.out (j + 2) (by omega)).1
            have ct0 := (HE.out.cell (p := ⟨bt, ot + j, none⟩) hbt).trans ct
            have K2 := Lib.hid k2
            obtain ⟨ul2, hu2⟩ : ∃ u, Vl (j + 2) = u := ⟨_, rfl⟩
            rw [HU0.out] at c0 K0
            rw [HU1.out] at c1 K1
            rw [hu2] at c2 K2
            have b0 : -30 ≤ p0' ∧ p0' ≤ 30 ∧ -30 ≤ r0' ∧ r0' ≤ 30 := by obtain ⟨a, b, e, h1, h2⟩ := HROW.out j (by omega); rw [e0] at e; injection e with e e'; injection e' with e'; omega
            have mb1 := mul_bd4 (a := p1) (b := tj) (by omega) (by omega) (by omega) (by omega)
            have mb2 := mul_bd4 (a := r1) (b := tj) (by omega) (by omega) (by omega) (by omega)
            have PL := Lib.hid (fun (W : World) (Q : Below wz.heap.size wz W) => plus_any [p0', r0'] [p2, r2] ul0 ul2 _ W (K0.out.keep Q (Nat.le_refl _)) (K2.out.keep Q (Nat.le_refl _)) Q.size (by simp) (by simp) (fun k hk => by
              rcases (show k = 0 ∨ k = 1 by simp at hk; omega) with rfl | rfl
              · show _ ≤ p0' + p2 ∧ p0' + p2 ≤ _; omega
              · show _ ≤ r0' + r2 ∧ r0' + r2 ≤ _; omega))
            have SC := Lib.hid (fun (W : World) (Q : Below wz.heap.size wz W) => scaled_any [p1, r1] ul1 tj _ W (K1.out.keep Q (Nat.le_refl _)) Q.size (by simp) (fun k hk => by
              rcases (show k = 0 ∨ k = 1 by simp at hk; omega) with rfl | rfl
              · show _ ≤ p1 * tj ∧ p1 * tj ≤ _; omega
              · show _ ≤ r1 * tj ∧ r1 * tj ≤ _; omega))
            rw [HLE.out] at PL
            generalize [p1, r1].map (· * tj) = LL at *
            have hz := HE.out.size
            have HC0 := Lib.hid c0
            have HC1 := Lib.hid c1
            have HC2 := Lib.hid c2
            have HCT0 := Lib.hid ct0
            have hblr : bl < wc.heap.size := Nat.lt_of_lt_of_le hbl hz
            have hbtr : bt < wc.heap.size := Nat.lt_of_lt_of_le hbt hz
            have t2 : decide (tj < 2) = false := by simp; omega
            have g12 : (0 : Int) ≤ (j : Int) + 1 + 1 := by omega
            have g13 : (j : Int) + 1 + 1 < (n : Int) := by omega
            have g14 : ((j : Int) + 1 + 1).toNat = j + 1 + 1 := by omega
            have g15 : (j : Int) < (m : Int) := by omega
            have g16 : j < m := by omega
            have g17 : j < n := by omega
            have D0 : Below wz.heap.size wz wc.drew := HE.out.trans (below_draws wz.heap.size wc 1)
            clear ct k2 k0' e1 e2 e0 hc1 hc2 ht2 htk s1 s2 hu2 mb1 mb2 hbd b0 hz
            go_region_held3 (fun w' => w'.cell? ⟨bl, ol + j, none⟩ = some ul0 ∧ w'.cell? ⟨bl, ol + (j + 1), none⟩ = some ul1 ∧ w'.cell? ⟨bl, ol + (j + 1 + 1), none⟩ = some ul2 ∧ w'.cell? ⟨bt, ot + j, none⟩ = some (.int .i64 tj))
              (first | exact ⟨c0, c1, c2, ct0⟩ | exact ⟨(BB.cell (p := ⟨bl, ol + j, none⟩) hblr).trans HC0.out, (BB.cell (p := ⟨bl, ol + (j + 1), none⟩) hblr).trans HC1.out, (BB.cell (p := ⟨bl, ol + (j + 1 + 1), none⟩) hblr).trans HC2.out, (BB.cell (p := ⟨bt, ot + j, none⟩) hbtr).trans HCT0.out⟩ | go_keep)
              (first
                | (go_at_call 77; (with_reducible refine (PL.out _ D0).mono ?_); rintro e y1 ⟨v1, rfl, m1, d1⟩; have D1 := below_then D0 D0.size d1; have BB := below_then (below_draws wc.heap.size wc 1) (Nat.le_refl _) d1)
                | (go_at_call 78; (with_reducible refine (SC.out _ D1).mono ?_); rintro e y2 ⟨v2, rfl, m2, d2⟩; have D2 := below_then D1 D1.size d2; have BB := below_then BB BB.size d2; have M1 := m1.read.keep d2 (Nat.le_refl _))
                | (go_at_call 67; have Q := toBelow (sameInts_any LL LL v1 v2 _ _ y2 M1 m2.read); (with_reducible refine Q.mono ?_); rw [decide_eq_true (rfl : LL = LL)]; rintro e y3 ⟨rfl, d3⟩; have D3 := below_then D2 D2.size d3; have BB := below_then BB BB.size d3))
            go_wp2_with fail
            go_meet
            exact ⟨rfl, Lib.hid D3⟩
          · have hdec2 : decide ((j : Int) + 1 + 1 < (n : Int)) = false := by simp; omega
            go_quiet (fail)
            go_wp2_with fail
            go_meet
            exact ⟨rfl, Lib.hid (HE.out.trans (below_draws wz.heap.size wc nq))⟩
      case rest =>
      clear HE
      obtain ⟨rfl, HE⟩ := hcut
      go_wp2
      go_roundw
      case rel => exact ⟨j + 1, by omega, by go_num, HE⟩
      case measure => simp [intOf]; omega
    · obtain rfl : n = j + 1 := by omega
      go_wp2
      go_ret
      exact ⟨rfl, below_then HB11.out HB11.out.size HE.out⟩
end Go.Proofs.Ytfncikbmdaameaa
