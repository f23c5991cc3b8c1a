/- The statement on moved polygons: the walk. -/
import Derived.Test.YtehhoplenloocaaGreatDrY
import Derived.Test.YtehhoplenloocaaGreatMvL
import Derived.Test.YtehhoplenloocaaGreatNrmY
import Derived.Test.YtehhoplenloocaaGreatMvd
import Derived.Test.YtehhoplenloocaaGreatB14
import Derived.Test.YtehhoplenloocaaGreatSame
import Derived.Test.YtehhoplenloocaaGreatB1
import Derived.Deep.RegionHeld3
import Derived.Deep.DeepCutAuto
namespace Go.Proofs.YtehhoplenloocaaGreat
open Go.RowKit
set_option linter.unusedVariables false
set_option linter.unusedSimpArgs false

theorem sameLm (l : List (List Int)) (v1 v2 : Value) (h1 h2 : Nat) (w : World) (i1 : ISSr w h1 v1 l) (i2 : ISSr w h2 v2 l) : Calls Tryz.prog 15 #[v1, v2] w fun e w' => e = .returned (.bool true) ∧ Below w.heap.size w w' := by
  have := toBelow (sameLists_any l l v1 v2 h1 h2 w i1 i2)
  rwa [decide_eq_true rfl] at this
theorem sameIm (l : List Int) (v1 v2 : Value) (h1 h2 : Nat) (w : World) (i1 : ISr w h1 v1 l) (i2 : ISr w h2 v2 l) : Calls Tryz.prog 24 #[v1, v2] w fun e w' => e = .returned (.bool true) ∧ Below w.heap.size w w' := by
  have := toBelow (sameInts_any l l v1 v2 h1 h2 w i1 i2)
  rwa [decide_eq_true rfl] at this
set_option maxRecDepth 100000 in
set_option maxHeartbeats 2000000 in
theorem sameMove_any (U : List (List Int)) (V : List Int) (v1 v2 v1' v2' : Value) (hb : Nat) (w : World) (i1 : ISSr w hb v1 U) (i2 : ISr w hb v2 V) (i1' : ISSr w hb v1' U) (i2' : ISr w hb v2' V) (hhb : hb ≤ w.heap.size) :
    Calls Tryz.prog 16 #[.agg #[v1, v2], .agg #[v1', v2']] w fun e w' => e = .returned (.bool true) ∧ Below w.heap.size w w' := by
  have B0 := below2 w (.cells #[v1, v2] 27) (.cells #[v1', v2'] 27)
  have j1 := i1.keep B0 hhb
  have j2 := i2.keep B0 hhb
  have j1' := i1'.keep B0 hhb
  have j2' := i2'.keep B0 hhb
  have P1 := sameLists_any U U v1 v1' hb hb _ j1 j1'
  have P2 := fun d => sameInts_any V V v2 v2' hb hb _ (j2.draws d) (j2'.draws d)
  rw [decide_eq_true rfl] at P1
  simp only [decide_true] at P2
  obtain ⟨a1, c1, rfl, -⟩ := id i1
  obtain ⟨a2, c2, rfl, -⟩ := id i2
  obtain ⟨a3, c3, rfl, -⟩ := id i1'
  obtain ⟨a4, c4, rfl, -⟩ := id i2'
  clear i1 i2 i1' i2' j1 j2 j1' j2'
  go_enter Tryz.func16, Tryz.ntmps16
  go_wp2_with (first | (go_at_call 15; (with_reducible refine P1.mono ?_); rintro e w1 ⟨rfl, d1, rfl⟩) | (go_at_call 24; (with_reducible refine (P2 _).mono ?_); rintro e w2 ⟨rfl, d2, rfl⟩))
  go_ret
  exact ⟨rfl, B0.trans (below_draws _ _ _)⟩

set_option maxRecDepth 100000 in
set_option maxHeartbeats 16000000 in
theorem lawFnMoved (v : Value) (l : List Int) (w : World) (h : ISb w w.heap.size v l) :
    Calls Tryz.prog 3 #[v] w fun e w' => e = .returned (.bool true) ∧ Below w.heap.size w w' := by
  have HBG := big_any v l w.heap.size w h
  have CC := DrawMovePolygon_any v l w.heap.size w h (Nat.le_refl _)
  have HI := Lib.hid h
  clear h
  cases hbig : decide (1048576 < l.length)
  case true =>
    rw [hbig] at HBG
    go_enter Tryz.func3, Tryz.ntmps3
    go_wp2_with (go_at_call 4; (with_reducible refine HBG.mono ?_); rintro e w' ⟨rfl, rfl⟩)
    go_ret
    exact ⟨rfl, Below.refl _ _⟩
  rw [hbig] at HBG
  clear hbig
  go_enter Tryz.func3, Tryz.ntmps3
  go_wp2_with (go_at_call 4; (with_reducible refine HBG.mono ?_); rintro e w' ⟨rfl, rfl⟩)
  clear HBG
  refine CC.mono ?_
  rintro e w1 ⟨⟨u1, u2, u3, U, V, P, rfl, i1, i2, i3⟩, c1⟩
  clear CC
  have HB1 := Lib.hid c1
  have F_U := Lib.hid (i1)
  have F_V := Lib.hid (i2)
  have F_P := Lib.hid (i3)
  clear c1
  clear i1 i2 i3
  obtain ⟨a1, q1, e1, -⟩ := id F_U.out
  subst e1
  obtain ⟨a2, q2, e2, -⟩ := id F_V.out
  subst e2
  obtain ⟨a3, q3, e3, -⟩ := id F_P.out
  subst e3
  have c2 := below1 w1 (.cells #[.slice a1 U.length q1, .slice a2 V.length q2] 27)
  have HB2 := Lib.hid (below_then HB1.out HB1.out.size c2)
  clear HB1
  have ho := (F_U.out.keep c2 (Nat.le_refl _)).upto c2.size
  clear F_U
  have F_U := Lib.hid ho
  clear ho
  have ho := (F_V.out.keep c2 (Nat.le_refl _)).upto c2.size
  clear F_V
  have F_V := Lib.hid ho
  clear ho
  have ho := (F_P.out.keep c2 (Nat.le_refl _)).upto c2.size
  clear F_P
  have F_P := Lib.hid ho
  clear ho
  have X_m := Lib.hid (MB.new w1 (.slice a1 U.length q1) (.slice a2 V.length q2))
  clear c2
  have x0 := X_m.out.c0
  have x1 := X_m.out.c1
  have CC := implMovePolygon_any U V P _ _ _ _ (w1.alloc (.cells #[.slice a1 U.length q1, .slice a2 V.length q2] 27)) F_U.out F_V.out F_P.out (Nat.le_refl _)
  go_wp2_with fail
  refine CC.mono ?_
  rintro e w3 ⟨u4, rfl, k4, c3⟩
  clear CC
  have HB3 := Lib.hid (below_then HB2.out HB2.out.size c3)
  clear HB2
  have ho := (F_U.out.keep c3 (Nat.le_refl _)).upto c3.size
  clear F_U
  have F_U := Lib.hid ho
  clear ho
  have ho := (F_V.out.keep c3 (Nat.le_refl _)).upto c3.size
  clear F_V
  have F_V := Lib.hid ho
  clear ho
  have ho := (F_P.out.keep c3 (Nat.le_refl _)).upto c3.size
  clear F_P
  have F_P := Lib.hid ho
  clear ho
  have ho := X_m.out.below c3
  clear X_m
  have X_m := Lib.hid ho
  clear ho
  have F_q := Lib.hid (k4.read)
  clear c3
  clear k4 x0 x1
  obtain ⟨a4, q4, e4, -⟩ := id F_q.out
  subst e4
  have x0 := X_m.out.c0
  have x1 := X_m.out.c1
  have CC := specMovePolygon_any U V P _ _ _ _ w3 F_U.out F_V.out F_P.out (Nat.le_refl _)
  go_wp2_with fail
  refine CC.mono ?_
  rintro e w4 ⟨u5, rfl, k5, c4⟩
  clear CC
  have HB4 := Lib.hid (below_then HB3.out HB3.out.size c4)
  clear HB3
  have ho := (F_U.out.keep c4 (Nat.le_refl _)).upto c4.size
  clear F_U
  have F_U := Lib.hid ho
  clear ho
  have ho := (F_V.out.keep c4 (Nat.le_refl _)).upto c4.size
  clear F_V
  have F_V := Lib.hid ho
  clear ho
  have ho := (F_P.out.keep c4 (Nat.le_refl _)).upto c4.size
  clear F_P
  have F_P := Lib.hid ho
  clear ho
  have ho := (F_q.out.keep c4 (Nat.le_refl _)).upto c4.size
  clear F_q
  have F_q := Lib.hid ho
  clear ho
  have ho := X_m.out.below c4
  clear X_m
  have X_m := Lib.hid ho
  clear ho
  have F_r := Lib.hid (k5.read)
  clear c4
  clear k5 x0 x1
  obtain ⟨a5, q5, e5, -⟩ := id F_r.out
  subst e5
  have CC := DrawInverseMove_any v l w.heap.size w4 (HI.out.keep HB4.out (Nat.le_refl _)) HB4.out.size
  go_wp2_with fail
  refine CC.mono ?_
  rintro e w5 ⟨⟨u6, u7, N, Y, rfl, i6, i7⟩, c5⟩
  clear CC
  have HB5 := Lib.hid (below_then HB4.out HB4.out.size c5)
  clear HB4
  have ho := (F_U.out.keep c5 (Nat.le_refl _)).upto c5.size
  clear F_U
  have F_U := Lib.hid ho
  clear ho
  have ho := (F_V.out.keep c5 (Nat.le_refl _)).upto c5.size
  clear F_V
  have F_V := Lib.hid ho
  clear ho
  have ho := (F_P.out.keep c5 (Nat.le_refl _)).upto c5.size
  clear F_P
  have F_P := Lib.hid ho
  clear ho
  have ho := (F_q.out.keep c5 (Nat.le_refl _)).upto c5.size
  clear F_q
  have F_q := Lib.hid ho
  clear ho
  have ho := (F_r.out.keep c5 (Nat.le_refl _)).upto c5.size
  clear F_r
  have F_r := Lib.hid ho
  clear ho
  have ho := X_m.out.below c5
  clear X_m
  have X_m := Lib.hid ho
  clear ho
  have F_N := Lib.hid (i6)
  have F_Y := Lib.hid (i7)
  clear c5
  clear i6 i7
  obtain ⟨a6, q6, e6, -⟩ := id F_N.out
  subst e6
  obtain ⟨a7, q7, e7, -⟩ := id F_Y.out
  subst e7
  have c6 := below1 w5 (.cells #[.slice a6 N.length q6, .slice a7 Y.length q7] 27)
  have HB6 := Lib.hid (below_then HB5.out HB5.out.size c6)
  clear HB5
  have ho := (F_U.out.keep c6 (Nat.le_refl _)).upto c6.size
  clear F_U
  have F_U := Lib.hid ho
  clear ho
  have ho := (F_V.out.keep c6 (Nat.le_refl _)).upto c6.size
  clear F_V
  have F_V := Lib.hid ho
  clear ho
  have ho := (F_P.out.keep c6 (Nat.le_refl _)).upto c6.size
  clear F_P
  have F_P := Lib.hid ho
  clear ho
  have ho := (F_q.out.keep c6 (Nat.le_refl _)).upto c6.size
  clear F_q
  have F_q := Lib.hid ho
  clear ho
  have ho := (F_r.out.keep c6 (Nat.le_refl _)).upto c6.size
  clear F_r
  have F_r := Lib.hid ho
  clear ho
  have ho := (F_N.out.keep c6 (Nat.le_refl _)).upto c6.size
  clear F_N
  have F_N := Lib.hid ho
  clear ho
  have ho := (F_Y.out.keep c6 (Nat.le_refl _)).upto c6.size
  clear F_Y
  have F_Y := Lib.hid ho
  clear ho
  have ho := X_m.out.below c6
  clear X_m
  have X_m := Lib.hid ho
  clear ho
  have X_n := Lib.hid (MB.new w5 (.slice a6 N.length q6) (.slice a7 Y.length q7))
  clear c6
  have x0 := X_n.out.c0
  have x1 := X_n.out.c1
  have CC := implInverseMove_any N Y _ _ _ (w5.alloc (.cells #[.slice a6 N.length q6, .slice a7 Y.length q7] 27)) F_N.out F_Y.out (Nat.le_refl _)
  go_wp2_with fail
  refine CC.mono ?_
  rintro e w7 ⟨u8, u9, rfl, k8, c7⟩
  clear CC
  have HB7 := Lib.hid (below_then HB6.out HB6.out.size c7)
  clear HB6
  have ho := (F_U.out.keep c7 (Nat.le_refl _)).upto c7.size
  clear F_U
  have F_U := Lib.hid ho
  clear ho
  have ho := (F_V.out.keep c7 (Nat.le_refl _)).upto c7.size
  clear F_V
  have F_V := Lib.hid ho
  clear ho
  have ho := (F_P.out.keep c7 (Nat.le_refl _)).upto c7.size
  clear F_P
  have F_P := Lib.hid ho
  clear ho
  have ho := (F_q.out.keep c7 (Nat.le_refl _)).upto c7.size
  clear F_q
  have F_q := Lib.hid ho
  clear ho
  have ho := (F_r.out.keep c7 (Nat.le_refl _)).upto c7.size
  clear F_r
  have F_r := Lib.hid ho
  clear ho
  have ho := (F_N.out.keep c7 (Nat.le_refl _)).upto c7.size
  clear F_N
  have F_N := Lib.hid ho
  clear ho
  have ho := (F_Y.out.keep c7 (Nat.le_refl _)).upto c7.size
  clear F_Y
  have F_Y := Lib.hid ho
  clear ho
  have ho := X_m.out.below c7
  clear X_m
  have X_m := Lib.hid ho
  clear ho
  have ho := X_n.out.below c7
  clear X_n
  have X_n := Lib.hid ho
  clear ho
  have F_I := Lib.hid (k8.fstR)
  have F_J := Lib.hid (k8.sndR)
  clear c7
  clear k8 x0 x1
  obtain ⟨a8, q8, e8, -⟩ := id F_I.out
  subst e8
  obtain ⟨a9, q9, e9, -⟩ := id F_J.out
  subst e9
  have c8 := below1 w7 (.cells #[.slice a8 (imvV N Y).1.1.length q8, .slice a9 (imvV N Y).1.2.length q9] 27)
  have HB8 := Lib.hid (below_then HB7.out HB7.out.size c8)
  clear HB7
  have ho := (F_U.out.keep c8 (Nat.le_refl _)).upto c8.size
  clear F_U
  have F_U := Lib.hid ho
  clear ho
  have ho := (F_V.out.keep c8 (Nat.le_refl _)).upto c8.size
  clear F_V
  have F_V := Lib.hid ho
  clear ho
  have ho := (F_P.out.keep c8 (Nat.le_refl _)).upto c8.size
  clear F_P
  have F_P := Lib.hid ho
  clear ho
  have ho := (F_q.out.keep c8 (Nat.le_refl _)).upto c8.size
  clear F_q
  have F_q := Lib.hid ho
  clear ho
  have ho := (F_r.out.keep c8 (Nat.le_refl _)).upto c8.size
  clear F_r
  have F_r := Lib.hid ho
  clear ho
  have ho := (F_N.out.keep c8 (Nat.le_refl _)).upto c8.size
  clear F_N
  have F_N := Lib.hid ho
  clear ho
  have ho := (F_Y.out.keep c8 (Nat.le_refl _)).upto c8.size
  clear F_Y
  have F_Y := Lib.hid ho
  clear ho
  have ho := (F_I.out.keep c8 (Nat.le_refl _)).upto c8.size
  clear F_I
  have F_I := Lib.hid ho
  clear ho
  have ho := (F_J.out.keep c8 (Nat.le_refl _)).upto c8.size
  clear F_J
  have F_J := Lib.hid ho
  clear ho
  have ho := X_m.out.below c8
  clear X_m
  have X_m := Lib.hid ho
  clear ho
  have ho := X_n.out.below c8
  clear X_n
  have X_n := Lib.hid ho
  clear ho
  have X_i := Lib.hid (MB.new w7 (.slice a8 (imvV N Y).1.1.length q8) (.slice a9 (imvV N Y).1.2.length q9))
  clear c8
  have x0 := X_n.out.c0
  have x1 := X_n.out.c1
  have CC := specInverseMove_any N Y _ _ _ (w7.alloc (.cells #[.slice a8 (imvV N Y).1.1.length q8, .slice a9 (imvV N Y).1.2.length q9] 27)) F_N.out F_Y.out (Nat.le_refl _)
  go_wp2_with fail
  refine CC.mono ?_
  rintro e w9 ⟨u10, u11, rfl, k10, c9⟩
  clear CC
  have HB9 := Lib.hid (below_then HB8.out HB8.out.size c9)
  clear HB8
  have ho := (F_U.out.keep c9 (Nat.le_refl _)).upto c9.size
  clear F_U
  have F_U := Lib.hid ho
  clear ho
  have ho := (F_V.out.keep c9 (Nat.le_refl _)).upto c9.size
  clear F_V
  have F_V := Lib.hid ho
  clear ho
  have ho := (F_P.out.keep c9 (Nat.le_refl _)).upto c9.size
  clear F_P
  have F_P := Lib.hid ho
  clear ho
  have ho := (F_q.out.keep c9 (Nat.le_refl _)).upto c9.size
  clear F_q
  have F_q := Lib.hid ho
  clear ho
  have ho := (F_r.out.keep c9 (Nat.le_refl _)).upto c9.size
  clear F_r
  have F_r := Lib.hid ho
  clear ho
  have ho := (F_N.out.keep c9 (Nat.le_refl _)).upto c9.size
  clear F_N
  have F_N := Lib.hid ho
  clear ho
  have ho := (F_Y.out.keep c9 (Nat.le_refl _)).upto c9.size
  clear F_Y
  have F_Y := Lib.hid ho
  clear ho
  have ho := (F_I.out.keep c9 (Nat.le_refl _)).upto c9.size
  clear F_I
  have F_I := Lib.hid ho
  clear ho
  have ho := (F_J.out.keep c9 (Nat.le_refl _)).upto c9.size
  clear F_J
  have F_J := Lib.hid ho
  clear ho
  have ho := X_m.out.below c9
  clear X_m
  have X_m := Lib.hid ho
  clear ho
  have ho := X_n.out.below c9
  clear X_n
  have X_n := Lib.hid ho
  clear ho
  have ho := X_i.out.below c9
  clear X_i
  have X_i := Lib.hid ho
  clear ho
  have F_K := Lib.hid (k10.fstR)
  have F_O := Lib.hid (k10.sndR)
  clear c9
  clear k10 x0 x1 X_n F_N F_Y
  obtain ⟨a10, q10, e10, -⟩ := id F_K.out
  subst e10
  obtain ⟨a11, q11, e11, -⟩ := id F_O.out
  subst e11
  have c10 := below1 w9 (.cells #[.slice a10 (imvV N Y).1.1.length q10, .slice a11 (imvV N Y).1.2.length q11] 27)
  have HB10 := Lib.hid (below_then HB9.out HB9.out.size c10)
  clear HB9
  have ho := (F_U.out.keep c10 (Nat.le_refl _)).upto c10.size
  clear F_U
  have F_U := Lib.hid ho
  clear ho
  have ho := (F_V.out.keep c10 (Nat.le_refl _)).upto c10.size
  clear F_V
  have F_V := Lib.hid ho
  clear ho
  have ho := (F_P.out.keep c10 (Nat.le_refl _)).upto c10.size
  clear F_P
  have F_P := Lib.hid ho
  clear ho
  have ho := (F_q.out.keep c10 (Nat.le_refl _)).upto c10.size
  clear F_q
  have F_q := Lib.hid ho
  clear ho
  have ho := (F_r.out.keep c10 (Nat.le_refl _)).upto c10.size
  clear F_r
  have F_r := Lib.hid ho
  clear ho
  have ho := (F_I.out.keep c10 (Nat.le_refl _)).upto c10.size
  clear F_I
  have F_I := Lib.hid ho
  clear ho
  have ho := (F_J.out.keep c10 (Nat.le_refl _)).upto c10.size
  clear F_J
  have F_J := Lib.hid ho
  clear ho
  have ho := (F_K.out.keep c10 (Nat.le_refl _)).upto c10.size
  clear F_K
  have F_K := Lib.hid ho
  clear ho
  have ho := (F_O.out.keep c10 (Nat.le_refl _)).upto c10.size
  clear F_O
  have F_O := Lib.hid ho
  clear ho
  have ho := X_m.out.below c10
  clear X_m
  have X_m := Lib.hid ho
  clear ho
  have ho := X_i.out.below c10
  clear X_i
  have X_i := Lib.hid ho
  clear ho
  have X_j := Lib.hid (MB.new w9 (.slice a10 (imvV N Y).1.1.length q10) (.slice a11 (imvV N Y).1.2.length q11))
  clear c10
  have CC := DrawNormalPolygon_any v l w.heap.size (w9.alloc (.cells #[.slice a10 (imvV N Y).1.1.length q10, .slice a11 (imvV N Y).1.2.length q11] 27)) (HI.out.keep HB10.out (Nat.le_refl _)) HB10.out.size
  go_wp2_with fail
  refine CC.mono ?_
  rintro e w11 ⟨⟨u12, A, rfl, i12⟩, c11⟩
  clear CC
  have HB11 := Lib.hid (below_then HB10.out HB10.out.size c11)
  clear HB10
  have ho := (F_U.out.keep c11 (Nat.le_refl _)).upto c11.size
  clear F_U
  have F_U := Lib.hid ho
  clear ho
  have ho := (F_V.out.keep c11 (Nat.le_refl _)).upto c11.size
  clear F_V
  have F_V := Lib.hid ho
  clear ho
  have ho := (F_P.out.keep c11 (Nat.le_refl _)).upto c11.size
  clear F_P
  have F_P := Lib.hid ho
  clear ho
  have ho := (F_q.out.keep c11 (Nat.le_refl _)).upto c11.size
  clear F_q
  have F_q := Lib.hid ho
  clear ho
  have ho := (F_r.out.keep c11 (Nat.le_refl _)).upto c11.size
  clear F_r
  have F_r := Lib.hid ho
  clear ho
  have ho := (F_I.out.keep c11 (Nat.le_refl _)).upto c11.size
  clear F_I
  have F_I := Lib.hid ho
  clear ho
  have ho := (F_J.out.keep c11 (Nat.le_refl _)).upto c11.size
  clear F_J
  have F_J := Lib.hid ho
  clear ho
  have ho := (F_K.out.keep c11 (Nat.le_refl _)).upto c11.size
  clear F_K
  have F_K := Lib.hid ho
  clear ho
  have ho := (F_O.out.keep c11 (Nat.le_refl _)).upto c11.size
  clear F_O
  have F_O := Lib.hid ho
  clear ho
  have ho := X_m.out.below c11
  clear X_m
  have X_m := Lib.hid ho
  clear ho
  have ho := X_i.out.below c11
  clear X_i
  have X_i := Lib.hid ho
  clear ho
  have ho := X_j.out.below c11
  clear X_j
  have X_j := Lib.hid ho
  clear ho
  have F_A := Lib.hid (i12.read)
  clear c11
  clear i12
  obtain ⟨a12, q12, e12, -⟩ := id F_A.out
  subst e12
  have CC := implNormal_any A _ _ w11 F_A.out (Nat.le_refl _)
  go_wp2_with fail
  refine CC.mono ?_
  rintro e w12 ⟨u13, rfl, k13, c12⟩
  clear CC
  have HB12 := Lib.hid (below_then HB11.out HB11.out.size c12)
  clear HB11
  have ho := (F_U.out.keep c12 (Nat.le_refl _)).upto c12.size
  clear F_U
  have F_U := Lib.hid ho
  clear ho
  have ho := (F_V.out.keep c12 (Nat.le_refl _)).upto c12.size
  clear F_V
  have F_V := Lib.hid ho
  clear ho
  have ho := (F_P.out.keep c12 (Nat.le_refl _)).upto c12.size
  clear F_P
  have F_P := Lib.hid ho
  clear ho
  have ho := (F_q.out.keep c12 (Nat.le_refl _)).upto c12.size
  clear F_q
  have F_q := Lib.hid ho
  clear ho
  have ho := (F_r.out.keep c12 (Nat.le_refl _)).upto c12.size
  clear F_r
  have F_r := Lib.hid ho
  clear ho
  have ho := (F_I.out.keep c12 (Nat.le_refl _)).upto c12.size
  clear F_I
  have F_I := Lib.hid ho
  clear ho
  have ho := (F_J.out.keep c12 (Nat.le_refl _)).upto c12.size
  clear F_J
  have F_J := Lib.hid ho
  clear ho
  have ho := (F_K.out.keep c12 (Nat.le_refl _)).upto c12.size
  clear F_K
  have F_K := Lib.hid ho
  clear ho
  have ho := (F_O.out.keep c12 (Nat.le_refl _)).upto c12.size
  clear F_O
  have F_O := Lib.hid ho
  clear ho
  have ho := (F_A.out.keep c12 (Nat.le_refl _)).upto c12.size
  clear F_A
  have F_A := Lib.hid ho
  clear ho
  have ho := X_m.out.below c12
  clear X_m
  have X_m := Lib.hid ho
  clear ho
  have ho := X_i.out.below c12
  clear X_i
  have X_i := Lib.hid ho
  clear ho
  have ho := X_j.out.below c12
  clear X_j
  have X_j := Lib.hid ho
  clear ho
  have F_b := Lib.hid (k13.read)
  clear c12
  clear k13
  obtain ⟨a13, q13, e13, -⟩ := id F_b.out
  subst e13
  have CC := specNormal_any A _ _ w12 F_A.out (Nat.le_refl _)
  go_wp2_with fail
  refine CC.mono ?_
  rintro e w13 ⟨u14, rfl, k14, c13⟩
  clear CC
  have HB13 := Lib.hid (below_then HB12.out HB12.out.size c13)
  clear HB12
  have ho := (F_U.out.keep c13 (Nat.le_refl _)).upto c13.size
  clear F_U
  have F_U := Lib.hid ho
  clear ho
  have ho := (F_V.out.keep c13 (Nat.le_refl _)).upto c13.size
  clear F_V
  have F_V := Lib.hid ho
  clear ho
  have ho := (F_P.out.keep c13 (Nat.le_refl _)).upto c13.size
  clear F_P
  have F_P := Lib.hid ho
  clear ho
  have ho := (F_q.out.keep c13 (Nat.le_refl _)).upto c13.size
  clear F_q
  have F_q := Lib.hid ho
  clear ho
  have ho := (F_r.out.keep c13 (Nat.le_refl _)).upto c13.size
  clear F_r
  have F_r := Lib.hid ho
  clear ho
  have ho := (F_I.out.keep c13 (Nat.le_refl _)).upto c13.size
  clear F_I
  have F_I := Lib.hid ho
  clear ho
  have ho := (F_J.out.keep c13 (Nat.le_refl _)).upto c13.size
  clear F_J
  have F_J := Lib.hid ho
  clear ho
  have ho := (F_K.out.keep c13 (Nat.le_refl _)).upto c13.size
  clear F_K
  have F_K := Lib.hid ho
  clear ho
  have ho := (F_O.out.keep c13 (Nat.le_refl _)).upto c13.size
  clear F_O
  have F_O := Lib.hid ho
  clear ho
  have ho := (F_A.out.keep c13 (Nat.le_refl _)).upto c13.size
  clear F_A
  have F_A := Lib.hid ho
  clear ho
  have ho := (F_b.out.keep c13 (Nat.le_refl _)).upto c13.size
  clear F_b
  have F_b := Lib.hid ho
  clear ho
  have ho := X_m.out.below c13
  clear X_m
  have X_m := Lib.hid ho
  clear ho
  have ho := X_i.out.below c13
  clear X_i
  have X_i := Lib.hid ho
  clear ho
  have ho := X_j.out.below c13
  clear X_j
  have X_j := Lib.hid ho
  clear ho
  have F_c := Lib.hid (k14.read)
  clear c13
  clear k14 F_A
  obtain ⟨a14, q14, e14, -⟩ := id F_c.out
  subst e14
  have CC := DrawAreMoved_any v l w.heap.size w13 (HI.out.keep HB13.out (Nat.le_refl _)) HB13.out.size
  go_wp2_with fail
  refine CC.mono ?_
  rintro e w14 ⟨⟨u15, u16, D, E, rfl, i15, i16⟩, c14⟩
  clear CC
  have HB14 := Lib.hid (below_then HB13.out HB13.out.size c14)
  clear HB13
  have ho := (F_U.out.keep c14 (Nat.le_refl _)).upto c14.size
  clear F_U
  have F_U := Lib.hid ho
  clear ho
  have ho := (F_V.out.keep c14 (Nat.le_refl _)).upto c14.size
  clear F_V
  have F_V := Lib.hid ho
  clear ho
  have ho := (F_P.out.keep c14 (Nat.le_refl _)).upto c14.size
  clear F_P
  have F_P := Lib.hid ho
  clear ho
  have ho := (F_q.out.keep c14 (Nat.le_refl _)).upto c14.size
  clear F_q
  have F_q := Lib.hid ho
  clear ho
  have ho := (F_r.out.keep c14 (Nat.le_refl _)).upto c14.size
  clear F_r
  have F_r := Lib.hid ho
  clear ho
  have ho := (F_I.out.keep c14 (Nat.le_refl _)).upto c14.size
  clear F_I
  have F_I := Lib.hid ho
  clear ho
  have ho := (F_J.out.keep c14 (Nat.le_refl _)).upto c14.size
  clear F_J
  have F_J := Lib.hid ho
  clear ho
  have ho := (F_K.out.keep c14 (Nat.le_refl _)).upto c14.size
  clear F_K
  have F_K := Lib.hid ho
  clear ho
  have ho := (F_O.out.keep c14 (Nat.le_refl _)).upto c14.size
  clear F_O
  have F_O := Lib.hid ho
  clear ho
  have ho := (F_b.out.keep c14 (Nat.le_refl _)).upto c14.size
  clear F_b
  have F_b := Lib.hid ho
  clear ho
  have ho := (F_c.out.keep c14 (Nat.le_refl _)).upto c14.size
  clear F_c
  have F_c := Lib.hid ho
  clear ho
  have ho := X_m.out.below c14
  clear X_m
  have X_m := Lib.hid ho
  clear ho
  have ho := X_i.out.below c14
  clear X_i
  have X_i := Lib.hid ho
  clear ho
  have ho := X_j.out.below c14
  clear X_j
  have X_j := Lib.hid ho
  clear ho
  have F_D := Lib.hid (i15)
  have F_E := Lib.hid (i16)
  clear c14
  clear i15 i16
  obtain ⟨a15, q15, e15, -⟩ := id F_D.out
  subst e15
  obtain ⟨a16, q16, e16, -⟩ := id F_E.out
  subst e16
  clear HI
  go_upto_region 13 with fail
  obtain ⟨wz, hwz⟩ : ∃ wz, wz = w14 := ⟨_, rfl⟩
  subst hwz
  generalize w1.heap.size = n1 at *
  generalize w7.heap.size = n2 at *
  generalize w9.heap.size = n3 at *
  have C1 := fun W (R : Below wz.heap.size wz W) => sameLm (mvV U V P).1 _ _ _ _ W (F_q.out.keep R (Nat.le_refl _)) (F_r.out.keep R (Nat.le_refl _))
  have C2 := fun W (R : Below wz.heap.size wz W) => sameMove_any (imvV N Y).1.1 (imvV N Y).1.2 _ _ _ _ _ W (F_I.out.keep R (Nat.le_refl _)) (F_J.out.keep R (Nat.le_refl _)) (F_K.out.keep R (Nat.le_refl _)) (F_O.out.keep R (Nat.le_refl _)) R.size
  have C3 := fun W (R : Below wz.heap.size wz W) => sameLm (nrV A).1 _ _ _ _ W (F_b.out.keep R (Nat.le_refl _)) (F_c.out.keep R (Nat.le_refl _))
  have C4 := fun W (R : Below wz.heap.size wz W) => implAreMoved_any D E _ _ _ W (F_D.out.keep R (Nat.le_refl _)) (F_E.out.keep R (Nat.le_refl _)) R.size
  have C5 := fun W (R : Below wz.heap.size wz W) => specAreMoved_any D E _ _ _ W (F_D.out.keep R (Nat.le_refl _)) (F_E.out.keep R (Nat.le_refl _)) R.size
  have C6 := fun W (R : Below wz.heap.size wz W) => implIsMove_any U V _ _ _ W (F_U.out.keep R (Nat.le_refl _)) (F_V.out.keep R (Nat.le_refl _)) R.size
  have C7 := fun W (R : Below wz.heap.size wz W) => specIsMove_any U V _ _ _ W (F_U.out.keep R (Nat.le_refl _)) (F_V.out.keep R (Nat.le_refl _)) R.size
  generalize hiv : imvV N Y = iv at *
  clear hiv
  generalize arB D E = rb at *
  generalize moveB U V = mb at *
  go_cut [125] (fun s wx => s = .bool false ∧ Hid (Below wz.heap.size wz wx))
  case first =>
    as_aux_lemma =>
      have x0 := X_m.out.c0
      have x1 := X_m.out.c1
      have x2 := X_i.out.c0
      have x3 := X_i.out.c1
      have x4 := X_j.out.c0
      have x5 := X_j.out.c1
      have BB : Below wz.heap.size wz wz.drew := below_draws wz.heap.size wz 1
      generalize (mvV U V P).2 = ok at *
      generalize (nrV A).2 = three at *
      generalize iv.2 = okv at *
      go_region_held3 (fun w' => w'.cell? ⟨n1, 0, none⟩ = some (.slice a1 U.length q1) ∧ w'.cell? ⟨n1, 1, none⟩ = some (.slice a2 V.length q2) ∧ w'.cell? ⟨n2, 0, none⟩ = some (.slice a8 iv.1.1.length q8) ∧ w'.cell? ⟨n2, 1, none⟩ = some (.slice a9 iv.1.2.length q9) ∧ w'.cell? ⟨n3, 0, none⟩ = some (.slice a10 iv.1.1.length q10) ∧ w'.cell? ⟨n3, 1, none⟩ = some (.slice a11 iv.1.2.length q11))
        (first | exact ⟨x0, x1, x2, x3, x4, x5⟩ | exact ⟨(X_m.out.below BB).c0, (X_m.out.below BB).c1, (X_i.out.below BB).c0, (X_i.out.below BB).c1, (X_j.out.below BB).c0, (X_j.out.below BB).c1⟩ | go_keep)
        (first
            | (go_at_call 15; (with_reducible refine (C1 _ BB).mono ?_); rintro e y1 ⟨rfl, d1⟩; have BB := below_then BB BB.size d1)
            | (go_at_call 16; (with_reducible refine (C2 _ BB).mono ?_); rintro e y2 ⟨rfl, d2⟩; have BB := below_then BB BB.size d2)
            | (go_at_call 15; (with_reducible refine (C3 _ BB).mono ?_); rintro e y3 ⟨rfl, d3⟩; have BB := below_then BB BB.size d3)
            | (go_at_call 17; (with_reducible refine (C4 _ BB).mono ?_); rintro e y4 ⟨rfl, d4⟩; have BB := below_then BB BB.size d4)
            | (go_at_call 18; (with_reducible refine (C5 _ BB).mono ?_); rintro e y5 ⟨rfl, d5⟩; have BB := below_then BB BB.size d5)
            | (go_at_call 19; (with_reducible refine (C6 _ BB).mono ?_); rintro e y6 ⟨rfl, d6⟩; have BB := below_then BB BB.size d6)
            | (go_at_call 20; (with_reducible refine (C7 _ BB).mono ?_); rintro e y7 ⟨rfl, d7⟩; have BB := below_then BB BB.size d7))
      go_wp2_with fail
      go_meet
      exact ⟨rfl, Lib.hid BB⟩
  case rest =>
  obtain ⟨rfl, HC⟩ := hcut
  clear C1 C2 C3 C4 C5 C6 C7 X_i X_j F_I F_J F_K F_O F_c F_D F_E F_r
  generalize hokv : (mvV U V P).2 = ok at *
  have HOK := Lib.hid hokv
  clear hokv
  go_upto_if 126 with fail
  generalize hwy : wc = wy at *
  clear hwy
  go_cut [21, 22, 23, 24, 25, 26, 27, 28] (fun _ _ _ _ _ _ _ _ wx => Hid (Below wz.heap.size wz wx))
  case first =>
    as_aux_lemma =>
      cases ok
      · go_wp2_with fail
        go_meet
        exact HC
      obtain ⟨la, lb, li, lv, ln⟩ := moved_law HOK.out
      have A1 := fun W (R : Below wz.heap.size wz W) => specAreaTwice_any (mvV U V P).1 _ _ W (F_q.out.keep R (Nat.le_refl _)) R.size
      have A2 := fun W (R : Below wz.heap.size wz W) => specAreaTwice_any P _ _ W (F_P.out.keep R (Nat.le_refl _)) R.size
      have B1 := fun W (R : Below wz.heap.size wz W) => specBoundary_any (mvV U V P).1 _ _ W (F_q.out.keep R (Nat.le_refl _)) R.size
      have B2 := fun W (R : Below wz.heap.size wz W) => specBoundary_any P _ _ W (F_P.out.keep R (Nat.le_refl _)) R.size
      have N1 := fun W (R : Below wz.heap.size wz W) => specInner_any (mvV U V P).1 _ _ W (F_q.out.keep R (Nat.le_refl _)) R.size
      have N2 := fun W (R : Below wz.heap.size wz W) => specInner_any P _ _ W (F_P.out.keep R (Nat.le_refl _)) R.size
      have IM := Lib.hid (fun W (R : Below wz.heap.size wz W) => implInverseMove_any U V _ _ _ W (F_U.out.keep R (Nat.le_refl _)) (F_V.out.keep R (Nat.le_refl _)) R.size)
      have NP := Lib.hid (fun W (R : Below wz.heap.size wz W) => implNormal_any P _ _ W (F_P.out.keep R (Nat.le_refl _)) R.size)
      have NQ := Lib.hid (fun W (R : Below wz.heap.size wz W) => implNormal_any (mvV U V P).1 _ _ W (F_q.out.keep R (Nat.le_refl _)) R.size)
      rw [la] at A1
      rw [lb] at B1
      rw [li] at N1
      rw [ln] at NQ
      clear la lb li ln HOK
      generalize (mvV U V P).1 = qq at *
      generalize arV P = va at *
      generalize bdV P = vb at *
      generalize inV P = vi at *
      have BB := HC.out
      go_upto_region 18 with (first
            | (go_at_call 21; (with_reducible refine (A1 _ BB).mono ?_); rintro e y1 ⟨rfl, d1⟩; have BB := below_then BB BB.size d1)
            | (go_at_call 21; (with_reducible refine (A2 _ BB).mono ?_); rintro e y2 ⟨rfl, d2⟩; have BB := below_then BB BB.size d2)
            | (go_at_call 22; (with_reducible refine (B1 _ BB).mono ?_); rintro e y3 ⟨rfl, d3⟩; have BB := below_then BB BB.size d3)
            | (go_at_call 22; (with_reducible refine (B2 _ BB).mono ?_); rintro e y4 ⟨rfl, d4⟩; have BB := below_then BB BB.size d4)
            | (go_at_call 23; (with_reducible refine (N1 _ BB).mono ?_); rintro e y5 ⟨rfl, d5⟩; have BB := below_then BB BB.size d5)
            | (go_at_call 23; (with_reducible refine (N2 _ BB).mono ?_); rintro e y6 ⟨rfl, d6⟩; have BB := below_then BB BB.size d6)
            | fail)
      clear A1 A2 B1 B2 N1 N2
      have HD := Lib.hid BB
      have x0 := (X_m.out.below BB).c0
      have x1 := (X_m.out.below BB).c1
      have CC := IM.out _ BB
      clear IM
      go_wp2_with fail
      refine CC.mono ?_
      clear CC
      rintro e z1 ⟨u20, u21, rfl, k20, d20⟩
      have BB1 := below_then HD.out HD.out.size d20
      have F1 := k20.fstR
      have F2 := k20.sndR
      have hlv := lv
      clear lv x0 x1 d20 k20 HD BB
      generalize (imvV U V).2 = fine at *
      generalize (imvV U V).1.1 = U' at *
      generalize (imvV U V).1.2 = V' at *
      obtain ⟨a20, q20, e20, -⟩ := id F1
      subst e20
      obtain ⟨a21, q21, e21, -⟩ := id F2
      subst e21
      have cB := below1 z1 (.cells #[.slice a20 U'.length q20, .slice a21 V'.length q21] 27)
      have XB := Lib.hid (MB.new z1 (.slice a20 U'.length q20) (.slice a21 V'.length q21))
      have G1 := Lib.hid ((F1.keep cB (Nat.le_refl _)).upto cB.size)
      have G2 := Lib.hid ((F2.keep cB (Nat.le_refl _)).upto cB.size)
      have BB2 := Lib.hid (below_then BB1 BB1.size cB)
      clear F1 F2 cB
      go_upto_if 151 with fail
      generalize hz2 : z1.alloc (.cells #[.slice a20 U'.length q20, .slice a21 V'.length q21] 27) = z2 at *
      generalize hn9 : z1.heap.size = n9 at *
      clear hz2 BB1
      go_cut [23, 24] (fun _ _ wx => Hid (Below wz.heap.size wz wx))
      case first =>
        as_aux_lemma =>
          clear hn9
          cases fine
          · go_wp2_with fail
            go_meet
            exact BB2
          have hm := hlv rfl
          have CC := implMovePolygon_any U' V' qq _ _ _ _ z2 G1.out G2.out ((F_q.out.keep BB2.out (Nat.le_refl _)).upto BB2.out.size) (Nat.le_refl _)
          rw [hm] at CC
          have x0 := XB.out.c0
          have x1 := XB.out.c1
          clear hm hlv
          go_wp2_with fail
          refine CC.mono ?_
          clear CC
          rintro e z3 ⟨u22, rfl, k22, d22⟩
          have BB3 := below_then BB2.out BB2.out.size d22
          have SL := sameLm P _ _ _ _ z3 k22.read (F_P.out.keep BB3 (Nat.le_refl _))
          obtain ⟨a22, q22, e22, -⟩ := id k22
          subst e22
          clear x0 x1 d22 k22
          go_wp2_with (first
            | (go_at_call 15; (with_reducible refine SL.mono ?_); rintro e z4 ⟨rfl, d23⟩; have BB4 := below_then BB3 BB3.size d23)
            | fail)
          go_meet
          exact Lib.hid BB4
      case rest =>
      have CC := NP.out _ hcut.out
      clear NP
      go_wp2_with fail
      refine CC.mono ?_
      clear CC
      rintro e z5 ⟨u25, rfl, k25, d25⟩
      have BB5 := Lib.hid (below_then hcut.out hcut.out.size d25)
      have F5 := Lib.hid k25.read
      obtain ⟨a25, q25, e25, -⟩ := id k25
      subst e25
      clear k25 d25
      have CC := NQ.out _ BB5.out
      clear NQ
      go_wp2_with fail
      refine CC.mono ?_
      clear CC
      rintro e z6 ⟨u26, rfl, k26, d26⟩
      have BB6 := Lib.hid (below_then BB5.out BB5.out.size d26)
      have F6 := k26.read
      have SL := sameLm (nrV P).1 _ _ _ _ z6 (F5.out.keep d26 (Nat.le_refl _)) F6
      obtain ⟨a26, q26, e26, -⟩ := id k26
      subst e26
      clear k26 d26 F6 F5
      generalize (nrV P).2 = five at *
      generalize (nrV P).1 = np at *
      cases five
      · go_wp2_with fail
        go_meet
        exact BB6
      · go_wp2_with (first
          | (go_at_call 15; (with_reducible refine SL.mono ?_); rintro e z7 ⟨rfl, d27⟩; have BB7 := below_then BB6.out BB6.out.size d27)
          | fail)
        go_meet
        exact Lib.hid BB7
  case rest =>
  clear X_m F_U F_V F_P F_q HC
  cases h3 : (nrV A).2
  · go_wp2
    go_ret
    exact ⟨rfl, below_then HB14.out HB14.out.size hcut.out⟩
  obtain ⟨n1', n2', n3'⟩ := norm_law h3
  generalize (nrV A).1 = nb at *
  clear h3
  have HF := Lib.hid F_b.out
  have CC := implNormal_any nb _ _ wc (F_b.out.keep hcut.out (Nat.le_refl _)) hcut.out.size
  rw [n1'] at CC
  rcases F_b.out.cases with ⟨e, -⟩ | ⟨-, hlen, bb, ob, cb, Vb, hve, hbb, hcell⟩
  · rw [e] at n2'; exact absurd n2' (Nat.lt_irrefl _)
  injection hve with ee1 ee2 ee3
  subst ee1
  subst ee3
  clear ee2
  have hc0 := (hcell 0 n2').1
  have hr0 := (hcell 0 n2').2
  rw [n3'] at hr0
  clear hcell n1' n3' F_b
  generalize hv0 : Vb 0 = v0 at *
  clear hv0
  obtain ⟨a0, q0, e0, -⟩ := id hr0
  subst e0
  have hl0 : 0 < nb.length := n2'
  have hi0 : (0 : Int) < (nb.length : Int) := by omega
  have hdl : decide ((nb.length : Int) > 0) = true := by rw [decide_eq_true_eq]; omega
  rw [Nat.add_zero] at hc0
  have hc0 : wz.cell? ⟨bb, ob, none⟩ = some (.slice a0 2 q0) := hc0
  have hr0 := Lib.hid (show ISr wz wz.heap.size (.slice a0 2 q0) [0, 0] from hr0)
  go_wp2_with fail
  refine CC.mono ?_
  clear CC
  rintro e z1 ⟨u30, rfl, k30, d30⟩
  have BB1 := Lib.hid (below_then hcut.out hcut.out.size d30)
  have SL := sameLm nb _ _ _ _ z1 k30.read (HF.out.keep BB1.out (Nat.le_refl _))
  obtain ⟨a30, q30, e30, -⟩ := id k30
  subst e30
  clear d30 k30
  go_wp2_with (first
    | (go_at_call 15; (with_reducible refine SL.mono ?_); rintro e z2 ⟨rfl, d31⟩; have BB2 := below_then BB1.out BB1.out.size d31; have y0 := (BB2.cell (p := ⟨bb, ob, none⟩) hbb).trans hc0; have cL := below1 z2 (.cells #[.int .i64 0, .int .i64 0] 3); have BB3 := below_then BB2 BB2.size cL; have SI := sameIm [0, 0] _ _ _ _ (z2.alloc (.cells #[.int .i64 0, .int .i64 0] 3)) (hr0.out.keep BB3 (Nat.le_refl _)) (IS.lit2 z2 z2.heap.size (Nat.le_refl _) 0 0).read)
    | (go_at_call 24; (with_reducible refine SI.mono ?_); rintro e z3 ⟨rfl, d32⟩; have BB4 := below_then BB3 BB3.size d32)
    | fail)
  go_ret
  exact ⟨rfl, below_then HB14.out HB14.out.size BB4⟩
end Go.Proofs.YtehhoplenloocaaGreat
