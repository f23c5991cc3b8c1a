/- The law on InCone: its walk. -/
import Derived.Test.YtibninlggdpnkaaConeT
import Derived.Test.YtibninlggdpnkaaConeN
import Derived.Test.YtibninlggdpnkaaOpenC
import Derived.Deep.RegionHeld3
namespace Go.Proofs.Ytibninlggdpnkaa
open Go.RowKit
set_option linter.unusedVariables false
set_option linter.unusedSimpArgs false

theorem ISr.up {w : World} {a b : Nat} {v : Value} {l : List Int} (h : ISr w a v l) (hab : a ≤ b) : ISr w b v l := by
  obtain ⟨x, cap, h0, h1, h2, h3⟩ := h
  refine ⟨x, cap, h0, h1, h2, fun hne => ?_⟩
  obtain ⟨bb, off, e, hb, hc⟩ := h3 hne
  exact ⟨bb, off, e, Nat.lt_of_lt_of_le hb hab, hc⟩

set_option maxHeartbeats 4000000 in
theorem lawInCone (v : Value) (x : List Int × List Int) (vx : Value) (X : List Int) (w : World) (h : ConeR w w.heap.size v x) (hX : ISr w w.heap.size vx X) :
    Calls Try.prog 9 #[v, vx] w fun e w' => e = .returned (.bool true) ∧ Below w.heap.size w w' := by
  obtain ⟨U, V⟩ := x
  obtain ⟨v1, v2, rfl, i1, i2⟩ := h
  simp only at i1 i2
  have b0 := below1 w (.cells #[v1, v2] 44)
  have bx := box2_new w v1 v2 44
  have S := szCone_any U V v1 v2 w.heap.size _ (i1.keep b0 (Nat.le_refl _)) (i2.keep b0 (Nat.le_refl _)) (by simp)
  have HXX := Lib.hid hX
  obtain ⟨ax, capx, rfl, -⟩ := hX
  have x0 := bx.c0
  have x1 := bx.c1
  by_cases hX1 : 1048576 < X.length
  · clear HXX S x0 x1 bx
    generalize X.length = n at *
    go_enter Try.func9, Try.ntmps9
    go_wp2
    go_ret
    exact ⟨rfl, b0⟩
  have hX2 : X.length ≤ 1048576 := by omega
  by_cases hl : U.length + V.length ≤ 1048576
  · have e1 : szTot (U.length + V.length) = 1048576 - ((U.length + V.length : Nat) : Int) := by unfold szTot; rw [if_pos hl]
    rw [e1] at S
    have hr : 0 ≤ 1048576 - ((U.length + V.length : Nat) : Int) := by omega
    clear e1
    have h1 : U.length ≤ 1048576 := by omega
    have h2 : V.length ≤ 1048576 := by omega
    clear hl
    generalize 1048576 - ((U.length + V.length : Nat) : Int) = r at *
    have HT := fun w' (j1 : ISr w' w.heap.size v1 U) (j2 : ISr w' w.heap.size v2 V) (hs : w.heap.size ≤ w'.heap.size) => toCone_any U V v1 v2 w.heap.size w' j1 j2 hs h1 h2
    have HU := fun w' (j1 : ISr w' w.heap.size (.slice ax X.length capx) X) (hs : w.heap.size ≤ w'.heap.size) => toIntS_any X (.slice ax X.length capx) w.heap.size w' j1 hs hX2
    go_enter Try.func9, Try.ntmps9
    go_wp2_with fail
    refine S.mono ?_
    rintro e w1 ⟨rfl, c1⟩
    have B1 := below_then b0 (by simp) c1
    have bx := bx.keep c1
    have x0 := bx.c0
    have x1 := bx.c1
    clear c1 b0 S
    have I1 := Lib.hid (i1.keep B1 (Nat.le_refl _))
    have I2 := Lib.hid (i2.keep B1 (Nat.le_refl _))
    go_wp2_with fail
    refine (HT w1 I1.out I2.out B1.size).mono ?_
    rintro e w2 ⟨u1, u2, rfl, k1, k2, c2, s2⟩
    have B2 := below_then B1 B1.size c2
    have bx := bx.keep c2
    have x0 := bx.c0
    have x1 := bx.c1
    have K1 := Lib.hid (k1.mono (Nat.le_refl _) (show _ ≤ w2.heap.size by omega)).read
    have K2 := Lib.hid (k2.mono (Nat.le_refl _) (show _ ≤ w2.heap.size by omega)).read
    have IX := Lib.hid (HXX.out.keep B2 (Nat.le_refl _))
    clear k1 k2 c2 s2 I1 I2 B1
    go_wp2_with fail
    refine (HU w2 IX.out B2.size).mono ?_
    rintro e w3 ⟨y, rfl, ky, c3, s3⟩
    have B3 := below_then B2 B2.size c3
    have bx := bx.keep c3
    have x0 := bx.c0
    have x1 := bx.c1
    have KY := Lib.hid (ky.mono (Nat.le_refl _) (show _ ≤ w3.heap.size by omega)).read
    have L1 := Lib.hid (K1.out.keep c3 (Nat.le_refl _))
    have L2 := Lib.hid (K2.out.keep c3 (Nat.le_refl _))
    have le3 : w2.heap.size ≤ w3.heap.size := c3.size
    have SP := specInCone_any U V X u1 u2 y w3.heap.size w3 (show ISr w3 w3.heap.size u1 U from ISr.up L1.out le3) (show ISr w3 w3.heap.size u2 V from ISr.up L2.out le3) KY.out (Nat.le_refl _)
    clear ky c3 s3 K1 K2 KY IX L1 L2 B2
    go_wp2_with fail
    refine SP.mono ?_
    rintro e w4 ⟨rfl, c4⟩
    have B4 := below_then B3 B3.size c4
    have bx := bx.keep c4
    have x0 := bx.c0
    have x1 := bx.c1
    clear c4 B3 SP le3
    go_wp2_with fail
    have I1 := Lib.hid (i1.keep B4 (Nat.le_refl _))
    have I2 := Lib.hid (i2.keep B4 (Nat.le_refl _))
    refine (HT w4 I1.out I2.out B4.size).mono ?_
    rintro e w5 ⟨p1, p2, rfl, k1, k2, c5, s5⟩
    have B5 := below_then B4 B4.size c5
    have bx5 := bx.keep c5
    obtain ⟨a1, cp1, hp1, -⟩ := id k1
    obtain ⟨a2, cp2, hp2, -⟩ := id k2
    generalize hq1 : Value.slice a1 U.length cp1 = q1 at hp1
    generalize hq2 : Value.slice a2 V.length cp2 = q2 at hp2
    subst p1 p2
    have f6 := below1 w5 (.cells #[q1, q2] 47)
    have g2 := box2_new w5 q1 q2 47
    have B6 := below_then B5 B5.size f6
    have bx6 := bx5.keep f6
    have K1 := Lib.hid ((k1.mono (Nat.le_refl _) (show _ ≤ w5.heap.size by omega)).read.keep f6 (Nat.le_refl _))
    have K2 := Lib.hid ((k2.mono (Nat.le_refl _) (show _ ≤ w5.heap.size by omega)).read.keep f6 (Nat.le_refl _))
    have le6 := f6.size
    clear k1 k2 c5 s5 B4 bx I1 I2 x0 x1 f6 B5 bx5
    have x0 := bx6.c0
    have x1 := bx6.c1
    have y0 := g2.c0
    have y1 := g2.c1
    subst q1 q2
    go_wp2_with fail
    generalize hq1 : Value.slice a1 U.length cp1 = p1 at *
    generalize hq2 : Value.slice a2 V.length cp2 = p2 at *
    clear y0 y1 x0 x1 hq1 hq2
    generalize w5.alloc (.cells #[p1, p2] 47) = w6 at *
    have IX := Lib.hid (HXX.out.keep B6 (Nat.le_refl _))
    refine (HU w6 IX.out B6.size).mono ?_
    rintro e w7 ⟨y2, rfl, ky, c7, s7⟩
    have B7 := below_then B6 B6.size c7
    have bx7 := bx6.keep c7
    have by7 := g2.keep c7
    have KY := Lib.hid (ky.mono (Nat.le_refl _) (show _ ≤ w7.heap.size by omega)).read
    have L1 := Lib.hid (K1.out.keep c7 le6)
    have L2 := Lib.hid (K2.out.keep c7 le6)
    have le7 : w5.heap.size ≤ w7.heap.size := Nat.le_trans le6 c7.size
    have SP := implInCone_any U V X p1 p2 y2 w7.heap.size w7 (ISr.up L1.out le7) (ISr.up L2.out le7) KY.out (Nat.le_refl _)
    clear ky c7 s7 K1 K2 IX B6 bx6 g2 le6
    generalize w5.heap.size = n5 at *
    have x0 := bx7.c0
    have x1 := bx7.c1
    have y0 := by7.c0
    have y1 := by7.c1
    go_wp2_with fail
    refine SP.mono ?_
    rintro e w8 ⟨rfl, c8⟩
    have B8 := below_then B7 B7.size c8
    have bx := bx7.keep c8
    have by8 := by7.keep c8
    have KY8 := Lib.hid (KY.out.keep c8 (Nat.le_refl _))
    have K1' := Lib.hid (L1.out.keep c8 le7)
    have K2' := Lib.hid (L2.out.keep c8 le7)
    have le8 : n5 ≤ w8.heap.size := Nat.le_trans le7 c8.size
    have le78 : w7.heap.size ≤ w8.heap.size := c8.size
    clear x0 x1 y0 y1 bx7 by7 SP c8 L1 L2 KY B7 le7
    generalize w7.heap.size = n7 at *
    have B8d : Below w.heap.size w w8.drew := B8.trans (below_draws _ w8 1)
    have bxd : Box2 w8.drew w.heap.size v1 v2 := bx.keep (below_draws _ w8 1)
    have byd : Box2 w8.drew n5 p1 p2 := by8.keep (below_draws _ w8 1)
    have I1d := Lib.hid (i1.keep B8d (Nat.le_refl _))
    have I2d := Lib.hid (i2.keep B8d (Nat.le_refl _))
    have K1d := Lib.hid (show ISr w8.drew n5 p1 U from K1'.out)
    have K2d := Lib.hid (show ISr w8.drew n5 p2 V from K2'.out)
    have le8d : n5 ≤ w8.drew.heap.size := le8
    have q0 := bxd.c0
    have q1 := bxd.c1
    have q2 := byd.c0
    have q3 := byd.c1
    have le78d : n7 ≤ w8.drew.heap.size := le78
    have KYd := Lib.hid (show ISr w8.drew n7 y2 X from KY8.out)
    clear K1' K2' le8 B8 bx by8 KY8
    go_wp2_with fail
    go_region_held3 (fun w' => w'.cell? ⟨w.heap.size, 0, none⟩ = some v1 ∧ w'.cell? ⟨w.heap.size, 1, none⟩ = some v2 ∧ w'.cell? ⟨n5, 0, none⟩ = some p1 ∧ w'.cell? ⟨n5, 1, none⟩ = some p2) (first | exact ⟨q0, q1, q2, q3⟩ | exact ⟨t0, t1, t2, t3⟩ | exact ⟨z0, z1, z2, z3⟩) (first | (go_at_call 35; (with_reducible refine (HT _ I1d.out I2d.out B8d.size).mono ?_); rintro e w9 ⟨r1, r2, rfl, k1, k2, c9, s9⟩; have t0 := (bxd.keep c9).c0; have t1 := (bxd.keep c9).c1; have t2 := (byd.keep c9).c0; have t3 := (byd.keep c9).c1) | (go_at_call 37; have J1 := (k1.mono (Nat.le_refl _) (show _ ≤ w9.heap.size by omega)).read; have J2 := (k2.mono (Nat.le_refl _) (show _ ≤ w9.heap.size by omega)).read; (with_reducible refine (eqCone_any U V p1 p2 r1 r2 _ _ w9 (K1d.out.keep c9 le8d) (K2d.out.keep c9 le8d) J1 J2 (Nat.le_trans le8d c9.size) (Nat.le_refl _)).mono ?_); rintro e w10 ⟨rfl, c10⟩; have z0 := ((bxd.keep c9).keep c10).c0; have z1 := ((bxd.keep c9).keep c10).c1; have z2 := ((byd.keep c9).keep c10).c0; have z3 := ((byd.keep c9).keep c10).c1))
    have B9 := below_then B8d B8d.size c9
    have B10 := below_then B9 B9.size c10
    have KY10 := Lib.hid ((KYd.out.keep c9 le78d).keep c10 (Nat.le_trans le78d c9.size))
    have IX := Lib.hid (HXX.out.keep B10 (Nat.le_refl _))
    have le10 : n7 ≤ w10.heap.size := Nat.le_trans (Nat.le_trans le78d c9.size) c10.size
    clear k1 k2 c9 s9 B9 c10 z0 z1 z2 z3 q0 q1 q2 q3 t0 t1 t2 t3 bxd byd K1d K2d I1d I2d KYd
    go_wp2_with fail
    refine (HU w10 IX.out B10.size).mono ?_
    rintro e w11 ⟨y3, rfl, ky, c11, s11⟩
    have B11 := below_then B10 B10.size c11
    have KY3 := Lib.hid (ky.mono (Nat.le_refl _) (show _ ≤ w11.heap.size by omega)).read
    have KY2 := Lib.hid (KY10.out.keep c11 le10)
    have E := eqIntS_any X X y2 y3 _ _ w11 KY2.out KY3.out
    have ht : decide (X = X) = true := by simp
    rw [ht] at E
    clear ky c11 s11
    go_wp2_with fail
    refine E.mono ?_
    rintro e w12 ⟨rfl, d, rfl⟩
    go_wp2
    go_ret
    exact ⟨rfl, B11.trans (below_draws _ _ _)⟩
  · have e1 : szTot (U.length + V.length) = -1 := by unfold szTot; rw [if_neg hl]
    rw [e1] at S
    clear e1
    go_enter Try.func9, Try.ntmps9
    go_wp2_with fail
    refine S.mono ?_
    rintro e w1 ⟨rfl, c1⟩
    go_wp2
    go_ret
    exact ⟨rfl, below_then b0 (by simp) c1⟩
end Go.Proofs.Ytibninlggdpnkaa
