/- The law on ConeIndex: its walk. -/
import Derived.Test.YtibninlggdpnkaaConeT
import Derived.Test.YtibninlggdpnkaaConeI
import Derived.Test.YtibninlggdpnkaaOpenC
import Derived.Deep.RegionHeld3
namespace Go.Proofs.Ytibninlggdpnkaa
open Go.RowKit
set_option linter.unusedVariables false
set_option linter.unusedSimpArgs false

set_option maxHeartbeats 2000000 in
theorem lawConeIndex (v : Value) (x : List Int × List Int) (w : World) (h : ConeR w w.heap.size v x) :
    Calls Try.prog 10 #[v] w fun e w' => e = .returned (.bool true) ∧ Below w.heap.size w w' := by
  obtain ⟨U, V⟩ := x
  obtain ⟨v1, v2, rfl, i1, i2⟩ := h
  simp only at i1 i2
  have b0 := below1 w (.cells #[v1, v2] 44)
  have bx := box2_new w v1 v2 44
  have S := szCone_any U V v1 v2 w.heap.size _ (i1.keep b0 (Nat.le_refl _)) (i2.keep b0 (Nat.le_refl _)) (by simp)
  have x0 := bx.c0
  have x1 := bx.c1
  by_cases hl : U.length + V.length ≤ 1048576
  · have e1 : szTot (U.length + V.length) = 1048576 - ((U.length + V.length : Nat) : Int) := by unfold szTot; rw [if_pos hl]
    rw [e1] at S
    have hr : 0 ≤ 1048576 - ((U.length + V.length : Nat) : Int) := by omega
    clear e1
    have h1 : U.length ≤ 1048576 := by omega
    have h2 : V.length ≤ 1048576 := by omega
    clear hl
    generalize 1048576 - ((U.length + V.length : Nat) : Int) = r at *
    have HT := fun w' (j1 : ISr w' w.heap.size v1 U) (j2 : ISr w' w.heap.size v2 V) (hs : w.heap.size ≤ w'.heap.size) => toCone_any U V v1 v2 w.heap.size w' j1 j2 hs h1 h2
    go_enter Try.func10, Try.ntmps10
    go_wp2_with fail
    refine S.mono ?_
    rintro e w1 ⟨rfl, c1⟩
    have b1 := below_then b0 (by simp) c1
    have bx := bx.keep c1
    have x0 := bx.c0
    have x1 := bx.c1
    clear c1 b0
    have I1 := Lib.hid (i1.keep b1 (Nat.le_refl _))
    have I2 := Lib.hid (i2.keep b1 (Nat.le_refl _))
    go_wp2_with fail
    refine (HT w1 I1.out I2.out b1.size).mono ?_
    rintro e w2 ⟨u1, u2, rfl, k1, k2, c2, s2⟩
    have B2 := below_then b1 b1.size c2
    have bx := bx.keep c2
    have x0 := bx.c0
    have x1 := bx.c1
    have K1 := Lib.hid (k1.mono (Nat.le_refl _) (show _ ≤ w2.heap.size by omega)).read
    have K2 := Lib.hid (k2.mono (Nat.le_refl _) (show _ ≤ w2.heap.size by omega)).read
    clear k1 k2 c2 s2
    go_wp2_with fail
    refine (specConeIndex_any U V u1 u2 _ w2 K1.out K2.out (Nat.le_refl _)).mono ?_
    rintro e w3 ⟨rfl, c3⟩
    have B3 := below_then B2 B2.size c3
    have bx := bx.keep c3
    have x0 := bx.c0
    have x1 := bx.c1
    clear K1 K2 B2 c3
    have I1 := Lib.hid (i1.keep B3 (Nat.le_refl _))
    have I2 := Lib.hid (i2.keep B3 (Nat.le_refl _))
    go_wp2_with fail
    refine (HT w3 I1.out I2.out B3.size).mono ?_
    rintro e w4 ⟨p1, p2, rfl, k1, k2, c4, s4⟩
    have B4 := below_then B3 B3.size c4
    have bx4 := bx.keep c4
    have ne4 : w4.heap.size ≠ w.heap.size := by have := B3.size; omega
    obtain ⟨a1, cp1, hp1, -⟩ := id k1
    obtain ⟨a2, cp2, hp2, -⟩ := id k2
    generalize hq1 : Value.slice a1 U.length cp1 = q1 at hp1
    generalize hq2 : Value.slice a2 V.length cp2 = q2 at hp2
    subst p1 p2
    have f5 := below1 w4 (.cells #[q1, q2] 47)
    have g2 := box2_new w4 q1 q2 47
    have B5 := below_then B4 B4.size f5
    have h2' := bx4.keep f5
    have K1 := Lib.hid ((k1.mono (Nat.le_refl _) (show _ ≤ w4.heap.size by omega)).read.keep f5 (Nat.le_refl _))
    have K2 := Lib.hid ((k2.mono (Nat.le_refl _) (show _ ≤ w4.heap.size by omega)).read.keep f5 (Nat.le_refl _))
    have le5 := f5.size
    clear k1 k2 c4 s4 B3 bx I1 I2 x0 x1 f5 B4
    have x0 := h2'.c0
    have x1 := h2'.c1
    have y0 := g2.c0
    have y1 := g2.c1
    clear bx4
    subst q1 q2
    go_wp2_with fail
    generalize hq1 : Value.slice a1 U.length cp1 = p1 at *
    generalize hq2 : Value.slice a2 V.length cp2 = p2 at *
    clear y0 y1 x0 x1 hq1 hq2
    generalize w4.alloc (.cells #[p1, p2] 47) = w5 at *
    refine (implConeIndex_any U V p1 p2 _ w5 K1.out K2.out le5).mono ?_
    rintro e w6 ⟨rfl, c5⟩
    have B6 := below_then B5 B5.size c5
    have bx := h2'.keep c5
    have by6 := g2.keep c5
    have K1' := Lib.hid (K1.out.keep c5 le5)
    have K2' := Lib.hid (K2.out.keep c5 le5)
    have le6 : w4.heap.size ≤ w6.heap.size := Nat.le_trans le5 c5.size
    have x0 := bx.c0
    have x1 := bx.c1
    have y0 := by6.c0
    have y1 := by6.c1
    clear K1 K2 B5 c5 g2 h2' le5
    generalize w4.heap.size = n4 at *
    have I1 := Lib.hid (i1.keep B6 (Nat.le_refl _))
    have I2 := Lib.hid (i2.keep B6 (Nat.le_refl _))
    have B6d : Below w.heap.size w w6.drew := B6.trans (below_draws _ w6 1)
    have bxd : Box2 w6.drew w.heap.size v1 v2 := bx.keep (below_draws _ w6 1)
    have byd : Box2 w6.drew n4 p1 p2 := by6.keep (below_draws _ w6 1)
    have I1d := Lib.hid (show ISr w6.drew w.heap.size v1 U from I1.out)
    have I2d := Lib.hid (show ISr w6.drew w.heap.size v2 V from I2.out)
    have K1d := Lib.hid (show ISr w6.drew n4 p1 U from K1'.out)
    have K2d := Lib.hid (show ISr w6.drew n4 p2 V from K2'.out)
    have le6d : n4 ≤ w6.drew.heap.size := le6
    have q0 := bxd.c0
    have q1 := bxd.c1
    have q2 := byd.c0
    have q3 := byd.c1
    clear x0 x1 y0 y1 I1 I2 K1' K2' le6 B6 bx by6
    go_wp2_with fail
    go_region_held3 (fun w' => w'.cell? ⟨w.heap.size, 0, none⟩ = some v1 ∧ w'.cell? ⟨w.heap.size, 1, none⟩ = some v2 ∧ w'.cell? ⟨n4, 0, none⟩ = some p1 ∧ w'.cell? ⟨n4, 1, none⟩ = some p2) (first | exact ⟨q0, q1, q2, q3⟩ | exact ⟨t0, t1, t2, t3⟩ | exact ⟨z0, z1, z2, z3⟩) (first | (go_at_call 35; (with_reducible refine (HT _ I1d.out I2d.out B6d.size).mono ?_); rintro e w7 ⟨r1, r2, rfl, k1, k2, c6, s6⟩; have t0 := (bxd.keep c6).c0; have t1 := (bxd.keep c6).c1; have t2 := (byd.keep c6).c0; have t3 := (byd.keep c6).c1) | (go_at_call 37; have J1 := (k1.mono (Nat.le_refl _) (show _ ≤ w7.heap.size by omega)).read; have J2 := (k2.mono (Nat.le_refl _) (show _ ≤ w7.heap.size by omega)).read; (with_reducible refine (eqCone_any U V p1 p2 r1 r2 _ _ w7 (K1d.out.keep c6 le6d) (K2d.out.keep c6 le6d) J1 J2 (Nat.le_trans le6d c6.size) (Nat.le_refl _)).mono ?_); rintro e w8 ⟨rfl, c8⟩; have z0 := ((bxd.keep c6).keep c8).c0; have z1 := ((bxd.keep c6).keep c8).c1; have z2 := ((byd.keep c6).keep c8).c0; have z3 := ((byd.keep c6).keep c8).c1))
    have B7 := below_then B6d B6d.size c6
    have B8 := below_then B7 B7.size c8
    go_wp2
    go_ret
    exact ⟨rfl, B8⟩
  · have e1 : szTot (U.length + V.length) = -1 := by unfold szTot; rw [if_neg hl]
    rw [e1] at S
    clear e1
    go_enter Try.func10, Try.ntmps10
    go_wp2_with fail
    refine S.mono ?_
    rintro e w1 ⟨rfl, c1⟩
    go_wp2
    go_ret
    exact ⟨rfl, below_then b0 (by simp) c1⟩
end Go.Proofs.Ytibninlggdpnkaa
