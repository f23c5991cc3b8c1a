/- Cones as the laws copy them. -/
import Derived.Test.YtchkcjpahlimjaaConeL
namespace Go.Proofs.Ytchkcjpahlimjaa
open Go.RowKit
set_option linter.unusedVariables false
set_option linter.unusedSimpArgs false

set_option maxHeartbeats 2000000 in
theorem toCone_any (U V : List Int) (v1 v2 : Value) (hb : Nat) (w : World) (i1 : ISr w hb v1 U) (i2 : ISr w hb v2 V) (hhb : hb ≤ w.heap.size) (hl1 : U.length ≤ 1048576) (hl2 : V.length ≤ 1048576) :
    Calls Try.prog 16 #[.agg #[v1, v2]] w fun e w' => ∃ u1 u2, e = .returned (.agg #[u1, u2]) ∧ IS w' (w.heap.size + 3) (w.heap.size + 4) u1 U ∧ IS w' (w.heap.size + 4) (w.heap.size + 5) u2 V ∧ Below w.heap.size w w' ∧ w'.heap.size = w.heap.size + 5 := by
  obtain ⟨n, hn⟩ : ∃ n, n = w.heap.size := ⟨_, rfl⟩
  have hB0 := below3 w (.cells #[v1, v2] 24) (.cells #[.slice none 0 0, .slice none 0 0] 28) (.cells #[.slice none 0 0, .slice none 0 0] 28)
  have hb1 := ((box2_new w v1 v2 24).keep (below1 _ (.cells #[.slice none 0 0, .slice none 0 0] 28))).keep (below1 _ (.cells #[.slice none 0 0, .slice none 0 0] 28))
  have hb2 := (box2_new (w.alloc (.cells #[v1, v2] 24)) (.slice none 0 0) (.slice none 0 0) 28).keep (below1 _ (.cells #[.slice none 0 0, .slice none 0 0] 28))
  have hb3 := box2_new ((w.alloc (.cells #[v1, v2] 24)).alloc (.cells #[.slice none 0 0, .slice none 0 0] 28)) (.slice none 0 0) (.slice none 0 0) 28
  simp only [World.size_alloc] at hb2 hb3
  have hs : (((w.alloc (.cells #[v1, v2] 24)).alloc (.cells #[.slice none 0 0, .slice none 0 0] 28)).alloc (.cells #[.slice none 0 0, .slice none 0 0] 28)).heap.size = w.heap.size + 3 := by simp
  have hj1 := i1.keep hB0 hhb
  have hj2 := i2.keep hB0 hhb
  have HT := fun w' (h' : ISr w' hb v1 U) (hh : hb ≤ w'.heap.size) => toIntS_any U v1 hb w' h' hh hl1
  have HT2 := fun w' (h' : ISr w' hb v2 V) (hh : hb ≤ w'.heap.size) => toIntS_any V v2 hb w' h' hh hl2
  have x0 := hb1.c0
  clear i1 i2
  go_enter Try.func16, Try.ntmps16
  go_wp2_with fail
  have H1 := HT _ hj1 (by rw [hs]; omega)
  refine H1.mono ?_
  rintro e w1 ⟨u1, rfl, k1, bel1, sz1⟩
  have B1 := below_then hB0 (by rw [hs]; omega) bel1
  have c2 := hb2.keep bel1
  have c1 := hb1.keep bel1
  have c3 := hb3.keep bel1
  have j2 := hj2.keep bel1 (by rw [hs]; omega)
  rw [hs] at k1 sz1
  clear HT x0 hb1 hb2 hb3 hj1 hj2 H1 bel1 hs hB0
  obtain ⟨a1, cp1, hu1, -⟩ := id k1
  subst hu1
  generalize hv1 : Value.slice a1 U.length cp1 = u1 at *
  have y0 := c3.c0
  have y1 := c3.f0
  have D1 := Lib.hid (c1.other (a := ⟨w.heap.size + 1 + 1, 0, none⟩) (by show w.heap.size + 1 + 1 ≠ w.heap.size; omega) u1)
  have D2 := Lib.hid (c2.other (a := ⟨w.heap.size + 1 + 1, 0, none⟩) (by show w.heap.size + 1 + 1 ≠ w.heap.size + 1; omega) u1)
  have D3 := Lib.hid (c3.set0 u1)
  have K1 := Lib.hid (k1.setOther (a := ⟨w.heap.size + 1 + 1, 0, none⟩) (.inl (by show w.heap.size + 1 + 1 < w.heap.size + 3; omega)) u1)
  have BB := B1.setCell (p := ⟨w.heap.size + 1 + 1, 0, none⟩) (by show w.heap.size ≤ w.heap.size + 1 + 1; omega) u1
  have JJ := Lib.hid (j2.keep ((Below.refl w.heap.size w1).setCell (p := ⟨w.heap.size + 1 + 1, 0, none⟩) (by show w.heap.size ≤ w.heap.size + 1 + 1; omega) u1) hhb)
  have SZ : (w1.setCell ⟨w.heap.size + 1 + 1, 0, none⟩ u1).heap.size = w.heap.size + 4 := by simp; exact sz1
  have HSZ := Lib.hid SZ
  have HBB := Lib.hid BB
  clear k1 j2 sz1 SZ BB
  have z1 := D1.out.c1
  subst hv1
  go_wp2_with fail
  clear y0 y1 z1 c1 c2 c3
  generalize w1.setCell ⟨w.heap.size + 1 + 1, 0, none⟩ (.slice a1 U.length cp1) = w2 at *
  have H2 := HT2 w2 JJ.out (by rw [HSZ.out]; omega)
  refine H2.mono ?_
  rintro e w3 ⟨u2, rfl, k2, bel2, sz2⟩
  have K1' := K1.out.keep bel2 (by rw [HSZ.out]; omega)
  have B2 := below_then HBB.out (by rw [HSZ.out]; omega) bel2
  have c2 := D2.out.keep bel2
  have c3 := D3.out.keep bel2
  rw [HSZ.out] at k2 sz2
  clear HT2 H2 D1 D2 D3 K1 JJ HSZ HBB bel2 B1
  obtain ⟨a2, cp2, hu2, -⟩ := id k2
  subst hu2
  generalize hv2 : Value.slice a2 V.length cp2 = u2 at *
  generalize hv1 : Value.slice a1 U.length cp1 = u1 at *
  have y0 := c3.c1
  have y1 := c3.f1
  have y2 := c3.c0
  have D2 := c2.other (a := ⟨w.heap.size + 1 + 1, 1, none⟩) (by show w.heap.size + 1 + 1 ≠ w.heap.size + 1; omega) u2
  have D3 := c3.set1 u2
  have K1 := K1'.setOther (a := ⟨w.heap.size + 1 + 1, 1, none⟩) (.inl (by show w.heap.size + 1 + 1 < w.heap.size + 3; omega)) u2
  have K2 := k2.setOther (a := ⟨w.heap.size + 1 + 1, 1, none⟩) (.inl (by show w.heap.size + 1 + 1 < w.heap.size + 4; omega)) u2
  have BB := B2.setCell (p := ⟨w.heap.size + 1 + 1, 1, none⟩) (by show w.heap.size ≤ w.heap.size + 1 + 1; omega) u2
  have SZ : (w3.setCell ⟨w.heap.size + 1 + 1, 1, none⟩ u2).heap.size = w.heap.size + 5 := by simp; exact sz2
  clear K1' k2 B2 sz2 c2 c3
  obtain ⟨w4, hw4⟩ : ∃ w4, w4 = w3.setCell ⟨w.heap.size + 1 + 1, 1, none⟩ u2 := ⟨_, rfl⟩
  rw [← hw4] at D2 D3 K1 K2 BB SZ
  have q0 := D3.c0
  have q1 := D3.c1
  have r0 := D2.c0
  have r1 := D2.c1
  have s0 := D2.f0
  have s1 := D2.f1
  have E1 := D2.set0 u1
  have E2 := E1.set1 u2
  have L1 := (K1.setOther (a := ⟨w.heap.size + 1, 0, none⟩) (.inl (by show w.heap.size + 1 < w.heap.size + 3; omega)) u1).setOther (a := ⟨w.heap.size + 1, 1, none⟩) (.inl (by show w.heap.size + 1 < w.heap.size + 3; omega)) u2
  have L2 := (K2.setOther (a := ⟨w.heap.size + 1, 0, none⟩) (.inl (by show w.heap.size + 1 < w.heap.size + 4; omega)) u1).setOther (a := ⟨w.heap.size + 1, 1, none⟩) (.inl (by show w.heap.size + 1 < w.heap.size + 4; omega)) u2
  have LB := (BB.setCell (p := ⟨w.heap.size + 1, 0, none⟩) (by show w.heap.size ≤ w.heap.size + 1; omega) u1).setCell (p := ⟨w.heap.size + 1, 1, none⟩) (by show w.heap.size ≤ w.heap.size + 1; omega) u2
  have LS : ((w4.setCell ⟨w.heap.size + 1, 0, none⟩ u1).setCell ⟨w.heap.size + 1, 1, none⟩ u2).heap.size = w.heap.size + 5 := by simp; exact SZ
  have L1 := Lib.hid L1
  have L2 := Lib.hid L2
  have LB := Lib.hid LB
  have LS := Lib.hid LS
  have E1c := E1.c1
  have E1f := E1.f1
  have E2a := E2.c0
  have E2b := E2.c1
  clear K1 K2 BB SZ E1 E2 D2 D3
  subst hv1
  subst hv2
  subst hw4
  go_wp2_with fail
  exact bodyPost_ret (v := .agg #[.slice a1 U.length cp1, .slice a2 V.length cp2]) (by simp [results, Try.results16, go_sem, E2a, E2b]) rfl ⟨_, _, rfl, L1.out, L2.out, LB.out, LS.out⟩
end Go.Proofs.Ytchkcjpahlimjaa
