/- The law on SeriesOfCone: its walk. -/
import Derived.Test.YtchkcjpahlimjaaSerW
import Derived.Test.YtchkcjpahlimjaaB2
import Derived.Test.YtchkcjpahlimjaaB1
import Derived.Deep.RegionHeld3
namespace Go.Proofs.Ytchkcjpahlimjaa
open Go.RowKit
set_option linter.unusedVariables false
set_option linter.unusedSimpArgs false

set_option maxHeartbeats 8000000 in
theorem lawSeriesOfCone (v0 : Value) (y0 : List Int × List Int) (v1 : Value) (l1 : List Int) (w : World) (h0 : ConeR w w.heap.size v0 y0) (h1 : ISr w w.heap.size v1 l1) :
    Calls Try.prog 7 #[v0, v1] w fun e w' => e = .returned (.bool true) ∧ Below w.heap.size w w' := by
  obtain ⟨U0, V0⟩ := y0
  obtain ⟨r0, t0, rfl, i0, j0⟩ := h0
  simp only at i0 j0
  have H1 := Lib.hid h1
  obtain ⟨a1, q1, rfl, -⟩ := id h1
  clear h1
  have h1 := H1.out
  clear H1
  have b0 := below1 w (.cells #[r0, t0] 24)
  by_cases hb1 : 1048576 < l1.length
  · go_enter Try.func7, Try.ntmps7
    go_wp2
    go_ret
    exact ⟨rfl, b0⟩
  have hb1 : l1.length ≤ 1048576 := by omega
  obtain ⟨z0, hz0⟩ : ∃ z : Nat, z = (U0.length + V0.length) := ⟨_, rfl⟩
  by_cases hZ0 : z0 ≤ 1048576
  case neg =>
    go_enter Try.func7, Try.ntmps7
    have B1 := Lib.hid b0
    have Z2 := Lib.hid (show w.heap.size + 1 ≤ ((w.alloc (.cells #[r0, t0] 24))).heap.size by simp)
    have F3 := Lib.hid (i0.keep b0 (Nat.le_refl _))
    have L4 := Lib.hid (b0.size)
    have F5 := Lib.hid (j0.keep b0 (Nat.le_refl _))
    have L6 := Lib.hid (b0.size)
    have F7 := Lib.hid (h1.keep b0 (Nat.le_refl _))
    have L8 := Lib.hid (b0.size)
    have X9 := Lib.hid (box2_new w r0 t0 24)
    have x10 := X9.out.c0
    have x11 := X9.out.c1
    clear b0 i0 j0 h1
    go_wp2_with fail
    have SZ := szCone_any U0 V0 r0 t0 w.heap.size _ F3.out F5.out (B1.out.size)
    rw [← hz0] at SZ
    unfold szTot at SZ
    rw [if_neg hZ0] at SZ
    refine SZ.mono ?_
    clear SZ
    rintro e w12 ⟨rfl, c13⟩
    have Z14 := Lib.hid (show (w.alloc (.cells #[r0, t0] 24)).heap.size ≤ w12.heap.size from (c13).size)
    have B15 := Lib.hid (below_then B1.out B1.out.size c13)
    have L16 := Lib.hid (Nat.le_trans L4.out (c13).size)
    have F17 := Lib.hid (F3.out.keep c13 L4.out)
    have L18 := Lib.hid (Nat.le_trans L6.out (c13).size)
    have F19 := Lib.hid (F5.out.keep c13 L6.out)
    have L20 := Lib.hid (Nat.le_trans L8.out (c13).size)
    have F21 := Lib.hid (F7.out.keep c13 L8.out)
    have X22 := Lib.hid (X9.out.keep c13)
    have x23 := X22.out.c0
    have x24 := X22.out.c1
    clear B1 F3 F5 F7 L4 L6 L8 x10 x11 X9
    clear c13
    go_wp2
    go_ret
    exact ⟨rfl, B15.out⟩
  have HT0 := fun w' (j1 : ISr w' w.heap.size r0 U0) (j2 : ISr w' w.heap.size t0 V0) (hs : w.heap.size ≤ w'.heap.size) => toCone_any U0 V0 r0 t0 w.heap.size w' j1 j2 hs (by omega) (by omega)
  have hl0 : V0.length ≤ 1048576 := by omega
  have hk0 : U0.length ≤ 1048576 := by omega
  have HT1 := fun w' (j1 : ISr w' w.heap.size (.slice a1 l1.length q1) l1) (hs : w.heap.size ≤ w'.heap.size) => toIntS_any l1 (.slice a1 l1.length q1) w.heap.size w' j1 hs hb1
  have hRb := serC_tot U0 V0 l1
  obtain ⟨pp, hP⟩ : ∃ p, serC U0 V0 l1 = p := ⟨_, rfl⟩
  rw [hP] at hRb
  obtain ⟨RT, ok⟩ := pp
  dsimp only at hRb
  go_enter Try.func7, Try.ntmps7
  have B25 := Lib.hid b0
  have Z26 := Lib.hid (show w.heap.size + 1 ≤ ((w.alloc (.cells #[r0, t0] 24))).heap.size by simp)
  have F27 := Lib.hid (i0.keep b0 (Nat.le_refl _))
  have L28 := Lib.hid (b0.size)
  have F29 := Lib.hid (j0.keep b0 (Nat.le_refl _))
  have L30 := Lib.hid (b0.size)
  have F31 := Lib.hid (h1.keep b0 (Nat.le_refl _))
  have L32 := Lib.hid (b0.size)
  have X33 := Lib.hid (box2_new w r0 t0 24)
  have x34 := X33.out.c0
  have x35 := X33.out.c1
  clear b0 i0 j0 h1
  go_wp2_with fail
  have SZ := szCone_any U0 V0 r0 t0 w.heap.size _ F27.out F29.out (B25.out.size)
  rw [← hz0] at SZ
  unfold szTot at SZ
  rw [if_pos hZ0] at SZ
  refine SZ.mono ?_
  clear SZ
  rintro e w36 ⟨rfl, c37⟩
  have Z38 := Lib.hid (show (w.alloc (.cells #[r0, t0] 24)).heap.size ≤ w36.heap.size from (c37).size)
  have B39 := Lib.hid (below_then B25.out B25.out.size c37)
  have L40 := Lib.hid (Nat.le_trans L28.out (c37).size)
  have F41 := Lib.hid (F27.out.keep c37 L28.out)
  have L42 := Lib.hid (Nat.le_trans L30.out (c37).size)
  have F43 := Lib.hid (F29.out.keep c37 L30.out)
  have L44 := Lib.hid (Nat.le_trans L32.out (c37).size)
  have F45 := Lib.hid (F31.out.keep c37 L32.out)
  have X46 := Lib.hid (X33.out.keep c37)
  have x47 := X46.out.c0
  have x48 := X46.out.c1
  clear B25 F27 F29 F31 L28 L30 L32 x34 x35 X33
  clear c37
  have hr0 : 0 ≤ (1048576 : Int) - (z0 : Int) := by omega
  clear hz0
  go_wp2_with fail
  refine (HT0 w36 F41.out F43.out B39.out.size).mono ?_
  rintro e w49 ⟨u52, u54, rfl, k53, k55, c50, s51⟩
  have F56 := Lib.hid (ConeO.of (lo := w36.heap.size) (hi := w49.heap.size) k53 k55 (.inl (by omega)) (by omega) (by omega) (by omega) (by omega))
  have L57 := Lib.hid (Nat.le_refl w49.heap.size)
  have Y58 := Lib.hid (show w36.heap.size ≤ w49.heap.size from c50.size)
  clear k53 k55 s51
  have Z59 := Lib.hid (show w36.heap.size ≤ w49.heap.size from (c50).size)
  have B60 := Lib.hid (below_then B39.out B39.out.size c50)
  have L61 := Lib.hid (Nat.le_trans L40.out (c50).size)
  have F62 := Lib.hid (F41.out.keep c50 L40.out)
  have L63 := Lib.hid (Nat.le_trans L42.out (c50).size)
  have F64 := Lib.hid (F43.out.keep c50 L42.out)
  have L65 := Lib.hid (Nat.le_trans L44.out (c50).size)
  have F66 := Lib.hid (F45.out.keep c50 L44.out)
  have X67 := Lib.hid (X46.out.keep c50)
  have x68 := X67.out.c0
  have x69 := X67.out.c1
  clear B39 F41 F43 F45 L40 L42 L44 x47 x48 X46
  clear c50
  go_wp2_with fail
  refine (HT1 w49 F66.out B60.out.size).mono ?_
  rintro e w70 ⟨u73, rfl, k74, c71, s72⟩
  have F75 := Lib.hid (k74.mono (lo' := w49.heap.size) (hi' := w70.heap.size) (by omega) (by omega))
  have L76 := Lib.hid (Nat.le_refl w70.heap.size)
  have Y77 := Lib.hid (show w49.heap.size ≤ w70.heap.size from c71.size)
  clear k74 s72
  have Z78 := Lib.hid (show w49.heap.size ≤ w70.heap.size from (c71).size)
  have B79 := Lib.hid (below_then B60.out B60.out.size c71)
  have L80 := Lib.hid (Nat.le_trans L61.out (c71).size)
  have F81 := Lib.hid (F62.out.keep c71 L61.out)
  have L82 := Lib.hid (Nat.le_trans L63.out (c71).size)
  have F83 := Lib.hid (F64.out.keep c71 L63.out)
  have L84 := Lib.hid (Nat.le_trans L65.out (c71).size)
  have F85 := Lib.hid (F66.out.keep c71 L65.out)
  have L86 := Lib.hid (Nat.le_trans L57.out (c71).size)
  have F87 := Lib.hid (F56.out.keep c71 L57.out)
  have X88 := Lib.hid (X67.out.keep c71)
  have x89 := X88.out.c0
  have x90 := X88.out.c1
  clear B60 F62 F64 F66 F56 L61 L63 L65 L57 x68 x69 X67
  clear c71
  go_wp2_with fail
  have SP := (fun a b c u1 u2 u3 => specSeriesOfCone_any a b c u1 u2 u3) U0 V0 l1 u52 u54 u73 w70.heap.size w70  ((F87.out.fstR).upto L86.out) ((F87.out.sndR).upto L86.out) ((F75.out.read).upto L76.out) (Nat.le_refl _)
  rw [hP] at SP
  try dsimp only at SP
  refine SP.mono ?_
  clear SP
  rintro e w91 ⟨u94, rfl, k93, c92⟩
  have F95 := Lib.hid k93
  have L96 := Lib.hid (Nat.le_refl w91.heap.size)
  have Y97 := Lib.hid (show w70.heap.size ≤ w91.heap.size from c92.size)
  clear k93
  have Z98 := Lib.hid (show w70.heap.size ≤ w91.heap.size from (c92).size)
  have B99 := Lib.hid (below_then B79.out B79.out.size c92)
  have L100 := Lib.hid (Nat.le_trans L80.out (c92).size)
  have F101 := Lib.hid (F81.out.keep c92 L80.out)
  have L102 := Lib.hid (Nat.le_trans L82.out (c92).size)
  have F103 := Lib.hid (F83.out.keep c92 L82.out)
  have L104 := Lib.hid (Nat.le_trans L84.out (c92).size)
  have F105 := Lib.hid (F85.out.keep c92 L84.out)
  have L106 := Lib.hid (Nat.le_trans L86.out (c92).size)
  have F107 := Lib.hid (F87.out.keep c92 L86.out)
  have L108 := Lib.hid (Nat.le_trans L76.out (c92).size)
  have F109 := Lib.hid (F75.out.keep c92 L76.out)
  have X110 := Lib.hid (X88.out.keep c92)
  have x111 := X110.out.c0
  have x112 := X110.out.c1
  clear B79 F81 F83 F85 F87 F75 L80 L82 L84 L86 L76 x89 x90 X88
  clear c92
  clear F107
  clear F109
  go_wp2_with fail
  refine (HT0 w91 F101.out F103.out B99.out.size).mono ?_
  rintro e w113 ⟨u116, u118, rfl, k117, k119, c114, s115⟩
  have F120 := Lib.hid (ConeO.of (lo := w91.heap.size) (hi := w113.heap.size) k117 k119 (.inl (by omega)) (by omega) (by omega) (by omega) (by omega))
  have L121 := Lib.hid (Nat.le_refl w113.heap.size)
  have Y122 := Lib.hid (show w91.heap.size ≤ w113.heap.size from c114.size)
  clear k117 k119 s115
  have Z123 := Lib.hid (show w91.heap.size ≤ w113.heap.size from (c114).size)
  have B124 := Lib.hid (below_then B99.out B99.out.size c114)
  have L125 := Lib.hid (Nat.le_trans L100.out (c114).size)
  have F126 := Lib.hid (F101.out.keep c114 L100.out)
  have L127 := Lib.hid (Nat.le_trans L102.out (c114).size)
  have F128 := Lib.hid (F103.out.keep c114 L102.out)
  have L129 := Lib.hid (Nat.le_trans L104.out (c114).size)
  have F130 := Lib.hid (F105.out.keep c114 L104.out)
  have L131 := Lib.hid (Nat.le_trans L96.out (c114).size)
  have F132 := Lib.hid (F95.out.keep c114 L96.out)
  have X133 := Lib.hid (X110.out.keep c114)
  have x134 := X133.out.c0
  have x135 := X133.out.c1
  clear B99 F101 F103 F105 F95 L100 L102 L104 L96 x111 x112 X110
  clear c114
  obtain ⟨a136, q137, h138, -⟩ := id (F120.out.fstR)
  subst h138
  obtain ⟨a139, q140, h141, -⟩ := id (F120.out.sndR)
  subst h141
  have ca := below1 w113 (.cells #[(.slice a136 U0.length q137), (.slice a139 V0.length q140)] 28)
  have X143 := Lib.hid (box2_new w113 (.slice a136 U0.length q137) (.slice a139 V0.length q140) 28)
  have Z144 := Lib.hid (show w113.heap.size + 1 ≤ (w113.alloc (.cells #[(.slice a136 U0.length q137), (.slice a139 V0.length q140)] 28)).heap.size by simp)
  have v145 := (X133.out.keep ca).c0
  have v146 := (X133.out.keep ca).c1
  go_wp2_with fail
  generalize w113.alloc (.cells #[(.slice a136 U0.length q137), (.slice a139 V0.length q140)] 28) = w142 at *
  clear v145 v146
  have Z147 := Lib.hid (show w113.heap.size ≤ w142.heap.size from (ca).size)
  have B148 := Lib.hid (below_then B124.out B124.out.size ca)
  have L149 := Lib.hid (Nat.le_trans L125.out (ca).size)
  have F150 := Lib.hid (F126.out.keep ca L125.out)
  have L151 := Lib.hid (Nat.le_trans L127.out (ca).size)
  have F152 := Lib.hid (F128.out.keep ca L127.out)
  have L153 := Lib.hid (Nat.le_trans L129.out (ca).size)
  have F154 := Lib.hid (F130.out.keep ca L129.out)
  have L155 := Lib.hid (Nat.le_trans L131.out (ca).size)
  have F156 := Lib.hid (F132.out.keep ca L131.out)
  have L157 := Lib.hid (Nat.le_trans L121.out (ca).size)
  have F158 := Lib.hid (F120.out.keep ca L121.out)
  have X159 := Lib.hid (X133.out.keep ca)
  have x160 := X159.out.c0
  have x161 := X159.out.c1
  clear B124 F126 F128 F130 F132 F120 L125 L127 L129 L131 L121 x134 x135 X133
  clear ca
  have x162 := X143.out.c0
  have x163 := X143.out.c1
  go_wp2_with fail
  refine (HT1 w142 F154.out B148.out.size).mono ?_
  rintro e w164 ⟨u167, rfl, k168, c165, s166⟩
  have F169 := Lib.hid (k168.mono (lo' := w142.heap.size) (hi' := w164.heap.size) (by omega) (by omega))
  have L170 := Lib.hid (Nat.le_refl w164.heap.size)
  have Y171 := Lib.hid (show w142.heap.size ≤ w164.heap.size from c165.size)
  clear k168 s166
  have Z172 := Lib.hid (show w142.heap.size ≤ w164.heap.size from (c165).size)
  have B173 := Lib.hid (below_then B148.out B148.out.size c165)
  have L174 := Lib.hid (Nat.le_trans L149.out (c165).size)
  have F175 := Lib.hid (F150.out.keep c165 L149.out)
  have L176 := Lib.hid (Nat.le_trans L151.out (c165).size)
  have F177 := Lib.hid (F152.out.keep c165 L151.out)
  have L178 := Lib.hid (Nat.le_trans L153.out (c165).size)
  have F179 := Lib.hid (F154.out.keep c165 L153.out)
  have L180 := Lib.hid (Nat.le_trans L155.out (c165).size)
  have F181 := Lib.hid (F156.out.keep c165 L155.out)
  have L182 := Lib.hid (Nat.le_trans L157.out (c165).size)
  have F183 := Lib.hid (F158.out.keep c165 L157.out)
  have X184 := Lib.hid (X159.out.keep c165)
  have x185 := X184.out.c0
  have x186 := X184.out.c1
  have X187 := Lib.hid (X143.out.keep c165)
  have x188 := X187.out.c0
  have x189 := X187.out.c1
  clear B148 F150 F152 F154 F156 F158 L149 L151 L153 L155 L157 x160 x161 x162 x163 X159 X143
  clear c165
  go_wp2_with fail
  have SP := (fun a b c u1 u2 u3 => implSeriesOfCone_any a b c u1 u2 u3) U0 V0 l1 (.slice a136 U0.length q137) (.slice a139 V0.length q140) u167 w164.heap.size w164  ((F183.out.fstR).upto L182.out) ((F183.out.sndR).upto L182.out) ((F169.out.read).upto L170.out) (Nat.le_refl _)
  rw [hP] at SP
  try dsimp only at SP
  refine SP.mono ?_
  clear SP
  rintro e w190 ⟨u193, rfl, k192, c191⟩
  have F194 := Lib.hid k192
  have L195 := Lib.hid (Nat.le_refl w190.heap.size)
  have Y196 := Lib.hid (show w164.heap.size ≤ w190.heap.size from c191.size)
  clear k192
  have Z197 := Lib.hid (show w164.heap.size ≤ w190.heap.size from (c191).size)
  have B198 := Lib.hid (below_then B173.out B173.out.size c191)
  have L199 := Lib.hid (Nat.le_trans L174.out (c191).size)
  have F200 := Lib.hid (F175.out.keep c191 L174.out)
  have L201 := Lib.hid (Nat.le_trans L176.out (c191).size)
  have F202 := Lib.hid (F177.out.keep c191 L176.out)
  have L203 := Lib.hid (Nat.le_trans L178.out (c191).size)
  have F204 := Lib.hid (F179.out.keep c191 L178.out)
  have L205 := Lib.hid (Nat.le_trans L180.out (c191).size)
  have F206 := Lib.hid (F181.out.keep c191 L180.out)
  have L207 := Lib.hid (Nat.le_trans L182.out (c191).size)
  have F208 := Lib.hid (F183.out.keep c191 L182.out)
  have L209 := Lib.hid (Nat.le_trans L170.out (c191).size)
  have F210 := Lib.hid (F169.out.keep c191 L170.out)
  have X211 := Lib.hid (X184.out.keep c191)
  have x212 := X211.out.c0
  have x213 := X211.out.c1
  have X214 := Lib.hid (X187.out.keep c191)
  have x215 := X214.out.c0
  have x216 := X214.out.c1
  clear B173 F175 F177 F179 F181 F183 F169 L174 L176 L178 L180 L182 L170 x185 x186 x188 x189 X184 X187
  clear c191
  go_wp2_with fail
  have E := eqTermS_any RT u193 u94 _ _ w190 (F194.out.read) (F206.out.read) L195.out L205.out
  refine E.mono ?_
  clear E
  rintro e w217 ⟨rfl, c218⟩
  have Z219 := Lib.hid (show w190.heap.size ≤ w217.heap.size from (c218).size)
  have B220 := Lib.hid (below_then B198.out B198.out.size c218)
  have L221 := Lib.hid (Nat.le_trans L199.out (c218).size)
  have F222 := Lib.hid (F200.out.keep c218 L199.out)
  have L223 := Lib.hid (Nat.le_trans L201.out (c218).size)
  have F224 := Lib.hid (F202.out.keep c218 L201.out)
  have L225 := Lib.hid (Nat.le_trans L203.out (c218).size)
  have F226 := Lib.hid (F204.out.keep c218 L203.out)
  have L227 := Lib.hid (Nat.le_trans L205.out (c218).size)
  have F228 := Lib.hid (F206.out.keep c218 L205.out)
  have L229 := Lib.hid (Nat.le_trans L207.out (c218).size)
  have F230 := Lib.hid (F208.out.keep c218 L207.out)
  have L231 := Lib.hid (Nat.le_trans L209.out (c218).size)
  have F232 := Lib.hid (F210.out.keep c218 L209.out)
  have L233 := Lib.hid (Nat.le_trans L195.out (c218).size)
  have F234 := Lib.hid (F194.out.keep c218 L195.out)
  have X235 := Lib.hid (X211.out.keep c218)
  have x236 := X235.out.c0
  have x237 := X235.out.c1
  have X238 := Lib.hid (X214.out.keep c218)
  have x239 := X238.out.c0
  have x240 := X238.out.c1
  clear B198 F200 F202 F204 F206 F208 F210 F194 L199 L201 L203 L205 L207 L209 L195 x212 x213 x215 x216 X211 X214
  clear c218
  have cd : Below w217.heap.size w217 w217.drew := below_draws w217.heap.size w217 1
  have Z241 := Lib.hid (show w217.heap.size ≤ w217.drew.heap.size from (cd).size)
  have B242 := Lib.hid (below_then B220.out B220.out.size cd)
  have L243 := Lib.hid (Nat.le_trans L221.out (cd).size)
  have F244 := Lib.hid (F222.out.keep cd L221.out)
  have L245 := Lib.hid (Nat.le_trans L223.out (cd).size)
  have F246 := Lib.hid (F224.out.keep cd L223.out)
  have L247 := Lib.hid (Nat.le_trans L225.out (cd).size)
  have F248 := Lib.hid (F226.out.keep cd L225.out)
  have L249 := Lib.hid (Nat.le_trans L227.out (cd).size)
  have F250 := Lib.hid (F228.out.keep cd L227.out)
  have L251 := Lib.hid (Nat.le_trans L229.out (cd).size)
  have F252 := Lib.hid (F230.out.keep cd L229.out)
  have L253 := Lib.hid (Nat.le_trans L231.out (cd).size)
  have F254 := Lib.hid (F232.out.keep cd L231.out)
  have L255 := Lib.hid (Nat.le_trans L233.out (cd).size)
  have F256 := Lib.hid (F234.out.keep cd L233.out)
  have X257 := Lib.hid (X235.out.keep cd)
  have x258 := X257.out.c0
  have x259 := X257.out.c1
  have X260 := Lib.hid (X238.out.keep cd)
  have x261 := X260.out.c0
  have x262 := X260.out.c1
  clear B220 F222 F224 F226 F228 F230 F232 F234 L221 L223 L225 L227 L229 L231 L233 x236 x237 x239 x240 X235 X238
  clear cd
  go_wp2_with fail
  go_region_held3 (fun w' => w'.cell? ⟨w.heap.size, 0, none⟩ = some (r0) ∧ w'.cell? ⟨w.heap.size, 1, none⟩ = some (t0) ∧ w'.cell? ⟨w113.heap.size, 0, none⟩ = some (.slice a136 U0.length q137) ∧ w'.cell? ⟨w113.heap.size, 1, none⟩ = some (.slice a139 V0.length q140)) (first | exact ⟨x258, x259, x261, x262⟩ | exact ⟨t0, t1, t2, t3⟩ | exact ⟨y0, y1, y2, y3⟩) (first | (go_at_call 16; (with_reducible refine (HT0 _ F244.out F246.out B242.out.size).mono ?_); rintro e w263 ⟨u267, u269, rfl, k268, k270, c265, sq⟩; have t0 := ((X257.out.keep c265).c0); have t1 := ((X257.out.keep c265).c1); have t2 := ((X260.out.keep c265).c0); have t3 := ((X260.out.keep c265).c1)) | (go_at_call 19; have J0 := (k268.mono (Nat.le_refl _) (show _ ≤ w263.heap.size by omega)).read; have J1 := (k270.mono (Nat.le_refl _) (show _ ≤ w263.heap.size by omega)).read; (with_reducible refine (eqCone_any U0 V0 (.slice a136 U0.length q137) (.slice a139 V0.length q140) u267 u269 _ _ w263 ((F252.out.fstR).keep c265 L251.out) ((F252.out.sndR).keep c265 L251.out) J0 J1 (Nat.le_trans L251.out c265.size) (Nat.le_refl _)).mono ?_); rintro e w264 ⟨rfl, c266⟩; have y0 := (((X257.out.keep c265).keep c266).c0); have y1 := (((X257.out.keep c265).keep c266).c1); have y2 := (((X260.out.keep c265).keep c266).c0); have y3 := (((X260.out.keep c265).keep c266).c1)))
  clear t0 t1 t2 t3 y0 y1 y2 y3 sq k268 k270 J0 J1
  have Z271 := Lib.hid (show w217.drew.heap.size ≤ w263.heap.size from (c265).size)
  have B272 := Lib.hid (below_then B242.out B242.out.size c265)
  have L273 := Lib.hid (Nat.le_trans L243.out (c265).size)
  have F274 := Lib.hid (F244.out.keep c265 L243.out)
  have L275 := Lib.hid (Nat.le_trans L245.out (c265).size)
  have F276 := Lib.hid (F246.out.keep c265 L245.out)
  have L277 := Lib.hid (Nat.le_trans L247.out (c265).size)
  have F278 := Lib.hid (F248.out.keep c265 L247.out)
  have L279 := Lib.hid (Nat.le_trans L249.out (c265).size)
  have F280 := Lib.hid (F250.out.keep c265 L249.out)
  have L281 := Lib.hid (Nat.le_trans L251.out (c265).size)
  have F282 := Lib.hid (F252.out.keep c265 L251.out)
  have L283 := Lib.hid (Nat.le_trans L253.out (c265).size)
  have F284 := Lib.hid (F254.out.keep c265 L253.out)
  have L285 := Lib.hid (Nat.le_trans L255.out (c265).size)
  have F286 := Lib.hid (F256.out.keep c265 L255.out)
  have X287 := Lib.hid (X257.out.keep c265)
  have x288 := X287.out.c0
  have x289 := X287.out.c1
  have X290 := Lib.hid (X260.out.keep c265)
  have x291 := X290.out.c0
  have x292 := X290.out.c1
  clear B242 F244 F246 F248 F250 F252 F254 F256 L243 L245 L247 L249 L251 L253 L255 x258 x259 x261 x262 X257 X260
  clear c265
  have Z293 := Lib.hid (show w263.heap.size ≤ w264.heap.size from (c266).size)
  have B294 := Lib.hid (below_then B272.out B272.out.size c266)
  have L295 := Lib.hid (Nat.le_trans L273.out (c266).size)
  have F296 := Lib.hid (F274.out.keep c266 L273.out)
  have L297 := Lib.hid (Nat.le_trans L275.out (c266).size)
  have F298 := Lib.hid (F276.out.keep c266 L275.out)
  have L299 := Lib.hid (Nat.le_trans L277.out (c266).size)
  have F300 := Lib.hid (F278.out.keep c266 L277.out)
  have L301 := Lib.hid (Nat.le_trans L279.out (c266).size)
  have F302 := Lib.hid (F280.out.keep c266 L279.out)
  have L303 := Lib.hid (Nat.le_trans L281.out (c266).size)
  have F304 := Lib.hid (F282.out.keep c266 L281.out)
  have L305 := Lib.hid (Nat.le_trans L283.out (c266).size)
  have F306 := Lib.hid (F284.out.keep c266 L283.out)
  have L307 := Lib.hid (Nat.le_trans L285.out (c266).size)
  have F308 := Lib.hid (F286.out.keep c266 L285.out)
  have X309 := Lib.hid (X287.out.keep c266)
  have x310 := X309.out.c0
  have x311 := X309.out.c1
  have X312 := Lib.hid (X290.out.keep c266)
  have x313 := X312.out.c0
  have x314 := X312.out.c1
  clear B272 F274 F276 F278 F280 F282 F284 F286 L273 L275 L277 L279 L281 L283 L285 x288 x289 x291 x292 X287 X290
  clear c266
  go_wp2_with fail
  refine (HT1 w264 F300.out B294.out.size).mono ?_
  rintro e w315 ⟨u318, rfl, k319, c316, s317⟩
  have F320 := Lib.hid (k319.mono (lo' := w264.heap.size) (hi' := w315.heap.size) (by omega) (by omega))
  have L321 := Lib.hid (Nat.le_refl w315.heap.size)
  have Y322 := Lib.hid (show w264.heap.size ≤ w315.heap.size from c316.size)
  clear k319 s317
  have Z323 := Lib.hid (show w264.heap.size ≤ w315.heap.size from (c316).size)
  have B324 := Lib.hid (below_then B294.out B294.out.size c316)
  have L325 := Lib.hid (Nat.le_trans L295.out (c316).size)
  have F326 := Lib.hid (F296.out.keep c316 L295.out)
  have L327 := Lib.hid (Nat.le_trans L297.out (c316).size)
  have F328 := Lib.hid (F298.out.keep c316 L297.out)
  have L329 := Lib.hid (Nat.le_trans L299.out (c316).size)
  have F330 := Lib.hid (F300.out.keep c316 L299.out)
  have L331 := Lib.hid (Nat.le_trans L301.out (c316).size)
  have F332 := Lib.hid (F302.out.keep c316 L301.out)
  have L333 := Lib.hid (Nat.le_trans L303.out (c316).size)
  have F334 := Lib.hid (F304.out.keep c316 L303.out)
  have L335 := Lib.hid (Nat.le_trans L305.out (c316).size)
  have F336 := Lib.hid (F306.out.keep c316 L305.out)
  have L337 := Lib.hid (Nat.le_trans L307.out (c316).size)
  have F338 := Lib.hid (F308.out.keep c316 L307.out)
  have X339 := Lib.hid (X309.out.keep c316)
  have x340 := X339.out.c0
  have x341 := X339.out.c1
  have X342 := Lib.hid (X312.out.keep c316)
  have x343 := X342.out.c0
  have x344 := X342.out.c1
  clear B294 F296 F298 F300 F302 F304 F306 F308 L295 L297 L299 L301 L303 L305 L307 x310 x311 x313 x314 X309 X312
  clear c316
  go_wp2_with fail
  have E := eqIntS_any l1 l1 u167 u318 _ _ _ (F336.out.read) (F320.out.read)
  rw [decide_eq_true (rfl : l1 = l1)] at E
  refine (toBelow E).mono ?_
  clear E
  rintro e w345 ⟨rfl, c346⟩
  have Z347 := Lib.hid (show w315.heap.size ≤ w345.heap.size from (c346).size)
  have B348 := Lib.hid (below_then B324.out B324.out.size c346)
  have L349 := Lib.hid (Nat.le_trans L325.out (c346).size)
  have F350 := Lib.hid (F326.out.keep c346 L325.out)
  have L351 := Lib.hid (Nat.le_trans L327.out (c346).size)
  have F352 := Lib.hid (F328.out.keep c346 L327.out)
  have L353 := Lib.hid (Nat.le_trans L329.out (c346).size)
  have F354 := Lib.hid (F330.out.keep c346 L329.out)
  have L355 := Lib.hid (Nat.le_trans L331.out (c346).size)
  have F356 := Lib.hid (F332.out.keep c346 L331.out)
  have L357 := Lib.hid (Nat.le_trans L333.out (c346).size)
  have F358 := Lib.hid (F334.out.keep c346 L333.out)
  have L359 := Lib.hid (Nat.le_trans L335.out (c346).size)
  have F360 := Lib.hid (F336.out.keep c346 L335.out)
  have L361 := Lib.hid (Nat.le_trans L337.out (c346).size)
  have F362 := Lib.hid (F338.out.keep c346 L337.out)
  have L363 := Lib.hid (Nat.le_trans L321.out (c346).size)
  have F364 := Lib.hid (F320.out.keep c346 L321.out)
  have X365 := Lib.hid (X339.out.keep c346)
  have x366 := X365.out.c0
  have x367 := X365.out.c1
  have X368 := Lib.hid (X342.out.keep c346)
  have x369 := X368.out.c0
  have x370 := X368.out.c1
  clear B324 F326 F328 F330 F332 F334 F336 F338 F320 L325 L327 L329 L331 L333 L335 L337 L321 x340 x341 x343 x344 X339 X342
  clear c346
  clear F364
  go_wp2_with fail
  have M := markCone_any U0 V0 (.slice a136 U0.length q137) (.slice a139 V0.length q140) w91.heap.size w113.heap.size 1 w345 F358.out L357.out (by omega) (by  omega)
  refine M.mono ?_
  clear M
  rintro e w371 ⟨rfl, k372, o373⟩
  have F375 := Lib.hid k372
  clear k372
  have hK374 : 0 ≤ 1 + (U0.length : Int) + (V0.length : Int) ∧ 1 + (U0.length : Int) + (V0.length : Int) ≤ 10000000000 := by  omega
  have Z376 := Lib.hid (show w345.heap.size ≤ w371.heap.size from o373.size)
  have B377 := Lib.hid (Only.base B348.out o373 (by have := Z26.out; have := Z38.out; have := Z59.out; have := Z78.out; have := Z98.out; have := Z123.out; have := Z147.out; have := Z144.out; have := Z172.out; have := Z197.out; have := Z219.out; have := Z241.out; have := Z271.out; have := Z293.out; have := Z323.out; have := Z347.out; have := L357.out; have := Y122.out; omega) (by have := Z26.out; have := Z38.out; have := Z59.out; have := Z78.out; have := Z98.out; have := Z123.out; have := Z147.out; have := Z144.out; have := Z172.out; have := Z197.out; have := Z219.out; have := Z241.out; have := Z271.out; have := Z293.out; have := Z323.out; have := Z347.out; have := L357.out; have := Y122.out; omega))
  have L378 := Lib.hid (Nat.le_trans L349.out o373.size)
  have L379 := Lib.hid (Nat.le_trans L351.out o373.size)
  have L380 := Lib.hid (Nat.le_trans L353.out o373.size)
  have L381 := Lib.hid (Nat.le_trans L355.out o373.size)
  have L382 := Lib.hid (Nat.le_trans L357.out o373.size)
  have L383 := Lib.hid (Nat.le_trans L359.out o373.size)
  have L384 := Lib.hid (Nat.le_trans L361.out o373.size)
  have F385 := Lib.hid (F350.out.keep (o373.below (by have := Z26.out; have := Z38.out; have := Z59.out; have := Z78.out; have := Z98.out; have := Z123.out; have := Z147.out; have := Z144.out; have := Z172.out; have := Z197.out; have := Z219.out; have := Z241.out; have := Z271.out; have := Z293.out; have := Z323.out; have := Z347.out; have := L357.out; have := Y122.out; omega)) (by have := Z26.out; have := Z38.out; have := Z59.out; have := Z78.out; have := Z98.out; have := Z123.out; have := Z147.out; have := Z144.out; have := Z172.out; have := Z197.out; have := Z219.out; have := Z241.out; have := Z271.out; have := Z293.out; have := Z323.out; have := Z347.out; have := L357.out; have := Y122.out; omega))
  have F386 := Lib.hid (F352.out.keep (o373.below (by have := Z26.out; have := Z38.out; have := Z59.out; have := Z78.out; have := Z98.out; have := Z123.out; have := Z147.out; have := Z144.out; have := Z172.out; have := Z197.out; have := Z219.out; have := Z241.out; have := Z271.out; have := Z293.out; have := Z323.out; have := Z347.out; have := L357.out; have := Y122.out; omega)) (by have := Z26.out; have := Z38.out; have := Z59.out; have := Z78.out; have := Z98.out; have := Z123.out; have := Z147.out; have := Z144.out; have := Z172.out; have := Z197.out; have := Z219.out; have := Z241.out; have := Z271.out; have := Z293.out; have := Z323.out; have := Z347.out; have := L357.out; have := Y122.out; omega))
  have F387 := Lib.hid (F354.out.keep (o373.below (by have := Z26.out; have := Z38.out; have := Z59.out; have := Z78.out; have := Z98.out; have := Z123.out; have := Z147.out; have := Z144.out; have := Z172.out; have := Z197.out; have := Z219.out; have := Z241.out; have := Z271.out; have := Z293.out; have := Z323.out; have := Z347.out; have := L357.out; have := Y122.out; omega)) (by have := Z26.out; have := Z38.out; have := Z59.out; have := Z78.out; have := Z98.out; have := Z123.out; have := Z147.out; have := Z144.out; have := Z172.out; have := Z197.out; have := Z219.out; have := Z241.out; have := Z271.out; have := Z293.out; have := Z323.out; have := Z347.out; have := L357.out; have := Y122.out; omega))
  have F388 := Lib.hid (F356.out.keep (o373.below (by have := Z26.out; have := Z38.out; have := Z59.out; have := Z78.out; have := Z98.out; have := Z123.out; have := Z147.out; have := Z144.out; have := Z172.out; have := Z197.out; have := Z219.out; have := Z241.out; have := Z271.out; have := Z293.out; have := Z323.out; have := Z347.out; have := L357.out; have := Y122.out; omega)) (by have := Z26.out; have := Z38.out; have := Z59.out; have := Z78.out; have := Z98.out; have := Z123.out; have := Z147.out; have := Z144.out; have := Z172.out; have := Z197.out; have := Z219.out; have := Z241.out; have := Z271.out; have := Z293.out; have := Z323.out; have := Z347.out; have := L357.out; have := Y122.out; omega))
  have F389 := Lib.hid (F360.out.only o373 (.inr (by have := Z26.out; have := Z38.out; have := Z59.out; have := Z78.out; have := Z98.out; have := Z123.out; have := Z147.out; have := Z144.out; have := Z172.out; have := Z197.out; have := Z219.out; have := Z241.out; have := Z271.out; have := Z293.out; have := Z323.out; have := Z347.out; have := L357.out; have := Y122.out; omega)))
  have F390 := Lib.hid (F362.out.only o373 (.inr (by have := Z26.out; have := Z38.out; have := Z59.out; have := Z78.out; have := Z98.out; have := Z123.out; have := Z147.out; have := Z144.out; have := Z172.out; have := Z197.out; have := Z219.out; have := Z241.out; have := Z271.out; have := Z293.out; have := Z323.out; have := Z347.out; have := L357.out; have := Y122.out; omega)))
  have X391 := Lib.hid (X365.out.only o373 (by have := Z26.out; have := Z38.out; have := Z59.out; have := Z78.out; have := Z98.out; have := Z123.out; have := Z147.out; have := Z144.out; have := Z172.out; have := Z197.out; have := Z219.out; have := Z241.out; have := Z271.out; have := Z293.out; have := Z323.out; have := Z347.out; have := L357.out; have := Y122.out; omega))
  have x392 := X391.out.c0
  have x393 := X391.out.c1
  have X394 := Lib.hid (X368.out.only o373 (by have := Z26.out; have := Z38.out; have := Z59.out; have := Z78.out; have := Z98.out; have := Z123.out; have := Z147.out; have := Z144.out; have := Z172.out; have := Z197.out; have := Z219.out; have := Z241.out; have := Z271.out; have := Z293.out; have := Z323.out; have := Z347.out; have := L357.out; have := Y122.out; omega))
  have x395 := X394.out.c0
  have x396 := X394.out.c1
  clear B348 F350 F352 F354 F356 F360 F362 L349 L351 L353 L355 L357 L359 L361 F358 x366 x367 x369 x370 X365 X368 o373
  clear F375
  generalize 1 + (U0.length : Int) + (V0.length : Int) = K374 at *
  go_wp2_with fail
  have M := markIntS_any l1 u167 w142.heap.size w164.heap.size K374 w371 F389.out (by omega) (by  omega)
  refine M.mono ?_
  clear M
  rintro e w397 ⟨rfl, k398, g401⟩
  have o399 := Only.of_grown (lo := w142.heap.size) (hi := w164.heap.size) g401 F389.out.blkIn
  clear g401
  have F402 := Lib.hid k398
  clear k398
  have hK400 : 0 ≤ K374 + (l1.length : Int) ∧ K374 + (l1.length : Int) ≤ 20000000000 := by  omega
  have Z403 := Lib.hid (show w371.heap.size ≤ w397.heap.size from o399.size)
  have B404 := Lib.hid (Only.base B377.out o399 (by have := Z26.out; have := Z38.out; have := Z59.out; have := Z78.out; have := Z98.out; have := Z123.out; have := Z147.out; have := Z144.out; have := Z172.out; have := Z197.out; have := Z219.out; have := Z241.out; have := Z271.out; have := Z293.out; have := Z323.out; have := Z347.out; have := Z376.out; have := L383.out; have := Y171.out; omega) (by have := Z26.out; have := Z38.out; have := Z59.out; have := Z78.out; have := Z98.out; have := Z123.out; have := Z147.out; have := Z144.out; have := Z172.out; have := Z197.out; have := Z219.out; have := Z241.out; have := Z271.out; have := Z293.out; have := Z323.out; have := Z347.out; have := Z376.out; have := L383.out; have := Y171.out; omega))
  have L405 := Lib.hid (Nat.le_trans L378.out o399.size)
  have L406 := Lib.hid (Nat.le_trans L379.out o399.size)
  have L407 := Lib.hid (Nat.le_trans L380.out o399.size)
  have L408 := Lib.hid (Nat.le_trans L381.out o399.size)
  have L409 := Lib.hid (Nat.le_trans L383.out o399.size)
  have L410 := Lib.hid (Nat.le_trans L384.out o399.size)
  have F411 := Lib.hid (F385.out.keep (o399.below (by have := Z26.out; have := Z38.out; have := Z59.out; have := Z78.out; have := Z98.out; have := Z123.out; have := Z147.out; have := Z144.out; have := Z172.out; have := Z197.out; have := Z219.out; have := Z241.out; have := Z271.out; have := Z293.out; have := Z323.out; have := Z347.out; have := Z376.out; have := L383.out; have := Y171.out; omega)) (by have := Z26.out; have := Z38.out; have := Z59.out; have := Z78.out; have := Z98.out; have := Z123.out; have := Z147.out; have := Z144.out; have := Z172.out; have := Z197.out; have := Z219.out; have := Z241.out; have := Z271.out; have := Z293.out; have := Z323.out; have := Z347.out; have := Z376.out; have := L383.out; have := Y171.out; omega))
  have F412 := Lib.hid (F386.out.keep (o399.below (by have := Z26.out; have := Z38.out; have := Z59.out; have := Z78.out; have := Z98.out; have := Z123.out; have := Z147.out; have := Z144.out; have := Z172.out; have := Z197.out; have := Z219.out; have := Z241.out; have := Z271.out; have := Z293.out; have := Z323.out; have := Z347.out; have := Z376.out; have := L383.out; have := Y171.out; omega)) (by have := Z26.out; have := Z38.out; have := Z59.out; have := Z78.out; have := Z98.out; have := Z123.out; have := Z147.out; have := Z144.out; have := Z172.out; have := Z197.out; have := Z219.out; have := Z241.out; have := Z271.out; have := Z293.out; have := Z323.out; have := Z347.out; have := Z376.out; have := L383.out; have := Y171.out; omega))
  have F413 := Lib.hid (F387.out.keep (o399.below (by have := Z26.out; have := Z38.out; have := Z59.out; have := Z78.out; have := Z98.out; have := Z123.out; have := Z147.out; have := Z144.out; have := Z172.out; have := Z197.out; have := Z219.out; have := Z241.out; have := Z271.out; have := Z293.out; have := Z323.out; have := Z347.out; have := Z376.out; have := L383.out; have := Y171.out; omega)) (by have := Z26.out; have := Z38.out; have := Z59.out; have := Z78.out; have := Z98.out; have := Z123.out; have := Z147.out; have := Z144.out; have := Z172.out; have := Z197.out; have := Z219.out; have := Z241.out; have := Z271.out; have := Z293.out; have := Z323.out; have := Z347.out; have := Z376.out; have := L383.out; have := Y171.out; omega))
  have F414 := Lib.hid (F388.out.keep (o399.below (by have := Z26.out; have := Z38.out; have := Z59.out; have := Z78.out; have := Z98.out; have := Z123.out; have := Z147.out; have := Z144.out; have := Z172.out; have := Z197.out; have := Z219.out; have := Z241.out; have := Z271.out; have := Z293.out; have := Z323.out; have := Z347.out; have := Z376.out; have := L383.out; have := Y171.out; omega)) (by have := Z26.out; have := Z38.out; have := Z59.out; have := Z78.out; have := Z98.out; have := Z123.out; have := Z147.out; have := Z144.out; have := Z172.out; have := Z197.out; have := Z219.out; have := Z241.out; have := Z271.out; have := Z293.out; have := Z323.out; have := Z347.out; have := Z376.out; have := L383.out; have := Y171.out; omega))
  have F415 := Lib.hid (F390.out.only o399 (.inr (by have := Z26.out; have := Z38.out; have := Z59.out; have := Z78.out; have := Z98.out; have := Z123.out; have := Z147.out; have := Z144.out; have := Z172.out; have := Z197.out; have := Z219.out; have := Z241.out; have := Z271.out; have := Z293.out; have := Z323.out; have := Z347.out; have := Z376.out; have := L383.out; have := Y171.out; omega)))
  have X416 := Lib.hid (X391.out.only o399 (by have := Z26.out; have := Z38.out; have := Z59.out; have := Z78.out; have := Z98.out; have := Z123.out; have := Z147.out; have := Z144.out; have := Z172.out; have := Z197.out; have := Z219.out; have := Z241.out; have := Z271.out; have := Z293.out; have := Z323.out; have := Z347.out; have := Z376.out; have := L383.out; have := Y171.out; omega))
  have x417 := X416.out.c0
  have x418 := X416.out.c1
  have X419 := Lib.hid (X394.out.only o399 (by have := Z26.out; have := Z38.out; have := Z59.out; have := Z78.out; have := Z98.out; have := Z123.out; have := Z147.out; have := Z144.out; have := Z172.out; have := Z197.out; have := Z219.out; have := Z241.out; have := Z271.out; have := Z293.out; have := Z323.out; have := Z347.out; have := Z376.out; have := L383.out; have := Y171.out; omega))
  have x420 := X419.out.c0
  have x421 := X419.out.c1
  clear B377 F385 F386 F387 F388 F390 L378 L379 L380 L381 L383 L384 F389 x392 x393 x395 x396 X391 X394 o399
  clear F402
  generalize K374 + (l1.length : Int) = K400 at *
  have hdK400 : decide (K400 < 0) = false := by rw [decide_eq_false_iff_not]; omega
  go_wp2_with fail
  have E := eqTermS_any RT u193 u94 _ _ w397 (F415.out.read) (F414.out.read) L410.out L408.out
  refine E.mono ?_
  clear E
  rintro e w422 ⟨rfl, c423⟩
  have Z424 := Lib.hid (show w397.heap.size ≤ w422.heap.size from (c423).size)
  have B425 := Lib.hid (below_then B404.out B404.out.size c423)
  have L426 := Lib.hid (Nat.le_trans L405.out (c423).size)
  have F427 := Lib.hid (F411.out.keep c423 L405.out)
  have L428 := Lib.hid (Nat.le_trans L406.out (c423).size)
  have F429 := Lib.hid (F412.out.keep c423 L406.out)
  have L430 := Lib.hid (Nat.le_trans L407.out (c423).size)
  have F431 := Lib.hid (F413.out.keep c423 L407.out)
  have L432 := Lib.hid (Nat.le_trans L408.out (c423).size)
  have F433 := Lib.hid (F414.out.keep c423 L408.out)
  have L434 := Lib.hid (Nat.le_trans L410.out (c423).size)
  have F435 := Lib.hid (F415.out.keep c423 L410.out)
  have X436 := Lib.hid (X416.out.keep c423)
  have x437 := X436.out.c0
  have x438 := X436.out.c1
  have X439 := Lib.hid (X419.out.keep c423)
  have x440 := X439.out.c0
  have x441 := X439.out.c1
  clear B404 F411 F412 F413 F414 F415 L405 L406 L407 L408 L410 x417 x418 x420 x421 X416 X419
  clear c423
  go_wp2_with fail
  have M := markTermS_any RT u193 w164.heap.size w190.heap.size 1 w422 F435.out L434.out (by omega) (by  omega)
  refine M.mono ?_
  clear M
  rintro e w442 ⟨rfl, k443, o444⟩
  have F446 := Lib.hid k443
  clear k443
  have hK445 : 0 ≤ 1 + (mtT RT : Int) ∧ 1 + (mtT RT : Int) ≤ 30000000000 := by  omega
  have Z447 := Lib.hid (show w422.heap.size ≤ w442.heap.size from o444.size)
  have B448 := Lib.hid (Only.base B425.out o444 (by have := Z26.out; have := Z38.out; have := Z59.out; have := Z78.out; have := Z98.out; have := Z123.out; have := Z147.out; have := Z144.out; have := Z172.out; have := Z197.out; have := Z219.out; have := Z241.out; have := Z271.out; have := Z293.out; have := Z323.out; have := Z347.out; have := Z376.out; have := Z403.out; have := Z424.out; have := L434.out; have := Y196.out; omega) (by have := Z26.out; have := Z38.out; have := Z59.out; have := Z78.out; have := Z98.out; have := Z123.out; have := Z147.out; have := Z144.out; have := Z172.out; have := Z197.out; have := Z219.out; have := Z241.out; have := Z271.out; have := Z293.out; have := Z323.out; have := Z347.out; have := Z376.out; have := Z403.out; have := Z424.out; have := L434.out; have := Y196.out; omega))
  have L449 := Lib.hid (Nat.le_trans L426.out o444.size)
  have L450 := Lib.hid (Nat.le_trans L428.out o444.size)
  have L451 := Lib.hid (Nat.le_trans L430.out o444.size)
  have L452 := Lib.hid (Nat.le_trans L432.out o444.size)
  have L453 := Lib.hid (Nat.le_trans L434.out o444.size)
  have F454 := Lib.hid (F427.out.keep (o444.below (by have := Z26.out; have := Z38.out; have := Z59.out; have := Z78.out; have := Z98.out; have := Z123.out; have := Z147.out; have := Z144.out; have := Z172.out; have := Z197.out; have := Z219.out; have := Z241.out; have := Z271.out; have := Z293.out; have := Z323.out; have := Z347.out; have := Z376.out; have := Z403.out; have := Z424.out; have := L434.out; have := Y196.out; omega)) (by have := Z26.out; have := Z38.out; have := Z59.out; have := Z78.out; have := Z98.out; have := Z123.out; have := Z147.out; have := Z144.out; have := Z172.out; have := Z197.out; have := Z219.out; have := Z241.out; have := Z271.out; have := Z293.out; have := Z323.out; have := Z347.out; have := Z376.out; have := Z403.out; have := Z424.out; have := L434.out; have := Y196.out; omega))
  have F455 := Lib.hid (F429.out.keep (o444.below (by have := Z26.out; have := Z38.out; have := Z59.out; have := Z78.out; have := Z98.out; have := Z123.out; have := Z147.out; have := Z144.out; have := Z172.out; have := Z197.out; have := Z219.out; have := Z241.out; have := Z271.out; have := Z293.out; have := Z323.out; have := Z347.out; have := Z376.out; have := Z403.out; have := Z424.out; have := L434.out; have := Y196.out; omega)) (by have := Z26.out; have := Z38.out; have := Z59.out; have := Z78.out; have := Z98.out; have := Z123.out; have := Z147.out; have := Z144.out; have := Z172.out; have := Z197.out; have := Z219.out; have := Z241.out; have := Z271.out; have := Z293.out; have := Z323.out; have := Z347.out; have := Z376.out; have := Z403.out; have := Z424.out; have := L434.out; have := Y196.out; omega))
  have F456 := Lib.hid (F431.out.keep (o444.below (by have := Z26.out; have := Z38.out; have := Z59.out; have := Z78.out; have := Z98.out; have := Z123.out; have := Z147.out; have := Z144.out; have := Z172.out; have := Z197.out; have := Z219.out; have := Z241.out; have := Z271.out; have := Z293.out; have := Z323.out; have := Z347.out; have := Z376.out; have := Z403.out; have := Z424.out; have := L434.out; have := Y196.out; omega)) (by have := Z26.out; have := Z38.out; have := Z59.out; have := Z78.out; have := Z98.out; have := Z123.out; have := Z147.out; have := Z144.out; have := Z172.out; have := Z197.out; have := Z219.out; have := Z241.out; have := Z271.out; have := Z293.out; have := Z323.out; have := Z347.out; have := Z376.out; have := Z403.out; have := Z424.out; have := L434.out; have := Y196.out; omega))
  have F457 := Lib.hid (F433.out.keep (o444.below (by have := Z26.out; have := Z38.out; have := Z59.out; have := Z78.out; have := Z98.out; have := Z123.out; have := Z147.out; have := Z144.out; have := Z172.out; have := Z197.out; have := Z219.out; have := Z241.out; have := Z271.out; have := Z293.out; have := Z323.out; have := Z347.out; have := Z376.out; have := Z403.out; have := Z424.out; have := L434.out; have := Y196.out; omega)) (by have := Z26.out; have := Z38.out; have := Z59.out; have := Z78.out; have := Z98.out; have := Z123.out; have := Z147.out; have := Z144.out; have := Z172.out; have := Z197.out; have := Z219.out; have := Z241.out; have := Z271.out; have := Z293.out; have := Z323.out; have := Z347.out; have := Z376.out; have := Z403.out; have := Z424.out; have := L434.out; have := Y196.out; omega))
  have X458 := Lib.hid (X436.out.only o444 (by have := Z26.out; have := Z38.out; have := Z59.out; have := Z78.out; have := Z98.out; have := Z123.out; have := Z147.out; have := Z144.out; have := Z172.out; have := Z197.out; have := Z219.out; have := Z241.out; have := Z271.out; have := Z293.out; have := Z323.out; have := Z347.out; have := Z376.out; have := Z403.out; have := Z424.out; have := L434.out; have := Y196.out; omega))
  have x459 := X458.out.c0
  have x460 := X458.out.c1
  have X461 := Lib.hid (X439.out.only o444 (by have := Z26.out; have := Z38.out; have := Z59.out; have := Z78.out; have := Z98.out; have := Z123.out; have := Z147.out; have := Z144.out; have := Z172.out; have := Z197.out; have := Z219.out; have := Z241.out; have := Z271.out; have := Z293.out; have := Z323.out; have := Z347.out; have := Z376.out; have := Z403.out; have := Z424.out; have := L434.out; have := Y196.out; omega))
  have x462 := X461.out.c0
  have x463 := X461.out.c1
  clear B425 F427 F429 F431 F433 L426 L428 L430 L432 L434 F435 x437 x438 x440 x441 X436 X439 o444
  go_wp2_with fail
  have Q := toBelow0 (heldTermS_any RT u193 w442.heap.size 1 w442 ((F446.out.read).upto L453.out) (by omega) (by omega))
  have hq : decide (1 + (mtT RT : Int) < 0) = false := by rw [decide_eq_false_iff_not]; omega
  refine Q.mono ?_
  clear Q
  rintro e w464 ⟨rfl, c465⟩
  have Z466 := Lib.hid (show w442.heap.size ≤ w464.heap.size from (c465).size)
  have B467 := Lib.hid (below_then B448.out B448.out.size c465)
  have L468 := Lib.hid (Nat.le_trans L449.out (c465).size)
  have F469 := Lib.hid (F454.out.keep c465 L449.out)
  have L470 := Lib.hid (Nat.le_trans L450.out (c465).size)
  have F471 := Lib.hid (F455.out.keep c465 L450.out)
  have L472 := Lib.hid (Nat.le_trans L451.out (c465).size)
  have F473 := Lib.hid (F456.out.keep c465 L451.out)
  have L474 := Lib.hid (Nat.le_trans L452.out (c465).size)
  have F475 := Lib.hid (F457.out.keep c465 L452.out)
  have L476 := Lib.hid (Nat.le_trans L453.out (c465).size)
  have F477 := Lib.hid (F446.out.keep c465 L453.out)
  have X478 := Lib.hid (X458.out.keep c465)
  have x479 := X478.out.c0
  have x480 := X478.out.c1
  have X481 := Lib.hid (X461.out.keep c465)
  have x482 := X481.out.c0
  have x483 := X481.out.c1
  clear B448 F454 F455 F456 F457 F446 L449 L450 L451 L452 L453 x459 x460 x462 x463 X458 X461
  clear c465
  go_wp2_with fail
  refine (HT0 w464 F469.out F471.out B467.out.size).mono ?_
  rintro e w484 ⟨u487, u489, rfl, k488, k490, c485, s486⟩
  have F491 := Lib.hid (ConeO.of (lo := w464.heap.size) (hi := w484.heap.size) k488 k490 (.inl (by omega)) (by omega) (by omega) (by omega) (by omega))
  have L492 := Lib.hid (Nat.le_refl w484.heap.size)
  have Y493 := Lib.hid (show w464.heap.size ≤ w484.heap.size from c485.size)
  clear k488 k490 s486
  have Z494 := Lib.hid (show w464.heap.size ≤ w484.heap.size from (c485).size)
  have B495 := Lib.hid (below_then B467.out B467.out.size c485)
  have L496 := Lib.hid (Nat.le_trans L468.out (c485).size)
  have F497 := Lib.hid (F469.out.keep c485 L468.out)
  have L498 := Lib.hid (Nat.le_trans L470.out (c485).size)
  have F499 := Lib.hid (F471.out.keep c485 L470.out)
  have L500 := Lib.hid (Nat.le_trans L472.out (c485).size)
  have F501 := Lib.hid (F473.out.keep c485 L472.out)
  have L502 := Lib.hid (Nat.le_trans L474.out (c485).size)
  have F503 := Lib.hid (F475.out.keep c485 L474.out)
  have L504 := Lib.hid (Nat.le_trans L476.out (c485).size)
  have F505 := Lib.hid (F477.out.keep c485 L476.out)
  have X506 := Lib.hid (X478.out.keep c485)
  have x507 := X506.out.c0
  have x508 := X506.out.c1
  have X509 := Lib.hid (X481.out.keep c485)
  have x510 := X509.out.c0
  have x511 := X509.out.c1
  clear B467 F469 F471 F473 F475 F477 L468 L470 L472 L474 L476 x479 x480 x482 x483 X478 X481
  clear c485
  go_wp2_with fail
  refine (HT1 w484 F501.out B495.out.size).mono ?_
  rintro e w512 ⟨u515, rfl, k516, c513, s514⟩
  have F517 := Lib.hid (k516.mono (lo' := w484.heap.size) (hi' := w512.heap.size) (by omega) (by omega))
  have L518 := Lib.hid (Nat.le_refl w512.heap.size)
  have Y519 := Lib.hid (show w484.heap.size ≤ w512.heap.size from c513.size)
  clear k516 s514
  have Z520 := Lib.hid (show w484.heap.size ≤ w512.heap.size from (c513).size)
  have B521 := Lib.hid (below_then B495.out B495.out.size c513)
  have L522 := Lib.hid (Nat.le_trans L496.out (c513).size)
  have F523 := Lib.hid (F497.out.keep c513 L496.out)
  have L524 := Lib.hid (Nat.le_trans L498.out (c513).size)
  have F525 := Lib.hid (F499.out.keep c513 L498.out)
  have L526 := Lib.hid (Nat.le_trans L500.out (c513).size)
  have F527 := Lib.hid (F501.out.keep c513 L500.out)
  have L528 := Lib.hid (Nat.le_trans L502.out (c513).size)
  have F529 := Lib.hid (F503.out.keep c513 L502.out)
  have L530 := Lib.hid (Nat.le_trans L504.out (c513).size)
  have F531 := Lib.hid (F505.out.keep c513 L504.out)
  have L532 := Lib.hid (Nat.le_trans L492.out (c513).size)
  have F533 := Lib.hid (F491.out.keep c513 L492.out)
  have X534 := Lib.hid (X506.out.keep c513)
  have x535 := X534.out.c0
  have x536 := X534.out.c1
  have X537 := Lib.hid (X509.out.keep c513)
  have x538 := X537.out.c0
  have x539 := X537.out.c1
  clear B495 F497 F499 F501 F503 F505 F491 L496 L498 L500 L502 L504 L492 x507 x508 x510 x511 X506 X509
  clear c513
  go_wp2_with fail
  have SP := (fun a b c u1 u2 u3 => implSeriesOfCone_any a b c u1 u2 u3) U0 V0 l1 u487 u489 u515 w512.heap.size w512  ((F533.out.fstR).upto L532.out) ((F533.out.sndR).upto L532.out) ((F517.out.read).upto L518.out) (Nat.le_refl _)
  rw [hP] at SP
  try dsimp only at SP
  refine SP.mono ?_
  clear SP
  rintro e w540 ⟨u543, rfl, k542, c541⟩
  have F544 := Lib.hid k542
  have L545 := Lib.hid (Nat.le_refl w540.heap.size)
  have Y546 := Lib.hid (show w512.heap.size ≤ w540.heap.size from c541.size)
  clear k542
  have Z547 := Lib.hid (show w512.heap.size ≤ w540.heap.size from (c541).size)
  have B548 := Lib.hid (below_then B521.out B521.out.size c541)
  have L549 := Lib.hid (Nat.le_trans L522.out (c541).size)
  have F550 := Lib.hid (F523.out.keep c541 L522.out)
  have L551 := Lib.hid (Nat.le_trans L524.out (c541).size)
  have F552 := Lib.hid (F525.out.keep c541 L524.out)
  have L553 := Lib.hid (Nat.le_trans L526.out (c541).size)
  have F554 := Lib.hid (F527.out.keep c541 L526.out)
  have L555 := Lib.hid (Nat.le_trans L528.out (c541).size)
  have F556 := Lib.hid (F529.out.keep c541 L528.out)
  have L557 := Lib.hid (Nat.le_trans L530.out (c541).size)
  have F558 := Lib.hid (F531.out.keep c541 L530.out)
  have L559 := Lib.hid (Nat.le_trans L532.out (c541).size)
  have F560 := Lib.hid (F533.out.keep c541 L532.out)
  have L561 := Lib.hid (Nat.le_trans L518.out (c541).size)
  have F562 := Lib.hid (F517.out.keep c541 L518.out)
  have X563 := Lib.hid (X534.out.keep c541)
  have x564 := X563.out.c0
  have x565 := X563.out.c1
  have X566 := Lib.hid (X537.out.keep c541)
  have x567 := X566.out.c0
  have x568 := X566.out.c1
  clear B521 F523 F525 F527 F529 F531 F533 F517 L522 L524 L526 L528 L530 L532 L518 x535 x536 x538 x539 X534 X537
  clear c541
  go_wp2_with fail
  have E := eqTermS_any RT u543 u94 _ _ w540 (F544.out.read) (F556.out.read) L545.out L555.out
  refine E.mono ?_
  clear E
  rintro e w569 ⟨rfl, c570⟩
  have Z571 := Lib.hid (show w540.heap.size ≤ w569.heap.size from (c570).size)
  have B572 := Lib.hid (below_then B548.out B548.out.size c570)
  have L573 := Lib.hid (Nat.le_trans L549.out (c570).size)
  have F574 := Lib.hid (F550.out.keep c570 L549.out)
  have L575 := Lib.hid (Nat.le_trans L551.out (c570).size)
  have F576 := Lib.hid (F552.out.keep c570 L551.out)
  have L577 := Lib.hid (Nat.le_trans L553.out (c570).size)
  have F578 := Lib.hid (F554.out.keep c570 L553.out)
  have L579 := Lib.hid (Nat.le_trans L555.out (c570).size)
  have F580 := Lib.hid (F556.out.keep c570 L555.out)
  have L581 := Lib.hid (Nat.le_trans L557.out (c570).size)
  have F582 := Lib.hid (F558.out.keep c570 L557.out)
  have L583 := Lib.hid (Nat.le_trans L559.out (c570).size)
  have F584 := Lib.hid (F560.out.keep c570 L559.out)
  have L585 := Lib.hid (Nat.le_trans L561.out (c570).size)
  have F586 := Lib.hid (F562.out.keep c570 L561.out)
  have L587 := Lib.hid (Nat.le_trans L545.out (c570).size)
  have F588 := Lib.hid (F544.out.keep c570 L545.out)
  have X589 := Lib.hid (X563.out.keep c570)
  have x590 := X589.out.c0
  have x591 := X589.out.c1
  have X592 := Lib.hid (X566.out.keep c570)
  have x593 := X592.out.c0
  have x594 := X592.out.c1
  clear B548 F550 F552 F554 F556 F558 F560 F562 F544 L549 L551 L553 L555 L557 L559 L561 L545 x564 x565 x567 x568 X563 X566
  clear c570
  go_wp2_with fail
  have Q := toBelow0 (heldTermS_any RT u193 w569.heap.size 1 w569 ((F582.out.read).upto L581.out) (by omega) (by omega))
  have hq : decide (1 + (mtT RT : Int) < 0) = false := by rw [decide_eq_false_iff_not]; omega
  refine Q.mono ?_
  clear Q
  rintro e w595 ⟨rfl, c596⟩
  have Z597 := Lib.hid (show w569.heap.size ≤ w595.heap.size from (c596).size)
  have B598 := Lib.hid (below_then B572.out B572.out.size c596)
  have L599 := Lib.hid (Nat.le_trans L573.out (c596).size)
  have F600 := Lib.hid (F574.out.keep c596 L573.out)
  have L601 := Lib.hid (Nat.le_trans L575.out (c596).size)
  have F602 := Lib.hid (F576.out.keep c596 L575.out)
  have L603 := Lib.hid (Nat.le_trans L577.out (c596).size)
  have F604 := Lib.hid (F578.out.keep c596 L577.out)
  have L605 := Lib.hid (Nat.le_trans L579.out (c596).size)
  have F606 := Lib.hid (F580.out.keep c596 L579.out)
  have L607 := Lib.hid (Nat.le_trans L581.out (c596).size)
  have F608 := Lib.hid (F582.out.keep c596 L581.out)
  have L609 := Lib.hid (Nat.le_trans L583.out (c596).size)
  have F610 := Lib.hid (F584.out.keep c596 L583.out)
  have L611 := Lib.hid (Nat.le_trans L585.out (c596).size)
  have F612 := Lib.hid (F586.out.keep c596 L585.out)
  have L613 := Lib.hid (Nat.le_trans L587.out (c596).size)
  have F614 := Lib.hid (F588.out.keep c596 L587.out)
  have X615 := Lib.hid (X589.out.keep c596)
  have x616 := X615.out.c0
  have x617 := X615.out.c1
  have X618 := Lib.hid (X592.out.keep c596)
  have x619 := X618.out.c0
  have x620 := X618.out.c1
  clear B572 F574 F576 F578 F580 F582 F584 F586 F588 L573 L575 L577 L579 L581 L583 L585 L587 x590 x591 x593 x594 X589 X592
  clear c596
  go_wp2
  go_ret
  exact ⟨rfl, B598.out⟩
end Go.Proofs.Ytchkcjpahlimjaa
