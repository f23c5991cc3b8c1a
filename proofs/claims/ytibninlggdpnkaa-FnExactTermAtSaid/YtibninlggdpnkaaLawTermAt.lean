/- The law on TermAt: its walk. -/
import Derived.Test.YtibninlggdpnkaaTermB
import Derived.Test.YtibninlggdpnkaaOpenT
import Derived.Test.YtibninlggdpnkaaGen
import Derived.Deep.RegionHeld3
namespace Go.Proofs.Ytibninlggdpnkaa
open Go.RowKit
set_option linter.unusedVariables false
set_option linter.unusedSimpArgs false

set_option maxHeartbeats 4000000 in
theorem lawTermAt (v0 : Value) (y0 : Int × List Int × List (List Int)) (v1 : Value) (l1 : List Int) (w : World) (h0 : TermR w w.heap.size v0 y0) (h1 : ISr w w.heap.size v1 l1) :
    Calls Try.prog 14 #[v0, v1] w fun e w' => e = .returned (.bool true) ∧ Below w.heap.size w w' := by
  obtain ⟨s0, U0, G0⟩ := y0
  obtain ⟨r0, t0, rfl, hs0, i0, j0⟩ := h0
  simp only at hs0 i0 j0
  have H1 := Lib.hid h1
  obtain ⟨a1, q1, rfl, -⟩ := id h1
  clear h1
  have h1 := H1.out
  clear H1
  have b0 := below1 w (.cells #[(.int .i64 s0), r0, t0] 58)
  by_cases hb1 : 1048576 < l1.length
  · go_enter Try.func14, Try.ntmps14
    go_wp2
    go_ret
    exact ⟨rfl, b0⟩
  have hb1 : l1.length ≤ 1048576 := by omega
  obtain ⟨z0, hz0⟩ : ∃ z : Nat, z = (U0.length + totS G0) := ⟨_, rfl⟩
  by_cases hZ0 : z0 ≤ 1048576
  case neg =>
    go_enter Try.func14, Try.ntmps14
    have B1 := Lib.hid b0
    have F2 := Lib.hid (i0.keep b0 (Nat.le_refl _))
    have L3 := Lib.hid (b0.size)
    have F4 := Lib.hid (j0.keep b0 (Nat.le_refl _))
    have L5 := Lib.hid (b0.size)
    have F6 := Lib.hid (h1.keep b0 (Nat.le_refl _))
    have L7 := Lib.hid (b0.size)
    have X8 := Lib.hid (box3_new w (.int .i64 s0) r0 t0 58)
    have x9 := X8.out.c0
    have x10 := X8.out.c1
    have x11 := X8.out.c2
    clear b0 i0 j0 h1
    go_wp2_with fail
    have SZ := szTerm_any (.int .i64 s0) U0 G0 r0 t0 w.heap.size _ F2.out F4.out (B1.out.size)
    rw [← hz0] at SZ
    unfold szTot at SZ
    rw [if_neg hZ0] at SZ
    refine SZ.mono ?_
    clear SZ
    rintro e w12 ⟨rfl, c13⟩
    have B14 := Lib.hid (below_then B1.out B1.out.size c13)
    have L15 := Lib.hid (Nat.le_trans L3.out (c13).size)
    have F16 := Lib.hid (F2.out.keep c13 L3.out)
    have L17 := Lib.hid (Nat.le_trans L5.out (c13).size)
    have F18 := Lib.hid (F4.out.keep c13 L5.out)
    have L19 := Lib.hid (Nat.le_trans L7.out (c13).size)
    have F20 := Lib.hid (F6.out.keep c13 L7.out)
    have X21 := Lib.hid (X8.out.keep c13)
    have x22 := X21.out.c0
    have x23 := X21.out.c1
    have x24 := X21.out.c2
    clear B1 F2 F4 F6 L3 L5 L7 x9 x10 x11 X8
    clear c13
    go_wp2
    go_ret
    exact ⟨rfl, B14.out⟩
  have HT0 := fun w' (j1 : ISr w' w.heap.size r0 U0) (j2 : ISSr w' w.heap.size t0 G0) (hs : w.heap.size ≤ w'.heap.size) => toTerm_any s0 U0 G0 r0 t0 w.heap.size w' j1 j2 hs (by omega) (totS_len (ls := G0) (B := 1048576) (by omega)).1 (totS_len (ls := G0) (B := 1048576) (by omega)).2
  have HT1 := fun w' (j1 : ISr w' w.heap.size (.slice a1 l1.length q1) l1) (hs : w.heap.size ≤ w'.heap.size) => toIntS_any l1 (.slice a1 l1.length q1) w.heap.size w' j1 hs hb1
  go_enter Try.func14, Try.ntmps14
  have B25 := Lib.hid b0
  have F26 := Lib.hid (i0.keep b0 (Nat.le_refl _))
  have L27 := Lib.hid (b0.size)
  have F28 := Lib.hid (j0.keep b0 (Nat.le_refl _))
  have L29 := Lib.hid (b0.size)
  have F30 := Lib.hid (h1.keep b0 (Nat.le_refl _))
  have L31 := Lib.hid (b0.size)
  have X32 := Lib.hid (box3_new w (.int .i64 s0) r0 t0 58)
  have x33 := X32.out.c0
  have x34 := X32.out.c1
  have x35 := X32.out.c2
  clear b0 i0 j0 h1
  go_wp2_with fail
  have SZ := szTerm_any (.int .i64 s0) U0 G0 r0 t0 w.heap.size _ F26.out F28.out (B25.out.size)
  rw [← hz0] at SZ
  unfold szTot at SZ
  rw [if_pos hZ0] at SZ
  refine SZ.mono ?_
  clear SZ
  rintro e w36 ⟨rfl, c37⟩
  have B38 := Lib.hid (below_then B25.out B25.out.size c37)
  have L39 := Lib.hid (Nat.le_trans L27.out (c37).size)
  have F40 := Lib.hid (F26.out.keep c37 L27.out)
  have L41 := Lib.hid (Nat.le_trans L29.out (c37).size)
  have F42 := Lib.hid (F28.out.keep c37 L29.out)
  have L43 := Lib.hid (Nat.le_trans L31.out (c37).size)
  have F44 := Lib.hid (F30.out.keep c37 L31.out)
  have X45 := Lib.hid (X32.out.keep c37)
  have x46 := X45.out.c0
  have x47 := X45.out.c1
  have x48 := X45.out.c2
  clear B25 F26 F28 F30 L27 L29 L31 x33 x34 x35 X32
  clear c37
  have hr0 : 0 ≤ (1048576 : Int) - (z0 : Int) := by omega
  clear hz0
  go_wp2_with fail
  refine (HT0 w36 F40.out F42.out B38.out.size).mono ?_
  rintro e w49 ⟨u52, u54, rfl, k53, k55, c50, s51⟩
  have F56 := Lib.hid (k53.mono (lo' := w36.heap.size) (hi' := w49.heap.size) (by omega) (by omega)).read
  have F57 := Lib.hid (k55.mono (lo' := w36.heap.size) (hi' := w49.heap.size) (by omega) (by omega)).read
  have L58 := Lib.hid (Nat.le_refl w49.heap.size)
  clear k53 k55 s51
  have B59 := Lib.hid (below_then B38.out B38.out.size c50)
  have L60 := Lib.hid (Nat.le_trans L39.out (c50).size)
  have F61 := Lib.hid (F40.out.keep c50 L39.out)
  have L62 := Lib.hid (Nat.le_trans L41.out (c50).size)
  have F63 := Lib.hid (F42.out.keep c50 L41.out)
  have L64 := Lib.hid (Nat.le_trans L43.out (c50).size)
  have F65 := Lib.hid (F44.out.keep c50 L43.out)
  have X66 := Lib.hid (X45.out.keep c50)
  have x67 := X66.out.c0
  have x68 := X66.out.c1
  have x69 := X66.out.c2
  clear B38 F40 F42 F44 L39 L41 L43 x46 x47 x48 X45
  clear c50
  go_wp2_with fail
  refine (HT1 w49 F65.out B59.out.size).mono ?_
  rintro e w70 ⟨u73, rfl, k74, c71, s72⟩
  have F75 := Lib.hid (k74.mono (lo' := w49.heap.size) (hi' := w70.heap.size) (by omega) (by omega)).read
  have L76 := Lib.hid (Nat.le_refl w70.heap.size)
  clear k74 s72
  have B77 := Lib.hid (below_then B59.out B59.out.size c71)
  have L78 := Lib.hid (Nat.le_trans L60.out (c71).size)
  have F79 := Lib.hid (F61.out.keep c71 L60.out)
  have L80 := Lib.hid (Nat.le_trans L62.out (c71).size)
  have F81 := Lib.hid (F63.out.keep c71 L62.out)
  have L82 := Lib.hid (Nat.le_trans L64.out (c71).size)
  have F83 := Lib.hid (F65.out.keep c71 L64.out)
  have L84 := Lib.hid (Nat.le_trans L58.out (c71).size)
  have F85 := Lib.hid (F56.out.keep c71 L58.out)
  have F86 := Lib.hid (F57.out.keep c71 L58.out)
  have X87 := Lib.hid (X66.out.keep c71)
  have x88 := X87.out.c0
  have x89 := X87.out.c1
  have x90 := X87.out.c2
  clear B59 F61 F63 F65 F56 F57 L60 L62 L64 L58 x67 x68 x69 X66
  clear c71
  go_wp2_with fail
  have SP := specTermAt_any s0 U0 G0 l1 u52 u54 u73 w70.heap.size w70 hs0 (F85.out.upto L84.out) (F86.out.upto L84.out) (F75.out.upto L76.out) (Nat.le_refl _)
  refine SP.mono ?_
  clear SP
  rintro e w91 ⟨rfl, c92⟩
  have B93 := Lib.hid (below_then B77.out B77.out.size c92)
  have L94 := Lib.hid (Nat.le_trans L78.out (c92).size)
  have F95 := Lib.hid (F79.out.keep c92 L78.out)
  have L96 := Lib.hid (Nat.le_trans L80.out (c92).size)
  have F97 := Lib.hid (F81.out.keep c92 L80.out)
  have L98 := Lib.hid (Nat.le_trans L82.out (c92).size)
  have F99 := Lib.hid (F83.out.keep c92 L82.out)
  have L100 := Lib.hid (Nat.le_trans L84.out (c92).size)
  have F101 := Lib.hid (F85.out.keep c92 L84.out)
  have F102 := Lib.hid (F86.out.keep c92 L84.out)
  have L103 := Lib.hid (Nat.le_trans L76.out (c92).size)
  have F104 := Lib.hid (F75.out.keep c92 L76.out)
  have X105 := Lib.hid (X87.out.keep c92)
  have x106 := X105.out.c0
  have x107 := X105.out.c1
  have x108 := X105.out.c2
  clear B77 F79 F81 F83 F85 F86 F75 L78 L80 L82 L84 L76 x88 x89 x90 X87
  clear c92
  clear F101 F102
  clear F104
  go_wp2_with fail
  refine (HT0 w91 F95.out F97.out B93.out.size).mono ?_
  rintro e w109 ⟨u112, u114, rfl, k113, k115, c110, s111⟩
  have F116 := Lib.hid (k113.mono (lo' := w91.heap.size) (hi' := w109.heap.size) (by omega) (by omega)).read
  have F117 := Lib.hid (k115.mono (lo' := w91.heap.size) (hi' := w109.heap.size) (by omega) (by omega)).read
  have L118 := Lib.hid (Nat.le_refl w109.heap.size)
  clear k113 k115 s111
  have B119 := Lib.hid (below_then B93.out B93.out.size c110)
  have L120 := Lib.hid (Nat.le_trans L94.out (c110).size)
  have F121 := Lib.hid (F95.out.keep c110 L94.out)
  have L122 := Lib.hid (Nat.le_trans L96.out (c110).size)
  have F123 := Lib.hid (F97.out.keep c110 L96.out)
  have L124 := Lib.hid (Nat.le_trans L98.out (c110).size)
  have F125 := Lib.hid (F99.out.keep c110 L98.out)
  have X126 := Lib.hid (X105.out.keep c110)
  have x127 := X126.out.c0
  have x128 := X126.out.c1
  have x129 := X126.out.c2
  clear B93 F95 F97 F99 L94 L96 L98 x106 x107 x108 X105
  clear c110
  obtain ⟨a130, q131, h132, -⟩ := id F116.out
  subst h132
  obtain ⟨a133, q134, h135, -⟩ := id F117.out
  subst h135
  have ca := below1 w109 (.cells #[.int .i64 s0, (.slice a130 U0.length q131), (.slice a133 G0.length q134)] 61)
  have X137 := Lib.hid (box3_new w109 (.int .i64 s0) (.slice a130 U0.length q131) (.slice a133 G0.length q134) 61)
  go_wp2_with fail
  generalize w109.alloc (.cells #[.int .i64 s0, (.slice a130 U0.length q131), (.slice a133 G0.length q134)] 61) = w136 at *
  have B138 := Lib.hid (below_then B119.out B119.out.size ca)
  have L139 := Lib.hid (Nat.le_trans L120.out (ca).size)
  have F140 := Lib.hid (F121.out.keep ca L120.out)
  have L141 := Lib.hid (Nat.le_trans L122.out (ca).size)
  have F142 := Lib.hid (F123.out.keep ca L122.out)
  have L143 := Lib.hid (Nat.le_trans L124.out (ca).size)
  have F144 := Lib.hid (F125.out.keep ca L124.out)
  have L145 := Lib.hid (Nat.le_trans L118.out (ca).size)
  have F146 := Lib.hid (F116.out.keep ca L118.out)
  have F147 := Lib.hid (F117.out.keep ca L118.out)
  have X148 := Lib.hid (X126.out.keep ca)
  have x149 := X148.out.c0
  have x150 := X148.out.c1
  have x151 := X148.out.c2
  clear B119 F121 F123 F125 F116 F117 L120 L122 L124 L118 x127 x128 x129 X126
  clear ca
  have x152 := X137.out.c0
  have x153 := X137.out.c1
  have x154 := X137.out.c2
  go_wp2_with fail
  refine (HT1 w136 F144.out B138.out.size).mono ?_
  rintro e w155 ⟨u158, rfl, k159, c156, s157⟩
  have F160 := Lib.hid (k159.mono (lo' := w136.heap.size) (hi' := w155.heap.size) (by omega) (by omega)).read
  have L161 := Lib.hid (Nat.le_refl w155.heap.size)
  clear k159 s157
  have B162 := Lib.hid (below_then B138.out B138.out.size c156)
  have L163 := Lib.hid (Nat.le_trans L139.out (c156).size)
  have F164 := Lib.hid (F140.out.keep c156 L139.out)
  have L165 := Lib.hid (Nat.le_trans L141.out (c156).size)
  have F166 := Lib.hid (F142.out.keep c156 L141.out)
  have L167 := Lib.hid (Nat.le_trans L143.out (c156).size)
  have F168 := Lib.hid (F144.out.keep c156 L143.out)
  have L169 := Lib.hid (Nat.le_trans L145.out (c156).size)
  have F170 := Lib.hid (F146.out.keep c156 L145.out)
  have F171 := Lib.hid (F147.out.keep c156 L145.out)
  have X172 := Lib.hid (X148.out.keep c156)
  have x173 := X172.out.c0
  have x174 := X172.out.c1
  have x175 := X172.out.c2
  have X176 := Lib.hid (X137.out.keep c156)
  have x177 := X176.out.c0
  have x178 := X176.out.c1
  have x179 := X176.out.c2
  clear B138 F140 F142 F144 F146 F147 L139 L141 L143 L145 x149 x150 x151 x152 x153 x154 X148 X137
  clear c156
  go_wp2_with fail
  have SP := implTermAt_any s0 U0 G0 l1 (.slice a130 U0.length q131) (.slice a133 G0.length q134) u158 w155.heap.size w155 hs0 (F170.out.upto L169.out) (F171.out.upto L169.out) (F160.out.upto L161.out) (Nat.le_refl _)
  refine SP.mono ?_
  clear SP
  rintro e w180 ⟨rfl, c181⟩
  have B182 := Lib.hid (below_then B162.out B162.out.size c181)
  have L183 := Lib.hid (Nat.le_trans L163.out (c181).size)
  have F184 := Lib.hid (F164.out.keep c181 L163.out)
  have L185 := Lib.hid (Nat.le_trans L165.out (c181).size)
  have F186 := Lib.hid (F166.out.keep c181 L165.out)
  have L187 := Lib.hid (Nat.le_trans L167.out (c181).size)
  have F188 := Lib.hid (F168.out.keep c181 L167.out)
  have L189 := Lib.hid (Nat.le_trans L169.out (c181).size)
  have F190 := Lib.hid (F170.out.keep c181 L169.out)
  have F191 := Lib.hid (F171.out.keep c181 L169.out)
  have L192 := Lib.hid (Nat.le_trans L161.out (c181).size)
  have F193 := Lib.hid (F160.out.keep c181 L161.out)
  have X194 := Lib.hid (X172.out.keep c181)
  have x195 := X194.out.c0
  have x196 := X194.out.c1
  have x197 := X194.out.c2
  have X198 := Lib.hid (X176.out.keep c181)
  have x199 := X198.out.c0
  have x200 := X198.out.c1
  have x201 := X198.out.c2
  clear B162 F164 F166 F168 F170 F171 F160 L163 L165 L167 L169 L161 x173 x174 x175 x177 x178 x179 X172 X176
  clear c181
  have cd := below_draws w180.heap.size w180 1
  have cd : Below w180.heap.size w180 w180.drew := cd
  have B202 := Lib.hid (below_then B182.out B182.out.size cd)
  have L203 := Lib.hid (Nat.le_trans L183.out (cd).size)
  have F204 := Lib.hid (F184.out.keep cd L183.out)
  have L205 := Lib.hid (Nat.le_trans L185.out (cd).size)
  have F206 := Lib.hid (F186.out.keep cd L185.out)
  have L207 := Lib.hid (Nat.le_trans L187.out (cd).size)
  have F208 := Lib.hid (F188.out.keep cd L187.out)
  have L209 := Lib.hid (Nat.le_trans L189.out (cd).size)
  have F210 := Lib.hid (F190.out.keep cd L189.out)
  have F211 := Lib.hid (F191.out.keep cd L189.out)
  have L212 := Lib.hid (Nat.le_trans L192.out (cd).size)
  have F213 := Lib.hid (F193.out.keep cd L192.out)
  have X214 := Lib.hid (X194.out.keep cd)
  have x215 := X214.out.c0
  have x216 := X214.out.c1
  have x217 := X214.out.c2
  have X218 := Lib.hid (X198.out.keep cd)
  have x219 := X218.out.c0
  have x220 := X218.out.c1
  have x221 := X218.out.c2
  clear B182 F184 F186 F188 F190 F191 F193 L183 L185 L187 L189 L192 x195 x196 x197 x199 x200 x201 X194 X198
  clear cd
  go_wp2_with fail
  go_region_held3 (fun w' => w'.cell? ⟨w.heap.size, 0, none⟩ = some (.int .i64 s0) ∧ w'.cell? ⟨w.heap.size, 1, none⟩ = some (r0) ∧ w'.cell? ⟨w.heap.size, 2, none⟩ = some (t0) ∧ w'.cell? ⟨w109.heap.size, 0, none⟩ = some (.int .i64 s0) ∧ w'.cell? ⟨w109.heap.size, 1, none⟩ = some (.slice a130 U0.length q131) ∧ w'.cell? ⟨w109.heap.size, 2, none⟩ = some (.slice a133 G0.length q134)) (first | exact ⟨x215, x216, x217, x219, x220, x221⟩ | exact ⟨t0, t1, t2, t3, t4, t5⟩ | exact ⟨z0, z1, z2, z3, z4, z5⟩) (first | (go_at_call 49; (with_reducible refine (HT0 _ F204.out F206.out B202.out.size).mono ?_); rintro e w222 ⟨u226, u228, rfl, k227, k229, c224, sq⟩; have t0 := ((X214.out.keep c224).c0); have t1 := ((X214.out.keep c224).c1); have t2 := ((X214.out.keep c224).c2); have t3 := ((X218.out.keep c224).c0); have t4 := ((X218.out.keep c224).c1); have t5 := ((X218.out.keep c224).c2)) | (go_at_call 51; have J0 := (k227.mono (Nat.le_refl _) (show _ ≤ w222.heap.size by omega)).read; have J1 := (k229.mono (Nat.le_refl _) (show _ ≤ w222.heap.size by omega)).read; (with_reducible refine (eqTerm_any s0 U0 G0 (.slice a130 U0.length q131) (.slice a133 G0.length q134) u226 u228 _ _ w222 (F210.out.keep c224 L209.out) (F211.out.keep c224 L209.out) J0 J1 (Nat.le_trans L209.out c224.size) (Nat.le_refl _)).mono ?_); rintro e w223 ⟨rfl, c225⟩; have z0 := (((X214.out.keep c224).keep c225).c0); have z1 := (((X214.out.keep c224).keep c225).c1); have z2 := (((X214.out.keep c224).keep c225).c2); have z3 := (((X218.out.keep c224).keep c225).c0); have z4 := (((X218.out.keep c224).keep c225).c1); have z5 := (((X218.out.keep c224).keep c225).c2)))
  clear t0 t1 t2 t3 t4 t5 z0 z1 z2 z3 z4 z5 sq k227 k229 J0 J1
  have B230 := Lib.hid (below_then B202.out B202.out.size c224)
  have L231 := Lib.hid (Nat.le_trans L203.out (c224).size)
  have F232 := Lib.hid (F204.out.keep c224 L203.out)
  have L233 := Lib.hid (Nat.le_trans L205.out (c224).size)
  have F234 := Lib.hid (F206.out.keep c224 L205.out)
  have L235 := Lib.hid (Nat.le_trans L207.out (c224).size)
  have F236 := Lib.hid (F208.out.keep c224 L207.out)
  have L237 := Lib.hid (Nat.le_trans L209.out (c224).size)
  have F238 := Lib.hid (F210.out.keep c224 L209.out)
  have F239 := Lib.hid (F211.out.keep c224 L209.out)
  have L240 := Lib.hid (Nat.le_trans L212.out (c224).size)
  have F241 := Lib.hid (F213.out.keep c224 L212.out)
  have X242 := Lib.hid (X214.out.keep c224)
  have x243 := X242.out.c0
  have x244 := X242.out.c1
  have x245 := X242.out.c2
  have X246 := Lib.hid (X218.out.keep c224)
  have x247 := X246.out.c0
  have x248 := X246.out.c1
  have x249 := X246.out.c2
  clear B202 F204 F206 F208 F210 F211 F213 L203 L205 L207 L209 L212 x215 x216 x217 x219 x220 x221 X214 X218
  clear c224
  have B250 := Lib.hid (below_then B230.out B230.out.size c225)
  have L251 := Lib.hid (Nat.le_trans L231.out (c225).size)
  have F252 := Lib.hid (F232.out.keep c225 L231.out)
  have L253 := Lib.hid (Nat.le_trans L233.out (c225).size)
  have F254 := Lib.hid (F234.out.keep c225 L233.out)
  have L255 := Lib.hid (Nat.le_trans L235.out (c225).size)
  have F256 := Lib.hid (F236.out.keep c225 L235.out)
  have L257 := Lib.hid (Nat.le_trans L237.out (c225).size)
  have F258 := Lib.hid (F238.out.keep c225 L237.out)
  have F259 := Lib.hid (F239.out.keep c225 L237.out)
  have L260 := Lib.hid (Nat.le_trans L240.out (c225).size)
  have F261 := Lib.hid (F241.out.keep c225 L240.out)
  have X262 := Lib.hid (X242.out.keep c225)
  have x263 := X262.out.c0
  have x264 := X262.out.c1
  have x265 := X262.out.c2
  have X266 := Lib.hid (X246.out.keep c225)
  have x267 := X266.out.c0
  have x268 := X266.out.c1
  have x269 := X266.out.c2
  clear B230 F232 F234 F236 F238 F239 F241 L231 L233 L235 L237 L240 x243 x244 x245 x247 x248 x249 X242 X246
  clear c225
  go_wp2_with fail
  refine (HT1 w223 F256.out B250.out.size).mono ?_
  rintro e w270 ⟨u273, rfl, k274, c271, s272⟩
  have F275 := Lib.hid (k274.mono (lo' := w223.heap.size) (hi' := w270.heap.size) (by omega) (by omega)).read
  have L276 := Lib.hid (Nat.le_refl w270.heap.size)
  clear k274 s272
  have B277 := Lib.hid (below_then B250.out B250.out.size c271)
  have L278 := Lib.hid (Nat.le_trans L251.out (c271).size)
  have F279 := Lib.hid (F252.out.keep c271 L251.out)
  have L280 := Lib.hid (Nat.le_trans L253.out (c271).size)
  have F281 := Lib.hid (F254.out.keep c271 L253.out)
  have L282 := Lib.hid (Nat.le_trans L255.out (c271).size)
  have F283 := Lib.hid (F256.out.keep c271 L255.out)
  have L284 := Lib.hid (Nat.le_trans L257.out (c271).size)
  have F285 := Lib.hid (F258.out.keep c271 L257.out)
  have F286 := Lib.hid (F259.out.keep c271 L257.out)
  have L287 := Lib.hid (Nat.le_trans L260.out (c271).size)
  have F288 := Lib.hid (F261.out.keep c271 L260.out)
  have X289 := Lib.hid (X262.out.keep c271)
  have x290 := X289.out.c0
  have x291 := X289.out.c1
  have x292 := X289.out.c2
  have X293 := Lib.hid (X266.out.keep c271)
  have x294 := X293.out.c0
  have x295 := X293.out.c1
  have x296 := X293.out.c2
  clear B250 F252 F254 F256 F258 F259 F261 L251 L253 L255 L257 L260 x263 x264 x265 x267 x268 x269 X262 X266
  clear c271
  go_wp2_with fail
  have E := eqIntS_any l1 l1 u158 u273 _ _ _ F288.out F275.out
  rw [decide_eq_true (rfl : l1 = l1)] at E
  refine (toBelow E).mono ?_
  clear E
  rintro e w297 ⟨rfl, c298⟩
  have B299 := Lib.hid (below_then B277.out B277.out.size c298)
  have L300 := Lib.hid (Nat.le_trans L278.out (c298).size)
  have F301 := Lib.hid (F279.out.keep c298 L278.out)
  have L302 := Lib.hid (Nat.le_trans L280.out (c298).size)
  have F303 := Lib.hid (F281.out.keep c298 L280.out)
  have L304 := Lib.hid (Nat.le_trans L282.out (c298).size)
  have F305 := Lib.hid (F283.out.keep c298 L282.out)
  have L306 := Lib.hid (Nat.le_trans L284.out (c298).size)
  have F307 := Lib.hid (F285.out.keep c298 L284.out)
  have F308 := Lib.hid (F286.out.keep c298 L284.out)
  have L309 := Lib.hid (Nat.le_trans L287.out (c298).size)
  have F310 := Lib.hid (F288.out.keep c298 L287.out)
  have L311 := Lib.hid (Nat.le_trans L276.out (c298).size)
  have F312 := Lib.hid (F275.out.keep c298 L276.out)
  have X313 := Lib.hid (X289.out.keep c298)
  have x314 := X313.out.c0
  have x315 := X313.out.c1
  have x316 := X313.out.c2
  have X317 := Lib.hid (X293.out.keep c298)
  have x318 := X317.out.c0
  have x319 := X317.out.c1
  have x320 := X317.out.c2
  clear B277 F279 F281 F283 F285 F286 F288 F275 L278 L280 L282 L284 L287 L276 x290 x291 x292 x294 x295 x296 X289 X293
  clear c298
  clear F312
  go_wp2
  go_ret
  exact ⟨rfl, B299.out⟩
end Go.Proofs.Ytibninlggdpnkaa
