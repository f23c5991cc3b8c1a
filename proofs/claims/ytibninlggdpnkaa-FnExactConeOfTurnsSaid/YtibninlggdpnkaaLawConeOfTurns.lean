/- The law on ConeOfTurns: its walk. -/
import Derived.Test.YtibninlggdpnkaaTurnS
import Derived.Test.YtibninlggdpnkaaMkC
import Derived.Test.YtibninlggdpnkaaGen
import Derived.Deep.RegionHeld3
namespace Go.Proofs.Ytibninlggdpnkaa
open Go.RowKit
set_option linter.unusedVariables false
set_option linter.unusedSimpArgs false

theorem turnV_len (l : List Int) : (turnV l).1.1.length ≤ 2 ∧ (turnV l).1.2.length ≤ 2 := by
  unfold turnV; split <;> simp [tnB]

set_option maxHeartbeats 8000000 in
theorem lawConeOfTurns (v0 : Value) (l0 : List Int) (w : World) (h0 : ISr w w.heap.size v0 l0) :
    Calls Try.prog 11 #[v0] w fun e w' => e = .returned (.bool true) ∧ Below w.heap.size w w' := by
  have H0 := Lib.hid h0
  obtain ⟨a0, q0, rfl, -⟩ := id h0
  clear h0
  have h0 := H0.out
  clear H0
  have b0 := Below.refl w.heap.size w
  by_cases hb0 : 1048576 < l0.length
  · go_enter Try.func11, Try.ntmps11
    go_wp2
    go_ret
    exact ⟨rfl, b0⟩
  have hb0 : l0.length ≤ 1048576 := by omega
  have HT0 := fun w' (j1 : ISr w' w.heap.size (.slice a0 l0.length q0) l0) (hs : w.heap.size ≤ w'.heap.size) => toIntS_any l0 (.slice a0 l0.length q0) w.heap.size w' j1 hs hb0
  have hRb := turnV_len l0
  obtain ⟨pp, hP⟩ : ∃ p, turnV l0 = p := ⟨_, rfl⟩
  rw [hP] at hRb
  obtain ⟨⟨RU, RV⟩, ok⟩ := pp
  dsimp only at hRb
  go_enter Try.func11, Try.ntmps11
  have B1 := Lib.hid b0
  have F2 := Lib.hid (h0.keep b0 (Nat.le_refl _))
  have L3 := Lib.hid (b0.size)
  clear b0 h0
  go_wp2_with fail
  refine (HT0 w F2.out B1.out.size).mono ?_
  rintro e w4 ⟨u7, rfl, k8, c5, s6⟩
  have F9 := Lib.hid (k8.mono (lo' := w.heap.size) (hi' := w4.heap.size) (by omega) (by omega))
  have L10 := Lib.hid (Nat.le_refl w4.heap.size)
  have Y11 := Lib.hid (show w.heap.size ≤ w4.heap.size from c5.size)
  clear k8 s6
  have Z12 := Lib.hid (show w.heap.size ≤ w4.heap.size from (c5).size)
  have B13 := Lib.hid (below_then B1.out B1.out.size c5)
  have L14 := Lib.hid (Nat.le_trans L3.out (c5).size)
  have F15 := Lib.hid (F2.out.keep c5 L3.out)
  clear B1 F2 L3
  clear c5
  go_wp2_with fail
  have SP := specConeOfTurns_any l0 u7 w4.heap.size w4  ((F9.out.read).upto L10.out) (Nat.le_refl _)
  rw [hP] at SP
  dsimp only at SP
  refine SP.mono ?_
  clear SP
  rintro e w16 ⟨u19, u20, rfl, k18, c17⟩
  have F21 := Lib.hid k18
  have L22 := Lib.hid (Nat.le_refl w16.heap.size)
  have Y23 := Lib.hid (show w4.heap.size ≤ w16.heap.size from c17.size)
  clear k18
  have Z24 := Lib.hid (show w4.heap.size ≤ w16.heap.size from (c17).size)
  have B25 := Lib.hid (below_then B13.out B13.out.size c17)
  have L26 := Lib.hid (Nat.le_trans L14.out (c17).size)
  have F27 := Lib.hid (F15.out.keep c17 L14.out)
  have L28 := Lib.hid (Nat.le_trans L10.out (c17).size)
  have F29 := Lib.hid (F9.out.keep c17 L10.out)
  clear B13 F15 F9 L14 L10
  clear c17
  obtain ⟨a30, q31, h32, -⟩ := id (F21.out.1.read)
  subst h32
  obtain ⟨a33, q34, h35, -⟩ := id (F21.out.2.1.read)
  subst h35
  have ca := below1 w16 (.cells #[(.slice a30 RU.length q31), (.slice a33 RV.length q34)] 47)
  have X37 := Lib.hid (box2_new w16 (.slice a30 RU.length q31) (.slice a33 RV.length q34) 47)
  have Z38 := Lib.hid (show w16.heap.size + 1 ≤ (w16.alloc (.cells #[(.slice a30 RU.length q31), (.slice a33 RV.length q34)] 47)).heap.size by simp)
  go_wp2_with fail
  generalize w16.alloc (.cells #[(.slice a30 RU.length q31), (.slice a33 RV.length q34)] 47) = w36 at *
  have Z39 := Lib.hid (show w16.heap.size ≤ w36.heap.size from (ca).size)
  have B40 := Lib.hid (below_then B25.out B25.out.size ca)
  have L41 := Lib.hid (Nat.le_trans L26.out (ca).size)
  have F42 := Lib.hid (F27.out.keep ca L26.out)
  have L43 := Lib.hid (Nat.le_trans L28.out (ca).size)
  have F44 := Lib.hid (F29.out.keep ca L28.out)
  have L45 := Lib.hid (Nat.le_trans L22.out (ca).size)
  have F46 := Lib.hid (F21.out.keep ca L22.out)
  clear B25 F27 F29 F21 L26 L28 L22
  clear ca
  have x47 := X37.out.c0
  have x48 := X37.out.c1
  clear F44
  go_wp2_with fail
  refine (HT0 w36 F42.out B40.out.size).mono ?_
  rintro e w49 ⟨u52, rfl, k53, c50, s51⟩
  have F54 := Lib.hid (k53.mono (lo' := w36.heap.size) (hi' := w49.heap.size) (by omega) (by omega))
  have L55 := Lib.hid (Nat.le_refl w49.heap.size)
  have Y56 := Lib.hid (show w36.heap.size ≤ w49.heap.size from c50.size)
  clear k53 s51
  have Z57 := Lib.hid (show w36.heap.size ≤ w49.heap.size from (c50).size)
  have B58 := Lib.hid (below_then B40.out B40.out.size c50)
  have L59 := Lib.hid (Nat.le_trans L41.out (c50).size)
  have F60 := Lib.hid (F42.out.keep c50 L41.out)
  have L61 := Lib.hid (Nat.le_trans L45.out (c50).size)
  have F62 := Lib.hid (F46.out.keep c50 L45.out)
  have X63 := Lib.hid (X37.out.keep c50)
  have x64 := X63.out.c0
  have x65 := X63.out.c1
  clear B40 F42 F46 L41 L45 x47 x48 X37
  clear c50
  go_wp2_with fail
  have SP := implConeOfTurns_any l0 u52 w49.heap.size w49  ((F54.out.read).upto L55.out) (Nat.le_refl _)
  rw [hP] at SP
  dsimp only at SP
  refine SP.mono ?_
  clear SP
  rintro e w66 ⟨u69, u70, rfl, k68, c67⟩
  have F71 := Lib.hid k68
  have L72 := Lib.hid (Nat.le_refl w66.heap.size)
  have Y73 := Lib.hid (show w49.heap.size ≤ w66.heap.size from c67.size)
  clear k68
  have Z74 := Lib.hid (show w49.heap.size ≤ w66.heap.size from (c67).size)
  have B75 := Lib.hid (below_then B58.out B58.out.size c67)
  have L76 := Lib.hid (Nat.le_trans L59.out (c67).size)
  have F77 := Lib.hid (F60.out.keep c67 L59.out)
  have L78 := Lib.hid (Nat.le_trans L61.out (c67).size)
  have F79 := Lib.hid (F62.out.keep c67 L61.out)
  have L80 := Lib.hid (Nat.le_trans L55.out (c67).size)
  have F81 := Lib.hid (F54.out.keep c67 L55.out)
  have X82 := Lib.hid (X63.out.keep c67)
  have x83 := X82.out.c0
  have x84 := X82.out.c1
  clear B58 F60 F62 F54 L59 L61 L55 x64 x65 X63
  clear c67
  obtain ⟨a85, q86, h87, -⟩ := id (F71.out.1.read)
  subst h87
  obtain ⟨a88, q89, h90, -⟩ := id (F71.out.2.1.read)
  subst h90
  have ca := below1 w66 (.cells #[(.slice a85 RU.length q86), (.slice a88 RV.length q89)] 47)
  have X92 := Lib.hid (box2_new w66 (.slice a85 RU.length q86) (.slice a88 RV.length q89) 47)
  have Z93 := Lib.hid (show w66.heap.size + 1 ≤ (w66.alloc (.cells #[(.slice a85 RU.length q86), (.slice a88 RV.length q89)] 47)).heap.size by simp)
  have v94 := (X82.out.keep ca).c0
  have v95 := (X82.out.keep ca).c1
  go_wp2_with fail
  generalize w66.alloc (.cells #[(.slice a85 RU.length q86), (.slice a88 RV.length q89)] 47) = w91 at *
  clear v94 v95
  have Z96 := Lib.hid (show w66.heap.size ≤ w91.heap.size from (ca).size)
  have B97 := Lib.hid (below_then B75.out B75.out.size ca)
  have L98 := Lib.hid (Nat.le_trans L76.out (ca).size)
  have F99 := Lib.hid (F77.out.keep ca L76.out)
  have L100 := Lib.hid (Nat.le_trans L78.out (ca).size)
  have F101 := Lib.hid (F79.out.keep ca L78.out)
  have L102 := Lib.hid (Nat.le_trans L80.out (ca).size)
  have F103 := Lib.hid (F81.out.keep ca L80.out)
  have L104 := Lib.hid (Nat.le_trans L72.out (ca).size)
  have F105 := Lib.hid (F71.out.keep ca L72.out)
  have X106 := Lib.hid (X82.out.keep ca)
  have x107 := X106.out.c0
  have x108 := X106.out.c1
  clear B75 F77 F79 F81 F71 L76 L78 L80 L72 x83 x84 X82
  clear ca
  have x109 := X92.out.c0
  have x110 := X92.out.c1
  go_wp2_with fail
  have E := eqCone_any RU RV (.slice a85 RU.length q86) (.slice a88 RV.length q89) (.slice a30 RU.length q31) (.slice a33 RV.length q34) _ _ w91 F105.out.1.read F105.out.2.1.read F101.out.1.read F101.out.2.1.read L104.out L100.out
  refine E.mono ?_
  clear E
  rintro e w111 ⟨rfl, c112⟩
  have Z113 := Lib.hid (show w91.heap.size ≤ w111.heap.size from (c112).size)
  have B114 := Lib.hid (below_then B97.out B97.out.size c112)
  have L115 := Lib.hid (Nat.le_trans L98.out (c112).size)
  have F116 := Lib.hid (F99.out.keep c112 L98.out)
  have L117 := Lib.hid (Nat.le_trans L100.out (c112).size)
  have F118 := Lib.hid (F101.out.keep c112 L100.out)
  have L119 := Lib.hid (Nat.le_trans L102.out (c112).size)
  have F120 := Lib.hid (F103.out.keep c112 L102.out)
  have L121 := Lib.hid (Nat.le_trans L104.out (c112).size)
  have F122 := Lib.hid (F105.out.keep c112 L104.out)
  have X123 := Lib.hid (X106.out.keep c112)
  have x124 := X123.out.c0
  have x125 := X123.out.c1
  have X126 := Lib.hid (X92.out.keep c112)
  have x127 := X126.out.c0
  have x128 := X126.out.c1
  clear B97 F99 F101 F103 F105 L98 L100 L102 L104 x107 x108 x109 x110 X106 X92
  clear c112
  go_wp2_with fail
  refine (HT0 w111 F116.out B114.out.size).mono ?_
  rintro e w129 ⟨u132, rfl, k133, c130, s131⟩
  have F134 := Lib.hid (k133.mono (lo' := w111.heap.size) (hi' := w129.heap.size) (by omega) (by omega))
  have L135 := Lib.hid (Nat.le_refl w129.heap.size)
  have Y136 := Lib.hid (show w111.heap.size ≤ w129.heap.size from c130.size)
  clear k133 s131
  have Z137 := Lib.hid (show w111.heap.size ≤ w129.heap.size from (c130).size)
  have B138 := Lib.hid (below_then B114.out B114.out.size c130)
  have L139 := Lib.hid (Nat.le_trans L115.out (c130).size)
  have F140 := Lib.hid (F116.out.keep c130 L115.out)
  have L141 := Lib.hid (Nat.le_trans L117.out (c130).size)
  have F142 := Lib.hid (F118.out.keep c130 L117.out)
  have L143 := Lib.hid (Nat.le_trans L119.out (c130).size)
  have F144 := Lib.hid (F120.out.keep c130 L119.out)
  have L145 := Lib.hid (Nat.le_trans L121.out (c130).size)
  have F146 := Lib.hid (F122.out.keep c130 L121.out)
  have X147 := Lib.hid (X123.out.keep c130)
  have x148 := X147.out.c0
  have x149 := X147.out.c1
  have X150 := Lib.hid (X126.out.keep c130)
  have x151 := X150.out.c0
  have x152 := X150.out.c1
  clear B114 F116 F118 F120 F122 L115 L117 L119 L121 x124 x125 x127 x128 X123 X126
  clear c130
  go_wp2_with fail
  have E := eqIntS_any l0 l0 u52 u132 _ _ _ (F144.out.read) (F134.out.read)
  rw [decide_eq_true (rfl : l0 = l0)] at E
  refine (toBelow E).mono ?_
  clear E
  rintro e w153 ⟨rfl, c154⟩
  have Z155 := Lib.hid (show w129.heap.size ≤ w153.heap.size from (c154).size)
  have B156 := Lib.hid (below_then B138.out B138.out.size c154)
  have L157 := Lib.hid (Nat.le_trans L139.out (c154).size)
  have F158 := Lib.hid (F140.out.keep c154 L139.out)
  have L159 := Lib.hid (Nat.le_trans L141.out (c154).size)
  have F160 := Lib.hid (F142.out.keep c154 L141.out)
  have L161 := Lib.hid (Nat.le_trans L143.out (c154).size)
  have F162 := Lib.hid (F144.out.keep c154 L143.out)
  have L163 := Lib.hid (Nat.le_trans L145.out (c154).size)
  have F164 := Lib.hid (F146.out.keep c154 L145.out)
  have L165 := Lib.hid (Nat.le_trans L135.out (c154).size)
  have F166 := Lib.hid (F134.out.keep c154 L135.out)
  have X167 := Lib.hid (X147.out.keep c154)
  have x168 := X167.out.c0
  have x169 := X167.out.c1
  have X170 := Lib.hid (X150.out.keep c154)
  have x171 := X170.out.c0
  have x172 := X170.out.c1
  clear B138 F140 F142 F144 F146 F134 L139 L141 L143 L145 L135 x148 x149 x151 x152 X147 X150
  clear c154
  clear F166
  go_wp2_with fail
  have M := markIntS_any l0 u52 w36.heap.size w49.heap.size 1 w153 F162.out (by omega) (by  omega)
  refine M.mono ?_
  clear M
  rintro e w173 ⟨rfl, k174, g177⟩
  have o175 := Only.of_grown (lo := w36.heap.size) (hi := w49.heap.size) g177 F162.out.blkIn
  clear g177
  have F178 := Lib.hid k174
  clear k174
  have hK176 : 0 ≤ 1 + (l0.length : Int) ∧ 1 + (l0.length : Int) ≤ 4000000000000000000 := by  omega
  have Z179 := Lib.hid (show w153.heap.size ≤ w173.heap.size from o175.size)
  have B180 := Lib.hid (Only.base B156.out o175 (by have := Z12.out; have := Z24.out; have := Z39.out; have := Z38.out; have := Z57.out; have := Z74.out; have := Z96.out; have := Z93.out; have := Z113.out; have := Z137.out; have := Z155.out; have := L161.out; have := Y56.out; omega) (by have := Z12.out; have := Z24.out; have := Z39.out; have := Z38.out; have := Z57.out; have := Z74.out; have := Z96.out; have := Z93.out; have := Z113.out; have := Z137.out; have := Z155.out; have := L161.out; have := Y56.out; omega))
  have L181 := Lib.hid (Nat.le_trans L157.out o175.size)
  have L182 := Lib.hid (Nat.le_trans L159.out o175.size)
  have L183 := Lib.hid (Nat.le_trans L161.out o175.size)
  have L184 := Lib.hid (Nat.le_trans L163.out o175.size)
  have F185 := Lib.hid (F158.out.keep (o175.below (by have := Z12.out; have := Z24.out; have := Z39.out; have := Z38.out; have := Z57.out; have := Z74.out; have := Z96.out; have := Z93.out; have := Z113.out; have := Z137.out; have := Z155.out; have := L161.out; have := Y56.out; omega)) (by have := Z12.out; have := Z24.out; have := Z39.out; have := Z38.out; have := Z57.out; have := Z74.out; have := Z96.out; have := Z93.out; have := Z113.out; have := Z137.out; have := Z155.out; have := L161.out; have := Y56.out; omega))
  have F186 := Lib.hid (F160.out.keep (o175.below (by have := Z12.out; have := Z24.out; have := Z39.out; have := Z38.out; have := Z57.out; have := Z74.out; have := Z96.out; have := Z93.out; have := Z113.out; have := Z137.out; have := Z155.out; have := L161.out; have := Y56.out; omega)) (by have := Z12.out; have := Z24.out; have := Z39.out; have := Z38.out; have := Z57.out; have := Z74.out; have := Z96.out; have := Z93.out; have := Z113.out; have := Z137.out; have := Z155.out; have := L161.out; have := Y56.out; omega))
  have F187 := Lib.hid (F164.out.only o175 (.inr (by have := Z12.out; have := Z24.out; have := Z39.out; have := Z38.out; have := Z57.out; have := Z74.out; have := Z96.out; have := Z93.out; have := Z113.out; have := Z137.out; have := Z155.out; have := L161.out; have := Y56.out; omega)))
  have X188 := Lib.hid (X167.out.only o175 (by have := Z12.out; have := Z24.out; have := Z39.out; have := Z38.out; have := Z57.out; have := Z74.out; have := Z96.out; have := Z93.out; have := Z113.out; have := Z137.out; have := Z155.out; have := L161.out; have := Y56.out; omega))
  have x189 := X188.out.c0
  have x190 := X188.out.c1
  have X191 := Lib.hid (X170.out.only o175 (by have := Z12.out; have := Z24.out; have := Z39.out; have := Z38.out; have := Z57.out; have := Z74.out; have := Z96.out; have := Z93.out; have := Z113.out; have := Z137.out; have := Z155.out; have := L161.out; have := Y56.out; omega))
  have x192 := X191.out.c0
  have x193 := X191.out.c1
  clear B156 F158 F160 F164 L157 L159 L161 L163 F162 x168 x169 x171 x172 X167 X170 o175
  clear F178
  generalize 1 + (l0.length : Int) = K176 at *
  have hdK176 : decide (K176 < 0) = false := by rw [decide_eq_false_iff_not]; omega
  go_wp2_with fail
  have E := eqCone_any RU RV (.slice a85 RU.length q86) (.slice a88 RV.length q89) (.slice a30 RU.length q31) (.slice a33 RV.length q34) _ _ w173 F187.out.1.read F187.out.2.1.read F186.out.1.read F186.out.2.1.read L184.out L182.out
  refine E.mono ?_
  clear E
  rintro e w194 ⟨rfl, c195⟩
  have Z196 := Lib.hid (show w173.heap.size ≤ w194.heap.size from (c195).size)
  have B197 := Lib.hid (below_then B180.out B180.out.size c195)
  have L198 := Lib.hid (Nat.le_trans L181.out (c195).size)
  have F199 := Lib.hid (F185.out.keep c195 L181.out)
  have L200 := Lib.hid (Nat.le_trans L182.out (c195).size)
  have F201 := Lib.hid (F186.out.keep c195 L182.out)
  have L202 := Lib.hid (Nat.le_trans L184.out (c195).size)
  have F203 := Lib.hid (F187.out.keep c195 L184.out)
  have X204 := Lib.hid (X188.out.keep c195)
  have x205 := X204.out.c0
  have x206 := X204.out.c1
  have X207 := Lib.hid (X191.out.keep c195)
  have x208 := X207.out.c0
  have x209 := X207.out.c1
  clear B180 F185 F186 F187 L181 L182 L184 x189 x190 x192 x193 X188 X191
  clear c195
  go_wp2_with fail
  have M := markCone_any RU RV (.slice a85 RU.length q86) (.slice a88 RV.length q89) w49.heap.size w66.heap.size 1 w194 F203.out L202.out (by omega) (by  omega)
  refine M.mono ?_
  clear M
  rintro e w210 ⟨rfl, k211, o212⟩
  have F214 := Lib.hid k211
  clear k211
  have hK213 : 0 ≤ 1 + (RU.length : Int) + (RV.length : Int) ∧ 1 + (RU.length : Int) + (RV.length : Int) ≤ 4000000000000000000 := by  omega
  have Z215 := Lib.hid (show w194.heap.size ≤ w210.heap.size from o212.size)
  have B216 := Lib.hid (Only.base B197.out o212 (by have := Z12.out; have := Z24.out; have := Z39.out; have := Z38.out; have := Z57.out; have := Z74.out; have := Z96.out; have := Z93.out; have := Z113.out; have := Z137.out; have := Z155.out; have := Z179.out; have := Z196.out; have := L202.out; have := Y73.out; omega) (by have := Z12.out; have := Z24.out; have := Z39.out; have := Z38.out; have := Z57.out; have := Z74.out; have := Z96.out; have := Z93.out; have := Z113.out; have := Z137.out; have := Z155.out; have := Z179.out; have := Z196.out; have := L202.out; have := Y73.out; omega))
  have L217 := Lib.hid (Nat.le_trans L198.out o212.size)
  have L218 := Lib.hid (Nat.le_trans L200.out o212.size)
  have L219 := Lib.hid (Nat.le_trans L202.out o212.size)
  have F220 := Lib.hid (F199.out.keep (o212.below (by have := Z12.out; have := Z24.out; have := Z39.out; have := Z38.out; have := Z57.out; have := Z74.out; have := Z96.out; have := Z93.out; have := Z113.out; have := Z137.out; have := Z155.out; have := Z179.out; have := Z196.out; have := L202.out; have := Y73.out; omega)) (by have := Z12.out; have := Z24.out; have := Z39.out; have := Z38.out; have := Z57.out; have := Z74.out; have := Z96.out; have := Z93.out; have := Z113.out; have := Z137.out; have := Z155.out; have := Z179.out; have := Z196.out; have := L202.out; have := Y73.out; omega))
  have F221 := Lib.hid (F201.out.keep (o212.below (by have := Z12.out; have := Z24.out; have := Z39.out; have := Z38.out; have := Z57.out; have := Z74.out; have := Z96.out; have := Z93.out; have := Z113.out; have := Z137.out; have := Z155.out; have := Z179.out; have := Z196.out; have := L202.out; have := Y73.out; omega)) (by have := Z12.out; have := Z24.out; have := Z39.out; have := Z38.out; have := Z57.out; have := Z74.out; have := Z96.out; have := Z93.out; have := Z113.out; have := Z137.out; have := Z155.out; have := Z179.out; have := Z196.out; have := L202.out; have := Y73.out; omega))
  have X222 := Lib.hid (X204.out.only o212 (by have := Z12.out; have := Z24.out; have := Z39.out; have := Z38.out; have := Z57.out; have := Z74.out; have := Z96.out; have := Z93.out; have := Z113.out; have := Z137.out; have := Z155.out; have := Z179.out; have := Z196.out; have := L202.out; have := Y73.out; omega))
  have x223 := X222.out.c0
  have x224 := X222.out.c1
  have X225 := Lib.hid (X207.out.only o212 (by have := Z12.out; have := Z24.out; have := Z39.out; have := Z38.out; have := Z57.out; have := Z74.out; have := Z96.out; have := Z93.out; have := Z113.out; have := Z137.out; have := Z155.out; have := Z179.out; have := Z196.out; have := L202.out; have := Y73.out; omega))
  have x226 := X225.out.c0
  have x227 := X225.out.c1
  clear B197 F199 F201 L198 L200 L202 F203 x205 x206 x208 x209 X204 X207 o212
  go_wp2_with fail
  have Q := heldCone_any RU.length RV.length (.slice a85 RU.length q86) (.slice a88 RV.length q89) w210.heap.size 1 w210 ((F214.out.1.read).upto L219.out) ((F214.out.2.1.read).upto L219.out) (Nat.le_refl _) (by omega) (by omega)
  have hq : decide (1 + (RU.length : Int) + (RV.length : Int) < 0) = false := by rw [decide_eq_false_iff_not]; omega
  refine Q.mono ?_
  clear Q
  rintro e w228 ⟨rfl, c229⟩
  have Z230 := Lib.hid (show w210.heap.size ≤ w228.heap.size from (c229).size)
  have B231 := Lib.hid (below_then B216.out B216.out.size c229)
  have L232 := Lib.hid (Nat.le_trans L217.out (c229).size)
  have F233 := Lib.hid (F220.out.keep c229 L217.out)
  have L234 := Lib.hid (Nat.le_trans L218.out (c229).size)
  have F235 := Lib.hid (F221.out.keep c229 L218.out)
  have L236 := Lib.hid (Nat.le_trans L219.out (c229).size)
  have F237 := Lib.hid (F214.out.keep c229 L219.out)
  have X238 := Lib.hid (X222.out.keep c229)
  have x239 := X238.out.c0
  have x240 := X238.out.c1
  have X241 := Lib.hid (X225.out.keep c229)
  have x242 := X241.out.c0
  have x243 := X241.out.c1
  clear B216 F220 F221 F214 L217 L218 L219 x223 x224 x226 x227 X222 X225
  clear c229
  go_wp2_with fail
  refine (HT0 w228 F233.out B231.out.size).mono ?_
  rintro e w244 ⟨u247, rfl, k248, c245, s246⟩
  have F249 := Lib.hid (k248.mono (lo' := w228.heap.size) (hi' := w244.heap.size) (by omega) (by omega))
  have L250 := Lib.hid (Nat.le_refl w244.heap.size)
  have Y251 := Lib.hid (show w228.heap.size ≤ w244.heap.size from c245.size)
  clear k248 s246
  have Z252 := Lib.hid (show w228.heap.size ≤ w244.heap.size from (c245).size)
  have B253 := Lib.hid (below_then B231.out B231.out.size c245)
  have L254 := Lib.hid (Nat.le_trans L232.out (c245).size)
  have F255 := Lib.hid (F233.out.keep c245 L232.out)
  have L256 := Lib.hid (Nat.le_trans L234.out (c245).size)
  have F257 := Lib.hid (F235.out.keep c245 L234.out)
  have L258 := Lib.hid (Nat.le_trans L236.out (c245).size)
  have F259 := Lib.hid (F237.out.keep c245 L236.out)
  have X260 := Lib.hid (X238.out.keep c245)
  have x261 := X260.out.c0
  have x262 := X260.out.c1
  have X263 := Lib.hid (X241.out.keep c245)
  have x264 := X263.out.c0
  have x265 := X263.out.c1
  clear B231 F233 F235 F237 L232 L234 L236 x239 x240 x242 x243 X238 X241
  clear c245
  go_wp2_with fail
  have SP := implConeOfTurns_any l0 u247 w244.heap.size w244  ((F249.out.read).upto L250.out) (Nat.le_refl _)
  rw [hP] at SP
  dsimp only at SP
  refine SP.mono ?_
  clear SP
  rintro e w266 ⟨u269, u270, rfl, k268, c267⟩
  have F271 := Lib.hid k268
  have L272 := Lib.hid (Nat.le_refl w266.heap.size)
  have Y273 := Lib.hid (show w244.heap.size ≤ w266.heap.size from c267.size)
  clear k268
  have Z274 := Lib.hid (show w244.heap.size ≤ w266.heap.size from (c267).size)
  have B275 := Lib.hid (below_then B253.out B253.out.size c267)
  have L276 := Lib.hid (Nat.le_trans L254.out (c267).size)
  have F277 := Lib.hid (F255.out.keep c267 L254.out)
  have L278 := Lib.hid (Nat.le_trans L256.out (c267).size)
  have F279 := Lib.hid (F257.out.keep c267 L256.out)
  have L280 := Lib.hid (Nat.le_trans L258.out (c267).size)
  have F281 := Lib.hid (F259.out.keep c267 L258.out)
  have L282 := Lib.hid (Nat.le_trans L250.out (c267).size)
  have F283 := Lib.hid (F249.out.keep c267 L250.out)
  have X284 := Lib.hid (X260.out.keep c267)
  have x285 := X284.out.c0
  have x286 := X284.out.c1
  have X287 := Lib.hid (X263.out.keep c267)
  have x288 := X287.out.c0
  have x289 := X287.out.c1
  clear B253 F255 F257 F259 F249 L254 L256 L258 L250 x261 x262 x264 x265 X260 X263
  clear c267
  obtain ⟨a290, q291, h292, -⟩ := id (F271.out.1.read)
  subst h292
  obtain ⟨a293, q294, h295, -⟩ := id (F271.out.2.1.read)
  subst h295
  have ca := below1 w266 (.cells #[(.slice a290 RU.length q291), (.slice a293 RV.length q294)] 47)
  have X297 := Lib.hid (box2_new w266 (.slice a290 RU.length q291) (.slice a293 RV.length q294) 47)
  have Z298 := Lib.hid (show w266.heap.size + 1 ≤ (w266.alloc (.cells #[(.slice a290 RU.length q291), (.slice a293 RV.length q294)] 47)).heap.size by simp)
  have v299 := (X284.out.keep ca).c0
  have v300 := (X284.out.keep ca).c1
  have v301 := (X287.out.keep ca).c0
  have v302 := (X287.out.keep ca).c1
  go_wp2_with fail
  generalize w266.alloc (.cells #[(.slice a290 RU.length q291), (.slice a293 RV.length q294)] 47) = w296 at *
  clear v299 v300 v301 v302
  have Z303 := Lib.hid (show w266.heap.size ≤ w296.heap.size from (ca).size)
  have B304 := Lib.hid (below_then B275.out B275.out.size ca)
  have L305 := Lib.hid (Nat.le_trans L276.out (ca).size)
  have F306 := Lib.hid (F277.out.keep ca L276.out)
  have L307 := Lib.hid (Nat.le_trans L278.out (ca).size)
  have F308 := Lib.hid (F279.out.keep ca L278.out)
  have L309 := Lib.hid (Nat.le_trans L280.out (ca).size)
  have F310 := Lib.hid (F281.out.keep ca L280.out)
  have L311 := Lib.hid (Nat.le_trans L282.out (ca).size)
  have F312 := Lib.hid (F283.out.keep ca L282.out)
  have L313 := Lib.hid (Nat.le_trans L272.out (ca).size)
  have F314 := Lib.hid (F271.out.keep ca L272.out)
  have X315 := Lib.hid (X284.out.keep ca)
  have x316 := X315.out.c0
  have x317 := X315.out.c1
  have X318 := Lib.hid (X287.out.keep ca)
  have x319 := X318.out.c0
  have x320 := X318.out.c1
  clear B275 F277 F279 F281 F283 F271 L276 L278 L280 L282 L272 x285 x286 x288 x289 X284 X287
  clear ca
  have x321 := X297.out.c0
  have x322 := X297.out.c1
  go_wp2_with fail
  have E := eqCone_any RU RV (.slice a290 RU.length q291) (.slice a293 RV.length q294) (.slice a30 RU.length q31) (.slice a33 RV.length q34) _ _ w296 F314.out.1.read F314.out.2.1.read F308.out.1.read F308.out.2.1.read L313.out L307.out
  refine E.mono ?_
  clear E
  rintro e w323 ⟨rfl, c324⟩
  have Z325 := Lib.hid (show w296.heap.size ≤ w323.heap.size from (c324).size)
  have B326 := Lib.hid (below_then B304.out B304.out.size c324)
  have L327 := Lib.hid (Nat.le_trans L305.out (c324).size)
  have F328 := Lib.hid (F306.out.keep c324 L305.out)
  have L329 := Lib.hid (Nat.le_trans L307.out (c324).size)
  have F330 := Lib.hid (F308.out.keep c324 L307.out)
  have L331 := Lib.hid (Nat.le_trans L309.out (c324).size)
  have F332 := Lib.hid (F310.out.keep c324 L309.out)
  have L333 := Lib.hid (Nat.le_trans L311.out (c324).size)
  have F334 := Lib.hid (F312.out.keep c324 L311.out)
  have L335 := Lib.hid (Nat.le_trans L313.out (c324).size)
  have F336 := Lib.hid (F314.out.keep c324 L313.out)
  have X337 := Lib.hid (X315.out.keep c324)
  have x338 := X337.out.c0
  have x339 := X337.out.c1
  have X340 := Lib.hid (X318.out.keep c324)
  have x341 := X340.out.c0
  have x342 := X340.out.c1
  have X343 := Lib.hid (X297.out.keep c324)
  have x344 := X343.out.c0
  have x345 := X343.out.c1
  clear B304 F306 F308 F310 F312 F314 L305 L307 L309 L311 L313 x316 x317 x319 x320 x321 x322 X315 X318 X297
  clear c324
  go_wp2_with fail
  have Q := heldCone_any RU.length RV.length (.slice a85 RU.length q86) (.slice a88 RV.length q89) w323.heap.size 1 w323 ((F332.out.1.read).upto L331.out) ((F332.out.2.1.read).upto L331.out) (Nat.le_refl _) (by omega) (by omega)
  have hq : decide (1 + (RU.length : Int) + (RV.length : Int) < 0) = false := by rw [decide_eq_false_iff_not]; omega
  refine Q.mono ?_
  clear Q
  rintro e w346 ⟨rfl, c347⟩
  have Z348 := Lib.hid (show w323.heap.size ≤ w346.heap.size from (c347).size)
  have B349 := Lib.hid (below_then B326.out B326.out.size c347)
  have L350 := Lib.hid (Nat.le_trans L327.out (c347).size)
  have F351 := Lib.hid (F328.out.keep c347 L327.out)
  have L352 := Lib.hid (Nat.le_trans L329.out (c347).size)
  have F353 := Lib.hid (F330.out.keep c347 L329.out)
  have L354 := Lib.hid (Nat.le_trans L331.out (c347).size)
  have F355 := Lib.hid (F332.out.keep c347 L331.out)
  have L356 := Lib.hid (Nat.le_trans L333.out (c347).size)
  have F357 := Lib.hid (F334.out.keep c347 L333.out)
  have L358 := Lib.hid (Nat.le_trans L335.out (c347).size)
  have F359 := Lib.hid (F336.out.keep c347 L335.out)
  have X360 := Lib.hid (X337.out.keep c347)
  have x361 := X360.out.c0
  have x362 := X360.out.c1
  have X363 := Lib.hid (X340.out.keep c347)
  have x364 := X363.out.c0
  have x365 := X363.out.c1
  have X366 := Lib.hid (X343.out.keep c347)
  have x367 := X366.out.c0
  have x368 := X366.out.c1
  clear B326 F328 F330 F332 F334 F336 L327 L329 L331 L333 L335 x338 x339 x341 x342 x344 x345 X337 X340 X343
  clear c347
  go_wp2
  go_ret
  exact ⟨rfl, B349.out⟩
end Go.Proofs.Ytibninlggdpnkaa
