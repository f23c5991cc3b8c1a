/- The law on SeriesAt: its walk. -/
import Derived.Test.YtchkcjpahlimjaaB6
import Derived.Test.YtchkcjpahlimjaaB1
import Derived.Deep.RegionHeld3
namespace Go.Proofs.Ytchkcjpahlimjaa
open Go.RowKit
set_option linter.unusedVariables false
set_option linter.unusedSimpArgs false

set_option maxHeartbeats 4000000 in
theorem lawSeriesAt (v0 : Value) (l0 : List (Int × List Int × List (List Int))) (v1 : Value) (l1 : List Int) (w : World) (h0 : TSr w w.heap.size v0 l0) (h1 : ISr w w.heap.size v1 l1) :
    Calls Try.prog 6 #[v0, v1] w fun e w' => e = .returned (.bool true) ∧ Below w.heap.size w w' := by
  have H1 := Lib.hid h1
  obtain ⟨a1, q1, rfl, -⟩ := id h1
  clear h1
  have h1 := H1.out
  clear H1
  have b0 := Below.refl w.heap.size w
  by_cases hb1 : 1048576 < l1.length
  · go_enter Try.func6, Try.ntmps6
    go_wp2
    go_ret
    exact ⟨rfl, b0⟩
  have hb1 : l1.length ≤ 1048576 := by omega
  obtain ⟨z0, hz0⟩ : ∃ z : Nat, z = (totT l0) := ⟨_, rfl⟩
  by_cases hZ0 : z0 ≤ 1048576
  case neg =>
    go_enter Try.func6, Try.ntmps6
    have B1 := Lib.hid b0
    have F2 := Lib.hid (h0.keep b0 (Nat.le_refl _))
    have L3 := Lib.hid (b0.size)
    have F4 := Lib.hid (h1.keep b0 (Nat.le_refl _))
    have L5 := Lib.hid (b0.size)
    clear b0 h0 h1
    go_wp2_with fail
    have SZ := szTermS_any l0 v0 1048576 w.heap.size _ F2.out (by omega) (by omega) (B1.out.size)
    rw [← hz0] at SZ
    unfold szL at SZ
    rw [if_pos (by omega)] at SZ
    refine SZ.mono ?_
    clear SZ
    rintro e w6 ⟨rfl, c7⟩
    have B8 := Lib.hid (below_then B1.out B1.out.size c7)
    have L9 := Lib.hid (Nat.le_trans L3.out (c7).size)
    have F10 := Lib.hid (F2.out.keep c7 L3.out)
    have L11 := Lib.hid (Nat.le_trans L5.out (c7).size)
    have F12 := Lib.hid (F4.out.keep c7 L5.out)
    clear B1 F2 F4 L3 L5
    clear c7
    go_wp2
    go_ret
    exact ⟨rfl, B8.out⟩
  have HT0 := fun w' (j1 : TSr w' w.heap.size v0 l0) (hs : w.heap.size ≤ w'.heap.size) => toTermS_any l0 v0 w.heap.size w' j1 hs (by omega)
  have HT1 := fun w' (j1 : ISr w' w.heap.size (.slice a1 l1.length q1) l1) (hs : w.heap.size ≤ w'.heap.size) => toIntS_any l1 (.slice a1 l1.length q1) w.heap.size w' j1 hs hb1
  go_enter Try.func6, Try.ntmps6
  have B13 := Lib.hid b0
  have F14 := Lib.hid (h0.keep b0 (Nat.le_refl _))
  have L15 := Lib.hid (b0.size)
  have F16 := Lib.hid (h1.keep b0 (Nat.le_refl _))
  have L17 := Lib.hid (b0.size)
  clear b0 h0 h1
  go_wp2_with fail
  have SZ := szTermS_any l0 v0 1048576 w.heap.size _ F14.out (by omega) (by omega) (B13.out.size)
  rw [← hz0] at SZ
  unfold szL at SZ
  rw [if_neg (by omega)] at SZ
  refine SZ.mono ?_
  clear SZ
  rintro e w18 ⟨rfl, c19⟩
  have B20 := Lib.hid (below_then B13.out B13.out.size c19)
  have L21 := Lib.hid (Nat.le_trans L15.out (c19).size)
  have F22 := Lib.hid (F14.out.keep c19 L15.out)
  have L23 := Lib.hid (Nat.le_trans L17.out (c19).size)
  have F24 := Lib.hid (F16.out.keep c19 L17.out)
  clear B13 F14 F16 L15 L17
  clear c19
  have hr0 : 0 ≤ (1048576 : Int) - (z0 : Int) := by omega
  clear hz0
  go_wp2_with fail
  refine (HT0 w18 F22.out B20.out.size).mono ?_
  rintro e w25 ⟨u28, rfl, k29, c26, s27⟩
  have F30 := Lib.hid (k29.mono (lo' := w18.heap.size) (hi' := w25.heap.size) (by omega) (by omega)).read
  have L31 := Lib.hid (Nat.le_refl w25.heap.size)
  clear k29 s27
  have B32 := Lib.hid (below_then B20.out B20.out.size c26)
  have L33 := Lib.hid (Nat.le_trans L21.out (c26).size)
  have F34 := Lib.hid (F22.out.keep c26 L21.out)
  have L35 := Lib.hid (Nat.le_trans L23.out (c26).size)
  have F36 := Lib.hid (F24.out.keep c26 L23.out)
  clear B20 F22 F24 L21 L23
  clear c26
  go_wp2_with fail
  refine (HT1 w25 F36.out B32.out.size).mono ?_
  rintro e w37 ⟨u40, rfl, k41, c38, s39⟩
  have F42 := Lib.hid (k41.mono (lo' := w25.heap.size) (hi' := w37.heap.size) (by omega) (by omega)).read
  have L43 := Lib.hid (Nat.le_refl w37.heap.size)
  clear k41 s39
  have B44 := Lib.hid (below_then B32.out B32.out.size c38)
  have L45 := Lib.hid (Nat.le_trans L33.out (c38).size)
  have F46 := Lib.hid (F34.out.keep c38 L33.out)
  have L47 := Lib.hid (Nat.le_trans L35.out (c38).size)
  have F48 := Lib.hid (F36.out.keep c38 L35.out)
  have L49 := Lib.hid (Nat.le_trans L31.out (c38).size)
  have F50 := Lib.hid (F30.out.keep c38 L31.out)
  clear B32 F34 F36 F30 L33 L35 L31
  clear c38
  go_wp2_with fail
  have SP := (fun a b u v => specSeriesAt_any a b u v) l0 l1 u28 u40 w37.heap.size w37  (F50.out.upto L49.out) (F42.out.upto L43.out) (Nat.le_refl _)
  refine SP.mono ?_
  clear SP
  rintro e w51 ⟨rfl, c52⟩
  have B53 := Lib.hid (below_then B44.out B44.out.size c52)
  have L54 := Lib.hid (Nat.le_trans L45.out (c52).size)
  have F55 := Lib.hid (F46.out.keep c52 L45.out)
  have L56 := Lib.hid (Nat.le_trans L47.out (c52).size)
  have F57 := Lib.hid (F48.out.keep c52 L47.out)
  have L58 := Lib.hid (Nat.le_trans L49.out (c52).size)
  have F59 := Lib.hid (F50.out.keep c52 L49.out)
  have L60 := Lib.hid (Nat.le_trans L43.out (c52).size)
  have F61 := Lib.hid (F42.out.keep c52 L43.out)
  clear B44 F46 F48 F50 F42 L45 L47 L49 L43
  clear c52
  clear F59
  clear F61
  go_wp2_with fail
  refine (HT0 w51 F55.out B53.out.size).mono ?_
  rintro e w62 ⟨u65, rfl, k66, c63, s64⟩
  have F67 := Lib.hid (k66.mono (lo' := w51.heap.size) (hi' := w62.heap.size) (by omega) (by omega)).read
  have L68 := Lib.hid (Nat.le_refl w62.heap.size)
  clear k66 s64
  have B69 := Lib.hid (below_then B53.out B53.out.size c63)
  have L70 := Lib.hid (Nat.le_trans L54.out (c63).size)
  have F71 := Lib.hid (F55.out.keep c63 L54.out)
  have L72 := Lib.hid (Nat.le_trans L56.out (c63).size)
  have F73 := Lib.hid (F57.out.keep c63 L56.out)
  clear B53 F55 F57 L54 L56
  clear c63
  go_wp2_with fail
  refine (HT1 w62 F73.out B69.out.size).mono ?_
  rintro e w74 ⟨u77, rfl, k78, c75, s76⟩
  have F79 := Lib.hid (k78.mono (lo' := w62.heap.size) (hi' := w74.heap.size) (by omega) (by omega)).read
  have L80 := Lib.hid (Nat.le_refl w74.heap.size)
  clear k78 s76
  have B81 := Lib.hid (below_then B69.out B69.out.size c75)
  have L82 := Lib.hid (Nat.le_trans L70.out (c75).size)
  have F83 := Lib.hid (F71.out.keep c75 L70.out)
  have L84 := Lib.hid (Nat.le_trans L72.out (c75).size)
  have F85 := Lib.hid (F73.out.keep c75 L72.out)
  have L86 := Lib.hid (Nat.le_trans L68.out (c75).size)
  have F87 := Lib.hid (F67.out.keep c75 L68.out)
  clear B69 F71 F73 F67 L70 L72 L68
  clear c75
  go_wp2_with fail
  have SP := (fun a b u v => implSeriesAt_any a b u v) l0 l1 u65 u77 w74.heap.size w74  (F87.out.upto L86.out) (F79.out.upto L80.out) (Nat.le_refl _)
  refine SP.mono ?_
  clear SP
  rintro e w88 ⟨rfl, c89⟩
  have B90 := Lib.hid (below_then B81.out B81.out.size c89)
  have L91 := Lib.hid (Nat.le_trans L82.out (c89).size)
  have F92 := Lib.hid (F83.out.keep c89 L82.out)
  have L93 := Lib.hid (Nat.le_trans L84.out (c89).size)
  have F94 := Lib.hid (F85.out.keep c89 L84.out)
  have L95 := Lib.hid (Nat.le_trans L86.out (c89).size)
  have F96 := Lib.hid (F87.out.keep c89 L86.out)
  have L97 := Lib.hid (Nat.le_trans L80.out (c89).size)
  have F98 := Lib.hid (F79.out.keep c89 L80.out)
  clear B81 F83 F85 F87 F79 L82 L84 L86 L80
  clear c89
  go_wp2_with fail
  refine (HT0 w88 F92.out B90.out.size).mono ?_
  rintro e w99 ⟨u102, rfl, k103, c100, s101⟩
  have F104 := Lib.hid (k103.mono (lo' := w88.heap.size) (hi' := w99.heap.size) (by omega) (by omega)).read
  have L105 := Lib.hid (Nat.le_refl w99.heap.size)
  clear k103 s101
  have B106 := Lib.hid (below_then B90.out B90.out.size c100)
  have L107 := Lib.hid (Nat.le_trans L91.out (c100).size)
  have F108 := Lib.hid (F92.out.keep c100 L91.out)
  have L109 := Lib.hid (Nat.le_trans L93.out (c100).size)
  have F110 := Lib.hid (F94.out.keep c100 L93.out)
  have L111 := Lib.hid (Nat.le_trans L95.out (c100).size)
  have F112 := Lib.hid (F96.out.keep c100 L95.out)
  have L113 := Lib.hid (Nat.le_trans L97.out (c100).size)
  have F114 := Lib.hid (F98.out.keep c100 L97.out)
  clear B90 F92 F94 F96 F98 L91 L93 L95 L97
  clear c100
  go_wp2_with fail
  have E := eqTermS_any l0 u65 u102 _ _ _ F112.out F104.out L111.out L105.out
  refine E.mono ?_
  clear E
  rintro e w115 ⟨rfl, c116⟩
  have B117 := Lib.hid (below_then B106.out B106.out.size c116)
  have L118 := Lib.hid (Nat.le_trans L107.out (c116).size)
  have F119 := Lib.hid (F108.out.keep c116 L107.out)
  have L120 := Lib.hid (Nat.le_trans L109.out (c116).size)
  have F121 := Lib.hid (F110.out.keep c116 L109.out)
  have L122 := Lib.hid (Nat.le_trans L111.out (c116).size)
  have F123 := Lib.hid (F112.out.keep c116 L111.out)
  have L124 := Lib.hid (Nat.le_trans L113.out (c116).size)
  have F125 := Lib.hid (F114.out.keep c116 L113.out)
  have L126 := Lib.hid (Nat.le_trans L105.out (c116).size)
  have F127 := Lib.hid (F104.out.keep c116 L105.out)
  clear B106 F108 F110 F112 F114 F104 L107 L109 L111 L113 L105
  clear c116
  clear F127
  go_wp2_with fail
  refine (HT1 w115 F121.out B117.out.size).mono ?_
  rintro e w128 ⟨u131, rfl, k132, c129, s130⟩
  have F133 := Lib.hid (k132.mono (lo' := w115.heap.size) (hi' := w128.heap.size) (by omega) (by omega)).read
  have L134 := Lib.hid (Nat.le_refl w128.heap.size)
  clear k132 s130
  have B135 := Lib.hid (below_then B117.out B117.out.size c129)
  have L136 := Lib.hid (Nat.le_trans L118.out (c129).size)
  have F137 := Lib.hid (F119.out.keep c129 L118.out)
  have L138 := Lib.hid (Nat.le_trans L120.out (c129).size)
  have F139 := Lib.hid (F121.out.keep c129 L120.out)
  have L140 := Lib.hid (Nat.le_trans L122.out (c129).size)
  have F141 := Lib.hid (F123.out.keep c129 L122.out)
  have L142 := Lib.hid (Nat.le_trans L124.out (c129).size)
  have F143 := Lib.hid (F125.out.keep c129 L124.out)
  clear B117 F119 F121 F123 F125 L118 L120 L122 L124
  clear c129
  go_wp2_with fail
  have E := eqIntS_any l1 l1 u77 u131 _ _ _ F143.out F133.out
  rw [decide_eq_true (rfl : l1 = l1)] at E
  refine (toBelow E).mono ?_
  clear E
  rintro e w144 ⟨rfl, c145⟩
  have B146 := Lib.hid (below_then B135.out B135.out.size c145)
  have L147 := Lib.hid (Nat.le_trans L136.out (c145).size)
  have F148 := Lib.hid (F137.out.keep c145 L136.out)
  have L149 := Lib.hid (Nat.le_trans L138.out (c145).size)
  have F150 := Lib.hid (F139.out.keep c145 L138.out)
  have L151 := Lib.hid (Nat.le_trans L140.out (c145).size)
  have F152 := Lib.hid (F141.out.keep c145 L140.out)
  have L153 := Lib.hid (Nat.le_trans L142.out (c145).size)
  have F154 := Lib.hid (F143.out.keep c145 L142.out)
  have L155 := Lib.hid (Nat.le_trans L134.out (c145).size)
  have F156 := Lib.hid (F133.out.keep c145 L134.out)
  clear B135 F137 F139 F141 F143 F133 L136 L138 L140 L142 L134
  clear c145
  clear F156
  go_wp2
  go_ret
  exact ⟨rfl, B146.out⟩
end Go.Proofs.Ytchkcjpahlimjaa
