/- The law on AreMoved: its walk. -/
import Derived.Test.YtgecnidndjbdaaaMvd
import Derived.Test.YtgecnidndjbdaaaB1
import Derived.Deep.RegionHeld3
namespace Go.Proofs.Ytgecnidndjbdaaa
open Go.RowKit
set_option linter.unusedVariables false
set_option linter.unusedSimpArgs false

set_option maxRecDepth 100000 in
set_option maxHeartbeats 4000000 in
theorem lawAreMoved (v0 : Value) (l0 : List (List Int)) (v1 : Value) (l1 : List (List Int)) (w : World) (h0 : ISSr w w.heap.size v0 l0) (h1 : ISSr w w.heap.size v1 l1) :
    Calls Try.prog 9 #[v0, v1] w fun e w' => e = .returned (.bool true) ∧ Below w.heap.size w w' := by
  have b0 := Below.refl w.heap.size w
  obtain ⟨z0, hz0⟩ : ∃ z : Nat, (totS l0) = z := ⟨_, rfl⟩
  obtain ⟨z1, hz1⟩ : ∃ z : Nat, (totS l1) = z := ⟨_, rfl⟩
  by_cases hZ0 : z0 ≤ 1048576
  case neg =>
    go_enter Try.func9, Try.ntmps9
    have B1 := Lib.hid b0
    have F2 := Lib.hid (h0.keep b0 (Nat.le_refl _))
    have L3 := Lib.hid (b0.size)
    have F4 := Lib.hid (h1.keep b0 (Nat.le_refl _))
    have L5 := Lib.hid (b0.size)
    clear b0 h0 h1
    go_wp2_with fail
    have SZ := szIntSS_any l0 v0 1048576 w.heap.size _ F2.out (by omega) (by omega)
    rw [hz0] at SZ
    unfold szL at SZ
    rw [if_pos (by omega)] at SZ
    refine (toBelow0 SZ).mono ?_
    clear SZ
    rintro e w6 ⟨rfl, c7⟩
    have B8 := Lib.hid (below_then B1.out B1.out.size c7)
    have L9 := Lib.hid (Nat.le_trans L3.out (c7).size)
    have F10 := Lib.hid (F2.out.keep c7 L3.out)
    have L11 := Lib.hid (Nat.le_trans L5.out (c7).size)
    have F12 := Lib.hid (F4.out.keep c7 L5.out)
    clear B1 F2 F4 L3 L5
    clear c7
    go_wp2
    go_ret
    exact ⟨rfl, B8.out⟩
  by_cases hZ1 : z0 + z1 ≤ 1048576
  case neg =>
    go_enter Try.func9, Try.ntmps9
    have B13 := Lib.hid b0
    have F14 := Lib.hid (h0.keep b0 (Nat.le_refl _))
    have L15 := Lib.hid (b0.size)
    have F16 := Lib.hid (h1.keep b0 (Nat.le_refl _))
    have L17 := Lib.hid (b0.size)
    clear b0 h0 h1
    go_wp2_with fail
    have SZ := szIntSS_any l0 v0 1048576 w.heap.size _ F14.out (by omega) (by omega)
    rw [hz0] at SZ
    unfold szL at SZ
    rw [if_neg (by omega)] at SZ
    refine (toBelow0 SZ).mono ?_
    clear SZ
    rintro e w18 ⟨rfl, c19⟩
    have B20 := Lib.hid (below_then B13.out B13.out.size c19)
    have L21 := Lib.hid (Nat.le_trans L15.out (c19).size)
    have F22 := Lib.hid (F14.out.keep c19 L15.out)
    have L23 := Lib.hid (Nat.le_trans L17.out (c19).size)
    have F24 := Lib.hid (F16.out.keep c19 L17.out)
    clear B13 F14 F16 L15 L17
    clear c19
    have hr0 : 0 ≤ (1048576 : Int) - (z0 : Int) := by omega
    go_wp2_with fail
    have SZ := szIntSS_any l1 v1 (1048576 - (z0 : Int)) w.heap.size _ F24.out (by omega) (by omega)
    rw [hz1] at SZ
    unfold szL at SZ
    rw [if_pos (by omega)] at SZ
    refine (toBelow0 SZ).mono ?_
    clear SZ
    rintro e w25 ⟨rfl, c26⟩
    have B27 := Lib.hid (below_then B20.out B20.out.size c26)
    have L28 := Lib.hid (Nat.le_trans L21.out (c26).size)
    have F29 := Lib.hid (F22.out.keep c26 L21.out)
    have L30 := Lib.hid (Nat.le_trans L23.out (c26).size)
    have F31 := Lib.hid (F24.out.keep c26 L23.out)
    clear B20 F22 F24 L21 L23
    clear c26
    go_wp2
    go_ret
    exact ⟨rfl, B27.out⟩
  have HT0 := fun w' (j1 : ISSr w' w.heap.size v0 l0) (hs : w.heap.size ≤ w'.heap.size) => toIntSS_any l0 v0 w.heap.size w' j1 hs (totS_len (ls := l0) (B := 1048576) (by omega)).1 (totS_len (ls := l0) (B := 1048576) (by omega)).2
  have HT1 := fun w' (j1 : ISSr w' w.heap.size v1 l1) (hs : w.heap.size ≤ w'.heap.size) => toIntSS_any l1 v1 w.heap.size w' j1 hs (totS_len (ls := l1) (B := 1048576) (by omega)).1 (totS_len (ls := l1) (B := 1048576) (by omega)).2
  go_enter Try.func9, Try.ntmps9
  have B32 := Lib.hid b0
  have F33 := Lib.hid (h0.keep b0 (Nat.le_refl _))
  have L34 := Lib.hid (b0.size)
  have F35 := Lib.hid (h1.keep b0 (Nat.le_refl _))
  have L36 := Lib.hid (b0.size)
  clear b0 h0 h1
  go_wp2_with fail
  have SZ := szIntSS_any l0 v0 1048576 w.heap.size _ F33.out (by omega) (by omega)
  rw [hz0] at SZ
  unfold szL at SZ
  rw [if_neg (by omega)] at SZ
  refine (toBelow0 SZ).mono ?_
  clear SZ
  rintro e w37 ⟨rfl, c38⟩
  have B39 := Lib.hid (below_then B32.out B32.out.size c38)
  have L40 := Lib.hid (Nat.le_trans L34.out (c38).size)
  have F41 := Lib.hid (F33.out.keep c38 L34.out)
  have L42 := Lib.hid (Nat.le_trans L36.out (c38).size)
  have F43 := Lib.hid (F35.out.keep c38 L36.out)
  clear B32 F33 F35 L34 L36
  clear c38
  have hr0 : 0 ≤ (1048576 : Int) - (z0 : Int) := by omega
  go_wp2_with fail
  have SZ := szIntSS_any l1 v1 (1048576 - (z0 : Int)) w.heap.size _ F43.out (by omega) (by omega)
  rw [hz1] at SZ
  unfold szL at SZ
  rw [if_neg (by omega)] at SZ
  refine (toBelow0 SZ).mono ?_
  clear SZ
  rintro e w44 ⟨rfl, c45⟩
  have B46 := Lib.hid (below_then B39.out B39.out.size c45)
  have L47 := Lib.hid (Nat.le_trans L40.out (c45).size)
  have F48 := Lib.hid (F41.out.keep c45 L40.out)
  have L49 := Lib.hid (Nat.le_trans L42.out (c45).size)
  have F50 := Lib.hid (F43.out.keep c45 L42.out)
  clear B39 F41 F43 L40 L42
  clear c45
  have hr1 : 0 ≤ ((1048576 - (z0 : Int)) : Int) - (z1 : Int) := by omega
  clear hz0 hz1
  go_wp2_with fail
  refine (HT0 w44 F48.out B46.out.size).mono ?_
  rintro e w51 ⟨u54, rfl, k55, c52, s53⟩
  have F56 := Lib.hid (k55.mono (lo' := w44.heap.size) (hi' := w51.heap.size) (by omega) (by omega)).read
  have L57 := Lib.hid (Nat.le_refl w51.heap.size)
  clear k55 s53
  have B58 := Lib.hid (below_then B46.out B46.out.size c52)
  have L59 := Lib.hid (Nat.le_trans L47.out (c52).size)
  have F60 := Lib.hid (F48.out.keep c52 L47.out)
  have L61 := Lib.hid (Nat.le_trans L49.out (c52).size)
  have F62 := Lib.hid (F50.out.keep c52 L49.out)
  clear B46 F48 F50 L47 L49
  clear c52
  go_wp2_with fail
  refine (HT1 w51 F62.out B58.out.size).mono ?_
  rintro e w63 ⟨u66, rfl, k67, c64, s65⟩
  have F68 := Lib.hid (k67.mono (lo' := w51.heap.size) (hi' := w63.heap.size) (by omega) (by omega)).read
  have L69 := Lib.hid (Nat.le_refl w63.heap.size)
  clear k67 s65
  have B70 := Lib.hid (below_then B58.out B58.out.size c64)
  have L71 := Lib.hid (Nat.le_trans L59.out (c64).size)
  have F72 := Lib.hid (F60.out.keep c64 L59.out)
  have L73 := Lib.hid (Nat.le_trans L61.out (c64).size)
  have F74 := Lib.hid (F62.out.keep c64 L61.out)
  have L75 := Lib.hid (Nat.le_trans L57.out (c64).size)
  have F76 := Lib.hid (F56.out.keep c64 L57.out)
  clear B58 F60 F62 F56 L59 L61 L57
  clear c64
  go_wp2_with fail
  have SP := (fun a b u v => specAreMoved_any a b u v) l0 l1 u54 u66 w63.heap.size w63  (F76.out.upto L75.out) (F68.out.upto L69.out) (Nat.le_refl _)
  refine SP.mono ?_
  clear SP
  rintro e w77 ⟨rfl, c78⟩
  have B79 := Lib.hid (below_then B70.out B70.out.size c78)
  have L80 := Lib.hid (Nat.le_trans L71.out (c78).size)
  have F81 := Lib.hid (F72.out.keep c78 L71.out)
  have L82 := Lib.hid (Nat.le_trans L73.out (c78).size)
  have F83 := Lib.hid (F74.out.keep c78 L73.out)
  have L84 := Lib.hid (Nat.le_trans L75.out (c78).size)
  have F85 := Lib.hid (F76.out.keep c78 L75.out)
  have L86 := Lib.hid (Nat.le_trans L69.out (c78).size)
  have F87 := Lib.hid (F68.out.keep c78 L69.out)
  clear B70 F72 F74 F76 F68 L71 L73 L75 L69
  clear c78
  clear F85
  clear F87
  go_wp2_with fail
  refine (HT0 w77 F81.out B79.out.size).mono ?_
  rintro e w88 ⟨u91, rfl, k92, c89, s90⟩
  have F93 := Lib.hid (k92.mono (lo' := w77.heap.size) (hi' := w88.heap.size) (by omega) (by omega)).read
  have L94 := Lib.hid (Nat.le_refl w88.heap.size)
  clear k92 s90
  have B95 := Lib.hid (below_then B79.out B79.out.size c89)
  have L96 := Lib.hid (Nat.le_trans L80.out (c89).size)
  have F97 := Lib.hid (F81.out.keep c89 L80.out)
  have L98 := Lib.hid (Nat.le_trans L82.out (c89).size)
  have F99 := Lib.hid (F83.out.keep c89 L82.out)
  clear B79 F81 F83 L80 L82
  clear c89
  go_wp2_with fail
  refine (HT1 w88 F99.out B95.out.size).mono ?_
  rintro e w100 ⟨u103, rfl, k104, c101, s102⟩
  have F105 := Lib.hid (k104.mono (lo' := w88.heap.size) (hi' := w100.heap.size) (by omega) (by omega)).read
  have L106 := Lib.hid (Nat.le_refl w100.heap.size)
  clear k104 s102
  have B107 := Lib.hid (below_then B95.out B95.out.size c101)
  have L108 := Lib.hid (Nat.le_trans L96.out (c101).size)
  have F109 := Lib.hid (F97.out.keep c101 L96.out)
  have L110 := Lib.hid (Nat.le_trans L98.out (c101).size)
  have F111 := Lib.hid (F99.out.keep c101 L98.out)
  have L112 := Lib.hid (Nat.le_trans L94.out (c101).size)
  have F113 := Lib.hid (F93.out.keep c101 L94.out)
  clear B95 F97 F99 F93 L96 L98 L94
  clear c101
  go_wp2_with fail
  have SP := (fun a b u v => implAreMoved_any a b u v) l0 l1 u91 u103 w100.heap.size w100  (F113.out.upto L112.out) (F105.out.upto L106.out) (Nat.le_refl _)
  refine SP.mono ?_
  clear SP
  rintro e w114 ⟨rfl, c115⟩
  have B116 := Lib.hid (below_then B107.out B107.out.size c115)
  have L117 := Lib.hid (Nat.le_trans L108.out (c115).size)
  have F118 := Lib.hid (F109.out.keep c115 L108.out)
  have L119 := Lib.hid (Nat.le_trans L110.out (c115).size)
  have F120 := Lib.hid (F111.out.keep c115 L110.out)
  have L121 := Lib.hid (Nat.le_trans L112.out (c115).size)
  have F122 := Lib.hid (F113.out.keep c115 L112.out)
  have L123 := Lib.hid (Nat.le_trans L106.out (c115).size)
  have F124 := Lib.hid (F105.out.keep c115 L106.out)
  clear B107 F109 F111 F113 F105 L108 L110 L112 L106
  clear c115
  go_wp2_with fail
  refine (HT0 w114 F118.out B116.out.size).mono ?_
  rintro e w125 ⟨u128, rfl, k129, c126, s127⟩
  have F130 := Lib.hid (k129.mono (lo' := w114.heap.size) (hi' := w125.heap.size) (by omega) (by omega)).read
  have L131 := Lib.hid (Nat.le_refl w125.heap.size)
  clear k129 s127
  have B132 := Lib.hid (below_then B116.out B116.out.size c126)
  have L133 := Lib.hid (Nat.le_trans L117.out (c126).size)
  have F134 := Lib.hid (F118.out.keep c126 L117.out)
  have L135 := Lib.hid (Nat.le_trans L119.out (c126).size)
  have F136 := Lib.hid (F120.out.keep c126 L119.out)
  have L137 := Lib.hid (Nat.le_trans L121.out (c126).size)
  have F138 := Lib.hid (F122.out.keep c126 L121.out)
  have L139 := Lib.hid (Nat.le_trans L123.out (c126).size)
  have F140 := Lib.hid (F124.out.keep c126 L123.out)
  clear B116 F118 F120 F122 F124 L117 L119 L121 L123
  clear c126
  go_wp2_with fail
  have E := eqIntSS_any l0 l0 u91 u128 _ _ _ F138.out F130.out
  rw [decide_eq_true (rfl : l0 = l0)] at E
  refine (toBelow E).mono ?_
  clear E
  rintro e w141 ⟨rfl, c142⟩
  have B143 := Lib.hid (below_then B132.out B132.out.size c142)
  have L144 := Lib.hid (Nat.le_trans L133.out (c142).size)
  have F145 := Lib.hid (F134.out.keep c142 L133.out)
  have L146 := Lib.hid (Nat.le_trans L135.out (c142).size)
  have F147 := Lib.hid (F136.out.keep c142 L135.out)
  have L148 := Lib.hid (Nat.le_trans L137.out (c142).size)
  have F149 := Lib.hid (F138.out.keep c142 L137.out)
  have L150 := Lib.hid (Nat.le_trans L139.out (c142).size)
  have F151 := Lib.hid (F140.out.keep c142 L139.out)
  have L152 := Lib.hid (Nat.le_trans L131.out (c142).size)
  have F153 := Lib.hid (F130.out.keep c142 L131.out)
  clear B132 F134 F136 F138 F140 F130 L133 L135 L137 L139 L131
  clear c142
  clear F153
  go_wp2_with fail
  refine (HT1 w141 F147.out B143.out.size).mono ?_
  rintro e w154 ⟨u157, rfl, k158, c155, s156⟩
  have F159 := Lib.hid (k158.mono (lo' := w141.heap.size) (hi' := w154.heap.size) (by omega) (by omega)).read
  have L160 := Lib.hid (Nat.le_refl w154.heap.size)
  clear k158 s156
  have B161 := Lib.hid (below_then B143.out B143.out.size c155)
  have L162 := Lib.hid (Nat.le_trans L144.out (c155).size)
  have F163 := Lib.hid (F145.out.keep c155 L144.out)
  have L164 := Lib.hid (Nat.le_trans L146.out (c155).size)
  have F165 := Lib.hid (F147.out.keep c155 L146.out)
  have L166 := Lib.hid (Nat.le_trans L148.out (c155).size)
  have F167 := Lib.hid (F149.out.keep c155 L148.out)
  have L168 := Lib.hid (Nat.le_trans L150.out (c155).size)
  have F169 := Lib.hid (F151.out.keep c155 L150.out)
  clear B143 F145 F147 F149 F151 L144 L146 L148 L150
  clear c155
  go_wp2_with fail
  have E := eqIntSS_any l1 l1 u103 u157 _ _ _ F169.out F159.out
  rw [decide_eq_true (rfl : l1 = l1)] at E
  refine (toBelow E).mono ?_
  clear E
  rintro e w170 ⟨rfl, c171⟩
  have B172 := Lib.hid (below_then B161.out B161.out.size c171)
  have L173 := Lib.hid (Nat.le_trans L162.out (c171).size)
  have F174 := Lib.hid (F163.out.keep c171 L162.out)
  have L175 := Lib.hid (Nat.le_trans L164.out (c171).size)
  have F176 := Lib.hid (F165.out.keep c171 L164.out)
  have L177 := Lib.hid (Nat.le_trans L166.out (c171).size)
  have F178 := Lib.hid (F167.out.keep c171 L166.out)
  have L179 := Lib.hid (Nat.le_trans L168.out (c171).size)
  have F180 := Lib.hid (F169.out.keep c171 L168.out)
  have L181 := Lib.hid (Nat.le_trans L160.out (c171).size)
  have F182 := Lib.hid (F159.out.keep c171 L160.out)
  clear B161 F163 F165 F167 F169 F159 L162 L164 L166 L168 L160
  clear c171
  clear F182
  go_wp2
  go_ret
  exact ⟨rfl, B172.out⟩
end Go.Proofs.Ytgecnidndjbdaaa
