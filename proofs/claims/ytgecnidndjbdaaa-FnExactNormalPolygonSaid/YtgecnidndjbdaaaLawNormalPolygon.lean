/- The law on NormalPolygon: its walk. -/
import Derived.Test.YtgecnidndjbdaaaNrmX
import Derived.Test.YtgecnidndjbdaaaNrmY
import Derived.Test.YtgecnidndjbdaaaB1
import Derived.Test.YtgecnidndjbdaaaB2
import Derived.Deep.RegionHeld3
namespace Go.Proofs.Ytgecnidndjbdaaa
open Go.RowKit
set_option linter.unusedVariables false
set_option linter.unusedSimpArgs false

theorem totK_totL (ls : List (List Int)) : ∀ j, totK ls j = ls.length + totL ls j
  | 0 => rfl
  | j + 1 => by rw [show totK ls (j + 1) = totK ls j + (ls.getD j []).length from rfl, show totL ls (j + 1) = totL ls j + (ls.getD j []).length from rfl, totK_totL ls j, Nat.add_assoc]
theorem totL_le (ls : List (List Int)) : totL ls ls.length ≤ totS ls := by unfold totS; rw [totK_totL]; omega
theorem totL_pts {ls : List (List Int)} (h : ∀ i, i < ls.length → (ls.getD i []).length ≤ 2) : ∀ j, j ≤ ls.length → totL ls j ≤ 2 * j
  | 0, _ => by simp [totL]
  | j + 1, hj => by
    have := totL_pts h j (by omega)
    have := h j (by omega)
    rw [show totL ls (j + 1) = totL ls j + (ls.getD j []).length from rfl]; omega
theorem hullV_tot (ls : List (List Int)) : totL (hullV ls).1 (hullV ls).1.length ≤ 1000 ∧ (hullV ls).1.length ≤ 12 := by
  cases h : hullOk ls
  · rw [hullOk_no h]; simp [totL]
  · rw [hullOk_yes h]
    unfold hullOk at h; simp only [Bool.and_eq_true, inB_iff] at h
    have h2 : ∀ i, i < (hullR ls).length → ((hullR ls).getD i []).length ≤ 2 := fun i hi => by
      rw [List.getD_eq_getElem?_getD, List.getElem?_eq_getElem hi]
      have := List.getElem_mem hi
      unfold hullR at this
      obtain ⟨z, -, e⟩ := List.mem_map.1 this
      show (hullR ls)[i].length ≤ 2
      unfold hullR; rw [← e]; simp [rowP]
    have := totL_pts h2 _ (Nat.le_refl _)
    show totL (hullR ls) (hullR ls).length ≤ 1000 ∧ (hullR ls).length ≤ 12
    omega
theorem bsK_tot (ls : List (List Int)) : ∀ j, totL (bsK ls j) (bsK ls j).length ≤ 1000 ∧ (bsK ls j).length ≤ 12
  | 0 => by simp [bsK, totL]
  | j + 1 => by
    unfold bsK updL
    split
    · exact hullV_tot _
    · split
      · exact hullV_tot _
      · exact bsK_tot ls j
theorem nrV_tot (ls : List (List Int)) : totL (nrV ls).1 (nrV ls).1.length ≤ 1000 ∧ (nrV ls).1.length ≤ 12 := by
  unfold nrV
  split
  · exact bsK_tot _ _
  · simp [totL]

set_option maxHeartbeats 8000000 in
theorem lawNormalPolygon (v0 : Value) (l0 : List (List Int)) (w : World) (h0 : ISSr w w.heap.size v0 l0) :
    Calls Try.prog 8 #[v0] w fun e w' => e = .returned (.bool true) ∧ Below w.heap.size w w' := by
  have b0 := Below.refl w.heap.size w
  obtain ⟨z0, hz0⟩ : ∃ z : Nat, z = (totS l0) := ⟨_, rfl⟩
  by_cases hZ0 : z0 ≤ 1048576
  case neg =>
    have HZZ0 := Lib.hid hz0
    clear hz0
    go_enter Try.func8, Try.ntmps8
    have B1 := Lib.hid b0
    have F2 := Lib.hid (h0.keep b0 (Nat.le_refl _))
    have L3 := Lib.hid (b0.size)
    clear b0 h0
    go_wp2_with fail
    have SZ := szIntSS_any l0 v0 1048576 w.heap.size _ F2.out (by omega) (by omega)
    rw [← HZZ0.out] at SZ
    unfold szL at SZ
    rw [if_pos (by omega)] at SZ
    refine (toBelow0 SZ).mono ?_
    clear SZ
    rintro e w4 ⟨rfl, c5⟩
    have Z6 := Lib.hid (show w.heap.size ≤ w4.heap.size from (c5).size)
    have B7 := Lib.hid (below_then B1.out B1.out.size c5)
    have L8 := Lib.hid (Nat.le_trans L3.out (c5).size)
    have F9 := Lib.hid (F2.out.keep c5 L3.out)
    clear B1 F2 L3
    clear c5
    go_wp2
    go_ret
    exact ⟨rfl, B7.out⟩
  have HT0 := fun w' (j1 : ISSr w' w.heap.size v0 l0) (hs : w.heap.size ≤ w'.heap.size) => toIntSS_any l0 v0 w.heap.size w' j1 hs (totS_len (ls := l0) (B := 1048576) (by omega)).1 (totS_len (ls := l0) (B := 1048576) (by omega)).2
  have ht0 : totL l0 l0.length ≤ 1048576 := Nat.le_trans (totL_le l0) (by omega)
  have hRb := nrV_tot l0
  obtain ⟨pp, hP⟩ : ∃ p, nrV l0 = p := ⟨_, rfl⟩
  rw [hP] at hRb
  obtain ⟨RL, ok⟩ := pp
  dsimp only at hRb
  have HZZ0 := Lib.hid hz0
  clear hz0
  go_enter Try.func8, Try.ntmps8
  have B10 := Lib.hid b0
  have F11 := Lib.hid (h0.keep b0 (Nat.le_refl _))
  have L12 := Lib.hid (b0.size)
  clear b0 h0
  go_wp2_with fail
  have SZ := szIntSS_any l0 v0 1048576 w.heap.size _ F11.out (by omega) (by omega)
  rw [← HZZ0.out] at SZ
  unfold szL at SZ
  rw [if_neg (by omega)] at SZ
  refine (toBelow0 SZ).mono ?_
  clear SZ
  rintro e w13 ⟨rfl, c14⟩
  have Z15 := Lib.hid (show w.heap.size ≤ w13.heap.size from (c14).size)
  have B16 := Lib.hid (below_then B10.out B10.out.size c14)
  have L17 := Lib.hid (Nat.le_trans L12.out (c14).size)
  have F18 := Lib.hid (F11.out.keep c14 L12.out)
  clear B10 F11 L12
  clear c14
  have hr0 : 0 ≤ (1048576 : Int) - (z0 : Int) := by omega
  clear HZZ0
  go_wp2_with fail
  refine (HT0 w13 F18.out B16.out.size).mono ?_
  rintro e w19 ⟨u22, rfl, k23, c20, s21⟩
  have F24 := Lib.hid (k23.mono (lo' := w13.heap.size) (hi' := w19.heap.size) (by omega) (by omega))
  have L25 := Lib.hid (Nat.le_refl w19.heap.size)
  have Y26 := Lib.hid (show w13.heap.size ≤ w19.heap.size from c20.size)
  clear k23 s21
  have Z27 := Lib.hid (show w13.heap.size ≤ w19.heap.size from (c20).size)
  have B28 := Lib.hid (below_then B16.out B16.out.size c20)
  have L29 := Lib.hid (Nat.le_trans L17.out (c20).size)
  have F30 := Lib.hid (F18.out.keep c20 L17.out)
  clear B16 F18 L17
  clear c20
  go_wp2_with fail
  have SP := specNormal_any l0 u22 w19.heap.size w19  ((F24.out.read).upto L25.out) (Nat.le_refl _)
  rw [hP] at SP
  try dsimp only at SP
  refine SP.mono ?_
  clear SP
  rintro e w31 ⟨u34, rfl, k33, c32⟩
  have F35 := Lib.hid k33
  have L36 := Lib.hid (Nat.le_refl w31.heap.size)
  have Y37 := Lib.hid (show w19.heap.size ≤ w31.heap.size from c32.size)
  clear k33
  have Z38 := Lib.hid (show w19.heap.size ≤ w31.heap.size from (c32).size)
  have B39 := Lib.hid (below_then B28.out B28.out.size c32)
  have L40 := Lib.hid (Nat.le_trans L29.out (c32).size)
  have F41 := Lib.hid (F30.out.keep c32 L29.out)
  have L42 := Lib.hid (Nat.le_trans L25.out (c32).size)
  have F43 := Lib.hid (F24.out.keep c32 L25.out)
  clear B28 F30 F24 L29 L25
  clear c32
  clear F43
  go_wp2_with fail
  refine (HT0 w31 F41.out B39.out.size).mono ?_
  rintro e w44 ⟨u47, rfl, k48, c45, s46⟩
  have F49 := Lib.hid (k48.mono (lo' := w31.heap.size) (hi' := w44.heap.size) (by omega) (by omega))
  have L50 := Lib.hid (Nat.le_refl w44.heap.size)
  have Y51 := Lib.hid (show w31.heap.size ≤ w44.heap.size from c45.size)
  clear k48 s46
  have Z52 := Lib.hid (show w31.heap.size ≤ w44.heap.size from (c45).size)
  have B53 := Lib.hid (below_then B39.out B39.out.size c45)
  have L54 := Lib.hid (Nat.le_trans L40.out (c45).size)
  have F55 := Lib.hid (F41.out.keep c45 L40.out)
  have L56 := Lib.hid (Nat.le_trans L36.out (c45).size)
  have F57 := Lib.hid (F35.out.keep c45 L36.out)
  clear B39 F41 F35 L40 L36
  clear c45
  go_wp2_with fail
  have SP := implNormal_any l0 u47 w44.heap.size w44  ((F49.out.read).upto L50.out) (Nat.le_refl _)
  rw [hP] at SP
  try dsimp only at SP
  refine SP.mono ?_
  clear SP
  rintro e w58 ⟨u61, rfl, k60, c59⟩
  have F62 := Lib.hid k60
  have L63 := Lib.hid (Nat.le_refl w58.heap.size)
  have Y64 := Lib.hid (show w44.heap.size ≤ w58.heap.size from c59.size)
  clear k60
  have Z65 := Lib.hid (show w44.heap.size ≤ w58.heap.size from (c59).size)
  have B66 := Lib.hid (below_then B53.out B53.out.size c59)
  have L67 := Lib.hid (Nat.le_trans L54.out (c59).size)
  have F68 := Lib.hid (F55.out.keep c59 L54.out)
  have L69 := Lib.hid (Nat.le_trans L56.out (c59).size)
  have F70 := Lib.hid (F57.out.keep c59 L56.out)
  have L71 := Lib.hid (Nat.le_trans L50.out (c59).size)
  have F72 := Lib.hid (F49.out.keep c59 L50.out)
  clear B53 F55 F57 F49 L54 L56 L50
  clear c59
  go_wp2_with fail
  have E := eqIntSS_any RL RL u61 u34 _ _ w58 (F62.out.read) (F70.out.read)
  rw [decide_eq_true (rfl : RL = RL)] at E
  refine (toBelow E).mono ?_
  clear E
  rintro e w73 ⟨rfl, c74⟩
  have Z75 := Lib.hid (show w58.heap.size ≤ w73.heap.size from (c74).size)
  have B76 := Lib.hid (below_then B66.out B66.out.size c74)
  have L77 := Lib.hid (Nat.le_trans L67.out (c74).size)
  have F78 := Lib.hid (F68.out.keep c74 L67.out)
  have L79 := Lib.hid (Nat.le_trans L69.out (c74).size)
  have F80 := Lib.hid (F70.out.keep c74 L69.out)
  have L81 := Lib.hid (Nat.le_trans L71.out (c74).size)
  have F82 := Lib.hid (F72.out.keep c74 L71.out)
  have L83 := Lib.hid (Nat.le_trans L63.out (c74).size)
  have F84 := Lib.hid (F62.out.keep c74 L63.out)
  clear B66 F68 F70 F72 F62 L67 L69 L71 L63
  clear c74
  go_wp2_with fail
  refine (HT0 w73 F78.out B76.out.size).mono ?_
  rintro e w85 ⟨u88, rfl, k89, c86, s87⟩
  have F90 := Lib.hid (k89.mono (lo' := w73.heap.size) (hi' := w85.heap.size) (by omega) (by omega))
  have L91 := Lib.hid (Nat.le_refl w85.heap.size)
  have Y92 := Lib.hid (show w73.heap.size ≤ w85.heap.size from c86.size)
  clear k89 s87
  have Z93 := Lib.hid (show w73.heap.size ≤ w85.heap.size from (c86).size)
  have B94 := Lib.hid (below_then B76.out B76.out.size c86)
  have L95 := Lib.hid (Nat.le_trans L77.out (c86).size)
  have F96 := Lib.hid (F78.out.keep c86 L77.out)
  have L97 := Lib.hid (Nat.le_trans L79.out (c86).size)
  have F98 := Lib.hid (F80.out.keep c86 L79.out)
  have L99 := Lib.hid (Nat.le_trans L81.out (c86).size)
  have F100 := Lib.hid (F82.out.keep c86 L81.out)
  have L101 := Lib.hid (Nat.le_trans L83.out (c86).size)
  have F102 := Lib.hid (F84.out.keep c86 L83.out)
  clear B76 F78 F80 F82 F84 L77 L79 L81 L83
  clear c86
  go_wp2_with fail
  have E := eqIntSS_any l0 l0 u47 u88 _ _ _ (F100.out.read) (F90.out.read)
  rw [decide_eq_true (rfl : l0 = l0)] at E
  refine (toBelow E).mono ?_
  clear E
  rintro e w103 ⟨rfl, c104⟩
  have Z105 := Lib.hid (show w85.heap.size ≤ w103.heap.size from (c104).size)
  have B106 := Lib.hid (below_then B94.out B94.out.size c104)
  have L107 := Lib.hid (Nat.le_trans L95.out (c104).size)
  have F108 := Lib.hid (F96.out.keep c104 L95.out)
  have L109 := Lib.hid (Nat.le_trans L97.out (c104).size)
  have F110 := Lib.hid (F98.out.keep c104 L97.out)
  have L111 := Lib.hid (Nat.le_trans L99.out (c104).size)
  have F112 := Lib.hid (F100.out.keep c104 L99.out)
  have L113 := Lib.hid (Nat.le_trans L101.out (c104).size)
  have F114 := Lib.hid (F102.out.keep c104 L101.out)
  have L115 := Lib.hid (Nat.le_trans L91.out (c104).size)
  have F116 := Lib.hid (F90.out.keep c104 L91.out)
  clear B94 F96 F98 F100 F102 F90 L95 L97 L99 L101 L91
  clear c104
  clear F116
  go_wp2_with fail
  have M := markIntSS_any l0 u47 w31.heap.size w44.heap.size 1 w103 F112.out (by omega) (by  omega)
  refine M.mono ?_
  clear M
  rintro e w117 ⟨rfl, k118, o119⟩
  have F121 := Lib.hid k118
  clear k118
  have hK120 : 0 ≤ 1 + (totL l0 l0.length : Int) ∧ 1 + (totL l0 l0.length : Int) ≤ 10000000000 := by  omega
  have Z122 := Lib.hid (show w103.heap.size ≤ w117.heap.size from o119.size)
  have B123 := Lib.hid (Only.base B106.out o119 (by have := Z15.out; have := Z27.out; have := Z38.out; have := Z52.out; have := Z65.out; have := Z75.out; have := Z93.out; have := Z105.out; have := L111.out; have := Y51.out; omega) (by have := Z15.out; have := Z27.out; have := Z38.out; have := Z52.out; have := Z65.out; have := Z75.out; have := Z93.out; have := Z105.out; have := L111.out; have := Y51.out; omega))
  have L124 := Lib.hid (Nat.le_trans L107.out o119.size)
  have L125 := Lib.hid (Nat.le_trans L109.out o119.size)
  have L126 := Lib.hid (Nat.le_trans L111.out o119.size)
  have L127 := Lib.hid (Nat.le_trans L113.out o119.size)
  have F128 := Lib.hid (F108.out.keep (o119.below (by have := Z15.out; have := Z27.out; have := Z38.out; have := Z52.out; have := Z65.out; have := Z75.out; have := Z93.out; have := Z105.out; have := L111.out; have := Y51.out; omega)) (by have := Z15.out; have := Z27.out; have := Z38.out; have := Z52.out; have := Z65.out; have := Z75.out; have := Z93.out; have := Z105.out; have := L111.out; have := Y51.out; omega))
  have F129 := Lib.hid (F110.out.keep (o119.below (by have := Z15.out; have := Z27.out; have := Z38.out; have := Z52.out; have := Z65.out; have := Z75.out; have := Z93.out; have := Z105.out; have := L111.out; have := Y51.out; omega)) (by have := Z15.out; have := Z27.out; have := Z38.out; have := Z52.out; have := Z65.out; have := Z75.out; have := Z93.out; have := Z105.out; have := L111.out; have := Y51.out; omega))
  have F130 := Lib.hid (F114.out.only o119 (.inr (by have := Z15.out; have := Z27.out; have := Z38.out; have := Z52.out; have := Z65.out; have := Z75.out; have := Z93.out; have := Z105.out; have := L111.out; have := Y51.out; omega)))
  clear B106 F108 F110 F114 L107 L109 L111 L113 F112 o119
  clear F121
  generalize 1 + (totL l0 l0.length : Int) = K120 at *
  have hdK120 : decide (K120 < 0) = false := by rw [decide_eq_false_iff_not]; omega
  go_wp2_with fail
  have E := eqIntSS_any RL RL u61 u34 _ _ w117 (F130.out.read) (F129.out.read)
  rw [decide_eq_true (rfl : RL = RL)] at E
  refine (toBelow E).mono ?_
  clear E
  rintro e w131 ⟨rfl, c132⟩
  have Z133 := Lib.hid (show w117.heap.size ≤ w131.heap.size from (c132).size)
  have B134 := Lib.hid (below_then B123.out B123.out.size c132)
  have L135 := Lib.hid (Nat.le_trans L124.out (c132).size)
  have F136 := Lib.hid (F128.out.keep c132 L124.out)
  have L137 := Lib.hid (Nat.le_trans L125.out (c132).size)
  have F138 := Lib.hid (F129.out.keep c132 L125.out)
  have L139 := Lib.hid (Nat.le_trans L127.out (c132).size)
  have F140 := Lib.hid (F130.out.keep c132 L127.out)
  clear B123 F128 F129 F130 L124 L125 L127
  clear c132
  go_wp2_with fail
  have M := markIntSS_any RL u61 w44.heap.size w58.heap.size 1 w131 F140.out (by omega) (by  omega)
  refine M.mono ?_
  clear M
  rintro e w141 ⟨rfl, k142, o143⟩
  have F145 := Lib.hid k142
  clear k142
  have hK144 : 0 ≤ 1 + (totL RL RL.length : Int) ∧ 1 + (totL RL RL.length : Int) ≤ 20000000000 := by  omega
  have Z146 := Lib.hid (show w131.heap.size ≤ w141.heap.size from o143.size)
  have B147 := Lib.hid (Only.base B134.out o143 (by have := Z15.out; have := Z27.out; have := Z38.out; have := Z52.out; have := Z65.out; have := Z75.out; have := Z93.out; have := Z105.out; have := Z122.out; have := Z133.out; have := L139.out; have := Y64.out; omega) (by have := Z15.out; have := Z27.out; have := Z38.out; have := Z52.out; have := Z65.out; have := Z75.out; have := Z93.out; have := Z105.out; have := Z122.out; have := Z133.out; have := L139.out; have := Y64.out; omega))
  have L148 := Lib.hid (Nat.le_trans L135.out o143.size)
  have L149 := Lib.hid (Nat.le_trans L137.out o143.size)
  have L150 := Lib.hid (Nat.le_trans L139.out o143.size)
  have F151 := Lib.hid (F136.out.keep (o143.below (by have := Z15.out; have := Z27.out; have := Z38.out; have := Z52.out; have := Z65.out; have := Z75.out; have := Z93.out; have := Z105.out; have := Z122.out; have := Z133.out; have := L139.out; have := Y64.out; omega)) (by have := Z15.out; have := Z27.out; have := Z38.out; have := Z52.out; have := Z65.out; have := Z75.out; have := Z93.out; have := Z105.out; have := Z122.out; have := Z133.out; have := L139.out; have := Y64.out; omega))
  have F152 := Lib.hid (F138.out.keep (o143.below (by have := Z15.out; have := Z27.out; have := Z38.out; have := Z52.out; have := Z65.out; have := Z75.out; have := Z93.out; have := Z105.out; have := Z122.out; have := Z133.out; have := L139.out; have := Y64.out; omega)) (by have := Z15.out; have := Z27.out; have := Z38.out; have := Z52.out; have := Z65.out; have := Z75.out; have := Z93.out; have := Z105.out; have := Z122.out; have := Z133.out; have := L139.out; have := Y64.out; omega))
  clear B134 F136 F138 L135 L137 L139 F140 o143
  go_wp2_with fail
  have Q := toBelow0 (heldIntSS_any RL u61 w141.heap.size 1 w141 ((F145.out.read).upto L150.out) (by omega) (by omega))
  have hq : decide (1 + (totL RL RL.length : Int) < 0) = false := by rw [decide_eq_false_iff_not]; omega
  refine Q.mono ?_
  clear Q
  rintro e w153 ⟨rfl, c154⟩
  have Z155 := Lib.hid (show w141.heap.size ≤ w153.heap.size from (c154).size)
  have B156 := Lib.hid (below_then B147.out B147.out.size c154)
  have L157 := Lib.hid (Nat.le_trans L148.out (c154).size)
  have F158 := Lib.hid (F151.out.keep c154 L148.out)
  have L159 := Lib.hid (Nat.le_trans L149.out (c154).size)
  have F160 := Lib.hid (F152.out.keep c154 L149.out)
  have L161 := Lib.hid (Nat.le_trans L150.out (c154).size)
  have F162 := Lib.hid (F145.out.keep c154 L150.out)
  clear B147 F151 F152 F145 L148 L149 L150
  clear c154
  go_wp2_with fail
  refine (HT0 w153 F158.out B156.out.size).mono ?_
  rintro e w163 ⟨u166, rfl, k167, c164, s165⟩
  have F168 := Lib.hid (k167.mono (lo' := w153.heap.size) (hi' := w163.heap.size) (by omega) (by omega))
  have L169 := Lib.hid (Nat.le_refl w163.heap.size)
  have Y170 := Lib.hid (show w153.heap.size ≤ w163.heap.size from c164.size)
  clear k167 s165
  have Z171 := Lib.hid (show w153.heap.size ≤ w163.heap.size from (c164).size)
  have B172 := Lib.hid (below_then B156.out B156.out.size c164)
  have L173 := Lib.hid (Nat.le_trans L157.out (c164).size)
  have F174 := Lib.hid (F158.out.keep c164 L157.out)
  have L175 := Lib.hid (Nat.le_trans L159.out (c164).size)
  have F176 := Lib.hid (F160.out.keep c164 L159.out)
  have L177 := Lib.hid (Nat.le_trans L161.out (c164).size)
  have F178 := Lib.hid (F162.out.keep c164 L161.out)
  clear B156 F158 F160 F162 L157 L159 L161
  clear c164
  go_wp2_with fail
  have SP := implNormal_any l0 u166 w163.heap.size w163  ((F168.out.read).upto L169.out) (Nat.le_refl _)
  rw [hP] at SP
  try dsimp only at SP
  refine SP.mono ?_
  clear SP
  rintro e w179 ⟨u182, rfl, k181, c180⟩
  have F183 := Lib.hid k181
  have L184 := Lib.hid (Nat.le_refl w179.heap.size)
  have Y185 := Lib.hid (show w163.heap.size ≤ w179.heap.size from c180.size)
  clear k181
  have Z186 := Lib.hid (show w163.heap.size ≤ w179.heap.size from (c180).size)
  have B187 := Lib.hid (below_then B172.out B172.out.size c180)
  have L188 := Lib.hid (Nat.le_trans L173.out (c180).size)
  have F189 := Lib.hid (F174.out.keep c180 L173.out)
  have L190 := Lib.hid (Nat.le_trans L175.out (c180).size)
  have F191 := Lib.hid (F176.out.keep c180 L175.out)
  have L192 := Lib.hid (Nat.le_trans L177.out (c180).size)
  have F193 := Lib.hid (F178.out.keep c180 L177.out)
  have L194 := Lib.hid (Nat.le_trans L169.out (c180).size)
  have F195 := Lib.hid (F168.out.keep c180 L169.out)
  clear B172 F174 F176 F178 F168 L173 L175 L177 L169
  clear c180
  go_wp2_with fail
  have E := eqIntSS_any RL RL u182 u34 _ _ w179 (F183.out.read) (F191.out.read)
  rw [decide_eq_true (rfl : RL = RL)] at E
  refine (toBelow E).mono ?_
  clear E
  rintro e w196 ⟨rfl, c197⟩
  have Z198 := Lib.hid (show w179.heap.size ≤ w196.heap.size from (c197).size)
  have B199 := Lib.hid (below_then B187.out B187.out.size c197)
  have L200 := Lib.hid (Nat.le_trans L188.out (c197).size)
  have F201 := Lib.hid (F189.out.keep c197 L188.out)
  have L202 := Lib.hid (Nat.le_trans L190.out (c197).size)
  have F203 := Lib.hid (F191.out.keep c197 L190.out)
  have L204 := Lib.hid (Nat.le_trans L192.out (c197).size)
  have F205 := Lib.hid (F193.out.keep c197 L192.out)
  have L206 := Lib.hid (Nat.le_trans L194.out (c197).size)
  have F207 := Lib.hid (F195.out.keep c197 L194.out)
  have L208 := Lib.hid (Nat.le_trans L184.out (c197).size)
  have F209 := Lib.hid (F183.out.keep c197 L184.out)
  clear B187 F189 F191 F193 F195 F183 L188 L190 L192 L194 L184
  clear c197
  go_wp2_with fail
  have Q := toBelow0 (heldIntSS_any RL u61 w196.heap.size 1 w196 ((F205.out.read).upto L204.out) (by omega) (by omega))
  have hq : decide (1 + (totL RL RL.length : Int) < 0) = false := by rw [decide_eq_false_iff_not]; omega
  refine Q.mono ?_
  clear Q
  rintro e w210 ⟨rfl, c211⟩
  have Z212 := Lib.hid (show w196.heap.size ≤ w210.heap.size from (c211).size)
  have B213 := Lib.hid (below_then B199.out B199.out.size c211)
  have L214 := Lib.hid (Nat.le_trans L200.out (c211).size)
  have F215 := Lib.hid (F201.out.keep c211 L200.out)
  have L216 := Lib.hid (Nat.le_trans L202.out (c211).size)
  have F217 := Lib.hid (F203.out.keep c211 L202.out)
  have L218 := Lib.hid (Nat.le_trans L204.out (c211).size)
  have F219 := Lib.hid (F205.out.keep c211 L204.out)
  have L220 := Lib.hid (Nat.le_trans L206.out (c211).size)
  have F221 := Lib.hid (F207.out.keep c211 L206.out)
  have L222 := Lib.hid (Nat.le_trans L208.out (c211).size)
  have F223 := Lib.hid (F209.out.keep c211 L208.out)
  clear B199 F201 F203 F205 F207 F209 L200 L202 L204 L206 L208
  clear c211
  go_wp2
  go_ret
  exact ⟨rfl, B213.out⟩
end Go.Proofs.Ytgecnidndjbdaaa
