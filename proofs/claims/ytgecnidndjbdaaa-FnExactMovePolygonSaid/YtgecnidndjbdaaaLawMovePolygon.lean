/- The law on MovePolygon: its walk. -/
import Derived.Test.YtgecnidndjbdaaaMvP
import Derived.Test.YtgecnidndjbdaaaOpenM
import Derived.Test.YtgecnidndjbdaaaB1
import Derived.Test.YtgecnidndjbdaaaB2
import Derived.Deep.RegionHeld3
namespace Go.Proofs.Ytgecnidndjbdaaa
open Go.RowKit
set_option linter.unusedVariables false
set_option linter.unusedSimpArgs false

theorem totK_totL (ls : List (List Int)) : ∀ j, totK ls j = ls.length + totL ls j
  | 0 => rfl
  | j + 1 => by rw [show totK ls (j + 1) = totK ls j + (ls.getD j []).length from rfl, show totL ls (j + 1) = totL ls j + (ls.getD j []).length from rfl, totK_totL ls j, Nat.add_assoc]
theorem totL_le (ls : List (List Int)) : totL ls ls.length ≤ totS ls := by unfold totS; rw [totK_totL]; omega
theorem totL_pts {ls : List (List Int)} (h : ∀ i, i < ls.length → (ls.getD i []).length ≤ 2) : ∀ j, j ≤ ls.length → totL ls j ≤ 2 * j
  | 0, _ => by simp [totL]
  | j + 1, hj => by
    have := totL_pts h j (by omega)
    have := h j (by omega)
    rw [show totL ls (j + 1) = totL ls j + (ls.getD j []).length from rfl]; omega
theorem hullV_tot (ls : List (List Int)) : totL (hullV ls).1 (hullV ls).1.length ≤ 1000 ∧ (hullV ls).1.length ≤ 12 := by
  cases h : hullOk ls
  · rw [hullOk_no h]; simp [totL]
  · rw [hullOk_yes h]
    unfold hullOk at h; simp only [Bool.and_eq_true, inB_iff] at h
    have h2 : ∀ i, i < (hullR ls).length → ((hullR ls).getD i []).length ≤ 2 := fun i hi => by
      rw [List.getD_eq_getElem?_getD, List.getElem?_eq_getElem hi]
      have := List.getElem_mem hi
      unfold hullR at this
      obtain ⟨z, -, e⟩ := List.mem_map.1 this
      show (hullR ls)[i].length ≤ 2
      unfold hullR; rw [← e]; simp [rowP]
    have := totL_pts h2 _ (Nat.le_refl _)
    show totL (hullR ls) (hullR ls).length ≤ 1000 ∧ (hullR ls).length ≤ 12
    omega
theorem mvV_tot (U : List (List Int)) (V : List Int) (ls : List (List Int)) : totL (mvV U V ls).1 (mvV U V ls).1.length ≤ 1000 ∧ (mvV U V ls).1.length ≤ 12 := by
  unfold mvV
  split
  · exact hullV_tot _
  · simp [totL]

set_option maxHeartbeats 8000000 in
theorem lawMovePolygon (v0 : Value) (y0 : List (List Int) × List Int) (v1 : Value) (l1 : List (List Int)) (w : World) (h0 : MoveR w w.heap.size v0 y0) (h1 : ISSr w w.heap.size v1 l1) :
    Calls Try.prog 7 #[v0, v1] w fun e w' => e = .returned (.bool true) ∧ Below w.heap.size w w' := by
  obtain ⟨M0, V0⟩ := y0
  obtain ⟨r0, t0, rfl, i0, j0⟩ := h0
  simp only at i0 j0
  have b0 := below1 w (.cells #[r0, t0] 25)
  obtain ⟨z0, hz0⟩ : ∃ z : Nat, z = (totS M0 + V0.length) := ⟨_, rfl⟩
  obtain ⟨z1, hz1⟩ : ∃ z : Nat, z = (totS l1) := ⟨_, rfl⟩
  by_cases hZ0 : z0 ≤ 1048576
  case neg =>
    have HZZ0 := Lib.hid hz0
    clear hz0
    have HZZ1 := Lib.hid hz1
    clear hz1
    go_enter Try.func7, Try.ntmps7
    have B1 := Lib.hid b0
    have Z2 := Lib.hid (show w.heap.size + 1 ≤ ((w.alloc (.cells #[r0, t0] 25))).heap.size by simp)
    have F3 := Lib.hid (i0.keep b0 (Nat.le_refl _))
    have L4 := Lib.hid (b0.size)
    have F5 := Lib.hid (j0.keep b0 (Nat.le_refl _))
    have L6 := Lib.hid (b0.size)
    have F7 := Lib.hid (h1.keep b0 (Nat.le_refl _))
    have L8 := Lib.hid (b0.size)
    have X9 := Lib.hid (box2_new w r0 t0 25)
    have x10 := X9.out.c0
    have x11 := X9.out.c1
    clear b0 i0 j0 h1
    go_wp2_with fail
    have SZ := szMove_any M0 V0 r0 t0 w.heap.size _ F3.out F5.out (B1.out.size)
    rw [← HZZ0.out] at SZ
    unfold szTot at SZ
    rw [if_neg hZ0] at SZ
    refine SZ.mono ?_
    clear SZ
    rintro e w12 ⟨rfl, c13⟩
    have Z14 := Lib.hid (show (w.alloc (.cells #[r0, t0] 25)).heap.size ≤ w12.heap.size from (c13).size)
    have B15 := Lib.hid (below_then B1.out B1.out.size c13)
    have L16 := Lib.hid (Nat.le_trans L4.out (c13).size)
    have F17 := Lib.hid (F3.out.keep c13 L4.out)
    have L18 := Lib.hid (Nat.le_trans L6.out (c13).size)
    have F19 := Lib.hid (F5.out.keep c13 L6.out)
    have L20 := Lib.hid (Nat.le_trans L8.out (c13).size)
    have F21 := Lib.hid (F7.out.keep c13 L8.out)
    have X22 := Lib.hid (X9.out.keep c13)
    have x23 := X22.out.c0
    have x24 := X22.out.c1
    clear B1 F3 F5 F7 L4 L6 L8 x10 x11 X9
    clear c13
    go_wp2
    go_ret
    exact ⟨rfl, B15.out⟩
  by_cases hZ1 : z0 + z1 ≤ 1048576
  case neg =>
    have HZZ0 := Lib.hid hz0
    clear hz0
    have HZZ1 := Lib.hid hz1
    clear hz1
    go_enter Try.func7, Try.ntmps7
    have B25 := Lib.hid b0
    have Z26 := Lib.hid (show w.heap.size + 1 ≤ ((w.alloc (.cells #[r0, t0] 25))).heap.size by simp)
    have F27 := Lib.hid (i0.keep b0 (Nat.le_refl _))
    have L28 := Lib.hid (b0.size)
    have F29 := Lib.hid (j0.keep b0 (Nat.le_refl _))
    have L30 := Lib.hid (b0.size)
    have F31 := Lib.hid (h1.keep b0 (Nat.le_refl _))
    have L32 := Lib.hid (b0.size)
    have X33 := Lib.hid (box2_new w r0 t0 25)
    have x34 := X33.out.c0
    have x35 := X33.out.c1
    clear b0 i0 j0 h1
    go_wp2_with fail
    have SZ := szMove_any M0 V0 r0 t0 w.heap.size _ F27.out F29.out (B25.out.size)
    rw [← HZZ0.out] at SZ
    unfold szTot at SZ
    rw [if_pos hZ0] at SZ
    refine SZ.mono ?_
    clear SZ
    rintro e w36 ⟨rfl, c37⟩
    have Z38 := Lib.hid (show (w.alloc (.cells #[r0, t0] 25)).heap.size ≤ w36.heap.size from (c37).size)
    have B39 := Lib.hid (below_then B25.out B25.out.size c37)
    have L40 := Lib.hid (Nat.le_trans L28.out (c37).size)
    have F41 := Lib.hid (F27.out.keep c37 L28.out)
    have L42 := Lib.hid (Nat.le_trans L30.out (c37).size)
    have F43 := Lib.hid (F29.out.keep c37 L30.out)
    have L44 := Lib.hid (Nat.le_trans L32.out (c37).size)
    have F45 := Lib.hid (F31.out.keep c37 L32.out)
    have X46 := Lib.hid (X33.out.keep c37)
    have x47 := X46.out.c0
    have x48 := X46.out.c1
    clear B25 F27 F29 F31 L28 L30 L32 x34 x35 X33
    clear c37
    have hr0 : 0 ≤ (1048576 : Int) - (z0 : Int) := by omega
    go_wp2_with fail
    have SZ := szIntSS_any l1 v1 (1048576 - (z0 : Int)) w.heap.size _ F45.out (by omega) (by omega)
    rw [← HZZ1.out] at SZ
    unfold szL at SZ
    rw [if_pos (by omega)] at SZ
    refine (toBelow0 SZ).mono ?_
    clear SZ
    rintro e w49 ⟨rfl, c50⟩
    have Z51 := Lib.hid (show w36.heap.size ≤ w49.heap.size from (c50).size)
    have B52 := Lib.hid (below_then B39.out B39.out.size c50)
    have L53 := Lib.hid (Nat.le_trans L40.out (c50).size)
    have F54 := Lib.hid (F41.out.keep c50 L40.out)
    have L55 := Lib.hid (Nat.le_trans L42.out (c50).size)
    have F56 := Lib.hid (F43.out.keep c50 L42.out)
    have L57 := Lib.hid (Nat.le_trans L44.out (c50).size)
    have F58 := Lib.hid (F45.out.keep c50 L44.out)
    have X59 := Lib.hid (X46.out.keep c50)
    have x60 := X59.out.c0
    have x61 := X59.out.c1
    clear B39 F41 F43 F45 L40 L42 L44 x47 x48 X46
    clear c50
    go_wp2
    go_ret
    exact ⟨rfl, B52.out⟩
  have HT0 := fun w' (j1 : ISSr w' w.heap.size r0 M0) (j2 : ISr w' w.heap.size t0 V0) (hs : w.heap.size ≤ w'.heap.size) => toMove_any M0 V0 r0 t0 w.heap.size w' j1 j2 hs (totS_len (ls := M0) (B := 1048576) (by omega)).1 (totS_len (ls := M0) (B := 1048576) (by omega)).2 (by omega)
  have ht0 : totL M0 M0.length ≤ 1048576 := Nat.le_trans (totL_le M0) (by omega)
  have hl0 : V0.length ≤ 1048576 := by omega
  have HT1 := fun w' (j1 : ISSr w' w.heap.size v1 l1) (hs : w.heap.size ≤ w'.heap.size) => toIntSS_any l1 v1 w.heap.size w' j1 hs (totS_len (ls := l1) (B := 1048576) (by omega)).1 (totS_len (ls := l1) (B := 1048576) (by omega)).2
  have ht1 : totL l1 l1.length ≤ 1048576 := Nat.le_trans (totL_le l1) (by omega)
  have hRb := mvV_tot M0 V0 l1
  obtain ⟨pp, hP⟩ : ∃ p, mvV M0 V0 l1 = p := ⟨_, rfl⟩
  rw [hP] at hRb
  obtain ⟨RL, ok⟩ := pp
  dsimp only at hRb
  have HZZ0 := Lib.hid hz0
  clear hz0
  have HZZ1 := Lib.hid hz1
  clear hz1
  go_enter Try.func7, Try.ntmps7
  have B62 := Lib.hid b0
  have Z63 := Lib.hid (show w.heap.size + 1 ≤ ((w.alloc (.cells #[r0, t0] 25))).heap.size by simp)
  have F64 := Lib.hid (i0.keep b0 (Nat.le_refl _))
  have L65 := Lib.hid (b0.size)
  have F66 := Lib.hid (j0.keep b0 (Nat.le_refl _))
  have L67 := Lib.hid (b0.size)
  have F68 := Lib.hid (h1.keep b0 (Nat.le_refl _))
  have L69 := Lib.hid (b0.size)
  have X70 := Lib.hid (box2_new w r0 t0 25)
  have x71 := X70.out.c0
  have x72 := X70.out.c1
  clear b0 i0 j0 h1
  go_wp2_with fail
  have SZ := szMove_any M0 V0 r0 t0 w.heap.size _ F64.out F66.out (B62.out.size)
  rw [← HZZ0.out] at SZ
  unfold szTot at SZ
  rw [if_pos hZ0] at SZ
  refine SZ.mono ?_
  clear SZ
  rintro e w73 ⟨rfl, c74⟩
  have Z75 := Lib.hid (show (w.alloc (.cells #[r0, t0] 25)).heap.size ≤ w73.heap.size from (c74).size)
  have B76 := Lib.hid (below_then B62.out B62.out.size c74)
  have L77 := Lib.hid (Nat.le_trans L65.out (c74).size)
  have F78 := Lib.hid (F64.out.keep c74 L65.out)
  have L79 := Lib.hid (Nat.le_trans L67.out (c74).size)
  have F80 := Lib.hid (F66.out.keep c74 L67.out)
  have L81 := Lib.hid (Nat.le_trans L69.out (c74).size)
  have F82 := Lib.hid (F68.out.keep c74 L69.out)
  have X83 := Lib.hid (X70.out.keep c74)
  have x84 := X83.out.c0
  have x85 := X83.out.c1
  clear B62 F64 F66 F68 L65 L67 L69 x71 x72 X70
  clear c74
  have hr0 : 0 ≤ (1048576 : Int) - (z0 : Int) := by omega
  go_wp2_with fail
  have SZ := szIntSS_any l1 v1 (1048576 - (z0 : Int)) w.heap.size _ F82.out (by omega) (by omega)
  rw [← HZZ1.out] at SZ
  unfold szL at SZ
  rw [if_neg (by omega)] at SZ
  refine (toBelow0 SZ).mono ?_
  clear SZ
  rintro e w86 ⟨rfl, c87⟩
  have Z88 := Lib.hid (show w73.heap.size ≤ w86.heap.size from (c87).size)
  have B89 := Lib.hid (below_then B76.out B76.out.size c87)
  have L90 := Lib.hid (Nat.le_trans L77.out (c87).size)
  have F91 := Lib.hid (F78.out.keep c87 L77.out)
  have L92 := Lib.hid (Nat.le_trans L79.out (c87).size)
  have F93 := Lib.hid (F80.out.keep c87 L79.out)
  have L94 := Lib.hid (Nat.le_trans L81.out (c87).size)
  have F95 := Lib.hid (F82.out.keep c87 L81.out)
  have X96 := Lib.hid (X83.out.keep c87)
  have x97 := X96.out.c0
  have x98 := X96.out.c1
  clear B76 F78 F80 F82 L77 L79 L81 x84 x85 X83
  clear c87
  have hr1 : 0 ≤ ((1048576 - (z0 : Int)) : Int) - (z1 : Int) := by omega
  clear HZZ0 HZZ1
  go_wp2_with fail
  refine (HT0 w86 F91.out F93.out B89.out.size).mono ?_
  rintro e w99 ⟨u102, u104, rfl, k103, k105, c100, s101⟩
  have F106 := Lib.hid (MoveO.of (lo := w86.heap.size) (hi := w99.heap.size) k103 k105 (.inl (by omega)) (by omega) (by omega) (by omega) (by omega))
  have L107 := Lib.hid (Nat.le_refl w99.heap.size)
  have Y108 := Lib.hid (show w86.heap.size ≤ w99.heap.size from c100.size)
  clear k103 k105 s101
  have Z109 := Lib.hid (show w86.heap.size ≤ w99.heap.size from (c100).size)
  have B110 := Lib.hid (below_then B89.out B89.out.size c100)
  have L111 := Lib.hid (Nat.le_trans L90.out (c100).size)
  have F112 := Lib.hid (F91.out.keep c100 L90.out)
  have L113 := Lib.hid (Nat.le_trans L92.out (c100).size)
  have F114 := Lib.hid (F93.out.keep c100 L92.out)
  have L115 := Lib.hid (Nat.le_trans L94.out (c100).size)
  have F116 := Lib.hid (F95.out.keep c100 L94.out)
  have X117 := Lib.hid (X96.out.keep c100)
  have x118 := X117.out.c0
  have x119 := X117.out.c1
  clear B89 F91 F93 F95 L90 L92 L94 x97 x98 X96
  clear c100
  go_wp2_with fail
  refine (HT1 w99 F116.out B110.out.size).mono ?_
  rintro e w120 ⟨u123, rfl, k124, c121, s122⟩
  have F125 := Lib.hid (k124.mono (lo' := w99.heap.size) (hi' := w120.heap.size) (by omega) (by omega))
  have L126 := Lib.hid (Nat.le_refl w120.heap.size)
  have Y127 := Lib.hid (show w99.heap.size ≤ w120.heap.size from c121.size)
  clear k124 s122
  have Z128 := Lib.hid (show w99.heap.size ≤ w120.heap.size from (c121).size)
  have B129 := Lib.hid (below_then B110.out B110.out.size c121)
  have L130 := Lib.hid (Nat.le_trans L111.out (c121).size)
  have F131 := Lib.hid (F112.out.keep c121 L111.out)
  have L132 := Lib.hid (Nat.le_trans L113.out (c121).size)
  have F133 := Lib.hid (F114.out.keep c121 L113.out)
  have L134 := Lib.hid (Nat.le_trans L115.out (c121).size)
  have F135 := Lib.hid (F116.out.keep c121 L115.out)
  have L136 := Lib.hid (Nat.le_trans L107.out (c121).size)
  have F137 := Lib.hid (F106.out.keep c121 L107.out)
  have X138 := Lib.hid (X117.out.keep c121)
  have x139 := X138.out.c0
  have x140 := X138.out.c1
  clear B110 F112 F114 F116 F106 L111 L113 L115 L107 x118 x119 X117
  clear c121
  go_wp2_with fail
  have SP := (fun a b c u1 u2 u3 => specMovePolygon_any a b c u1 u2 u3) M0 V0 l1 u102 u104 u123 w120.heap.size w120  ((F137.out.fstR).upto L136.out) ((F137.out.sndR).upto L136.out) ((F125.out.read).upto L126.out) (Nat.le_refl _)
  rw [hP] at SP
  try dsimp only at SP
  refine SP.mono ?_
  clear SP
  rintro e w141 ⟨u144, rfl, k143, c142⟩
  have F145 := Lib.hid k143
  have L146 := Lib.hid (Nat.le_refl w141.heap.size)
  have Y147 := Lib.hid (show w120.heap.size ≤ w141.heap.size from c142.size)
  clear k143
  have Z148 := Lib.hid (show w120.heap.size ≤ w141.heap.size from (c142).size)
  have B149 := Lib.hid (below_then B129.out B129.out.size c142)
  have L150 := Lib.hid (Nat.le_trans L130.out (c142).size)
  have F151 := Lib.hid (F131.out.keep c142 L130.out)
  have L152 := Lib.hid (Nat.le_trans L132.out (c142).size)
  have F153 := Lib.hid (F133.out.keep c142 L132.out)
  have L154 := Lib.hid (Nat.le_trans L134.out (c142).size)
  have F155 := Lib.hid (F135.out.keep c142 L134.out)
  have L156 := Lib.hid (Nat.le_trans L136.out (c142).size)
  have F157 := Lib.hid (F137.out.keep c142 L136.out)
  have L158 := Lib.hid (Nat.le_trans L126.out (c142).size)
  have F159 := Lib.hid (F125.out.keep c142 L126.out)
  have X160 := Lib.hid (X138.out.keep c142)
  have x161 := X160.out.c0
  have x162 := X160.out.c1
  clear B129 F131 F133 F135 F137 F125 L130 L132 L134 L136 L126 x139 x140 X138
  clear c142
  clear F157
  clear F159
  go_wp2_with fail
  refine (HT0 w141 F151.out F153.out B149.out.size).mono ?_
  rintro e w163 ⟨u166, u168, rfl, k167, k169, c164, s165⟩
  have F170 := Lib.hid (MoveO.of (lo := w141.heap.size) (hi := w163.heap.size) k167 k169 (.inl (by omega)) (by omega) (by omega) (by omega) (by omega))
  have L171 := Lib.hid (Nat.le_refl w163.heap.size)
  have Y172 := Lib.hid (show w141.heap.size ≤ w163.heap.size from c164.size)
  clear k167 k169 s165
  have Z173 := Lib.hid (show w141.heap.size ≤ w163.heap.size from (c164).size)
  have B174 := Lib.hid (below_then B149.out B149.out.size c164)
  have L175 := Lib.hid (Nat.le_trans L150.out (c164).size)
  have F176 := Lib.hid (F151.out.keep c164 L150.out)
  have L177 := Lib.hid (Nat.le_trans L152.out (c164).size)
  have F178 := Lib.hid (F153.out.keep c164 L152.out)
  have L179 := Lib.hid (Nat.le_trans L154.out (c164).size)
  have F180 := Lib.hid (F155.out.keep c164 L154.out)
  have L181 := Lib.hid (Nat.le_trans L146.out (c164).size)
  have F182 := Lib.hid (F145.out.keep c164 L146.out)
  have X183 := Lib.hid (X160.out.keep c164)
  have x184 := X183.out.c0
  have x185 := X183.out.c1
  clear B149 F151 F153 F155 F145 L150 L152 L154 L146 x161 x162 X160
  clear c164
  obtain ⟨a186, q187, h188, -⟩ := id (F170.out.fstR)
  subst h188
  obtain ⟨a189, q190, h191, -⟩ := id (F170.out.sndR)
  subst h191
  have ca := below1 w163 (.cells #[(.slice a186 M0.length q187), (.slice a189 V0.length q190)] 28)
  have X193 := Lib.hid (box2_new w163 (.slice a186 M0.length q187) (.slice a189 V0.length q190) 28)
  have Z194 := Lib.hid (show w163.heap.size + 1 ≤ (w163.alloc (.cells #[(.slice a186 M0.length q187), (.slice a189 V0.length q190)] 28)).heap.size by simp)
  have v195 := (X183.out.keep ca).c0
  have v196 := (X183.out.keep ca).c1
  go_wp2_with fail
  generalize w163.alloc (.cells #[(.slice a186 M0.length q187), (.slice a189 V0.length q190)] 28) = w192 at *
  clear v195 v196
  have Z197 := Lib.hid (show w163.heap.size ≤ w192.heap.size from (ca).size)
  have B198 := Lib.hid (below_then B174.out B174.out.size ca)
  have L199 := Lib.hid (Nat.le_trans L175.out (ca).size)
  have F200 := Lib.hid (F176.out.keep ca L175.out)
  have L201 := Lib.hid (Nat.le_trans L177.out (ca).size)
  have F202 := Lib.hid (F178.out.keep ca L177.out)
  have L203 := Lib.hid (Nat.le_trans L179.out (ca).size)
  have F204 := Lib.hid (F180.out.keep ca L179.out)
  have L205 := Lib.hid (Nat.le_trans L181.out (ca).size)
  have F206 := Lib.hid (F182.out.keep ca L181.out)
  have L207 := Lib.hid (Nat.le_trans L171.out (ca).size)
  have F208 := Lib.hid (F170.out.keep ca L171.out)
  have X209 := Lib.hid (X183.out.keep ca)
  have x210 := X209.out.c0
  have x211 := X209.out.c1
  clear B174 F176 F178 F180 F182 F170 L175 L177 L179 L181 L171 x184 x185 X183
  clear ca
  have x212 := X193.out.c0
  have x213 := X193.out.c1
  go_wp2_with fail
  refine (HT1 w192 F204.out B198.out.size).mono ?_
  rintro e w214 ⟨u217, rfl, k218, c215, s216⟩
  have F219 := Lib.hid (k218.mono (lo' := w192.heap.size) (hi' := w214.heap.size) (by omega) (by omega))
  have L220 := Lib.hid (Nat.le_refl w214.heap.size)
  have Y221 := Lib.hid (show w192.heap.size ≤ w214.heap.size from c215.size)
  clear k218 s216
  have Z222 := Lib.hid (show w192.heap.size ≤ w214.heap.size from (c215).size)
  have B223 := Lib.hid (below_then B198.out B198.out.size c215)
  have L224 := Lib.hid (Nat.le_trans L199.out (c215).size)
  have F225 := Lib.hid (F200.out.keep c215 L199.out)
  have L226 := Lib.hid (Nat.le_trans L201.out (c215).size)
  have F227 := Lib.hid (F202.out.keep c215 L201.out)
  have L228 := Lib.hid (Nat.le_trans L203.out (c215).size)
  have F229 := Lib.hid (F204.out.keep c215 L203.out)
  have L230 := Lib.hid (Nat.le_trans L205.out (c215).size)
  have F231 := Lib.hid (F206.out.keep c215 L205.out)
  have L232 := Lib.hid (Nat.le_trans L207.out (c215).size)
  have F233 := Lib.hid (F208.out.keep c215 L207.out)
  have X234 := Lib.hid (X209.out.keep c215)
  have x235 := X234.out.c0
  have x236 := X234.out.c1
  have X237 := Lib.hid (X193.out.keep c215)
  have x238 := X237.out.c0
  have x239 := X237.out.c1
  clear B198 F200 F202 F204 F206 F208 L199 L201 L203 L205 L207 x210 x211 x212 x213 X209 X193
  clear c215
  go_wp2_with fail
  have SP := (fun a b c u1 u2 u3 => implMovePolygon_any a b c u1 u2 u3) M0 V0 l1 (.slice a186 M0.length q187) (.slice a189 V0.length q190) u217 w214.heap.size w214  ((F233.out.fstR).upto L232.out) ((F233.out.sndR).upto L232.out) ((F219.out.read).upto L220.out) (Nat.le_refl _)
  rw [hP] at SP
  try dsimp only at SP
  refine SP.mono ?_
  clear SP
  rintro e w240 ⟨u243, rfl, k242, c241⟩
  have F244 := Lib.hid k242
  have L245 := Lib.hid (Nat.le_refl w240.heap.size)
  have Y246 := Lib.hid (show w214.heap.size ≤ w240.heap.size from c241.size)
  clear k242
  have Z247 := Lib.hid (show w214.heap.size ≤ w240.heap.size from (c241).size)
  have B248 := Lib.hid (below_then B223.out B223.out.size c241)
  have L249 := Lib.hid (Nat.le_trans L224.out (c241).size)
  have F250 := Lib.hid (F225.out.keep c241 L224.out)
  have L251 := Lib.hid (Nat.le_trans L226.out (c241).size)
  have F252 := Lib.hid (F227.out.keep c241 L226.out)
  have L253 := Lib.hid (Nat.le_trans L228.out (c241).size)
  have F254 := Lib.hid (F229.out.keep c241 L228.out)
  have L255 := Lib.hid (Nat.le_trans L230.out (c241).size)
  have F256 := Lib.hid (F231.out.keep c241 L230.out)
  have L257 := Lib.hid (Nat.le_trans L232.out (c241).size)
  have F258 := Lib.hid (F233.out.keep c241 L232.out)
  have L259 := Lib.hid (Nat.le_trans L220.out (c241).size)
  have F260 := Lib.hid (F219.out.keep c241 L220.out)
  have X261 := Lib.hid (X234.out.keep c241)
  have x262 := X261.out.c0
  have x263 := X261.out.c1
  have X264 := Lib.hid (X237.out.keep c241)
  have x265 := X264.out.c0
  have x266 := X264.out.c1
  clear B223 F225 F227 F229 F231 F233 F219 L224 L226 L228 L230 L232 L220 x235 x236 x238 x239 X234 X237
  clear c241
  go_wp2_with fail
  have E := eqIntSS_any RL RL u243 u144 _ _ w240 (F244.out.read) (F256.out.read)
  rw [decide_eq_true (rfl : RL = RL)] at E
  refine (toBelow E).mono ?_
  clear E
  rintro e w267 ⟨rfl, c268⟩
  have Z269 := Lib.hid (show w240.heap.size ≤ w267.heap.size from (c268).size)
  have B270 := Lib.hid (below_then B248.out B248.out.size c268)
  have L271 := Lib.hid (Nat.le_trans L249.out (c268).size)
  have F272 := Lib.hid (F250.out.keep c268 L249.out)
  have L273 := Lib.hid (Nat.le_trans L251.out (c268).size)
  have F274 := Lib.hid (F252.out.keep c268 L251.out)
  have L275 := Lib.hid (Nat.le_trans L253.out (c268).size)
  have F276 := Lib.hid (F254.out.keep c268 L253.out)
  have L277 := Lib.hid (Nat.le_trans L255.out (c268).size)
  have F278 := Lib.hid (F256.out.keep c268 L255.out)
  have L279 := Lib.hid (Nat.le_trans L257.out (c268).size)
  have F280 := Lib.hid (F258.out.keep c268 L257.out)
  have L281 := Lib.hid (Nat.le_trans L259.out (c268).size)
  have F282 := Lib.hid (F260.out.keep c268 L259.out)
  have L283 := Lib.hid (Nat.le_trans L245.out (c268).size)
  have F284 := Lib.hid (F244.out.keep c268 L245.out)
  have X285 := Lib.hid (X261.out.keep c268)
  have x286 := X285.out.c0
  have x287 := X285.out.c1
  have X288 := Lib.hid (X264.out.keep c268)
  have x289 := X288.out.c0
  have x290 := X288.out.c1
  clear B248 F250 F252 F254 F256 F258 F260 F244 L249 L251 L253 L255 L257 L259 L245 x262 x263 x265 x266 X261 X264
  clear c268
  have cd : Below w267.heap.size w267 w267.drew := below_draws w267.heap.size w267 1
  have Z291 := Lib.hid (show w267.heap.size ≤ w267.drew.heap.size from (cd).size)
  have B292 := Lib.hid (below_then B270.out B270.out.size cd)
  have L293 := Lib.hid (Nat.le_trans L271.out (cd).size)
  have F294 := Lib.hid (F272.out.keep cd L271.out)
  have L295 := Lib.hid (Nat.le_trans L273.out (cd).size)
  have F296 := Lib.hid (F274.out.keep cd L273.out)
  have L297 := Lib.hid (Nat.le_trans L275.out (cd).size)
  have F298 := Lib.hid (F276.out.keep cd L275.out)
  have L299 := Lib.hid (Nat.le_trans L277.out (cd).size)
  have F300 := Lib.hid (F278.out.keep cd L277.out)
  have L301 := Lib.hid (Nat.le_trans L279.out (cd).size)
  have F302 := Lib.hid (F280.out.keep cd L279.out)
  have L303 := Lib.hid (Nat.le_trans L281.out (cd).size)
  have F304 := Lib.hid (F282.out.keep cd L281.out)
  have L305 := Lib.hid (Nat.le_trans L283.out (cd).size)
  have F306 := Lib.hid (F284.out.keep cd L283.out)
  have X307 := Lib.hid (X285.out.keep cd)
  have x308 := X307.out.c0
  have x309 := X307.out.c1
  have X310 := Lib.hid (X288.out.keep cd)
  have x311 := X310.out.c0
  have x312 := X310.out.c1
  clear B270 F272 F274 F276 F278 F280 F282 F284 L271 L273 L275 L277 L279 L281 L283 x286 x287 x289 x290 X285 X288
  clear cd
  go_wp2_with fail
  go_region_held3 (fun w' => w'.cell? ⟨w.heap.size, 0, none⟩ = some (r0) ∧ w'.cell? ⟨w.heap.size, 1, none⟩ = some (t0) ∧ w'.cell? ⟨w163.heap.size, 0, none⟩ = some (.slice a186 M0.length q187) ∧ w'.cell? ⟨w163.heap.size, 1, none⟩ = some (.slice a189 V0.length q190)) (first | exact ⟨x308, x309, x311, x312⟩ | exact ⟨t0, t1, t2, t3⟩ | exact ⟨y0, y1, y2, y3⟩) (first | (go_at_call 12; (with_reducible refine (HT0 _ F294.out F296.out B292.out.size).mono ?_); rintro e w313 ⟨u317, u319, rfl, k318, k320, c315, sq⟩; have t0 := ((X307.out.keep c315).c0); have t1 := ((X307.out.keep c315).c1); have t2 := ((X310.out.keep c315).c0); have t3 := ((X310.out.keep c315).c1)) | (go_at_call 14; have J0 := (k318.mono (Nat.le_refl _) (show _ ≤ w313.heap.size by omega)).read; have J1 := (k320.mono (Nat.le_refl _) (show _ ≤ w313.heap.size by omega)).read; (with_reducible refine (eqMove_any M0 V0 (.slice a186 M0.length q187) (.slice a189 V0.length q190) u317 u319 _ _ w313 ((F302.out.fstR).keep c315 L301.out) ((F302.out.sndR).keep c315 L301.out) J0 J1 (Nat.le_trans L301.out c315.size) (Nat.le_refl _)).mono ?_); rintro e w314 ⟨rfl, c316⟩; have y0 := (((X307.out.keep c315).keep c316).c0); have y1 := (((X307.out.keep c315).keep c316).c1); have y2 := (((X310.out.keep c315).keep c316).c0); have y3 := (((X310.out.keep c315).keep c316).c1)))
  clear t0 t1 t2 t3 y0 y1 y2 y3 sq k318 k320 J0 J1
  have Z321 := Lib.hid (show w267.drew.heap.size ≤ w313.heap.size from (c315).size)
  have B322 := Lib.hid (below_then B292.out B292.out.size c315)
  have L323 := Lib.hid (Nat.le_trans L293.out (c315).size)
  have F324 := Lib.hid (F294.out.keep c315 L293.out)
  have L325 := Lib.hid (Nat.le_trans L295.out (c315).size)
  have F326 := Lib.hid (F296.out.keep c315 L295.out)
  have L327 := Lib.hid (Nat.le_trans L297.out (c315).size)
  have F328 := Lib.hid (F298.out.keep c315 L297.out)
  have L329 := Lib.hid (Nat.le_trans L299.out (c315).size)
  have F330 := Lib.hid (F300.out.keep c315 L299.out)
  have L331 := Lib.hid (Nat.le_trans L301.out (c315).size)
  have F332 := Lib.hid (F302.out.keep c315 L301.out)
  have L333 := Lib.hid (Nat.le_trans L303.out (c315).size)
  have F334 := Lib.hid (F304.out.keep c315 L303.out)
  have L335 := Lib.hid (Nat.le_trans L305.out (c315).size)
  have F336 := Lib.hid (F306.out.keep c315 L305.out)
  have X337 := Lib.hid (X307.out.keep c315)
  have x338 := X337.out.c0
  have x339 := X337.out.c1
  have X340 := Lib.hid (X310.out.keep c315)
  have x341 := X340.out.c0
  have x342 := X340.out.c1
  clear B292 F294 F296 F298 F300 F302 F304 F306 L293 L295 L297 L299 L301 L303 L305 x308 x309 x311 x312 X307 X310
  clear c315
  have Z343 := Lib.hid (show w313.heap.size ≤ w314.heap.size from (c316).size)
  have B344 := Lib.hid (below_then B322.out B322.out.size c316)
  have L345 := Lib.hid (Nat.le_trans L323.out (c316).size)
  have F346 := Lib.hid (F324.out.keep c316 L323.out)
  have L347 := Lib.hid (Nat.le_trans L325.out (c316).size)
  have F348 := Lib.hid (F326.out.keep c316 L325.out)
  have L349 := Lib.hid (Nat.le_trans L327.out (c316).size)
  have F350 := Lib.hid (F328.out.keep c316 L327.out)
  have L351 := Lib.hid (Nat.le_trans L329.out (c316).size)
  have F352 := Lib.hid (F330.out.keep c316 L329.out)
  have L353 := Lib.hid (Nat.le_trans L331.out (c316).size)
  have F354 := Lib.hid (F332.out.keep c316 L331.out)
  have L355 := Lib.hid (Nat.le_trans L333.out (c316).size)
  have F356 := Lib.hid (F334.out.keep c316 L333.out)
  have L357 := Lib.hid (Nat.le_trans L335.out (c316).size)
  have F358 := Lib.hid (F336.out.keep c316 L335.out)
  have X359 := Lib.hid (X337.out.keep c316)
  have x360 := X359.out.c0
  have x361 := X359.out.c1
  have X362 := Lib.hid (X340.out.keep c316)
  have x363 := X362.out.c0
  have x364 := X362.out.c1
  clear B322 F324 F326 F328 F330 F332 F334 F336 L323 L325 L327 L329 L331 L333 L335 x338 x339 x341 x342 X337 X340
  clear c316
  go_wp2_with fail
  refine (HT1 w314 F350.out B344.out.size).mono ?_
  rintro e w365 ⟨u368, rfl, k369, c366, s367⟩
  have F370 := Lib.hid (k369.mono (lo' := w314.heap.size) (hi' := w365.heap.size) (by omega) (by omega))
  have L371 := Lib.hid (Nat.le_refl w365.heap.size)
  have Y372 := Lib.hid (show w314.heap.size ≤ w365.heap.size from c366.size)
  clear k369 s367
  have Z373 := Lib.hid (show w314.heap.size ≤ w365.heap.size from (c366).size)
  have B374 := Lib.hid (below_then B344.out B344.out.size c366)
  have L375 := Lib.hid (Nat.le_trans L345.out (c366).size)
  have F376 := Lib.hid (F346.out.keep c366 L345.out)
  have L377 := Lib.hid (Nat.le_trans L347.out (c366).size)
  have F378 := Lib.hid (F348.out.keep c366 L347.out)
  have L379 := Lib.hid (Nat.le_trans L349.out (c366).size)
  have F380 := Lib.hid (F350.out.keep c366 L349.out)
  have L381 := Lib.hid (Nat.le_trans L351.out (c366).size)
  have F382 := Lib.hid (F352.out.keep c366 L351.out)
  have L383 := Lib.hid (Nat.le_trans L353.out (c366).size)
  have F384 := Lib.hid (F354.out.keep c366 L353.out)
  have L385 := Lib.hid (Nat.le_trans L355.out (c366).size)
  have F386 := Lib.hid (F356.out.keep c366 L355.out)
  have L387 := Lib.hid (Nat.le_trans L357.out (c366).size)
  have F388 := Lib.hid (F358.out.keep c366 L357.out)
  have X389 := Lib.hid (X359.out.keep c366)
  have x390 := X389.out.c0
  have x391 := X389.out.c1
  have X392 := Lib.hid (X362.out.keep c366)
  have x393 := X392.out.c0
  have x394 := X392.out.c1
  clear B344 F346 F348 F350 F352 F354 F356 F358 L345 L347 L349 L351 L353 L355 L357 x360 x361 x363 x364 X359 X362
  clear c366
  go_wp2_with fail
  have E := eqIntSS_any l1 l1 u217 u368 _ _ _ (F386.out.read) (F370.out.read)
  rw [decide_eq_true (rfl : l1 = l1)] at E
  refine (toBelow E).mono ?_
  clear E
  rintro e w395 ⟨rfl, c396⟩
  have Z397 := Lib.hid (show w365.heap.size ≤ w395.heap.size from (c396).size)
  have B398 := Lib.hid (below_then B374.out B374.out.size c396)
  have L399 := Lib.hid (Nat.le_trans L375.out (c396).size)
  have F400 := Lib.hid (F376.out.keep c396 L375.out)
  have L401 := Lib.hid (Nat.le_trans L377.out (c396).size)
  have F402 := Lib.hid (F378.out.keep c396 L377.out)
  have L403 := Lib.hid (Nat.le_trans L379.out (c396).size)
  have F404 := Lib.hid (F380.out.keep c396 L379.out)
  have L405 := Lib.hid (Nat.le_trans L381.out (c396).size)
  have F406 := Lib.hid (F382.out.keep c396 L381.out)
  have L407 := Lib.hid (Nat.le_trans L383.out (c396).size)
  have F408 := Lib.hid (F384.out.keep c396 L383.out)
  have L409 := Lib.hid (Nat.le_trans L385.out (c396).size)
  have F410 := Lib.hid (F386.out.keep c396 L385.out)
  have L411 := Lib.hid (Nat.le_trans L387.out (c396).size)
  have F412 := Lib.hid (F388.out.keep c396 L387.out)
  have L413 := Lib.hid (Nat.le_trans L371.out (c396).size)
  have F414 := Lib.hid (F370.out.keep c396 L371.out)
  have X415 := Lib.hid (X389.out.keep c396)
  have x416 := X415.out.c0
  have x417 := X415.out.c1
  have X418 := Lib.hid (X392.out.keep c396)
  have x419 := X418.out.c0
  have x420 := X418.out.c1
  clear B374 F376 F378 F380 F382 F384 F386 F388 F370 L375 L377 L379 L381 L383 L385 L387 L371 x390 x391 x393 x394 X389 X392
  clear c396
  clear F414
  go_wp2_with fail
  have M := markMove_any M0 V0 (.slice a186 M0.length q187) (.slice a189 V0.length q190) w141.heap.size w163.heap.size 1 w395 F408.out L407.out (by omega) (by  omega)
  refine M.mono ?_
  clear M
  rintro e w421 ⟨rfl, k422, o423⟩
  have F425 := Lib.hid k422
  clear k422
  have hK424 : 0 ≤ 1 + (totL M0 M0.length : Int) + (V0.length : Int) ∧ 1 + (totL M0 M0.length : Int) + (V0.length : Int) ≤ 10000000000 := by  omega
  have Z426 := Lib.hid (show w395.heap.size ≤ w421.heap.size from o423.size)
  have B427 := Lib.hid (Only.base B398.out o423 (by have := Z63.out; have := Z75.out; have := Z88.out; have := Z109.out; have := Z128.out; have := Z148.out; have := Z173.out; have := Z197.out; have := Z194.out; have := Z222.out; have := Z247.out; have := Z269.out; have := Z291.out; have := Z321.out; have := Z343.out; have := Z373.out; have := Z397.out; have := L407.out; have := Y172.out; omega) (by have := Z63.out; have := Z75.out; have := Z88.out; have := Z109.out; have := Z128.out; have := Z148.out; have := Z173.out; have := Z197.out; have := Z194.out; have := Z222.out; have := Z247.out; have := Z269.out; have := Z291.out; have := Z321.out; have := Z343.out; have := Z373.out; have := Z397.out; have := L407.out; have := Y172.out; omega))
  have L428 := Lib.hid (Nat.le_trans L399.out o423.size)
  have L429 := Lib.hid (Nat.le_trans L401.out o423.size)
  have L430 := Lib.hid (Nat.le_trans L403.out o423.size)
  have L431 := Lib.hid (Nat.le_trans L405.out o423.size)
  have L432 := Lib.hid (Nat.le_trans L407.out o423.size)
  have L433 := Lib.hid (Nat.le_trans L409.out o423.size)
  have L434 := Lib.hid (Nat.le_trans L411.out o423.size)
  have F435 := Lib.hid (F400.out.keep (o423.below (by have := Z63.out; have := Z75.out; have := Z88.out; have := Z109.out; have := Z128.out; have := Z148.out; have := Z173.out; have := Z197.out; have := Z194.out; have := Z222.out; have := Z247.out; have := Z269.out; have := Z291.out; have := Z321.out; have := Z343.out; have := Z373.out; have := Z397.out; have := L407.out; have := Y172.out; omega)) (by have := Z63.out; have := Z75.out; have := Z88.out; have := Z109.out; have := Z128.out; have := Z148.out; have := Z173.out; have := Z197.out; have := Z194.out; have := Z222.out; have := Z247.out; have := Z269.out; have := Z291.out; have := Z321.out; have := Z343.out; have := Z373.out; have := Z397.out; have := L407.out; have := Y172.out; omega))
  have F436 := Lib.hid (F402.out.keep (o423.below (by have := Z63.out; have := Z75.out; have := Z88.out; have := Z109.out; have := Z128.out; have := Z148.out; have := Z173.out; have := Z197.out; have := Z194.out; have := Z222.out; have := Z247.out; have := Z269.out; have := Z291.out; have := Z321.out; have := Z343.out; have := Z373.out; have := Z397.out; have := L407.out; have := Y172.out; omega)) (by have := Z63.out; have := Z75.out; have := Z88.out; have := Z109.out; have := Z128.out; have := Z148.out; have := Z173.out; have := Z197.out; have := Z194.out; have := Z222.out; have := Z247.out; have := Z269.out; have := Z291.out; have := Z321.out; have := Z343.out; have := Z373.out; have := Z397.out; have := L407.out; have := Y172.out; omega))
  have F437 := Lib.hid (F404.out.keep (o423.below (by have := Z63.out; have := Z75.out; have := Z88.out; have := Z109.out; have := Z128.out; have := Z148.out; have := Z173.out; have := Z197.out; have := Z194.out; have := Z222.out; have := Z247.out; have := Z269.out; have := Z291.out; have := Z321.out; have := Z343.out; have := Z373.out; have := Z397.out; have := L407.out; have := Y172.out; omega)) (by have := Z63.out; have := Z75.out; have := Z88.out; have := Z109.out; have := Z128.out; have := Z148.out; have := Z173.out; have := Z197.out; have := Z194.out; have := Z222.out; have := Z247.out; have := Z269.out; have := Z291.out; have := Z321.out; have := Z343.out; have := Z373.out; have := Z397.out; have := L407.out; have := Y172.out; omega))
  have F438 := Lib.hid (F406.out.keep (o423.below (by have := Z63.out; have := Z75.out; have := Z88.out; have := Z109.out; have := Z128.out; have := Z148.out; have := Z173.out; have := Z197.out; have := Z194.out; have := Z222.out; have := Z247.out; have := Z269.out; have := Z291.out; have := Z321.out; have := Z343.out; have := Z373.out; have := Z397.out; have := L407.out; have := Y172.out; omega)) (by have := Z63.out; have := Z75.out; have := Z88.out; have := Z109.out; have := Z128.out; have := Z148.out; have := Z173.out; have := Z197.out; have := Z194.out; have := Z222.out; have := Z247.out; have := Z269.out; have := Z291.out; have := Z321.out; have := Z343.out; have := Z373.out; have := Z397.out; have := L407.out; have := Y172.out; omega))
  have F439 := Lib.hid (F410.out.only o423 (.inr (by have := Z63.out; have := Z75.out; have := Z88.out; have := Z109.out; have := Z128.out; have := Z148.out; have := Z173.out; have := Z197.out; have := Z194.out; have := Z222.out; have := Z247.out; have := Z269.out; have := Z291.out; have := Z321.out; have := Z343.out; have := Z373.out; have := Z397.out; have := L407.out; have := Y172.out; omega)))
  have F440 := Lib.hid (F412.out.only o423 (.inr (by have := Z63.out; have := Z75.out; have := Z88.out; have := Z109.out; have := Z128.out; have := Z148.out; have := Z173.out; have := Z197.out; have := Z194.out; have := Z222.out; have := Z247.out; have := Z269.out; have := Z291.out; have := Z321.out; have := Z343.out; have := Z373.out; have := Z397.out; have := L407.out; have := Y172.out; omega)))
  have X441 := Lib.hid (X415.out.only o423 (by have := Z63.out; have := Z75.out; have := Z88.out; have := Z109.out; have := Z128.out; have := Z148.out; have := Z173.out; have := Z197.out; have := Z194.out; have := Z222.out; have := Z247.out; have := Z269.out; have := Z291.out; have := Z321.out; have := Z343.out; have := Z373.out; have := Z397.out; have := L407.out; have := Y172.out; omega))
  have x442 := X441.out.c0
  have x443 := X441.out.c1
  have X444 := Lib.hid (X418.out.only o423 (by have := Z63.out; have := Z75.out; have := Z88.out; have := Z109.out; have := Z128.out; have := Z148.out; have := Z173.out; have := Z197.out; have := Z194.out; have := Z222.out; have := Z247.out; have := Z269.out; have := Z291.out; have := Z321.out; have := Z343.out; have := Z373.out; have := Z397.out; have := L407.out; have := Y172.out; omega))
  have x445 := X444.out.c0
  have x446 := X444.out.c1
  clear B398 F400 F402 F404 F406 F410 F412 L399 L401 L403 L405 L407 L409 L411 F408 x416 x417 x419 x420 X415 X418 o423
  clear F425
  generalize 1 + (totL M0 M0.length : Int) + (V0.length : Int) = K424 at *
  go_wp2_with fail
  have M := markIntSS_any l1 u217 w192.heap.size w214.heap.size K424 w421 F439.out (by omega) (by  omega)
  refine M.mono ?_
  clear M
  rintro e w447 ⟨rfl, k448, o449⟩
  have F451 := Lib.hid k448
  clear k448
  have hK450 : 0 ≤ K424 + (totL l1 l1.length : Int) ∧ K424 + (totL l1 l1.length : Int) ≤ 20000000000 := by  omega
  have Z452 := Lib.hid (show w421.heap.size ≤ w447.heap.size from o449.size)
  have B453 := Lib.hid (Only.base B427.out o449 (by have := Z63.out; have := Z75.out; have := Z88.out; have := Z109.out; have := Z128.out; have := Z148.out; have := Z173.out; have := Z197.out; have := Z194.out; have := Z222.out; have := Z247.out; have := Z269.out; have := Z291.out; have := Z321.out; have := Z343.out; have := Z373.out; have := Z397.out; have := Z426.out; have := L433.out; have := Y221.out; omega) (by have := Z63.out; have := Z75.out; have := Z88.out; have := Z109.out; have := Z128.out; have := Z148.out; have := Z173.out; have := Z197.out; have := Z194.out; have := Z222.out; have := Z247.out; have := Z269.out; have := Z291.out; have := Z321.out; have := Z343.out; have := Z373.out; have := Z397.out; have := Z426.out; have := L433.out; have := Y221.out; omega))
  have L454 := Lib.hid (Nat.le_trans L428.out o449.size)
  have L455 := Lib.hid (Nat.le_trans L429.out o449.size)
  have L456 := Lib.hid (Nat.le_trans L430.out o449.size)
  have L457 := Lib.hid (Nat.le_trans L431.out o449.size)
  have L458 := Lib.hid (Nat.le_trans L433.out o449.size)
  have L459 := Lib.hid (Nat.le_trans L434.out o449.size)
  have F460 := Lib.hid (F435.out.keep (o449.below (by have := Z63.out; have := Z75.out; have := Z88.out; have := Z109.out; have := Z128.out; have := Z148.out; have := Z173.out; have := Z197.out; have := Z194.out; have := Z222.out; have := Z247.out; have := Z269.out; have := Z291.out; have := Z321.out; have := Z343.out; have := Z373.out; have := Z397.out; have := Z426.out; have := L433.out; have := Y221.out; omega)) (by have := Z63.out; have := Z75.out; have := Z88.out; have := Z109.out; have := Z128.out; have := Z148.out; have := Z173.out; have := Z197.out; have := Z194.out; have := Z222.out; have := Z247.out; have := Z269.out; have := Z291.out; have := Z321.out; have := Z343.out; have := Z373.out; have := Z397.out; have := Z426.out; have := L433.out; have := Y221.out; omega))
  have F461 := Lib.hid (F436.out.keep (o449.below (by have := Z63.out; have := Z75.out; have := Z88.out; have := Z109.out; have := Z128.out; have := Z148.out; have := Z173.out; have := Z197.out; have := Z194.out; have := Z222.out; have := Z247.out; have := Z269.out; have := Z291.out; have := Z321.out; have := Z343.out; have := Z373.out; have := Z397.out; have := Z426.out; have := L433.out; have := Y221.out; omega)) (by have := Z63.out; have := Z75.out; have := Z88.out; have := Z109.out; have := Z128.out; have := Z148.out; have := Z173.out; have := Z197.out; have := Z194.out; have := Z222.out; have := Z247.out; have := Z269.out; have := Z291.out; have := Z321.out; have := Z343.out; have := Z373.out; have := Z397.out; have := Z426.out; have := L433.out; have := Y221.out; omega))
  have F462 := Lib.hid (F437.out.keep (o449.below (by have := Z63.out; have := Z75.out; have := Z88.out; have := Z109.out; have := Z128.out; have := Z148.out; have := Z173.out; have := Z197.out; have := Z194.out; have := Z222.out; have := Z247.out; have := Z269.out; have := Z291.out; have := Z321.out; have := Z343.out; have := Z373.out; have := Z397.out; have := Z426.out; have := L433.out; have := Y221.out; omega)) (by have := Z63.out; have := Z75.out; have := Z88.out; have := Z109.out; have := Z128.out; have := Z148.out; have := Z173.out; have := Z197.out; have := Z194.out; have := Z222.out; have := Z247.out; have := Z269.out; have := Z291.out; have := Z321.out; have := Z343.out; have := Z373.out; have := Z397.out; have := Z426.out; have := L433.out; have := Y221.out; omega))
  have F463 := Lib.hid (F438.out.keep (o449.below (by have := Z63.out; have := Z75.out; have := Z88.out; have := Z109.out; have := Z128.out; have := Z148.out; have := Z173.out; have := Z197.out; have := Z194.out; have := Z222.out; have := Z247.out; have := Z269.out; have := Z291.out; have := Z321.out; have := Z343.out; have := Z373.out; have := Z397.out; have := Z426.out; have := L433.out; have := Y221.out; omega)) (by have := Z63.out; have := Z75.out; have := Z88.out; have := Z109.out; have := Z128.out; have := Z148.out; have := Z173.out; have := Z197.out; have := Z194.out; have := Z222.out; have := Z247.out; have := Z269.out; have := Z291.out; have := Z321.out; have := Z343.out; have := Z373.out; have := Z397.out; have := Z426.out; have := L433.out; have := Y221.out; omega))
  have F464 := Lib.hid (F440.out.only o449 (.inr (by have := Z63.out; have := Z75.out; have := Z88.out; have := Z109.out; have := Z128.out; have := Z148.out; have := Z173.out; have := Z197.out; have := Z194.out; have := Z222.out; have := Z247.out; have := Z269.out; have := Z291.out; have := Z321.out; have := Z343.out; have := Z373.out; have := Z397.out; have := Z426.out; have := L433.out; have := Y221.out; omega)))
  have X465 := Lib.hid (X441.out.only o449 (by have := Z63.out; have := Z75.out; have := Z88.out; have := Z109.out; have := Z128.out; have := Z148.out; have := Z173.out; have := Z197.out; have := Z194.out; have := Z222.out; have := Z247.out; have := Z269.out; have := Z291.out; have := Z321.out; have := Z343.out; have := Z373.out; have := Z397.out; have := Z426.out; have := L433.out; have := Y221.out; omega))
  have x466 := X465.out.c0
  have x467 := X465.out.c1
  have X468 := Lib.hid (X444.out.only o449 (by have := Z63.out; have := Z75.out; have := Z88.out; have := Z109.out; have := Z128.out; have := Z148.out; have := Z173.out; have := Z197.out; have := Z194.out; have := Z222.out; have := Z247.out; have := Z269.out; have := Z291.out; have := Z321.out; have := Z343.out; have := Z373.out; have := Z397.out; have := Z426.out; have := L433.out; have := Y221.out; omega))
  have x469 := X468.out.c0
  have x470 := X468.out.c1
  clear B427 F435 F436 F437 F438 F440 L428 L429 L430 L431 L433 L434 F439 x442 x443 x445 x446 X441 X444 o449
  clear F451
  generalize K424 + (totL l1 l1.length : Int) = K450 at *
  have hdK450 : decide (K450 < 0) = false := by rw [decide_eq_false_iff_not]; omega
  go_wp2_with fail
  have E := eqIntSS_any RL RL u243 u144 _ _ w447 (F464.out.read) (F463.out.read)
  rw [decide_eq_true (rfl : RL = RL)] at E
  refine (toBelow E).mono ?_
  clear E
  rintro e w471 ⟨rfl, c472⟩
  have Z473 := Lib.hid (show w447.heap.size ≤ w471.heap.size from (c472).size)
  have B474 := Lib.hid (below_then B453.out B453.out.size c472)
  have L475 := Lib.hid (Nat.le_trans L454.out (c472).size)
  have F476 := Lib.hid (F460.out.keep c472 L454.out)
  have L477 := Lib.hid (Nat.le_trans L455.out (c472).size)
  have F478 := Lib.hid (F461.out.keep c472 L455.out)
  have L479 := Lib.hid (Nat.le_trans L456.out (c472).size)
  have F480 := Lib.hid (F462.out.keep c472 L456.out)
  have L481 := Lib.hid (Nat.le_trans L457.out (c472).size)
  have F482 := Lib.hid (F463.out.keep c472 L457.out)
  have L483 := Lib.hid (Nat.le_trans L459.out (c472).size)
  have F484 := Lib.hid (F464.out.keep c472 L459.out)
  have X485 := Lib.hid (X465.out.keep c472)
  have x486 := X485.out.c0
  have x487 := X485.out.c1
  have X488 := Lib.hid (X468.out.keep c472)
  have x489 := X488.out.c0
  have x490 := X488.out.c1
  clear B453 F460 F461 F462 F463 F464 L454 L455 L456 L457 L459 x466 x467 x469 x470 X465 X468
  clear c472
  go_wp2_with fail
  have M := markIntSS_any RL u243 w214.heap.size w240.heap.size 1 w471 F484.out (by omega) (by  omega)
  refine M.mono ?_
  clear M
  rintro e w491 ⟨rfl, k492, o493⟩
  have F495 := Lib.hid k492
  clear k492
  have hK494 : 0 ≤ 1 + (totL RL RL.length : Int) ∧ 1 + (totL RL RL.length : Int) ≤ 30000000000 := by  omega
  have Z496 := Lib.hid (show w471.heap.size ≤ w491.heap.size from o493.size)
  have B497 := Lib.hid (Only.base B474.out o493 (by have := Z63.out; have := Z75.out; have := Z88.out; have := Z109.out; have := Z128.out; have := Z148.out; have := Z173.out; have := Z197.out; have := Z194.out; have := Z222.out; have := Z247.out; have := Z269.out; have := Z291.out; have := Z321.out; have := Z343.out; have := Z373.out; have := Z397.out; have := Z426.out; have := Z452.out; have := Z473.out; have := L483.out; have := Y246.out; omega) (by have := Z63.out; have := Z75.out; have := Z88.out; have := Z109.out; have := Z128.out; have := Z148.out; have := Z173.out; have := Z197.out; have := Z194.out; have := Z222.out; have := Z247.out; have := Z269.out; have := Z291.out; have := Z321.out; have := Z343.out; have := Z373.out; have := Z397.out; have := Z426.out; have := Z452.out; have := Z473.out; have := L483.out; have := Y246.out; omega))
  have L498 := Lib.hid (Nat.le_trans L475.out o493.size)
  have L499 := Lib.hid (Nat.le_trans L477.out o493.size)
  have L500 := Lib.hid (Nat.le_trans L479.out o493.size)
  have L501 := Lib.hid (Nat.le_trans L481.out o493.size)
  have L502 := Lib.hid (Nat.le_trans L483.out o493.size)
  have F503 := Lib.hid (F476.out.keep (o493.below (by have := Z63.out; have := Z75.out; have := Z88.out; have := Z109.out; have := Z128.out; have := Z148.out; have := Z173.out; have := Z197.out; have := Z194.out; have := Z222.out; have := Z247.out; have := Z269.out; have := Z291.out; have := Z321.out; have := Z343.out; have := Z373.out; have := Z397.out; have := Z426.out; have := Z452.out; have := Z473.out; have := L483.out; have := Y246.out; omega)) (by have := Z63.out; have := Z75.out; have := Z88.out; have := Z109.out; have := Z128.out; have := Z148.out; have := Z173.out; have := Z197.out; have := Z194.out; have := Z222.out; have := Z247.out; have := Z269.out; have := Z291.out; have := Z321.out; have := Z343.out; have := Z373.out; have := Z397.out; have := Z426.out; have := Z452.out; have := Z473.out; have := L483.out; have := Y246.out; omega))
  have F504 := Lib.hid (F478.out.keep (o493.below (by have := Z63.out; have := Z75.out; have := Z88.out; have := Z109.out; have := Z128.out; have := Z148.out; have := Z173.out; have := Z197.out; have := Z194.out; have := Z222.out; have := Z247.out; have := Z269.out; have := Z291.out; have := Z321.out; have := Z343.out; have := Z373.out; have := Z397.out; have := Z426.out; have := Z452.out; have := Z473.out; have := L483.out; have := Y246.out; omega)) (by have := Z63.out; have := Z75.out; have := Z88.out; have := Z109.out; have := Z128.out; have := Z148.out; have := Z173.out; have := Z197.out; have := Z194.out; have := Z222.out; have := Z247.out; have := Z269.out; have := Z291.out; have := Z321.out; have := Z343.out; have := Z373.out; have := Z397.out; have := Z426.out; have := Z452.out; have := Z473.out; have := L483.out; have := Y246.out; omega))
  have F505 := Lib.hid (F480.out.keep (o493.below (by have := Z63.out; have := Z75.out; have := Z88.out; have := Z109.out; have := Z128.out; have := Z148.out; have := Z173.out; have := Z197.out; have := Z194.out; have := Z222.out; have := Z247.out; have := Z269.out; have := Z291.out; have := Z321.out; have := Z343.out; have := Z373.out; have := Z397.out; have := Z426.out; have := Z452.out; have := Z473.out; have := L483.out; have := Y246.out; omega)) (by have := Z63.out; have := Z75.out; have := Z88.out; have := Z109.out; have := Z128.out; have := Z148.out; have := Z173.out; have := Z197.out; have := Z194.out; have := Z222.out; have := Z247.out; have := Z269.out; have := Z291.out; have := Z321.out; have := Z343.out; have := Z373.out; have := Z397.out; have := Z426.out; have := Z452.out; have := Z473.out; have := L483.out; have := Y246.out; omega))
  have F506 := Lib.hid (F482.out.keep (o493.below (by have := Z63.out; have := Z75.out; have := Z88.out; have := Z109.out; have := Z128.out; have := Z148.out; have := Z173.out; have := Z197.out; have := Z194.out; have := Z222.out; have := Z247.out; have := Z269.out; have := Z291.out; have := Z321.out; have := Z343.out; have := Z373.out; have := Z397.out; have := Z426.out; have := Z452.out; have := Z473.out; have := L483.out; have := Y246.out; omega)) (by have := Z63.out; have := Z75.out; have := Z88.out; have := Z109.out; have := Z128.out; have := Z148.out; have := Z173.out; have := Z197.out; have := Z194.out; have := Z222.out; have := Z247.out; have := Z269.out; have := Z291.out; have := Z321.out; have := Z343.out; have := Z373.out; have := Z397.out; have := Z426.out; have := Z452.out; have := Z473.out; have := L483.out; have := Y246.out; omega))
  have X507 := Lib.hid (X485.out.only o493 (by have := Z63.out; have := Z75.out; have := Z88.out; have := Z109.out; have := Z128.out; have := Z148.out; have := Z173.out; have := Z197.out; have := Z194.out; have := Z222.out; have := Z247.out; have := Z269.out; have := Z291.out; have := Z321.out; have := Z343.out; have := Z373.out; have := Z397.out; have := Z426.out; have := Z452.out; have := Z473.out; have := L483.out; have := Y246.out; omega))
  have x508 := X507.out.c0
  have x509 := X507.out.c1
  have X510 := Lib.hid (X488.out.only o493 (by have := Z63.out; have := Z75.out; have := Z88.out; have := Z109.out; have := Z128.out; have := Z148.out; have := Z173.out; have := Z197.out; have := Z194.out; have := Z222.out; have := Z247.out; have := Z269.out; have := Z291.out; have := Z321.out; have := Z343.out; have := Z373.out; have := Z397.out; have := Z426.out; have := Z452.out; have := Z473.out; have := L483.out; have := Y246.out; omega))
  have x511 := X510.out.c0
  have x512 := X510.out.c1
  clear B474 F476 F478 F480 F482 L475 L477 L479 L481 L483 F484 x486 x487 x489 x490 X485 X488 o493
  go_wp2_with fail
  have Q := toBelow0 (heldIntSS_any RL u243 w491.heap.size 1 w491 ((F495.out.read).upto L502.out) (by omega) (by omega))
  have hq : decide (1 + (totL RL RL.length : Int) < 0) = false := by rw [decide_eq_false_iff_not]; omega
  refine Q.mono ?_
  clear Q
  rintro e w513 ⟨rfl, c514⟩
  have Z515 := Lib.hid (show w491.heap.size ≤ w513.heap.size from (c514).size)
  have B516 := Lib.hid (below_then B497.out B497.out.size c514)
  have L517 := Lib.hid (Nat.le_trans L498.out (c514).size)
  have F518 := Lib.hid (F503.out.keep c514 L498.out)
  have L519 := Lib.hid (Nat.le_trans L499.out (c514).size)
  have F520 := Lib.hid (F504.out.keep c514 L499.out)
  have L521 := Lib.hid (Nat.le_trans L500.out (c514).size)
  have F522 := Lib.hid (F505.out.keep c514 L500.out)
  have L523 := Lib.hid (Nat.le_trans L501.out (c514).size)
  have F524 := Lib.hid (F506.out.keep c514 L501.out)
  have L525 := Lib.hid (Nat.le_trans L502.out (c514).size)
  have F526 := Lib.hid (F495.out.keep c514 L502.out)
  have X527 := Lib.hid (X507.out.keep c514)
  have x528 := X527.out.c0
  have x529 := X527.out.c1
  have X530 := Lib.hid (X510.out.keep c514)
  have x531 := X530.out.c0
  have x532 := X530.out.c1
  clear B497 F503 F504 F505 F506 F495 L498 L499 L500 L501 L502 x508 x509 x511 x512 X507 X510
  clear c514
  go_wp2_with fail
  refine (HT0 w513 F518.out F520.out B516.out.size).mono ?_
  rintro e w533 ⟨u536, u538, rfl, k537, k539, c534, s535⟩
  have F540 := Lib.hid (MoveO.of (lo := w513.heap.size) (hi := w533.heap.size) k537 k539 (.inl (by omega)) (by omega) (by omega) (by omega) (by omega))
  have L541 := Lib.hid (Nat.le_refl w533.heap.size)
  have Y542 := Lib.hid (show w513.heap.size ≤ w533.heap.size from c534.size)
  clear k537 k539 s535
  have Z543 := Lib.hid (show w513.heap.size ≤ w533.heap.size from (c534).size)
  have B544 := Lib.hid (below_then B516.out B516.out.size c534)
  have L545 := Lib.hid (Nat.le_trans L517.out (c534).size)
  have F546 := Lib.hid (F518.out.keep c534 L517.out)
  have L547 := Lib.hid (Nat.le_trans L519.out (c534).size)
  have F548 := Lib.hid (F520.out.keep c534 L519.out)
  have L549 := Lib.hid (Nat.le_trans L521.out (c534).size)
  have F550 := Lib.hid (F522.out.keep c534 L521.out)
  have L551 := Lib.hid (Nat.le_trans L523.out (c534).size)
  have F552 := Lib.hid (F524.out.keep c534 L523.out)
  have L553 := Lib.hid (Nat.le_trans L525.out (c534).size)
  have F554 := Lib.hid (F526.out.keep c534 L525.out)
  have X555 := Lib.hid (X527.out.keep c534)
  have x556 := X555.out.c0
  have x557 := X555.out.c1
  have X558 := Lib.hid (X530.out.keep c534)
  have x559 := X558.out.c0
  have x560 := X558.out.c1
  clear B516 F518 F520 F522 F524 F526 L517 L519 L521 L523 L525 x528 x529 x531 x532 X527 X530
  clear c534
  go_wp2_with fail
  refine (HT1 w533 F550.out B544.out.size).mono ?_
  rintro e w561 ⟨u564, rfl, k565, c562, s563⟩
  have F566 := Lib.hid (k565.mono (lo' := w533.heap.size) (hi' := w561.heap.size) (by omega) (by omega))
  have L567 := Lib.hid (Nat.le_refl w561.heap.size)
  have Y568 := Lib.hid (show w533.heap.size ≤ w561.heap.size from c562.size)
  clear k565 s563
  have Z569 := Lib.hid (show w533.heap.size ≤ w561.heap.size from (c562).size)
  have B570 := Lib.hid (below_then B544.out B544.out.size c562)
  have L571 := Lib.hid (Nat.le_trans L545.out (c562).size)
  have F572 := Lib.hid (F546.out.keep c562 L545.out)
  have L573 := Lib.hid (Nat.le_trans L547.out (c562).size)
  have F574 := Lib.hid (F548.out.keep c562 L547.out)
  have L575 := Lib.hid (Nat.le_trans L549.out (c562).size)
  have F576 := Lib.hid (F550.out.keep c562 L549.out)
  have L577 := Lib.hid (Nat.le_trans L551.out (c562).size)
  have F578 := Lib.hid (F552.out.keep c562 L551.out)
  have L579 := Lib.hid (Nat.le_trans L553.out (c562).size)
  have F580 := Lib.hid (F554.out.keep c562 L553.out)
  have L581 := Lib.hid (Nat.le_trans L541.out (c562).size)
  have F582 := Lib.hid (F540.out.keep c562 L541.out)
  have X583 := Lib.hid (X555.out.keep c562)
  have x584 := X583.out.c0
  have x585 := X583.out.c1
  have X586 := Lib.hid (X558.out.keep c562)
  have x587 := X586.out.c0
  have x588 := X586.out.c1
  clear B544 F546 F548 F550 F552 F554 F540 L545 L547 L549 L551 L553 L541 x556 x557 x559 x560 X555 X558
  clear c562
  go_wp2_with fail
  have SP := (fun a b c u1 u2 u3 => implMovePolygon_any a b c u1 u2 u3) M0 V0 l1 u536 u538 u564 w561.heap.size w561  ((F582.out.fstR).upto L581.out) ((F582.out.sndR).upto L581.out) ((F566.out.read).upto L567.out) (Nat.le_refl _)
  rw [hP] at SP
  try dsimp only at SP
  refine SP.mono ?_
  clear SP
  rintro e w589 ⟨u592, rfl, k591, c590⟩
  have F593 := Lib.hid k591
  have L594 := Lib.hid (Nat.le_refl w589.heap.size)
  have Y595 := Lib.hid (show w561.heap.size ≤ w589.heap.size from c590.size)
  clear k591
  have Z596 := Lib.hid (show w561.heap.size ≤ w589.heap.size from (c590).size)
  have B597 := Lib.hid (below_then B570.out B570.out.size c590)
  have L598 := Lib.hid (Nat.le_trans L571.out (c590).size)
  have F599 := Lib.hid (F572.out.keep c590 L571.out)
  have L600 := Lib.hid (Nat.le_trans L573.out (c590).size)
  have F601 := Lib.hid (F574.out.keep c590 L573.out)
  have L602 := Lib.hid (Nat.le_trans L575.out (c590).size)
  have F603 := Lib.hid (F576.out.keep c590 L575.out)
  have L604 := Lib.hid (Nat.le_trans L577.out (c590).size)
  have F605 := Lib.hid (F578.out.keep c590 L577.out)
  have L606 := Lib.hid (Nat.le_trans L579.out (c590).size)
  have F607 := Lib.hid (F580.out.keep c590 L579.out)
  have L608 := Lib.hid (Nat.le_trans L581.out (c590).size)
  have F609 := Lib.hid (F582.out.keep c590 L581.out)
  have L610 := Lib.hid (Nat.le_trans L567.out (c590).size)
  have F611 := Lib.hid (F566.out.keep c590 L567.out)
  have X612 := Lib.hid (X583.out.keep c590)
  have x613 := X612.out.c0
  have x614 := X612.out.c1
  have X615 := Lib.hid (X586.out.keep c590)
  have x616 := X615.out.c0
  have x617 := X615.out.c1
  clear B570 F572 F574 F576 F578 F580 F582 F566 L571 L573 L575 L577 L579 L581 L567 x584 x585 x587 x588 X583 X586
  clear c590
  go_wp2_with fail
  have E := eqIntSS_any RL RL u592 u144 _ _ w589 (F593.out.read) (F605.out.read)
  rw [decide_eq_true (rfl : RL = RL)] at E
  refine (toBelow E).mono ?_
  clear E
  rintro e w618 ⟨rfl, c619⟩
  have Z620 := Lib.hid (show w589.heap.size ≤ w618.heap.size from (c619).size)
  have B621 := Lib.hid (below_then B597.out B597.out.size c619)
  have L622 := Lib.hid (Nat.le_trans L598.out (c619).size)
  have F623 := Lib.hid (F599.out.keep c619 L598.out)
  have L624 := Lib.hid (Nat.le_trans L600.out (c619).size)
  have F625 := Lib.hid (F601.out.keep c619 L600.out)
  have L626 := Lib.hid (Nat.le_trans L602.out (c619).size)
  have F627 := Lib.hid (F603.out.keep c619 L602.out)
  have L628 := Lib.hid (Nat.le_trans L604.out (c619).size)
  have F629 := Lib.hid (F605.out.keep c619 L604.out)
  have L630 := Lib.hid (Nat.le_trans L606.out (c619).size)
  have F631 := Lib.hid (F607.out.keep c619 L606.out)
  have L632 := Lib.hid (Nat.le_trans L608.out (c619).size)
  have F633 := Lib.hid (F609.out.keep c619 L608.out)
  have L634 := Lib.hid (Nat.le_trans L610.out (c619).size)
  have F635 := Lib.hid (F611.out.keep c619 L610.out)
  have L636 := Lib.hid (Nat.le_trans L594.out (c619).size)
  have F637 := Lib.hid (F593.out.keep c619 L594.out)
  have X638 := Lib.hid (X612.out.keep c619)
  have x639 := X638.out.c0
  have x640 := X638.out.c1
  have X641 := Lib.hid (X615.out.keep c619)
  have x642 := X641.out.c0
  have x643 := X641.out.c1
  clear B597 F599 F601 F603 F605 F607 F609 F611 F593 L598 L600 L602 L604 L606 L608 L610 L594 x613 x614 x616 x617 X612 X615
  clear c619
  go_wp2_with fail
  have Q := toBelow0 (heldIntSS_any RL u243 w618.heap.size 1 w618 ((F631.out.read).upto L630.out) (by omega) (by omega))
  have hq : decide (1 + (totL RL RL.length : Int) < 0) = false := by rw [decide_eq_false_iff_not]; omega
  refine Q.mono ?_
  clear Q
  rintro e w644 ⟨rfl, c645⟩
  have Z646 := Lib.hid (show w618.heap.size ≤ w644.heap.size from (c645).size)
  have B647 := Lib.hid (below_then B621.out B621.out.size c645)
  have L648 := Lib.hid (Nat.le_trans L622.out (c645).size)
  have F649 := Lib.hid (F623.out.keep c645 L622.out)
  have L650 := Lib.hid (Nat.le_trans L624.out (c645).size)
  have F651 := Lib.hid (F625.out.keep c645 L624.out)
  have L652 := Lib.hid (Nat.le_trans L626.out (c645).size)
  have F653 := Lib.hid (F627.out.keep c645 L626.out)
  have L654 := Lib.hid (Nat.le_trans L628.out (c645).size)
  have F655 := Lib.hid (F629.out.keep c645 L628.out)
  have L656 := Lib.hid (Nat.le_trans L630.out (c645).size)
  have F657 := Lib.hid (F631.out.keep c645 L630.out)
  have L658 := Lib.hid (Nat.le_trans L632.out (c645).size)
  have F659 := Lib.hid (F633.out.keep c645 L632.out)
  have L660 := Lib.hid (Nat.le_trans L634.out (c645).size)
  have F661 := Lib.hid (F635.out.keep c645 L634.out)
  have L662 := Lib.hid (Nat.le_trans L636.out (c645).size)
  have F663 := Lib.hid (F637.out.keep c645 L636.out)
  have X664 := Lib.hid (X638.out.keep c645)
  have x665 := X664.out.c0
  have x666 := X664.out.c1
  have X667 := Lib.hid (X641.out.keep c645)
  have x668 := X667.out.c0
  have x669 := X667.out.c1
  clear B621 F623 F625 F627 F629 F631 F633 F635 F637 L622 L624 L626 L628 L630 L632 L634 L636 x639 x640 x642 x643 X638 X641
  clear c645
  go_wp2
  go_ret
  exact ⟨rfl, B647.out⟩
end Go.Proofs.Ytgecnidndjbdaaa
