/- The law on InverseMove: its walk. -/
import Derived.Test.YtgecnidndjbdaaaIMv
import Derived.Test.YtgecnidndjbdaaaOpenM
import Derived.Test.YtgecnidndjbdaaaB1
import Derived.Test.YtgecnidndjbdaaaB2
import Derived.Deep.RegionHeld3
namespace Go.Proofs.Ytgecnidndjbdaaa
open Go.RowKit
set_option linter.unusedVariables false
set_option linter.unusedSimpArgs false

theorem totK_totL (ls : List (List Int)) : ∀ j, totK ls j = ls.length + totL ls j
  | 0 => rfl
  | j + 1 => by rw [show totK ls (j + 1) = totK ls j + (ls.getD j []).length from rfl, show totL ls (j + 1) = totL ls j + (ls.getD j []).length from rfl, totK_totL ls j, Nat.add_assoc]
theorem totL_le (ls : List (List Int)) : totL ls ls.length ≤ totS ls := by unfold totS; rw [totK_totL]; omega
theorem totL_pts {ls : List (List Int)} (h : ∀ i, i < ls.length → (ls.getD i []).length ≤ 2) : ∀ j, j ≤ ls.length → totL ls j ≤ 2 * j
  | 0, _ => by simp [totL]
  | j + 1, hj => by
    have := totL_pts h j (by omega)
    have := h j (by omega)
    rw [show totL ls (j + 1) = totL ls j + (ls.getD j []).length from rfl]; omega
theorem imvV_len (U : List (List Int)) (V : List Int) : totL (imvV U V).1.1 (imvV U V).1.1.length ≤ 1000 ∧ (imvV U V).1.1.length ≤ 12 ∧ (imvV U V).1.2.length ≤ 12 ∧ ∀ i, i < (imvV U V).1.1.length → ((imvV U V).1.1.getD i []).length ≤ 12 := by
  cases h : imvOk U V
  · rw [imvV_no h]; simp [totL]
  · rw [imvV_yes h]
    have hm : moveB U V = true := by unfold imvOk at h; simp only [Bool.and_eq_true] at h; exact h.1
    have hl : (invM U).length = 2 := by simp [invM, (moveB_mv hm).len]
    have hr : ∀ i, i < (invM U).length → ((invM U).getD i []).length ≤ 2 := fun i hi => by
      unfold invM at hi ⊢
      rw [List.length_map, List.length_range] at hi
      rw [List.getD_eq_getElem?_getD, List.getElem?_map, List.getElem?_range hi]
      show (invRow U i).length ≤ 2
      rw [invRow_len, (moveB_mv hm).len]; exact Nat.le_refl _
    have := totL_pts hr _ (Nat.le_refl _)
    show totL (invM U) (invM U).length ≤ 1000 ∧ (invM U).length ≤ 12 ∧ (ngV (invM U) V).length ≤ 12 ∧ ∀ i, i < (invM U).length → ((invM U).getD i []).length ≤ 12
    exact ⟨by omega, by omega, by simp [ngV], fun i hi => by have := hr i hi; omega⟩

set_option maxHeartbeats 8000000 in
theorem lawInverseMove (v0 : Value) (y0 : List (List Int) × List Int) (w : World) (h0 : MoveR w w.heap.size v0 y0) :
    Calls Try.prog 4 #[v0] w fun e w' => e = .returned (.bool true) ∧ Below w.heap.size w w' := by
  obtain ⟨M0, V0⟩ := y0
  obtain ⟨r0, t0, rfl, i0, j0⟩ := h0
  simp only at i0 j0
  have b0 := below1 w (.cells #[r0, t0] 25)
  obtain ⟨z0, hz0⟩ : ∃ z : Nat, z = (totS M0 + V0.length) := ⟨_, rfl⟩
  by_cases hZ0 : z0 ≤ 1048576
  case neg =>
    have HZZ0 := Lib.hid hz0
    clear hz0
    go_enter Try.func4, Try.ntmps4
    have B1 := Lib.hid b0
    have Z2 := Lib.hid (show w.heap.size + 1 ≤ ((w.alloc (.cells #[r0, t0] 25))).heap.size by simp)
    have F3 := Lib.hid (i0.keep b0 (Nat.le_refl _))
    have L4 := Lib.hid (b0.size)
    have F5 := Lib.hid (j0.keep b0 (Nat.le_refl _))
    have L6 := Lib.hid (b0.size)
    have X7 := Lib.hid (box2_new w r0 t0 25)
    have x8 := X7.out.c0
    have x9 := X7.out.c1
    clear b0 i0 j0
    go_wp2_with fail
    have SZ := szMove_any M0 V0 r0 t0 w.heap.size _ F3.out F5.out (B1.out.size)
    rw [← HZZ0.out] at SZ
    unfold szTot at SZ
    rw [if_neg hZ0] at SZ
    refine SZ.mono ?_
    clear SZ
    rintro e w10 ⟨rfl, c11⟩
    have Z12 := Lib.hid (show (w.alloc (.cells #[r0, t0] 25)).heap.size ≤ w10.heap.size from (c11).size)
    have B13 := Lib.hid (below_then B1.out B1.out.size c11)
    have L14 := Lib.hid (Nat.le_trans L4.out (c11).size)
    have F15 := Lib.hid (F3.out.keep c11 L4.out)
    have L16 := Lib.hid (Nat.le_trans L6.out (c11).size)
    have F17 := Lib.hid (F5.out.keep c11 L6.out)
    have X18 := Lib.hid (X7.out.keep c11)
    have x19 := X18.out.c0
    have x20 := X18.out.c1
    clear B1 F3 F5 L4 L6 x8 x9 X7
    clear c11
    go_wp2
    go_ret
    exact ⟨rfl, B13.out⟩
  have HT0 := fun w' (j1 : ISSr w' w.heap.size r0 M0) (j2 : ISr w' w.heap.size t0 V0) (hs : w.heap.size ≤ w'.heap.size) => toMove_any M0 V0 r0 t0 w.heap.size w' j1 j2 hs (totS_len (ls := M0) (B := 1048576) (by omega)).1 (totS_len (ls := M0) (B := 1048576) (by omega)).2 (by omega)
  have ht0 : totL M0 M0.length ≤ 1048576 := Nat.le_trans (totL_le M0) (by omega)
  have hl0 : V0.length ≤ 1048576 := by omega
  have hRb := imvV_len M0 V0
  obtain ⟨pp, hP⟩ : ∃ p, imvV M0 V0 = p := ⟨_, rfl⟩
  rw [hP] at hRb
  obtain ⟨⟨RM, RV⟩, ok⟩ := pp
  dsimp only at hRb
  have HZZ0 := Lib.hid hz0
  clear hz0
  go_enter Try.func4, Try.ntmps4
  have B21 := Lib.hid b0
  have Z22 := Lib.hid (show w.heap.size + 1 ≤ ((w.alloc (.cells #[r0, t0] 25))).heap.size by simp)
  have F23 := Lib.hid (i0.keep b0 (Nat.le_refl _))
  have L24 := Lib.hid (b0.size)
  have F25 := Lib.hid (j0.keep b0 (Nat.le_refl _))
  have L26 := Lib.hid (b0.size)
  have X27 := Lib.hid (box2_new w r0 t0 25)
  have x28 := X27.out.c0
  have x29 := X27.out.c1
  clear b0 i0 j0
  go_wp2_with fail
  have SZ := szMove_any M0 V0 r0 t0 w.heap.size _ F23.out F25.out (B21.out.size)
  rw [← HZZ0.out] at SZ
  unfold szTot at SZ
  rw [if_pos hZ0] at SZ
  refine SZ.mono ?_
  clear SZ
  rintro e w30 ⟨rfl, c31⟩
  have Z32 := Lib.hid (show (w.alloc (.cells #[r0, t0] 25)).heap.size ≤ w30.heap.size from (c31).size)
  have B33 := Lib.hid (below_then B21.out B21.out.size c31)
  have L34 := Lib.hid (Nat.le_trans L24.out (c31).size)
  have F35 := Lib.hid (F23.out.keep c31 L24.out)
  have L36 := Lib.hid (Nat.le_trans L26.out (c31).size)
  have F37 := Lib.hid (F25.out.keep c31 L26.out)
  have X38 := Lib.hid (X27.out.keep c31)
  have x39 := X38.out.c0
  have x40 := X38.out.c1
  clear B21 F23 F25 L24 L26 x28 x29 X27
  clear c31
  have hr0 : 0 ≤ (1048576 : Int) - (z0 : Int) := by omega
  clear HZZ0
  go_wp2_with fail
  refine (HT0 w30 F35.out F37.out B33.out.size).mono ?_
  rintro e w41 ⟨u44, u46, rfl, k45, k47, c42, s43⟩
  have F48 := Lib.hid (MoveO.of (lo := w30.heap.size) (hi := w41.heap.size) k45 k47 (.inl (by omega)) (by omega) (by omega) (by omega) (by omega))
  have L49 := Lib.hid (Nat.le_refl w41.heap.size)
  have Y50 := Lib.hid (show w30.heap.size ≤ w41.heap.size from c42.size)
  clear k45 k47 s43
  have Z51 := Lib.hid (show w30.heap.size ≤ w41.heap.size from (c42).size)
  have B52 := Lib.hid (below_then B33.out B33.out.size c42)
  have L53 := Lib.hid (Nat.le_trans L34.out (c42).size)
  have F54 := Lib.hid (F35.out.keep c42 L34.out)
  have L55 := Lib.hid (Nat.le_trans L36.out (c42).size)
  have F56 := Lib.hid (F37.out.keep c42 L36.out)
  have X57 := Lib.hid (X38.out.keep c42)
  have x58 := X57.out.c0
  have x59 := X57.out.c1
  clear B33 F35 F37 L34 L36 x39 x40 X38
  clear c42
  go_wp2_with fail
  have SP := (fun a b u1 u2 => specInverseMove_any a b u1 u2) M0 V0 u44 u46 w41.heap.size w41  ((F48.out.fstR).upto L49.out) ((F48.out.sndR).upto L49.out) (Nat.le_refl _)
  rw [hP] at SP
  try dsimp only at SP
  refine SP.mono ?_
  clear SP
  rintro e w60 ⟨u63, u64, rfl, k62, c61⟩
  have F65 := Lib.hid k62
  have L66 := Lib.hid (Nat.le_refl w60.heap.size)
  have Y67 := Lib.hid (show w41.heap.size ≤ w60.heap.size from c61.size)
  clear k62
  have Z68 := Lib.hid (show w41.heap.size ≤ w60.heap.size from (c61).size)
  have B69 := Lib.hid (below_then B52.out B52.out.size c61)
  have L70 := Lib.hid (Nat.le_trans L53.out (c61).size)
  have F71 := Lib.hid (F54.out.keep c61 L53.out)
  have L72 := Lib.hid (Nat.le_trans L55.out (c61).size)
  have F73 := Lib.hid (F56.out.keep c61 L55.out)
  have L74 := Lib.hid (Nat.le_trans L49.out (c61).size)
  have F75 := Lib.hid (F48.out.keep c61 L49.out)
  have X76 := Lib.hid (X57.out.keep c61)
  have x77 := X76.out.c0
  have x78 := X76.out.c1
  clear B52 F54 F56 F48 L53 L55 L49 x58 x59 X57
  clear c61
  obtain ⟨a79, q80, h81, -⟩ := id (F65.out.fstR)
  subst h81
  obtain ⟨a82, q83, h84, -⟩ := id (F65.out.sndR)
  subst h84
  have ca := below1 w60 (.cells #[(.slice a79 RM.length q80), (.slice a82 RV.length q83)] 28)
  have X86 := Lib.hid (box2_new w60 (.slice a79 RM.length q80) (.slice a82 RV.length q83) 28)
  have Z87 := Lib.hid (show w60.heap.size + 1 ≤ (w60.alloc (.cells #[(.slice a79 RM.length q80), (.slice a82 RV.length q83)] 28)).heap.size by simp)
  have v88 := (X76.out.keep ca).c0
  have v89 := (X76.out.keep ca).c1
  go_wp2_with fail
  generalize w60.alloc (.cells #[(.slice a79 RM.length q80), (.slice a82 RV.length q83)] 28) = w85 at *
  clear v88 v89
  have Z90 := Lib.hid (show w60.heap.size ≤ w85.heap.size from (ca).size)
  have B91 := Lib.hid (below_then B69.out B69.out.size ca)
  have L92 := Lib.hid (Nat.le_trans L70.out (ca).size)
  have F93 := Lib.hid (F71.out.keep ca L70.out)
  have L94 := Lib.hid (Nat.le_trans L72.out (ca).size)
  have F95 := Lib.hid (F73.out.keep ca L72.out)
  have L96 := Lib.hid (Nat.le_trans L74.out (ca).size)
  have F97 := Lib.hid (F75.out.keep ca L74.out)
  have L98 := Lib.hid (Nat.le_trans L66.out (ca).size)
  have F99 := Lib.hid (F65.out.keep ca L66.out)
  have X100 := Lib.hid (X76.out.keep ca)
  have x101 := X100.out.c0
  have x102 := X100.out.c1
  clear B69 F71 F73 F75 F65 L70 L72 L74 L66 x77 x78 X76
  clear ca
  have x103 := X86.out.c0
  have x104 := X86.out.c1
  clear F97
  go_wp2_with fail
  refine (HT0 w85 F93.out F95.out B91.out.size).mono ?_
  rintro e w105 ⟨u108, u110, rfl, k109, k111, c106, s107⟩
  have F112 := Lib.hid (MoveO.of (lo := w85.heap.size) (hi := w105.heap.size) k109 k111 (.inl (by omega)) (by omega) (by omega) (by omega) (by omega))
  have L113 := Lib.hid (Nat.le_refl w105.heap.size)
  have Y114 := Lib.hid (show w85.heap.size ≤ w105.heap.size from c106.size)
  clear k109 k111 s107
  have Z115 := Lib.hid (show w85.heap.size ≤ w105.heap.size from (c106).size)
  have B116 := Lib.hid (below_then B91.out B91.out.size c106)
  have L117 := Lib.hid (Nat.le_trans L92.out (c106).size)
  have F118 := Lib.hid (F93.out.keep c106 L92.out)
  have L119 := Lib.hid (Nat.le_trans L94.out (c106).size)
  have F120 := Lib.hid (F95.out.keep c106 L94.out)
  have L121 := Lib.hid (Nat.le_trans L98.out (c106).size)
  have F122 := Lib.hid (F99.out.keep c106 L98.out)
  have X123 := Lib.hid (X100.out.keep c106)
  have x124 := X123.out.c0
  have x125 := X123.out.c1
  have X126 := Lib.hid (X86.out.keep c106)
  have x127 := X126.out.c0
  have x128 := X126.out.c1
  clear B91 F93 F95 F99 L92 L94 L98 x101 x102 x103 x104 X100 X86
  clear c106
  obtain ⟨a129, q130, h131, -⟩ := id (F112.out.fstR)
  subst h131
  obtain ⟨a132, q133, h134, -⟩ := id (F112.out.sndR)
  subst h134
  have ca := below1 w105 (.cells #[(.slice a129 M0.length q130), (.slice a132 V0.length q133)] 28)
  have X136 := Lib.hid (box2_new w105 (.slice a129 M0.length q130) (.slice a132 V0.length q133) 28)
  have Z137 := Lib.hid (show w105.heap.size + 1 ≤ (w105.alloc (.cells #[(.slice a129 M0.length q130), (.slice a132 V0.length q133)] 28)).heap.size by simp)
  have v138 := (X123.out.keep ca).c0
  have v139 := (X123.out.keep ca).c1
  have v140 := (X126.out.keep ca).c0
  have v141 := (X126.out.keep ca).c1
  go_wp2_with fail
  generalize w105.alloc (.cells #[(.slice a129 M0.length q130), (.slice a132 V0.length q133)] 28) = w135 at *
  clear v138 v139 v140 v141
  have Z142 := Lib.hid (show w105.heap.size ≤ w135.heap.size from (ca).size)
  have B143 := Lib.hid (below_then B116.out B116.out.size ca)
  have L144 := Lib.hid (Nat.le_trans L117.out (ca).size)
  have F145 := Lib.hid (F118.out.keep ca L117.out)
  have L146 := Lib.hid (Nat.le_trans L119.out (ca).size)
  have F147 := Lib.hid (F120.out.keep ca L119.out)
  have L148 := Lib.hid (Nat.le_trans L121.out (ca).size)
  have F149 := Lib.hid (F122.out.keep ca L121.out)
  have L150 := Lib.hid (Nat.le_trans L113.out (ca).size)
  have F151 := Lib.hid (F112.out.keep ca L113.out)
  have X152 := Lib.hid (X123.out.keep ca)
  have x153 := X152.out.c0
  have x154 := X152.out.c1
  have X155 := Lib.hid (X126.out.keep ca)
  have x156 := X155.out.c0
  have x157 := X155.out.c1
  clear B116 F118 F120 F122 F112 L117 L119 L121 L113 x124 x125 x127 x128 X123 X126
  clear ca
  have x158 := X136.out.c0
  have x159 := X136.out.c1
  go_wp2_with fail
  have SP := (fun a b u1 u2 => implInverseMove_any a b u1 u2) M0 V0 (.slice a129 M0.length q130) (.slice a132 V0.length q133) w135.heap.size w135  ((F151.out.fstR).upto L150.out) ((F151.out.sndR).upto L150.out) (Nat.le_refl _)
  rw [hP] at SP
  try dsimp only at SP
  refine SP.mono ?_
  clear SP
  rintro e w160 ⟨u163, u164, rfl, k162, c161⟩
  have F165 := Lib.hid k162
  have L166 := Lib.hid (Nat.le_refl w160.heap.size)
  have Y167 := Lib.hid (show w135.heap.size ≤ w160.heap.size from c161.size)
  clear k162
  have Z168 := Lib.hid (show w135.heap.size ≤ w160.heap.size from (c161).size)
  have B169 := Lib.hid (below_then B143.out B143.out.size c161)
  have L170 := Lib.hid (Nat.le_trans L144.out (c161).size)
  have F171 := Lib.hid (F145.out.keep c161 L144.out)
  have L172 := Lib.hid (Nat.le_trans L146.out (c161).size)
  have F173 := Lib.hid (F147.out.keep c161 L146.out)
  have L174 := Lib.hid (Nat.le_trans L148.out (c161).size)
  have F175 := Lib.hid (F149.out.keep c161 L148.out)
  have L176 := Lib.hid (Nat.le_trans L150.out (c161).size)
  have F177 := Lib.hid (F151.out.keep c161 L150.out)
  have X178 := Lib.hid (X152.out.keep c161)
  have x179 := X178.out.c0
  have x180 := X178.out.c1
  have X181 := Lib.hid (X155.out.keep c161)
  have x182 := X181.out.c0
  have x183 := X181.out.c1
  have X184 := Lib.hid (X136.out.keep c161)
  have x185 := X184.out.c0
  have x186 := X184.out.c1
  clear B143 F145 F147 F149 F151 L144 L146 L148 L150 x153 x154 x156 x157 x158 x159 X152 X155 X136
  clear c161
  obtain ⟨a187, q188, h189, -⟩ := id (F165.out.fstR)
  subst h189
  obtain ⟨a190, q191, h192, -⟩ := id (F165.out.sndR)
  subst h192
  have ca := below1 w160 (.cells #[(.slice a187 RM.length q188), (.slice a190 RV.length q191)] 28)
  have X194 := Lib.hid (box2_new w160 (.slice a187 RM.length q188) (.slice a190 RV.length q191) 28)
  have Z195 := Lib.hid (show w160.heap.size + 1 ≤ (w160.alloc (.cells #[(.slice a187 RM.length q188), (.slice a190 RV.length q191)] 28)).heap.size by simp)
  have v196 := (X178.out.keep ca).c0
  have v197 := (X178.out.keep ca).c1
  have v198 := (X181.out.keep ca).c0
  have v199 := (X181.out.keep ca).c1
  have v200 := (X184.out.keep ca).c0
  have v201 := (X184.out.keep ca).c1
  go_wp2_with fail
  generalize w160.alloc (.cells #[(.slice a187 RM.length q188), (.slice a190 RV.length q191)] 28) = w193 at *
  clear v196 v197 v198 v199 v200 v201
  have Z202 := Lib.hid (show w160.heap.size ≤ w193.heap.size from (ca).size)
  have B203 := Lib.hid (below_then B169.out B169.out.size ca)
  have L204 := Lib.hid (Nat.le_trans L170.out (ca).size)
  have F205 := Lib.hid (F171.out.keep ca L170.out)
  have L206 := Lib.hid (Nat.le_trans L172.out (ca).size)
  have F207 := Lib.hid (F173.out.keep ca L172.out)
  have L208 := Lib.hid (Nat.le_trans L174.out (ca).size)
  have F209 := Lib.hid (F175.out.keep ca L174.out)
  have L210 := Lib.hid (Nat.le_trans L176.out (ca).size)
  have F211 := Lib.hid (F177.out.keep ca L176.out)
  have L212 := Lib.hid (Nat.le_trans L166.out (ca).size)
  have F213 := Lib.hid (F165.out.keep ca L166.out)
  have X214 := Lib.hid (X178.out.keep ca)
  have x215 := X214.out.c0
  have x216 := X214.out.c1
  have X217 := Lib.hid (X181.out.keep ca)
  have x218 := X217.out.c0
  have x219 := X217.out.c1
  have X220 := Lib.hid (X184.out.keep ca)
  have x221 := X220.out.c0
  have x222 := X220.out.c1
  clear B169 F171 F173 F175 F177 F165 L170 L172 L174 L176 L166 x179 x180 x182 x183 x185 x186 X178 X181 X184
  clear ca
  have x223 := X194.out.c0
  have x224 := X194.out.c1
  go_wp2_with fail
  have E := eqMove_any RM RV (.slice a187 RM.length q188) (.slice a190 RV.length q191) (.slice a79 RM.length q80) (.slice a82 RV.length q83) _ _ w193 F213.out.fstR F213.out.sndR F209.out.fstR F209.out.sndR L212.out L208.out
  refine E.mono ?_
  clear E
  rintro e w225 ⟨rfl, c226⟩
  have Z227 := Lib.hid (show w193.heap.size ≤ w225.heap.size from (c226).size)
  have B228 := Lib.hid (below_then B203.out B203.out.size c226)
  have L229 := Lib.hid (Nat.le_trans L204.out (c226).size)
  have F230 := Lib.hid (F205.out.keep c226 L204.out)
  have L231 := Lib.hid (Nat.le_trans L206.out (c226).size)
  have F232 := Lib.hid (F207.out.keep c226 L206.out)
  have L233 := Lib.hid (Nat.le_trans L208.out (c226).size)
  have F234 := Lib.hid (F209.out.keep c226 L208.out)
  have L235 := Lib.hid (Nat.le_trans L210.out (c226).size)
  have F236 := Lib.hid (F211.out.keep c226 L210.out)
  have L237 := Lib.hid (Nat.le_trans L212.out (c226).size)
  have F238 := Lib.hid (F213.out.keep c226 L212.out)
  have X239 := Lib.hid (X214.out.keep c226)
  have x240 := X239.out.c0
  have x241 := X239.out.c1
  have X242 := Lib.hid (X217.out.keep c226)
  have x243 := X242.out.c0
  have x244 := X242.out.c1
  have X245 := Lib.hid (X220.out.keep c226)
  have x246 := X245.out.c0
  have x247 := X245.out.c1
  have X248 := Lib.hid (X194.out.keep c226)
  have x249 := X248.out.c0
  have x250 := X248.out.c1
  clear B203 F205 F207 F209 F211 F213 L204 L206 L208 L210 L212 x215 x216 x218 x219 x221 x222 x223 x224 X214 X217 X220 X194
  clear c226
  have cd : Below w225.heap.size w225 w225.drew := below_draws w225.heap.size w225 1
  have Z251 := Lib.hid (show w225.heap.size ≤ w225.drew.heap.size from (cd).size)
  have B252 := Lib.hid (below_then B228.out B228.out.size cd)
  have L253 := Lib.hid (Nat.le_trans L229.out (cd).size)
  have F254 := Lib.hid (F230.out.keep cd L229.out)
  have L255 := Lib.hid (Nat.le_trans L231.out (cd).size)
  have F256 := Lib.hid (F232.out.keep cd L231.out)
  have L257 := Lib.hid (Nat.le_trans L233.out (cd).size)
  have F258 := Lib.hid (F234.out.keep cd L233.out)
  have L259 := Lib.hid (Nat.le_trans L235.out (cd).size)
  have F260 := Lib.hid (F236.out.keep cd L235.out)
  have L261 := Lib.hid (Nat.le_trans L237.out (cd).size)
  have F262 := Lib.hid (F238.out.keep cd L237.out)
  have X263 := Lib.hid (X239.out.keep cd)
  have x264 := X263.out.c0
  have x265 := X263.out.c1
  have X266 := Lib.hid (X242.out.keep cd)
  have x267 := X266.out.c0
  have x268 := X266.out.c1
  have X269 := Lib.hid (X245.out.keep cd)
  have x270 := X269.out.c0
  have x271 := X269.out.c1
  have X272 := Lib.hid (X248.out.keep cd)
  have x273 := X272.out.c0
  have x274 := X272.out.c1
  clear B228 F230 F232 F234 F236 F238 L229 L231 L233 L235 L237 x240 x241 x243 x244 x246 x247 x249 x250 X239 X242 X245 X248
  clear cd
  go_wp2_with fail
  go_region_held3 (fun w' => w'.cell? ⟨w.heap.size, 0, none⟩ = some (r0) ∧ w'.cell? ⟨w.heap.size, 1, none⟩ = some (t0) ∧ w'.cell? ⟨w105.heap.size, 0, none⟩ = some (.slice a129 M0.length q130) ∧ w'.cell? ⟨w105.heap.size, 1, none⟩ = some (.slice a132 V0.length q133)) (first | exact ⟨x264, x265, x270, x271⟩ | exact ⟨t0, t1, t2, t3⟩ | exact ⟨y0, y1, y2, y3⟩) (first | (go_at_call 12; (with_reducible refine (HT0 _ F254.out F256.out B252.out.size).mono ?_); rintro e w275 ⟨u279, u281, rfl, k280, k282, c277, sq⟩; have t0 := ((X263.out.keep c277).c0); have t1 := ((X263.out.keep c277).c1); have t2 := ((X269.out.keep c277).c0); have t3 := ((X269.out.keep c277).c1)) | (go_at_call 14; have J0 := (k280.mono (Nat.le_refl _) (show _ ≤ w275.heap.size by omega)).read; have J1 := (k282.mono (Nat.le_refl _) (show _ ≤ w275.heap.size by omega)).read; (with_reducible refine (eqMove_any M0 V0 (.slice a129 M0.length q130) (.slice a132 V0.length q133) u279 u281 _ _ w275 ((F260.out.fstR).keep c277 L259.out) ((F260.out.sndR).keep c277 L259.out) J0 J1 (Nat.le_trans L259.out c277.size) (Nat.le_refl _)).mono ?_); rintro e w276 ⟨rfl, c278⟩; have y0 := (((X263.out.keep c277).keep c278).c0); have y1 := (((X263.out.keep c277).keep c278).c1); have y2 := (((X269.out.keep c277).keep c278).c0); have y3 := (((X269.out.keep c277).keep c278).c1)))
  clear t0 t1 t2 t3 y0 y1 y2 y3 sq k280 k282 J0 J1
  have Z283 := Lib.hid (show w225.drew.heap.size ≤ w275.heap.size from (c277).size)
  have B284 := Lib.hid (below_then B252.out B252.out.size c277)
  have L285 := Lib.hid (Nat.le_trans L253.out (c277).size)
  have F286 := Lib.hid (F254.out.keep c277 L253.out)
  have L287 := Lib.hid (Nat.le_trans L255.out (c277).size)
  have F288 := Lib.hid (F256.out.keep c277 L255.out)
  have L289 := Lib.hid (Nat.le_trans L257.out (c277).size)
  have F290 := Lib.hid (F258.out.keep c277 L257.out)
  have L291 := Lib.hid (Nat.le_trans L259.out (c277).size)
  have F292 := Lib.hid (F260.out.keep c277 L259.out)
  have L293 := Lib.hid (Nat.le_trans L261.out (c277).size)
  have F294 := Lib.hid (F262.out.keep c277 L261.out)
  have X295 := Lib.hid (X263.out.keep c277)
  have x296 := X295.out.c0
  have x297 := X295.out.c1
  have X298 := Lib.hid (X266.out.keep c277)
  have x299 := X298.out.c0
  have x300 := X298.out.c1
  have X301 := Lib.hid (X269.out.keep c277)
  have x302 := X301.out.c0
  have x303 := X301.out.c1
  have X304 := Lib.hid (X272.out.keep c277)
  have x305 := X304.out.c0
  have x306 := X304.out.c1
  clear B252 F254 F256 F258 F260 F262 L253 L255 L257 L259 L261 x264 x265 x267 x268 x270 x271 x273 x274 X263 X266 X269 X272
  clear c277
  have Z307 := Lib.hid (show w275.heap.size ≤ w276.heap.size from (c278).size)
  have B308 := Lib.hid (below_then B284.out B284.out.size c278)
  have L309 := Lib.hid (Nat.le_trans L285.out (c278).size)
  have F310 := Lib.hid (F286.out.keep c278 L285.out)
  have L311 := Lib.hid (Nat.le_trans L287.out (c278).size)
  have F312 := Lib.hid (F288.out.keep c278 L287.out)
  have L313 := Lib.hid (Nat.le_trans L289.out (c278).size)
  have F314 := Lib.hid (F290.out.keep c278 L289.out)
  have L315 := Lib.hid (Nat.le_trans L291.out (c278).size)
  have F316 := Lib.hid (F292.out.keep c278 L291.out)
  have L317 := Lib.hid (Nat.le_trans L293.out (c278).size)
  have F318 := Lib.hid (F294.out.keep c278 L293.out)
  have X319 := Lib.hid (X295.out.keep c278)
  have x320 := X319.out.c0
  have x321 := X319.out.c1
  have X322 := Lib.hid (X298.out.keep c278)
  have x323 := X322.out.c0
  have x324 := X322.out.c1
  have X325 := Lib.hid (X301.out.keep c278)
  have x326 := X325.out.c0
  have x327 := X325.out.c1
  have X328 := Lib.hid (X304.out.keep c278)
  have x329 := X328.out.c0
  have x330 := X328.out.c1
  clear B284 F286 F288 F290 F292 F294 L285 L287 L289 L291 L293 x296 x297 x299 x300 x302 x303 x305 x306 X295 X298 X301 X304
  clear c278
  go_wp2_with fail
  have M := markMove_any M0 V0 (.slice a129 M0.length q130) (.slice a132 V0.length q133) w85.heap.size w105.heap.size 1 w276 F316.out L315.out (by omega) (by  omega)
  refine M.mono ?_
  clear M
  rintro e w331 ⟨rfl, k332, o333⟩
  have F335 := Lib.hid k332
  clear k332
  have hK334 : 0 ≤ 1 + (totL M0 M0.length : Int) + (V0.length : Int) ∧ 1 + (totL M0 M0.length : Int) + (V0.length : Int) ≤ 10000000000 := by  omega
  have Z336 := Lib.hid (show w276.heap.size ≤ w331.heap.size from o333.size)
  have B337 := Lib.hid (Only.base B308.out o333 (by have := Z22.out; have := Z32.out; have := Z51.out; have := Z68.out; have := Z90.out; have := Z87.out; have := Z115.out; have := Z142.out; have := Z137.out; have := Z168.out; have := Z202.out; have := Z195.out; have := Z227.out; have := Z251.out; have := Z283.out; have := Z307.out; have := L315.out; have := Y114.out; omega) (by have := Z22.out; have := Z32.out; have := Z51.out; have := Z68.out; have := Z90.out; have := Z87.out; have := Z115.out; have := Z142.out; have := Z137.out; have := Z168.out; have := Z202.out; have := Z195.out; have := Z227.out; have := Z251.out; have := Z283.out; have := Z307.out; have := L315.out; have := Y114.out; omega))
  have L338 := Lib.hid (Nat.le_trans L309.out o333.size)
  have L339 := Lib.hid (Nat.le_trans L311.out o333.size)
  have L340 := Lib.hid (Nat.le_trans L313.out o333.size)
  have L341 := Lib.hid (Nat.le_trans L315.out o333.size)
  have L342 := Lib.hid (Nat.le_trans L317.out o333.size)
  have F343 := Lib.hid (F310.out.keep (o333.below (by have := Z22.out; have := Z32.out; have := Z51.out; have := Z68.out; have := Z90.out; have := Z87.out; have := Z115.out; have := Z142.out; have := Z137.out; have := Z168.out; have := Z202.out; have := Z195.out; have := Z227.out; have := Z251.out; have := Z283.out; have := Z307.out; have := L315.out; have := Y114.out; omega)) (by have := Z22.out; have := Z32.out; have := Z51.out; have := Z68.out; have := Z90.out; have := Z87.out; have := Z115.out; have := Z142.out; have := Z137.out; have := Z168.out; have := Z202.out; have := Z195.out; have := Z227.out; have := Z251.out; have := Z283.out; have := Z307.out; have := L315.out; have := Y114.out; omega))
  have F344 := Lib.hid (F312.out.keep (o333.below (by have := Z22.out; have := Z32.out; have := Z51.out; have := Z68.out; have := Z90.out; have := Z87.out; have := Z115.out; have := Z142.out; have := Z137.out; have := Z168.out; have := Z202.out; have := Z195.out; have := Z227.out; have := Z251.out; have := Z283.out; have := Z307.out; have := L315.out; have := Y114.out; omega)) (by have := Z22.out; have := Z32.out; have := Z51.out; have := Z68.out; have := Z90.out; have := Z87.out; have := Z115.out; have := Z142.out; have := Z137.out; have := Z168.out; have := Z202.out; have := Z195.out; have := Z227.out; have := Z251.out; have := Z283.out; have := Z307.out; have := L315.out; have := Y114.out; omega))
  have F345 := Lib.hid (F314.out.keep (o333.below (by have := Z22.out; have := Z32.out; have := Z51.out; have := Z68.out; have := Z90.out; have := Z87.out; have := Z115.out; have := Z142.out; have := Z137.out; have := Z168.out; have := Z202.out; have := Z195.out; have := Z227.out; have := Z251.out; have := Z283.out; have := Z307.out; have := L315.out; have := Y114.out; omega)) (by have := Z22.out; have := Z32.out; have := Z51.out; have := Z68.out; have := Z90.out; have := Z87.out; have := Z115.out; have := Z142.out; have := Z137.out; have := Z168.out; have := Z202.out; have := Z195.out; have := Z227.out; have := Z251.out; have := Z283.out; have := Z307.out; have := L315.out; have := Y114.out; omega))
  have F346 := Lib.hid (F318.out.only o333 (.inr (by have := Z22.out; have := Z32.out; have := Z51.out; have := Z68.out; have := Z90.out; have := Z87.out; have := Z115.out; have := Z142.out; have := Z137.out; have := Z168.out; have := Z202.out; have := Z195.out; have := Z227.out; have := Z251.out; have := Z283.out; have := Z307.out; have := L315.out; have := Y114.out; omega)))
  have X347 := Lib.hid (X319.out.only o333 (by have := Z22.out; have := Z32.out; have := Z51.out; have := Z68.out; have := Z90.out; have := Z87.out; have := Z115.out; have := Z142.out; have := Z137.out; have := Z168.out; have := Z202.out; have := Z195.out; have := Z227.out; have := Z251.out; have := Z283.out; have := Z307.out; have := L315.out; have := Y114.out; omega))
  have x348 := X347.out.c0
  have x349 := X347.out.c1
  have X350 := Lib.hid (X322.out.only o333 (by have := Z22.out; have := Z32.out; have := Z51.out; have := Z68.out; have := Z90.out; have := Z87.out; have := Z115.out; have := Z142.out; have := Z137.out; have := Z168.out; have := Z202.out; have := Z195.out; have := Z227.out; have := Z251.out; have := Z283.out; have := Z307.out; have := L315.out; have := Y114.out; omega))
  have x351 := X350.out.c0
  have x352 := X350.out.c1
  have X353 := Lib.hid (X325.out.only o333 (by have := Z22.out; have := Z32.out; have := Z51.out; have := Z68.out; have := Z90.out; have := Z87.out; have := Z115.out; have := Z142.out; have := Z137.out; have := Z168.out; have := Z202.out; have := Z195.out; have := Z227.out; have := Z251.out; have := Z283.out; have := Z307.out; have := L315.out; have := Y114.out; omega))
  have x354 := X353.out.c0
  have x355 := X353.out.c1
  have X356 := Lib.hid (X328.out.only o333 (by have := Z22.out; have := Z32.out; have := Z51.out; have := Z68.out; have := Z90.out; have := Z87.out; have := Z115.out; have := Z142.out; have := Z137.out; have := Z168.out; have := Z202.out; have := Z195.out; have := Z227.out; have := Z251.out; have := Z283.out; have := Z307.out; have := L315.out; have := Y114.out; omega))
  have x357 := X356.out.c0
  have x358 := X356.out.c1
  clear B308 F310 F312 F314 F318 L309 L311 L313 L315 L317 F316 x320 x321 x323 x324 x326 x327 x329 x330 X319 X322 X325 X328 o333
  clear F335
  generalize 1 + (totL M0 M0.length : Int) + (V0.length : Int) = K334 at *
  have hdK334 : decide (K334 < 0) = false := by rw [decide_eq_false_iff_not]; omega
  go_wp2_with fail
  have E := eqMove_any RM RV (.slice a187 RM.length q188) (.slice a190 RV.length q191) (.slice a79 RM.length q80) (.slice a82 RV.length q83) _ _ w331 F346.out.fstR F346.out.sndR F345.out.fstR F345.out.sndR L342.out L340.out
  refine E.mono ?_
  clear E
  rintro e w359 ⟨rfl, c360⟩
  have Z361 := Lib.hid (show w331.heap.size ≤ w359.heap.size from (c360).size)
  have B362 := Lib.hid (below_then B337.out B337.out.size c360)
  have L363 := Lib.hid (Nat.le_trans L338.out (c360).size)
  have F364 := Lib.hid (F343.out.keep c360 L338.out)
  have L365 := Lib.hid (Nat.le_trans L339.out (c360).size)
  have F366 := Lib.hid (F344.out.keep c360 L339.out)
  have L367 := Lib.hid (Nat.le_trans L340.out (c360).size)
  have F368 := Lib.hid (F345.out.keep c360 L340.out)
  have L369 := Lib.hid (Nat.le_trans L342.out (c360).size)
  have F370 := Lib.hid (F346.out.keep c360 L342.out)
  have X371 := Lib.hid (X347.out.keep c360)
  have x372 := X371.out.c0
  have x373 := X371.out.c1
  have X374 := Lib.hid (X350.out.keep c360)
  have x375 := X374.out.c0
  have x376 := X374.out.c1
  have X377 := Lib.hid (X353.out.keep c360)
  have x378 := X377.out.c0
  have x379 := X377.out.c1
  have X380 := Lib.hid (X356.out.keep c360)
  have x381 := X380.out.c0
  have x382 := X380.out.c1
  clear B337 F343 F344 F345 F346 L338 L339 L340 L342 x348 x349 x351 x352 x354 x355 x357 x358 X347 X350 X353 X356
  clear c360
  go_wp2_with fail
  have M := markMove_any RM RV (.slice a187 RM.length q188) (.slice a190 RV.length q191) w135.heap.size w160.heap.size 1 w359 F370.out L369.out (by omega) (by  omega)
  refine M.mono ?_
  clear M
  rintro e w383 ⟨rfl, k384, o385⟩
  have F387 := Lib.hid k384
  clear k384
  have hK386 : 0 ≤ 1 + (totL RM RM.length : Int) + (RV.length : Int) ∧ 1 + (totL RM RM.length : Int) + (RV.length : Int) ≤ 20000000000 := by  omega
  have Z388 := Lib.hid (show w359.heap.size ≤ w383.heap.size from o385.size)
  have B389 := Lib.hid (Only.base B362.out o385 (by have := Z22.out; have := Z32.out; have := Z51.out; have := Z68.out; have := Z90.out; have := Z87.out; have := Z115.out; have := Z142.out; have := Z137.out; have := Z168.out; have := Z202.out; have := Z195.out; have := Z227.out; have := Z251.out; have := Z283.out; have := Z307.out; have := Z336.out; have := Z361.out; have := L369.out; have := Y167.out; omega) (by have := Z22.out; have := Z32.out; have := Z51.out; have := Z68.out; have := Z90.out; have := Z87.out; have := Z115.out; have := Z142.out; have := Z137.out; have := Z168.out; have := Z202.out; have := Z195.out; have := Z227.out; have := Z251.out; have := Z283.out; have := Z307.out; have := Z336.out; have := Z361.out; have := L369.out; have := Y167.out; omega))
  have L390 := Lib.hid (Nat.le_trans L363.out o385.size)
  have L391 := Lib.hid (Nat.le_trans L365.out o385.size)
  have L392 := Lib.hid (Nat.le_trans L367.out o385.size)
  have L393 := Lib.hid (Nat.le_trans L369.out o385.size)
  have F394 := Lib.hid (F364.out.keep (o385.below (by have := Z22.out; have := Z32.out; have := Z51.out; have := Z68.out; have := Z90.out; have := Z87.out; have := Z115.out; have := Z142.out; have := Z137.out; have := Z168.out; have := Z202.out; have := Z195.out; have := Z227.out; have := Z251.out; have := Z283.out; have := Z307.out; have := Z336.out; have := Z361.out; have := L369.out; have := Y167.out; omega)) (by have := Z22.out; have := Z32.out; have := Z51.out; have := Z68.out; have := Z90.out; have := Z87.out; have := Z115.out; have := Z142.out; have := Z137.out; have := Z168.out; have := Z202.out; have := Z195.out; have := Z227.out; have := Z251.out; have := Z283.out; have := Z307.out; have := Z336.out; have := Z361.out; have := L369.out; have := Y167.out; omega))
  have F395 := Lib.hid (F366.out.keep (o385.below (by have := Z22.out; have := Z32.out; have := Z51.out; have := Z68.out; have := Z90.out; have := Z87.out; have := Z115.out; have := Z142.out; have := Z137.out; have := Z168.out; have := Z202.out; have := Z195.out; have := Z227.out; have := Z251.out; have := Z283.out; have := Z307.out; have := Z336.out; have := Z361.out; have := L369.out; have := Y167.out; omega)) (by have := Z22.out; have := Z32.out; have := Z51.out; have := Z68.out; have := Z90.out; have := Z87.out; have := Z115.out; have := Z142.out; have := Z137.out; have := Z168.out; have := Z202.out; have := Z195.out; have := Z227.out; have := Z251.out; have := Z283.out; have := Z307.out; have := Z336.out; have := Z361.out; have := L369.out; have := Y167.out; omega))
  have F396 := Lib.hid (F368.out.keep (o385.below (by have := Z22.out; have := Z32.out; have := Z51.out; have := Z68.out; have := Z90.out; have := Z87.out; have := Z115.out; have := Z142.out; have := Z137.out; have := Z168.out; have := Z202.out; have := Z195.out; have := Z227.out; have := Z251.out; have := Z283.out; have := Z307.out; have := Z336.out; have := Z361.out; have := L369.out; have := Y167.out; omega)) (by have := Z22.out; have := Z32.out; have := Z51.out; have := Z68.out; have := Z90.out; have := Z87.out; have := Z115.out; have := Z142.out; have := Z137.out; have := Z168.out; have := Z202.out; have := Z195.out; have := Z227.out; have := Z251.out; have := Z283.out; have := Z307.out; have := Z336.out; have := Z361.out; have := L369.out; have := Y167.out; omega))
  have X397 := Lib.hid (X371.out.only o385 (by have := Z22.out; have := Z32.out; have := Z51.out; have := Z68.out; have := Z90.out; have := Z87.out; have := Z115.out; have := Z142.out; have := Z137.out; have := Z168.out; have := Z202.out; have := Z195.out; have := Z227.out; have := Z251.out; have := Z283.out; have := Z307.out; have := Z336.out; have := Z361.out; have := L369.out; have := Y167.out; omega))
  have x398 := X397.out.c0
  have x399 := X397.out.c1
  have X400 := Lib.hid (X374.out.only o385 (by have := Z22.out; have := Z32.out; have := Z51.out; have := Z68.out; have := Z90.out; have := Z87.out; have := Z115.out; have := Z142.out; have := Z137.out; have := Z168.out; have := Z202.out; have := Z195.out; have := Z227.out; have := Z251.out; have := Z283.out; have := Z307.out; have := Z336.out; have := Z361.out; have := L369.out; have := Y167.out; omega))
  have x401 := X400.out.c0
  have x402 := X400.out.c1
  have X403 := Lib.hid (X377.out.only o385 (by have := Z22.out; have := Z32.out; have := Z51.out; have := Z68.out; have := Z90.out; have := Z87.out; have := Z115.out; have := Z142.out; have := Z137.out; have := Z168.out; have := Z202.out; have := Z195.out; have := Z227.out; have := Z251.out; have := Z283.out; have := Z307.out; have := Z336.out; have := Z361.out; have := L369.out; have := Y167.out; omega))
  have x404 := X403.out.c0
  have x405 := X403.out.c1
  have X406 := Lib.hid (X380.out.only o385 (by have := Z22.out; have := Z32.out; have := Z51.out; have := Z68.out; have := Z90.out; have := Z87.out; have := Z115.out; have := Z142.out; have := Z137.out; have := Z168.out; have := Z202.out; have := Z195.out; have := Z227.out; have := Z251.out; have := Z283.out; have := Z307.out; have := Z336.out; have := Z361.out; have := L369.out; have := Y167.out; omega))
  have x407 := X406.out.c0
  have x408 := X406.out.c1
  clear B362 F364 F366 F368 L363 L365 L367 L369 F370 x372 x373 x375 x376 x378 x379 x381 x382 X371 X374 X377 X380 o385
  go_wp2_with fail
  have Q := heldMove_any RM RV.length (.slice a187 RM.length q188) (.slice a190 RV.length q191) w383.heap.size 1 w383 ((F387.out.fstR).upto L393.out) ((F387.out.sndR).upto L393.out) (Nat.le_refl _) (by omega) (by omega)
  have hq : decide (1 + (totL RM RM.length : Int) + (RV.length : Int) < 0) = false := by rw [decide_eq_false_iff_not]; omega
  refine Q.mono ?_
  clear Q
  rintro e w409 ⟨rfl, c410⟩
  have Z411 := Lib.hid (show w383.heap.size ≤ w409.heap.size from (c410).size)
  have B412 := Lib.hid (below_then B389.out B389.out.size c410)
  have L413 := Lib.hid (Nat.le_trans L390.out (c410).size)
  have F414 := Lib.hid (F394.out.keep c410 L390.out)
  have L415 := Lib.hid (Nat.le_trans L391.out (c410).size)
  have F416 := Lib.hid (F395.out.keep c410 L391.out)
  have L417 := Lib.hid (Nat.le_trans L392.out (c410).size)
  have F418 := Lib.hid (F396.out.keep c410 L392.out)
  have L419 := Lib.hid (Nat.le_trans L393.out (c410).size)
  have F420 := Lib.hid (F387.out.keep c410 L393.out)
  have X421 := Lib.hid (X397.out.keep c410)
  have x422 := X421.out.c0
  have x423 := X421.out.c1
  have X424 := Lib.hid (X400.out.keep c410)
  have x425 := X424.out.c0
  have x426 := X424.out.c1
  have X427 := Lib.hid (X403.out.keep c410)
  have x428 := X427.out.c0
  have x429 := X427.out.c1
  have X430 := Lib.hid (X406.out.keep c410)
  have x431 := X430.out.c0
  have x432 := X430.out.c1
  clear B389 F394 F395 F396 F387 L390 L391 L392 L393 x398 x399 x401 x402 x404 x405 x407 x408 X397 X400 X403 X406
  clear c410
  go_wp2_with fail
  refine (HT0 w409 F414.out F416.out B412.out.size).mono ?_
  rintro e w433 ⟨u436, u438, rfl, k437, k439, c434, s435⟩
  have F440 := Lib.hid (MoveO.of (lo := w409.heap.size) (hi := w433.heap.size) k437 k439 (.inl (by omega)) (by omega) (by omega) (by omega) (by omega))
  have L441 := Lib.hid (Nat.le_refl w433.heap.size)
  have Y442 := Lib.hid (show w409.heap.size ≤ w433.heap.size from c434.size)
  clear k437 k439 s435
  have Z443 := Lib.hid (show w409.heap.size ≤ w433.heap.size from (c434).size)
  have B444 := Lib.hid (below_then B412.out B412.out.size c434)
  have L445 := Lib.hid (Nat.le_trans L413.out (c434).size)
  have F446 := Lib.hid (F414.out.keep c434 L413.out)
  have L447 := Lib.hid (Nat.le_trans L415.out (c434).size)
  have F448 := Lib.hid (F416.out.keep c434 L415.out)
  have L449 := Lib.hid (Nat.le_trans L417.out (c434).size)
  have F450 := Lib.hid (F418.out.keep c434 L417.out)
  have L451 := Lib.hid (Nat.le_trans L419.out (c434).size)
  have F452 := Lib.hid (F420.out.keep c434 L419.out)
  have X453 := Lib.hid (X421.out.keep c434)
  have x454 := X453.out.c0
  have x455 := X453.out.c1
  have X456 := Lib.hid (X424.out.keep c434)
  have x457 := X456.out.c0
  have x458 := X456.out.c1
  have X459 := Lib.hid (X427.out.keep c434)
  have x460 := X459.out.c0
  have x461 := X459.out.c1
  have X462 := Lib.hid (X430.out.keep c434)
  have x463 := X462.out.c0
  have x464 := X462.out.c1
  clear B412 F414 F416 F418 F420 L413 L415 L417 L419 x422 x423 x425 x426 x428 x429 x431 x432 X421 X424 X427 X430
  clear c434
  go_wp2_with fail
  have SP := (fun a b u1 u2 => implInverseMove_any a b u1 u2) M0 V0 u436 u438 w433.heap.size w433  ((F440.out.fstR).upto L441.out) ((F440.out.sndR).upto L441.out) (Nat.le_refl _)
  rw [hP] at SP
  try dsimp only at SP
  refine SP.mono ?_
  clear SP
  rintro e w465 ⟨u468, u469, rfl, k467, c466⟩
  have F470 := Lib.hid k467
  have L471 := Lib.hid (Nat.le_refl w465.heap.size)
  have Y472 := Lib.hid (show w433.heap.size ≤ w465.heap.size from c466.size)
  clear k467
  have Z473 := Lib.hid (show w433.heap.size ≤ w465.heap.size from (c466).size)
  have B474 := Lib.hid (below_then B444.out B444.out.size c466)
  have L475 := Lib.hid (Nat.le_trans L445.out (c466).size)
  have F476 := Lib.hid (F446.out.keep c466 L445.out)
  have L477 := Lib.hid (Nat.le_trans L447.out (c466).size)
  have F478 := Lib.hid (F448.out.keep c466 L447.out)
  have L479 := Lib.hid (Nat.le_trans L449.out (c466).size)
  have F480 := Lib.hid (F450.out.keep c466 L449.out)
  have L481 := Lib.hid (Nat.le_trans L451.out (c466).size)
  have F482 := Lib.hid (F452.out.keep c466 L451.out)
  have L483 := Lib.hid (Nat.le_trans L441.out (c466).size)
  have F484 := Lib.hid (F440.out.keep c466 L441.out)
  have X485 := Lib.hid (X453.out.keep c466)
  have x486 := X485.out.c0
  have x487 := X485.out.c1
  have X488 := Lib.hid (X456.out.keep c466)
  have x489 := X488.out.c0
  have x490 := X488.out.c1
  have X491 := Lib.hid (X459.out.keep c466)
  have x492 := X491.out.c0
  have x493 := X491.out.c1
  have X494 := Lib.hid (X462.out.keep c466)
  have x495 := X494.out.c0
  have x496 := X494.out.c1
  clear B444 F446 F448 F450 F452 F440 L445 L447 L449 L451 L441 x454 x455 x457 x458 x460 x461 x463 x464 X453 X456 X459 X462
  clear c466
  obtain ⟨a497, q498, h499, -⟩ := id (F470.out.fstR)
  subst h499
  obtain ⟨a500, q501, h502, -⟩ := id (F470.out.sndR)
  subst h502
  have ca := below1 w465 (.cells #[(.slice a497 RM.length q498), (.slice a500 RV.length q501)] 28)
  have X504 := Lib.hid (box2_new w465 (.slice a497 RM.length q498) (.slice a500 RV.length q501) 28)
  have Z505 := Lib.hid (show w465.heap.size + 1 ≤ (w465.alloc (.cells #[(.slice a497 RM.length q498), (.slice a500 RV.length q501)] 28)).heap.size by simp)
  have v506 := (X485.out.keep ca).c0
  have v507 := (X485.out.keep ca).c1
  have v508 := (X488.out.keep ca).c0
  have v509 := (X488.out.keep ca).c1
  have v510 := (X491.out.keep ca).c0
  have v511 := (X491.out.keep ca).c1
  have v512 := (X494.out.keep ca).c0
  have v513 := (X494.out.keep ca).c1
  go_wp2_with fail
  generalize w465.alloc (.cells #[(.slice a497 RM.length q498), (.slice a500 RV.length q501)] 28) = w503 at *
  clear v506 v507 v508 v509 v510 v511 v512 v513
  have Z514 := Lib.hid (show w465.heap.size ≤ w503.heap.size from (ca).size)
  have B515 := Lib.hid (below_then B474.out B474.out.size ca)
  have L516 := Lib.hid (Nat.le_trans L475.out (ca).size)
  have F517 := Lib.hid (F476.out.keep ca L475.out)
  have L518 := Lib.hid (Nat.le_trans L477.out (ca).size)
  have F519 := Lib.hid (F478.out.keep ca L477.out)
  have L520 := Lib.hid (Nat.le_trans L479.out (ca).size)
  have F521 := Lib.hid (F480.out.keep ca L479.out)
  have L522 := Lib.hid (Nat.le_trans L481.out (ca).size)
  have F523 := Lib.hid (F482.out.keep ca L481.out)
  have L524 := Lib.hid (Nat.le_trans L483.out (ca).size)
  have F525 := Lib.hid (F484.out.keep ca L483.out)
  have L526 := Lib.hid (Nat.le_trans L471.out (ca).size)
  have F527 := Lib.hid (F470.out.keep ca L471.out)
  have X528 := Lib.hid (X485.out.keep ca)
  have x529 := X528.out.c0
  have x530 := X528.out.c1
  have X531 := Lib.hid (X488.out.keep ca)
  have x532 := X531.out.c0
  have x533 := X531.out.c1
  have X534 := Lib.hid (X491.out.keep ca)
  have x535 := X534.out.c0
  have x536 := X534.out.c1
  have X537 := Lib.hid (X494.out.keep ca)
  have x538 := X537.out.c0
  have x539 := X537.out.c1
  clear B474 F476 F478 F480 F482 F484 F470 L475 L477 L479 L481 L483 L471 x486 x487 x489 x490 x492 x493 x495 x496 X485 X488 X491 X494
  clear ca
  have x540 := X504.out.c0
  have x541 := X504.out.c1
  go_wp2_with fail
  have E := eqMove_any RM RV (.slice a497 RM.length q498) (.slice a500 RV.length q501) (.slice a79 RM.length q80) (.slice a82 RV.length q83) _ _ w503 F527.out.fstR F527.out.sndR F521.out.fstR F521.out.sndR L526.out L520.out
  refine E.mono ?_
  clear E
  rintro e w542 ⟨rfl, c543⟩
  have Z544 := Lib.hid (show w503.heap.size ≤ w542.heap.size from (c543).size)
  have B545 := Lib.hid (below_then B515.out B515.out.size c543)
  have L546 := Lib.hid (Nat.le_trans L516.out (c543).size)
  have F547 := Lib.hid (F517.out.keep c543 L516.out)
  have L548 := Lib.hid (Nat.le_trans L518.out (c543).size)
  have F549 := Lib.hid (F519.out.keep c543 L518.out)
  have L550 := Lib.hid (Nat.le_trans L520.out (c543).size)
  have F551 := Lib.hid (F521.out.keep c543 L520.out)
  have L552 := Lib.hid (Nat.le_trans L522.out (c543).size)
  have F553 := Lib.hid (F523.out.keep c543 L522.out)
  have L554 := Lib.hid (Nat.le_trans L524.out (c543).size)
  have F555 := Lib.hid (F525.out.keep c543 L524.out)
  have L556 := Lib.hid (Nat.le_trans L526.out (c543).size)
  have F557 := Lib.hid (F527.out.keep c543 L526.out)
  have X558 := Lib.hid (X528.out.keep c543)
  have x559 := X558.out.c0
  have x560 := X558.out.c1
  have X561 := Lib.hid (X531.out.keep c543)
  have x562 := X561.out.c0
  have x563 := X561.out.c1
  have X564 := Lib.hid (X534.out.keep c543)
  have x565 := X564.out.c0
  have x566 := X564.out.c1
  have X567 := Lib.hid (X537.out.keep c543)
  have x568 := X567.out.c0
  have x569 := X567.out.c1
  have X570 := Lib.hid (X504.out.keep c543)
  have x571 := X570.out.c0
  have x572 := X570.out.c1
  clear B515 F517 F519 F521 F523 F525 F527 L516 L518 L520 L522 L524 L526 x529 x530 x532 x533 x535 x536 x538 x539 x540 x541 X528 X531 X534 X537 X504
  clear c543
  go_wp2_with fail
  have Q := heldMove_any RM RV.length (.slice a187 RM.length q188) (.slice a190 RV.length q191) w542.heap.size 1 w542 ((F553.out.fstR).upto L552.out) ((F553.out.sndR).upto L552.out) (Nat.le_refl _) (by omega) (by omega)
  have hq : decide (1 + (totL RM RM.length : Int) + (RV.length : Int) < 0) = false := by rw [decide_eq_false_iff_not]; omega
  refine Q.mono ?_
  clear Q
  rintro e w573 ⟨rfl, c574⟩
  have Z575 := Lib.hid (show w542.heap.size ≤ w573.heap.size from (c574).size)
  have B576 := Lib.hid (below_then B545.out B545.out.size c574)
  have L577 := Lib.hid (Nat.le_trans L546.out (c574).size)
  have F578 := Lib.hid (F547.out.keep c574 L546.out)
  have L579 := Lib.hid (Nat.le_trans L548.out (c574).size)
  have F580 := Lib.hid (F549.out.keep c574 L548.out)
  have L581 := Lib.hid (Nat.le_trans L550.out (c574).size)
  have F582 := Lib.hid (F551.out.keep c574 L550.out)
  have L583 := Lib.hid (Nat.le_trans L552.out (c574).size)
  have F584 := Lib.hid (F553.out.keep c574 L552.out)
  have L585 := Lib.hid (Nat.le_trans L554.out (c574).size)
  have F586 := Lib.hid (F555.out.keep c574 L554.out)
  have L587 := Lib.hid (Nat.le_trans L556.out (c574).size)
  have F588 := Lib.hid (F557.out.keep c574 L556.out)
  have X589 := Lib.hid (X558.out.keep c574)
  have x590 := X589.out.c0
  have x591 := X589.out.c1
  have X592 := Lib.hid (X561.out.keep c574)
  have x593 := X592.out.c0
  have x594 := X592.out.c1
  have X595 := Lib.hid (X564.out.keep c574)
  have x596 := X595.out.c0
  have x597 := X595.out.c1
  have X598 := Lib.hid (X567.out.keep c574)
  have x599 := X598.out.c0
  have x600 := X598.out.c1
  have X601 := Lib.hid (X570.out.keep c574)
  have x602 := X601.out.c0
  have x603 := X601.out.c1
  clear B545 F547 F549 F551 F553 F555 F557 L546 L548 L550 L552 L554 L556 x559 x560 x562 x563 x565 x566 x568 x569 x571 x572 X558 X561 X564 X567 X570
  clear c574
  go_wp2
  go_ret
  exact ⟨rfl, B576.out⟩
end Go.Proofs.Ytgecnidndjbdaaa
