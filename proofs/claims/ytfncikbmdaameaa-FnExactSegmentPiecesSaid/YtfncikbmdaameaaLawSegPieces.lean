/- The law on SegmentPieces: its walk. -/
import Derived.Test.YtfncikbmdaameaaPcs
import Derived.Test.YtfncikbmdaameaaB1
import Derived.Test.YtfncikbmdaameaaB2
namespace Go.Proofs.Ytfncikbmdaameaa
open Go.RowKit
set_option linter.unusedVariables false
set_option linter.unusedSimpArgs false

theorem Box4.only {w w' : World} {n lo hi : Nat} {v0 v1 v2 v3 : Value} (h : Box4 w n v0 v1 v2 v3) (ho : Only lo hi w w') (hn : n < lo ∨ hi ≤ n) : Box4 w' n v0 v1 v2 v3 := by
  have hb := ho.block n h.lt hn
  have e : ∀ i, w'.cell? ⟨n, i, none⟩ = w.cell? ⟨n, i, none⟩ := fun i => World.cell?_of_block (a := ⟨n, i, none⟩) hb
  exact ⟨Nat.lt_of_lt_of_le h.lt ho.size, (e 0).trans h.c0, (e 1).trans h.c1, (e 2).trans h.c2, (e 3).trans h.c3⟩
theorem pcL_tot (a b c d : Int) : totL (pcL a b c d) (pcL a b c d).length ≤ 1000 := by
  have h : ∀ k, k ≤ (pcL a b c d).length → totL (pcL a b c d) k ≤ 2 * k := by
    intro k
    induction k with
    | zero => intro _; simp [totL]
    | succ k ih =>
      intro hk
      have h1 := ih (by omega)
      have h2 := pcL_len a b c d
      show totL (pcL a b c d) k + ((pcL a b c d).getD k []).length ≤ _
      rw [pcL_at (by omega)]
      simp; omega
  have h1 := h _ (Nat.le_refl _)
  have h2 := pcL_len a b c d
  have h3 := per_bd a b c d
  omega
theorem specPieces_law (a b c d : Int) (w : World) : Calls Try.prog 11 #[segV a b c d] w fun e w' => ∃ u, e = .returned u ∧ ISS w' w.heap.size w'.heap.size u (pcL a b c d) ∧ Below w.heap.size w w' := by
  refine (specSegmentPieces_any a b c d w).mono ?_
  rintro e w' ⟨u, he, h1, h2⟩
  exact ⟨u, he, h1.is, h2⟩
theorem implPieces_law (a b c d : Int) (w : World) : Calls Try.prog 13 #[segV a b c d] w fun e w' => ∃ u, e = .returned u ∧ ISS w' w.heap.size w'.heap.size u (pcL a b c d) ∧ Below w.heap.size w w' := by
  refine (implSegmentPieces_any a b c d w).mono ?_
  rintro e w' ⟨u, he, h1, h2⟩
  exact ⟨u, he, h1.is, h2⟩

set_option maxRecDepth 100000 in
set_option maxHeartbeats 8000000 in
theorem lawSegmentPieces (a b c d : Int) (w : World) :
    Calls Try.prog 3 #[segV a b c d] w fun e w' => e = .returned (.bool true) ∧ Below w.heap.size w w' := by
  have b0 := below1 w (.cells #[.int .i64 a, .int .i64 b, .int .i64 c, .int .i64 d] 23)
  have HT := fun W => toSegment_any a b c d W
  have HS := fun W => specPieces_law a b c d W
  have HI := fun W => implPieces_law a b c d W
  have hRb := pcL_tot a b c d
  obtain ⟨RL, hP⟩ : ∃ p, pcL a b c d = p := ⟨_, rfl⟩
  rw [hP] at hRb
  unfold segV at *
  have B0 := Lib.hid b0
  have Z0 := Lib.hid (show w.heap.size + 1 ≤ (w.alloc (.cells #[.int .i64 a, .int .i64 b, .int .i64 c, .int .i64 d] 23)).heap.size by simp)
  have X0 := Lib.hid (box4_new w (.int .i64 a) (.int .i64 b) (.int .i64 c) (.int .i64 d) 23)
  have x1 := X0.out.c0
  have x2 := X0.out.c1
  have x3 := X0.out.c2
  have x4 := X0.out.c3
  clear b0
  go_enter Try.func3, Try.ntmps3
  go_wp2_with fail
  refine (HT _).mono ?_
  rintro e w5 ⟨rfl, c6⟩
  have Z7 := Lib.hid (show (w.alloc (.cells #[.int .i64 a, .int .i64 b, .int .i64 c, .int .i64 d] 23)).heap.size ≤ w5.heap.size from (c6).size)
  have B8 := Lib.hid (below_then B0.out B0.out.size c6)
  have X9 := Lib.hid (X0.out.keep c6)
  have x10 := X9.out.c0
  have x11 := X9.out.c1
  have x12 := X9.out.c2
  have x13 := X9.out.c3
  clear B0 x1 x2 x3 x4 X0
  clear c6
  go_wp2_with fail
  have SP := HS w5
  rw [hP] at SP
  try dsimp only at SP
  refine SP.mono ?_
  clear SP
  rintro e w14 ⟨u17, rfl, k16, c15⟩
  have F18 := Lib.hid k16
  have L19 := Lib.hid (Nat.le_refl w14.heap.size)
  have Y20 := Lib.hid (show w5.heap.size ≤ w14.heap.size from c15.size)
  clear k16
  have Z21 := Lib.hid (show w5.heap.size ≤ w14.heap.size from (c15).size)
  have B22 := Lib.hid (below_then B8.out B8.out.size c15)
  have X23 := Lib.hid (X9.out.keep c15)
  have x24 := X23.out.c0
  have x25 := X23.out.c1
  have x26 := X23.out.c2
  have x27 := X23.out.c3
  clear B8 x10 x11 x12 x13 X9
  clear c15
  go_wp2_with fail
  refine (HT _).mono ?_
  rintro e w28 ⟨rfl, c29⟩
  have Z30 := Lib.hid (show w14.heap.size ≤ w28.heap.size from (c29).size)
  have B31 := Lib.hid (below_then B22.out B22.out.size c29)
  have L32 := Lib.hid (Nat.le_trans L19.out (c29).size)
  have F33 := Lib.hid (F18.out.keep c29 L19.out)
  have X34 := Lib.hid (X23.out.keep c29)
  have x35 := X34.out.c0
  have x36 := X34.out.c1
  have x37 := X34.out.c2
  have x38 := X34.out.c3
  clear B22 F18 L19 x24 x25 x26 x27 X23
  clear c29
  go_wp2_with fail
  have SP := HI w28
  rw [hP] at SP
  try dsimp only at SP
  refine SP.mono ?_
  clear SP
  rintro e w39 ⟨u42, rfl, k41, c40⟩
  have F43 := Lib.hid k41
  have L44 := Lib.hid (Nat.le_refl w39.heap.size)
  have Y45 := Lib.hid (show w28.heap.size ≤ w39.heap.size from c40.size)
  clear k41
  have Z46 := Lib.hid (show w28.heap.size ≤ w39.heap.size from (c40).size)
  have B47 := Lib.hid (below_then B31.out B31.out.size c40)
  have L48 := Lib.hid (Nat.le_trans L32.out (c40).size)
  have F49 := Lib.hid (F33.out.keep c40 L32.out)
  have X50 := Lib.hid (X34.out.keep c40)
  have x51 := X50.out.c0
  have x52 := X50.out.c1
  have x53 := X50.out.c2
  have x54 := X50.out.c3
  clear B31 F33 L32 x35 x36 x37 x38 X34
  clear c40
  go_wp2_with fail
  have E := eqIntSS_any RL RL u42 u17 _ _ w39 (F43.out.read) (F49.out.read)
  rw [decide_eq_true (rfl : RL = RL)] at E
  refine (toBelow E).mono ?_
  clear E
  rintro e w55 ⟨rfl, c56⟩
  have Z57 := Lib.hid (show w39.heap.size ≤ w55.heap.size from (c56).size)
  have B58 := Lib.hid (below_then B47.out B47.out.size c56)
  have L59 := Lib.hid (Nat.le_trans L48.out (c56).size)
  have F60 := Lib.hid (F49.out.keep c56 L48.out)
  have L61 := Lib.hid (Nat.le_trans L44.out (c56).size)
  have F62 := Lib.hid (F43.out.keep c56 L44.out)
  have X63 := Lib.hid (X50.out.keep c56)
  have x64 := X63.out.c0
  have x65 := X63.out.c1
  have x66 := X63.out.c2
  have x67 := X63.out.c3
  clear B47 F49 F43 L48 L44 x51 x52 x53 x54 X50
  clear c56
  go_wp2_with fail
  have M := markIntSS_any RL u42 w28.heap.size w39.heap.size 1 w55 F62.out (by omega) (by  omega)
  refine M.mono ?_
  clear M
  rintro e w68 ⟨rfl, k69, o70⟩
  have F72 := Lib.hid k69
  clear k69
  have hK71 : 0 ≤ 1 + (totL RL RL.length : Int) ∧ 1 + (totL RL RL.length : Int) ≤ 10000000000 := by  omega
  have Z73 := Lib.hid (show w55.heap.size ≤ w68.heap.size from o70.size)
  have B74 := Lib.hid (Only.base B58.out o70 (by have := Z0.out; have := Z7.out; have := Z21.out; have := Z30.out; have := Z46.out; have := Z57.out; have := L61.out; have := Y45.out; omega) (by have := Z0.out; have := Z7.out; have := Z21.out; have := Z30.out; have := Z46.out; have := Z57.out; have := L61.out; have := Y45.out; omega))
  have L75 := Lib.hid (Nat.le_trans L59.out o70.size)
  have L76 := Lib.hid (Nat.le_trans L61.out o70.size)
  have F77 := Lib.hid (F60.out.keep (o70.below (by have := Z0.out; have := Z7.out; have := Z21.out; have := Z30.out; have := Z46.out; have := Z57.out; have := L61.out; have := Y45.out; omega)) (by have := Z0.out; have := Z7.out; have := Z21.out; have := Z30.out; have := Z46.out; have := Z57.out; have := L61.out; have := Y45.out; omega))
  have X78 := Lib.hid (X63.out.only o70 (by have := Z0.out; have := Z7.out; have := Z21.out; have := Z30.out; have := Z46.out; have := Z57.out; have := L61.out; have := Y45.out; omega))
  have x79 := X78.out.c0
  have x80 := X78.out.c1
  have x81 := X78.out.c2
  have x82 := X78.out.c3
  clear B58 F60 L59 L61 F62 x64 x65 x66 x67 X63 o70
  go_wp2_with fail
  have Q := toBelow0 (heldIntSS_any RL u42 w68.heap.size 1 w68 ((F72.out.read).upto L76.out) (by omega) (by omega))
  have hq : decide (1 + (totL RL RL.length : Int) < 0) = false := by rw [decide_eq_false_iff_not]; omega
  refine Q.mono ?_
  clear Q
  rintro e w83 ⟨rfl, c84⟩
  have Z85 := Lib.hid (show w68.heap.size ≤ w83.heap.size from (c84).size)
  have B86 := Lib.hid (below_then B74.out B74.out.size c84)
  have L87 := Lib.hid (Nat.le_trans L75.out (c84).size)
  have F88 := Lib.hid (F77.out.keep c84 L75.out)
  have L89 := Lib.hid (Nat.le_trans L76.out (c84).size)
  have F90 := Lib.hid (F72.out.keep c84 L76.out)
  have X91 := Lib.hid (X78.out.keep c84)
  have x92 := X91.out.c0
  have x93 := X91.out.c1
  have x94 := X91.out.c2
  have x95 := X91.out.c3
  clear B74 F77 F72 L75 L76 x79 x80 x81 x82 X78
  clear c84
  go_wp2_with fail
  refine (HT _).mono ?_
  rintro e w96 ⟨rfl, c97⟩
  have Z98 := Lib.hid (show w83.heap.size ≤ w96.heap.size from (c97).size)
  have B99 := Lib.hid (below_then B86.out B86.out.size c97)
  have L100 := Lib.hid (Nat.le_trans L87.out (c97).size)
  have F101 := Lib.hid (F88.out.keep c97 L87.out)
  have L102 := Lib.hid (Nat.le_trans L89.out (c97).size)
  have F103 := Lib.hid (F90.out.keep c97 L89.out)
  have X104 := Lib.hid (X91.out.keep c97)
  have x105 := X104.out.c0
  have x106 := X104.out.c1
  have x107 := X104.out.c2
  have x108 := X104.out.c3
  clear B86 F88 F90 L87 L89 x92 x93 x94 x95 X91
  clear c97
  go_wp2_with fail
  have SP := HI w96
  rw [hP] at SP
  try dsimp only at SP
  refine SP.mono ?_
  clear SP
  rintro e w109 ⟨u112, rfl, k111, c110⟩
  have F113 := Lib.hid k111
  have L114 := Lib.hid (Nat.le_refl w109.heap.size)
  have Y115 := Lib.hid (show w96.heap.size ≤ w109.heap.size from c110.size)
  clear k111
  have Z116 := Lib.hid (show w96.heap.size ≤ w109.heap.size from (c110).size)
  have B117 := Lib.hid (below_then B99.out B99.out.size c110)
  have L118 := Lib.hid (Nat.le_trans L100.out (c110).size)
  have F119 := Lib.hid (F101.out.keep c110 L100.out)
  have L120 := Lib.hid (Nat.le_trans L102.out (c110).size)
  have F121 := Lib.hid (F103.out.keep c110 L102.out)
  have X122 := Lib.hid (X104.out.keep c110)
  have x123 := X122.out.c0
  have x124 := X122.out.c1
  have x125 := X122.out.c2
  have x126 := X122.out.c3
  clear B99 F101 F103 L100 L102 x105 x106 x107 x108 X104
  clear c110
  go_wp2_with fail
  have E := eqIntSS_any RL RL u112 u17 _ _ w109 (F113.out.read) (F119.out.read)
  rw [decide_eq_true (rfl : RL = RL)] at E
  refine (toBelow E).mono ?_
  clear E
  rintro e w127 ⟨rfl, c128⟩
  have Z129 := Lib.hid (show w109.heap.size ≤ w127.heap.size from (c128).size)
  have B130 := Lib.hid (below_then B117.out B117.out.size c128)
  have L131 := Lib.hid (Nat.le_trans L118.out (c128).size)
  have F132 := Lib.hid (F119.out.keep c128 L118.out)
  have L133 := Lib.hid (Nat.le_trans L120.out (c128).size)
  have F134 := Lib.hid (F121.out.keep c128 L120.out)
  have L135 := Lib.hid (Nat.le_trans L114.out (c128).size)
  have F136 := Lib.hid (F113.out.keep c128 L114.out)
  have X137 := Lib.hid (X122.out.keep c128)
  have x138 := X137.out.c0
  have x139 := X137.out.c1
  have x140 := X137.out.c2
  have x141 := X137.out.c3
  clear B117 F119 F121 F113 L118 L120 L114 x123 x124 x125 x126 X122
  clear c128
  go_wp2_with fail
  have Q := toBelow0 (heldIntSS_any RL u42 w127.heap.size 1 w127 ((F134.out.read).upto L133.out) (by omega) (by omega))
  have hq : decide (1 + (totL RL RL.length : Int) < 0) = false := by rw [decide_eq_false_iff_not]; omega
  refine Q.mono ?_
  clear Q
  rintro e w142 ⟨rfl, c143⟩
  have Z144 := Lib.hid (show w127.heap.size ≤ w142.heap.size from (c143).size)
  have B145 := Lib.hid (below_then B130.out B130.out.size c143)
  have L146 := Lib.hid (Nat.le_trans L131.out (c143).size)
  have F147 := Lib.hid (F132.out.keep c143 L131.out)
  have L148 := Lib.hid (Nat.le_trans L133.out (c143).size)
  have F149 := Lib.hid (F134.out.keep c143 L133.out)
  have L150 := Lib.hid (Nat.le_trans L135.out (c143).size)
  have F151 := Lib.hid (F136.out.keep c143 L135.out)
  have X152 := Lib.hid (X137.out.keep c143)
  have x153 := X152.out.c0
  have x154 := X152.out.c1
  have x155 := X152.out.c2
  have x156 := X152.out.c3
  clear B130 F132 F134 F136 L131 L133 L135 x138 x139 x140 x141 X137
  clear c143
  go_wp2
  go_ret
  exact ⟨rfl, B145.out⟩
end Go.Proofs.Ytfncikbmdaameaa
