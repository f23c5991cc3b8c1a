/- The law on CornerCone: its walk. -/
import Derived.Test.YtcofkjnkdfibfaaCor
import Derived.Test.YtcofkjnkdfibfaaB1
import Derived.Test.YtcofkjnkdfibfaaB2
import Derived.Deep.RegionHeld3
namespace Go.Proofs.Ytcofkjnkdfibfaa
open Go.RowKit
set_option linter.unusedVariables false
set_option linter.unusedSimpArgs false

theorem totK_totL (ls : List (List Int)) : ∀ j, totK ls j = ls.length + totL ls j
  | 0 => rfl
  | j + 1 => by rw [show totK ls (j + 1) = totK ls j + (ls.getD j []).length from rfl, show totL ls (j + 1) = totL ls j + (ls.getD j []).length from rfl, totK_totL ls j, Nat.add_assoc]
theorem totL_le (ls : List (List Int)) : totL ls ls.length ≤ totS ls := by unfold totS; rw [totK_totL]; omega

set_option maxHeartbeats 8000000 in
theorem lawCornerCone (v0 : Value) (l0 : List (List Int)) (n1 : Int) (hn1 : -9223372036854775808 ≤ n1 ∧ n1 ≤ 9223372036854775807) (w : World) (h0 : ISSr w w.heap.size v0 l0) :
    Calls Try.prog 10 #[v0, .int .i64 n1] w fun e w' => e = .returned (.bool true) ∧ Below w.heap.size w w' := by
  have b0 := Below.refl w.heap.size w
  obtain ⟨z0, hz0⟩ : ∃ z : Nat, z = (totS l0) := ⟨_, rfl⟩
  by_cases hZ0 : z0 ≤ 1048576
  case neg =>
    go_enter Try.func10, Try.ntmps10
    have B1 := Lib.hid b0
    have F2 := Lib.hid (h0.keep b0 (Nat.le_refl _))
    have L3 := Lib.hid (b0.size)
    clear b0 h0
    go_wp2_with fail
    have SZ := szIntSS_any l0 v0 1048576 w.heap.size _ F2.out (by omega) (by omega)
    rw [← hz0] at SZ
    unfold szL at SZ
    rw [if_pos (by omega)] at SZ
    refine (toBelow0 SZ).mono ?_
    clear SZ
    rintro e w4 ⟨rfl, c5⟩
    have Z6 := Lib.hid (show w.heap.size ≤ w4.heap.size from (c5).size)
    have B7 := Lib.hid (below_then B1.out B1.out.size c5)
    have L8 := Lib.hid (Nat.le_trans L3.out (c5).size)
    have F9 := Lib.hid (F2.out.keep c5 L3.out)
    clear B1 F2 L3
    clear c5
    go_wp2
    go_ret
    exact ⟨rfl, B7.out⟩
  have HT0 := fun w' (j1 : ISSr w' w.heap.size v0 l0) (hs : w.heap.size ≤ w'.heap.size) => toIntSS_any l0 v0 w.heap.size w' j1 hs (totS_len (ls := l0) (B := 1048576) (by omega)).1 (totS_len (ls := l0) (B := 1048576) (by omega)).2
  have ht0 : totL l0 l0.length ≤ 1048576 := Nat.le_trans (totL_le l0) (by omega)
  have hRb := corV_len l0 n1
  obtain ⟨pp, hP⟩ : ∃ p, corV l0 n1 = p := ⟨_, rfl⟩
  rw [hP] at hRb
  obtain ⟨⟨RU, RV⟩, ok⟩ := pp
  dsimp only at hRb
  go_enter Try.func10, Try.ntmps10
  have B10 := Lib.hid b0
  have F11 := Lib.hid (h0.keep b0 (Nat.le_refl _))
  have L12 := Lib.hid (b0.size)
  clear b0 h0
  go_wp2_with fail
  have SZ := szIntSS_any l0 v0 1048576 w.heap.size _ F11.out (by omega) (by omega)
  rw [← hz0] at SZ
  unfold szL at SZ
  rw [if_neg (by omega)] at SZ
  refine (toBelow0 SZ).mono ?_
  clear SZ
  rintro e w13 ⟨rfl, c14⟩
  have Z15 := Lib.hid (show w.heap.size ≤ w13.heap.size from (c14).size)
  have B16 := Lib.hid (below_then B10.out B10.out.size c14)
  have L17 := Lib.hid (Nat.le_trans L12.out (c14).size)
  have F18 := Lib.hid (F11.out.keep c14 L12.out)
  clear B10 F11 L12
  clear c14
  have hr0 : 0 ≤ (1048576 : Int) - (z0 : Int) := by omega
  clear hz0
  go_wp2_with fail
  refine (HT0 w13 F18.out B16.out.size).mono ?_
  rintro e w19 ⟨u22, rfl, k23, c20, s21⟩
  have F24 := Lib.hid (k23.mono (lo' := w13.heap.size) (hi' := w19.heap.size) (by omega) (by omega))
  have L25 := Lib.hid (Nat.le_refl w19.heap.size)
  have Y26 := Lib.hid (show w13.heap.size ≤ w19.heap.size from c20.size)
  clear k23 s21
  have Z27 := Lib.hid (show w13.heap.size ≤ w19.heap.size from (c20).size)
  have B28 := Lib.hid (below_then B16.out B16.out.size c20)
  have L29 := Lib.hid (Nat.le_trans L17.out (c20).size)
  have F30 := Lib.hid (F18.out.keep c20 L17.out)
  clear B16 F18 L17
  clear c20
  go_wp2_with fail
  have SP := (fun l v k => specCornerCone_any l k v) l0 u22 n1 w19.heap.size w19  ((F24.out.read).upto L25.out) (Nat.le_refl _)
  rw [hP] at SP
  try dsimp only at SP
  refine SP.mono ?_
  clear SP
  rintro e w31 ⟨u34, u35, rfl, k33, c32⟩
  have F36 := Lib.hid k33
  have L37 := Lib.hid (Nat.le_refl w31.heap.size)
  have Y38 := Lib.hid (show w19.heap.size ≤ w31.heap.size from c32.size)
  clear k33
  have Z39 := Lib.hid (show w19.heap.size ≤ w31.heap.size from (c32).size)
  have B40 := Lib.hid (below_then B28.out B28.out.size c32)
  have L41 := Lib.hid (Nat.le_trans L29.out (c32).size)
  have F42 := Lib.hid (F30.out.keep c32 L29.out)
  have L43 := Lib.hid (Nat.le_trans L25.out (c32).size)
  have F44 := Lib.hid (F24.out.keep c32 L25.out)
  clear B28 F30 F24 L29 L25
  clear c32
  obtain ⟨a45, q46, h47, -⟩ := id (F36.out.fstR)
  subst h47
  obtain ⟨a48, q49, h50, -⟩ := id (F36.out.sndR)
  subst h50
  have ca := below1 w31 (.cells #[(.slice a45 RU.length q46), (.slice a48 RV.length q49)] 35)
  have X52 := Lib.hid (box2_new w31 (.slice a45 RU.length q46) (.slice a48 RV.length q49) 35)
  have Z53 := Lib.hid (show w31.heap.size + 1 ≤ (w31.alloc (.cells #[(.slice a45 RU.length q46), (.slice a48 RV.length q49)] 35)).heap.size by simp)
  go_wp2_with fail
  generalize w31.alloc (.cells #[(.slice a45 RU.length q46), (.slice a48 RV.length q49)] 35) = w51 at *
  have Z54 := Lib.hid (show w31.heap.size ≤ w51.heap.size from (ca).size)
  have B55 := Lib.hid (below_then B40.out B40.out.size ca)
  have L56 := Lib.hid (Nat.le_trans L41.out (ca).size)
  have F57 := Lib.hid (F42.out.keep ca L41.out)
  have L58 := Lib.hid (Nat.le_trans L43.out (ca).size)
  have F59 := Lib.hid (F44.out.keep ca L43.out)
  have L60 := Lib.hid (Nat.le_trans L37.out (ca).size)
  have F61 := Lib.hid (F36.out.keep ca L37.out)
  clear B40 F42 F44 F36 L41 L43 L37
  clear ca
  have x62 := X52.out.c0
  have x63 := X52.out.c1
  clear F59
  go_wp2_with fail
  refine (HT0 w51 F57.out B55.out.size).mono ?_
  rintro e w64 ⟨u67, rfl, k68, c65, s66⟩
  have F69 := Lib.hid (k68.mono (lo' := w51.heap.size) (hi' := w64.heap.size) (by omega) (by omega))
  have L70 := Lib.hid (Nat.le_refl w64.heap.size)
  have Y71 := Lib.hid (show w51.heap.size ≤ w64.heap.size from c65.size)
  clear k68 s66
  have Z72 := Lib.hid (show w51.heap.size ≤ w64.heap.size from (c65).size)
  have B73 := Lib.hid (below_then B55.out B55.out.size c65)
  have L74 := Lib.hid (Nat.le_trans L56.out (c65).size)
  have F75 := Lib.hid (F57.out.keep c65 L56.out)
  have L76 := Lib.hid (Nat.le_trans L60.out (c65).size)
  have F77 := Lib.hid (F61.out.keep c65 L60.out)
  have X78 := Lib.hid (X52.out.keep c65)
  have x79 := X78.out.c0
  have x80 := X78.out.c1
  clear B55 F57 F61 L56 L60 x62 x63 X52
  clear c65
  go_wp2_with fail
  have SP := (fun l v k => implCornerCone_any l k v) l0 u67 n1 w64.heap.size w64  ((F69.out.read).upto L70.out) (Nat.le_refl _)
  rw [hP] at SP
  try dsimp only at SP
  refine SP.mono ?_
  clear SP
  rintro e w81 ⟨u84, u85, rfl, k83, c82⟩
  have F86 := Lib.hid k83
  have L87 := Lib.hid (Nat.le_refl w81.heap.size)
  have Y88 := Lib.hid (show w64.heap.size ≤ w81.heap.size from c82.size)
  clear k83
  have Z89 := Lib.hid (show w64.heap.size ≤ w81.heap.size from (c82).size)
  have B90 := Lib.hid (below_then B73.out B73.out.size c82)
  have L91 := Lib.hid (Nat.le_trans L74.out (c82).size)
  have F92 := Lib.hid (F75.out.keep c82 L74.out)
  have L93 := Lib.hid (Nat.le_trans L76.out (c82).size)
  have F94 := Lib.hid (F77.out.keep c82 L76.out)
  have L95 := Lib.hid (Nat.le_trans L70.out (c82).size)
  have F96 := Lib.hid (F69.out.keep c82 L70.out)
  have X97 := Lib.hid (X78.out.keep c82)
  have x98 := X97.out.c0
  have x99 := X97.out.c1
  clear B73 F75 F77 F69 L74 L76 L70 x79 x80 X78
  clear c82
  obtain ⟨a100, q101, h102, -⟩ := id (F86.out.fstR)
  subst h102
  obtain ⟨a103, q104, h105, -⟩ := id (F86.out.sndR)
  subst h105
  have ca := below1 w81 (.cells #[(.slice a100 RU.length q101), (.slice a103 RV.length q104)] 35)
  have X107 := Lib.hid (box2_new w81 (.slice a100 RU.length q101) (.slice a103 RV.length q104) 35)
  have Z108 := Lib.hid (show w81.heap.size + 1 ≤ (w81.alloc (.cells #[(.slice a100 RU.length q101), (.slice a103 RV.length q104)] 35)).heap.size by simp)
  have v109 := (X97.out.keep ca).c0
  have v110 := (X97.out.keep ca).c1
  go_wp2_with fail
  generalize w81.alloc (.cells #[(.slice a100 RU.length q101), (.slice a103 RV.length q104)] 35) = w106 at *
  clear v109 v110
  have Z111 := Lib.hid (show w81.heap.size ≤ w106.heap.size from (ca).size)
  have B112 := Lib.hid (below_then B90.out B90.out.size ca)
  have L113 := Lib.hid (Nat.le_trans L91.out (ca).size)
  have F114 := Lib.hid (F92.out.keep ca L91.out)
  have L115 := Lib.hid (Nat.le_trans L93.out (ca).size)
  have F116 := Lib.hid (F94.out.keep ca L93.out)
  have L117 := Lib.hid (Nat.le_trans L95.out (ca).size)
  have F118 := Lib.hid (F96.out.keep ca L95.out)
  have L119 := Lib.hid (Nat.le_trans L87.out (ca).size)
  have F120 := Lib.hid (F86.out.keep ca L87.out)
  have X121 := Lib.hid (X97.out.keep ca)
  have x122 := X121.out.c0
  have x123 := X121.out.c1
  clear B90 F92 F94 F96 F86 L91 L93 L95 L87 x98 x99 X97
  clear ca
  have x124 := X107.out.c0
  have x125 := X107.out.c1
  go_wp2_with fail
  have E := eqCone_any RU RV (.slice a100 RU.length q101) (.slice a103 RV.length q104) (.slice a45 RU.length q46) (.slice a48 RV.length q49) _ _ w106 F120.out.fstR F120.out.sndR F116.out.fstR F116.out.sndR L119.out L115.out
  refine E.mono ?_
  clear E
  rintro e w126 ⟨rfl, c127⟩
  have Z128 := Lib.hid (show w106.heap.size ≤ w126.heap.size from (c127).size)
  have B129 := Lib.hid (below_then B112.out B112.out.size c127)
  have L130 := Lib.hid (Nat.le_trans L113.out (c127).size)
  have F131 := Lib.hid (F114.out.keep c127 L113.out)
  have L132 := Lib.hid (Nat.le_trans L115.out (c127).size)
  have F133 := Lib.hid (F116.out.keep c127 L115.out)
  have L134 := Lib.hid (Nat.le_trans L117.out (c127).size)
  have F135 := Lib.hid (F118.out.keep c127 L117.out)
  have L136 := Lib.hid (Nat.le_trans L119.out (c127).size)
  have F137 := Lib.hid (F120.out.keep c127 L119.out)
  have X138 := Lib.hid (X121.out.keep c127)
  have x139 := X138.out.c0
  have x140 := X138.out.c1
  have X141 := Lib.hid (X107.out.keep c127)
  have x142 := X141.out.c0
  have x143 := X141.out.c1
  clear B112 F114 F116 F118 F120 L113 L115 L117 L119 x122 x123 x124 x125 X121 X107
  clear c127
  go_wp2_with fail
  refine (HT0 w126 F131.out B129.out.size).mono ?_
  rintro e w144 ⟨u147, rfl, k148, c145, s146⟩
  have F149 := Lib.hid (k148.mono (lo' := w126.heap.size) (hi' := w144.heap.size) (by omega) (by omega))
  have L150 := Lib.hid (Nat.le_refl w144.heap.size)
  have Y151 := Lib.hid (show w126.heap.size ≤ w144.heap.size from c145.size)
  clear k148 s146
  have Z152 := Lib.hid (show w126.heap.size ≤ w144.heap.size from (c145).size)
  have B153 := Lib.hid (below_then B129.out B129.out.size c145)
  have L154 := Lib.hid (Nat.le_trans L130.out (c145).size)
  have F155 := Lib.hid (F131.out.keep c145 L130.out)
  have L156 := Lib.hid (Nat.le_trans L132.out (c145).size)
  have F157 := Lib.hid (F133.out.keep c145 L132.out)
  have L158 := Lib.hid (Nat.le_trans L134.out (c145).size)
  have F159 := Lib.hid (F135.out.keep c145 L134.out)
  have L160 := Lib.hid (Nat.le_trans L136.out (c145).size)
  have F161 := Lib.hid (F137.out.keep c145 L136.out)
  have X162 := Lib.hid (X138.out.keep c145)
  have x163 := X162.out.c0
  have x164 := X162.out.c1
  have X165 := Lib.hid (X141.out.keep c145)
  have x166 := X165.out.c0
  have x167 := X165.out.c1
  clear B129 F131 F133 F135 F137 L130 L132 L134 L136 x139 x140 x142 x143 X138 X141
  clear c145
  go_wp2_with fail
  have E := eqIntSS_any l0 l0 u67 u147 _ _ _ (F159.out.read) (F149.out.read)
  rw [decide_eq_true (rfl : l0 = l0)] at E
  refine (toBelow E).mono ?_
  clear E
  rintro e w168 ⟨rfl, c169⟩
  have Z170 := Lib.hid (show w144.heap.size ≤ w168.heap.size from (c169).size)
  have B171 := Lib.hid (below_then B153.out B153.out.size c169)
  have L172 := Lib.hid (Nat.le_trans L154.out (c169).size)
  have F173 := Lib.hid (F155.out.keep c169 L154.out)
  have L174 := Lib.hid (Nat.le_trans L156.out (c169).size)
  have F175 := Lib.hid (F157.out.keep c169 L156.out)
  have L176 := Lib.hid (Nat.le_trans L158.out (c169).size)
  have F177 := Lib.hid (F159.out.keep c169 L158.out)
  have L178 := Lib.hid (Nat.le_trans L160.out (c169).size)
  have F179 := Lib.hid (F161.out.keep c169 L160.out)
  have L180 := Lib.hid (Nat.le_trans L150.out (c169).size)
  have F181 := Lib.hid (F149.out.keep c169 L150.out)
  have X182 := Lib.hid (X162.out.keep c169)
  have x183 := X182.out.c0
  have x184 := X182.out.c1
  have X185 := Lib.hid (X165.out.keep c169)
  have x186 := X185.out.c0
  have x187 := X185.out.c1
  clear B153 F155 F157 F159 F161 F149 L154 L156 L158 L160 L150 x163 x164 x166 x167 X162 X165
  clear c169
  clear F181
  go_wp2_with fail
  have M := markIntSS_any l0 u67 w51.heap.size w64.heap.size 1 w168 F177.out (by omega) (by  omega)
  refine M.mono ?_
  clear M
  rintro e w188 ⟨rfl, k189, o190⟩
  have F192 := Lib.hid k189
  clear k189
  have hK191 : 0 ≤ 1 + (totL l0 l0.length : Int) ∧ 1 + (totL l0 l0.length : Int) ≤ 10000000000 := by  omega
  have Z193 := Lib.hid (show w168.heap.size ≤ w188.heap.size from o190.size)
  have B194 := Lib.hid (Only.base B171.out o190 (by have := Z15.out; have := Z27.out; have := Z39.out; have := Z54.out; have := Z53.out; have := Z72.out; have := Z89.out; have := Z111.out; have := Z108.out; have := Z128.out; have := Z152.out; have := Z170.out; have := L176.out; have := Y71.out; omega) (by have := Z15.out; have := Z27.out; have := Z39.out; have := Z54.out; have := Z53.out; have := Z72.out; have := Z89.out; have := Z111.out; have := Z108.out; have := Z128.out; have := Z152.out; have := Z170.out; have := L176.out; have := Y71.out; omega))
  have L195 := Lib.hid (Nat.le_trans L172.out o190.size)
  have L196 := Lib.hid (Nat.le_trans L174.out o190.size)
  have L197 := Lib.hid (Nat.le_trans L176.out o190.size)
  have L198 := Lib.hid (Nat.le_trans L178.out o190.size)
  have F199 := Lib.hid (F173.out.keep (o190.below (by have := Z15.out; have := Z27.out; have := Z39.out; have := Z54.out; have := Z53.out; have := Z72.out; have := Z89.out; have := Z111.out; have := Z108.out; have := Z128.out; have := Z152.out; have := Z170.out; have := L176.out; have := Y71.out; omega)) (by have := Z15.out; have := Z27.out; have := Z39.out; have := Z54.out; have := Z53.out; have := Z72.out; have := Z89.out; have := Z111.out; have := Z108.out; have := Z128.out; have := Z152.out; have := Z170.out; have := L176.out; have := Y71.out; omega))
  have F200 := Lib.hid (F175.out.keep (o190.below (by have := Z15.out; have := Z27.out; have := Z39.out; have := Z54.out; have := Z53.out; have := Z72.out; have := Z89.out; have := Z111.out; have := Z108.out; have := Z128.out; have := Z152.out; have := Z170.out; have := L176.out; have := Y71.out; omega)) (by have := Z15.out; have := Z27.out; have := Z39.out; have := Z54.out; have := Z53.out; have := Z72.out; have := Z89.out; have := Z111.out; have := Z108.out; have := Z128.out; have := Z152.out; have := Z170.out; have := L176.out; have := Y71.out; omega))
  have F201 := Lib.hid (F179.out.only o190 (.inr (by have := Z15.out; have := Z27.out; have := Z39.out; have := Z54.out; have := Z53.out; have := Z72.out; have := Z89.out; have := Z111.out; have := Z108.out; have := Z128.out; have := Z152.out; have := Z170.out; have := L176.out; have := Y71.out; omega)))
  have X202 := Lib.hid (X182.out.only o190 (by have := Z15.out; have := Z27.out; have := Z39.out; have := Z54.out; have := Z53.out; have := Z72.out; have := Z89.out; have := Z111.out; have := Z108.out; have := Z128.out; have := Z152.out; have := Z170.out; have := L176.out; have := Y71.out; omega))
  have x203 := X202.out.c0
  have x204 := X202.out.c1
  have X205 := Lib.hid (X185.out.only o190 (by have := Z15.out; have := Z27.out; have := Z39.out; have := Z54.out; have := Z53.out; have := Z72.out; have := Z89.out; have := Z111.out; have := Z108.out; have := Z128.out; have := Z152.out; have := Z170.out; have := L176.out; have := Y71.out; omega))
  have x206 := X205.out.c0
  have x207 := X205.out.c1
  clear B171 F173 F175 F179 L172 L174 L176 L178 F177 x183 x184 x186 x187 X182 X185 o190
  clear F192
  generalize 1 + (totL l0 l0.length : Int) = K191 at *
  have hdK191 : decide (K191 < 0) = false := by rw [decide_eq_false_iff_not]; omega
  go_wp2_with fail
  have E := eqCone_any RU RV (.slice a100 RU.length q101) (.slice a103 RV.length q104) (.slice a45 RU.length q46) (.slice a48 RV.length q49) _ _ w188 F201.out.fstR F201.out.sndR F200.out.fstR F200.out.sndR L198.out L196.out
  refine E.mono ?_
  clear E
  rintro e w208 ⟨rfl, c209⟩
  have Z210 := Lib.hid (show w188.heap.size ≤ w208.heap.size from (c209).size)
  have B211 := Lib.hid (below_then B194.out B194.out.size c209)
  have L212 := Lib.hid (Nat.le_trans L195.out (c209).size)
  have F213 := Lib.hid (F199.out.keep c209 L195.out)
  have L214 := Lib.hid (Nat.le_trans L196.out (c209).size)
  have F215 := Lib.hid (F200.out.keep c209 L196.out)
  have L216 := Lib.hid (Nat.le_trans L198.out (c209).size)
  have F217 := Lib.hid (F201.out.keep c209 L198.out)
  have X218 := Lib.hid (X202.out.keep c209)
  have x219 := X218.out.c0
  have x220 := X218.out.c1
  have X221 := Lib.hid (X205.out.keep c209)
  have x222 := X221.out.c0
  have x223 := X221.out.c1
  clear B194 F199 F200 F201 L195 L196 L198 x203 x204 x206 x207 X202 X205
  clear c209
  go_wp2_with fail
  have M := markCone_any RU RV (.slice a100 RU.length q101) (.slice a103 RV.length q104) w64.heap.size w81.heap.size 1 w208 F217.out L216.out (by omega) (by  omega)
  refine M.mono ?_
  clear M
  rintro e w224 ⟨rfl, k225, o226⟩
  have F228 := Lib.hid k225
  clear k225
  have hK227 : 0 ≤ 1 + (RU.length : Int) + (RV.length : Int) ∧ 1 + (RU.length : Int) + (RV.length : Int) ≤ 20000000000 := by  omega
  have Z229 := Lib.hid (show w208.heap.size ≤ w224.heap.size from o226.size)
  have B230 := Lib.hid (Only.base B211.out o226 (by have := Z15.out; have := Z27.out; have := Z39.out; have := Z54.out; have := Z53.out; have := Z72.out; have := Z89.out; have := Z111.out; have := Z108.out; have := Z128.out; have := Z152.out; have := Z170.out; have := Z193.out; have := Z210.out; have := L216.out; have := Y88.out; omega) (by have := Z15.out; have := Z27.out; have := Z39.out; have := Z54.out; have := Z53.out; have := Z72.out; have := Z89.out; have := Z111.out; have := Z108.out; have := Z128.out; have := Z152.out; have := Z170.out; have := Z193.out; have := Z210.out; have := L216.out; have := Y88.out; omega))
  have L231 := Lib.hid (Nat.le_trans L212.out o226.size)
  have L232 := Lib.hid (Nat.le_trans L214.out o226.size)
  have L233 := Lib.hid (Nat.le_trans L216.out o226.size)
  have F234 := Lib.hid (F213.out.keep (o226.below (by have := Z15.out; have := Z27.out; have := Z39.out; have := Z54.out; have := Z53.out; have := Z72.out; have := Z89.out; have := Z111.out; have := Z108.out; have := Z128.out; have := Z152.out; have := Z170.out; have := Z193.out; have := Z210.out; have := L216.out; have := Y88.out; omega)) (by have := Z15.out; have := Z27.out; have := Z39.out; have := Z54.out; have := Z53.out; have := Z72.out; have := Z89.out; have := Z111.out; have := Z108.out; have := Z128.out; have := Z152.out; have := Z170.out; have := Z193.out; have := Z210.out; have := L216.out; have := Y88.out; omega))
  have F235 := Lib.hid (F215.out.keep (o226.below (by have := Z15.out; have := Z27.out; have := Z39.out; have := Z54.out; have := Z53.out; have := Z72.out; have := Z89.out; have := Z111.out; have := Z108.out; have := Z128.out; have := Z152.out; have := Z170.out; have := Z193.out; have := Z210.out; have := L216.out; have := Y88.out; omega)) (by have := Z15.out; have := Z27.out; have := Z39.out; have := Z54.out; have := Z53.out; have := Z72.out; have := Z89.out; have := Z111.out; have := Z108.out; have := Z128.out; have := Z152.out; have := Z170.out; have := Z193.out; have := Z210.out; have := L216.out; have := Y88.out; omega))
  have X236 := Lib.hid (X218.out.only o226 (by have := Z15.out; have := Z27.out; have := Z39.out; have := Z54.out; have := Z53.out; have := Z72.out; have := Z89.out; have := Z111.out; have := Z108.out; have := Z128.out; have := Z152.out; have := Z170.out; have := Z193.out; have := Z210.out; have := L216.out; have := Y88.out; omega))
  have x237 := X236.out.c0
  have x238 := X236.out.c1
  have X239 := Lib.hid (X221.out.only o226 (by have := Z15.out; have := Z27.out; have := Z39.out; have := Z54.out; have := Z53.out; have := Z72.out; have := Z89.out; have := Z111.out; have := Z108.out; have := Z128.out; have := Z152.out; have := Z170.out; have := Z193.out; have := Z210.out; have := L216.out; have := Y88.out; omega))
  have x240 := X239.out.c0
  have x241 := X239.out.c1
  clear B211 F213 F215 L212 L214 L216 F217 x219 x220 x222 x223 X218 X221 o226
  go_wp2_with fail
  have Q := heldCone_any RU.length RV.length (.slice a100 RU.length q101) (.slice a103 RV.length q104) w224.heap.size 1 w224 ((F228.out.fstR).upto L233.out) ((F228.out.sndR).upto L233.out) (Nat.le_refl _) (by omega) (by omega)
  have hq : decide (1 + (RU.length : Int) + (RV.length : Int) < 0) = false := by rw [decide_eq_false_iff_not]; omega
  refine Q.mono ?_
  clear Q
  rintro e w242 ⟨rfl, c243⟩
  have Z244 := Lib.hid (show w224.heap.size ≤ w242.heap.size from (c243).size)
  have B245 := Lib.hid (below_then B230.out B230.out.size c243)
  have L246 := Lib.hid (Nat.le_trans L231.out (c243).size)
  have F247 := Lib.hid (F234.out.keep c243 L231.out)
  have L248 := Lib.hid (Nat.le_trans L232.out (c243).size)
  have F249 := Lib.hid (F235.out.keep c243 L232.out)
  have L250 := Lib.hid (Nat.le_trans L233.out (c243).size)
  have F251 := Lib.hid (F228.out.keep c243 L233.out)
  have X252 := Lib.hid (X236.out.keep c243)
  have x253 := X252.out.c0
  have x254 := X252.out.c1
  have X255 := Lib.hid (X239.out.keep c243)
  have x256 := X255.out.c0
  have x257 := X255.out.c1
  clear B230 F234 F235 F228 L231 L232 L233 x237 x238 x240 x241 X236 X239
  clear c243
  go_wp2_with fail
  refine (HT0 w242 F247.out B245.out.size).mono ?_
  rintro e w258 ⟨u261, rfl, k262, c259, s260⟩
  have F263 := Lib.hid (k262.mono (lo' := w242.heap.size) (hi' := w258.heap.size) (by omega) (by omega))
  have L264 := Lib.hid (Nat.le_refl w258.heap.size)
  have Y265 := Lib.hid (show w242.heap.size ≤ w258.heap.size from c259.size)
  clear k262 s260
  have Z266 := Lib.hid (show w242.heap.size ≤ w258.heap.size from (c259).size)
  have B267 := Lib.hid (below_then B245.out B245.out.size c259)
  have L268 := Lib.hid (Nat.le_trans L246.out (c259).size)
  have F269 := Lib.hid (F247.out.keep c259 L246.out)
  have L270 := Lib.hid (Nat.le_trans L248.out (c259).size)
  have F271 := Lib.hid (F249.out.keep c259 L248.out)
  have L272 := Lib.hid (Nat.le_trans L250.out (c259).size)
  have F273 := Lib.hid (F251.out.keep c259 L250.out)
  have X274 := Lib.hid (X252.out.keep c259)
  have x275 := X274.out.c0
  have x276 := X274.out.c1
  have X277 := Lib.hid (X255.out.keep c259)
  have x278 := X277.out.c0
  have x279 := X277.out.c1
  clear B245 F247 F249 F251 L246 L248 L250 x253 x254 x256 x257 X252 X255
  clear c259
  go_wp2_with fail
  have SP := (fun l v k => implCornerCone_any l k v) l0 u261 n1 w258.heap.size w258  ((F263.out.read).upto L264.out) (Nat.le_refl _)
  rw [hP] at SP
  try dsimp only at SP
  refine SP.mono ?_
  clear SP
  rintro e w280 ⟨u283, u284, rfl, k282, c281⟩
  have F285 := Lib.hid k282
  have L286 := Lib.hid (Nat.le_refl w280.heap.size)
  have Y287 := Lib.hid (show w258.heap.size ≤ w280.heap.size from c281.size)
  clear k282
  have Z288 := Lib.hid (show w258.heap.size ≤ w280.heap.size from (c281).size)
  have B289 := Lib.hid (below_then B267.out B267.out.size c281)
  have L290 := Lib.hid (Nat.le_trans L268.out (c281).size)
  have F291 := Lib.hid (F269.out.keep c281 L268.out)
  have L292 := Lib.hid (Nat.le_trans L270.out (c281).size)
  have F293 := Lib.hid (F271.out.keep c281 L270.out)
  have L294 := Lib.hid (Nat.le_trans L272.out (c281).size)
  have F295 := Lib.hid (F273.out.keep c281 L272.out)
  have L296 := Lib.hid (Nat.le_trans L264.out (c281).size)
  have F297 := Lib.hid (F263.out.keep c281 L264.out)
  have X298 := Lib.hid (X274.out.keep c281)
  have x299 := X298.out.c0
  have x300 := X298.out.c1
  have X301 := Lib.hid (X277.out.keep c281)
  have x302 := X301.out.c0
  have x303 := X301.out.c1
  clear B267 F269 F271 F273 F263 L268 L270 L272 L264 x275 x276 x278 x279 X274 X277
  clear c281
  obtain ⟨a304, q305, h306, -⟩ := id (F285.out.fstR)
  subst h306
  obtain ⟨a307, q308, h309, -⟩ := id (F285.out.sndR)
  subst h309
  have ca := below1 w280 (.cells #[(.slice a304 RU.length q305), (.slice a307 RV.length q308)] 35)
  have X311 := Lib.hid (box2_new w280 (.slice a304 RU.length q305) (.slice a307 RV.length q308) 35)
  have Z312 := Lib.hid (show w280.heap.size + 1 ≤ (w280.alloc (.cells #[(.slice a304 RU.length q305), (.slice a307 RV.length q308)] 35)).heap.size by simp)
  have v313 := (X298.out.keep ca).c0
  have v314 := (X298.out.keep ca).c1
  have v315 := (X301.out.keep ca).c0
  have v316 := (X301.out.keep ca).c1
  go_wp2_with fail
  generalize w280.alloc (.cells #[(.slice a304 RU.length q305), (.slice a307 RV.length q308)] 35) = w310 at *
  clear v313 v314 v315 v316
  have Z317 := Lib.hid (show w280.heap.size ≤ w310.heap.size from (ca).size)
  have B318 := Lib.hid (below_then B289.out B289.out.size ca)
  have L319 := Lib.hid (Nat.le_trans L290.out (ca).size)
  have F320 := Lib.hid (F291.out.keep ca L290.out)
  have L321 := Lib.hid (Nat.le_trans L292.out (ca).size)
  have F322 := Lib.hid (F293.out.keep ca L292.out)
  have L323 := Lib.hid (Nat.le_trans L294.out (ca).size)
  have F324 := Lib.hid (F295.out.keep ca L294.out)
  have L325 := Lib.hid (Nat.le_trans L296.out (ca).size)
  have F326 := Lib.hid (F297.out.keep ca L296.out)
  have L327 := Lib.hid (Nat.le_trans L286.out (ca).size)
  have F328 := Lib.hid (F285.out.keep ca L286.out)
  have X329 := Lib.hid (X298.out.keep ca)
  have x330 := X329.out.c0
  have x331 := X329.out.c1
  have X332 := Lib.hid (X301.out.keep ca)
  have x333 := X332.out.c0
  have x334 := X332.out.c1
  clear B289 F291 F293 F295 F297 F285 L290 L292 L294 L296 L286 x299 x300 x302 x303 X298 X301
  clear ca
  have x335 := X311.out.c0
  have x336 := X311.out.c1
  go_wp2_with fail
  have E := eqCone_any RU RV (.slice a304 RU.length q305) (.slice a307 RV.length q308) (.slice a45 RU.length q46) (.slice a48 RV.length q49) _ _ w310 F328.out.fstR F328.out.sndR F322.out.fstR F322.out.sndR L327.out L321.out
  refine E.mono ?_
  clear E
  rintro e w337 ⟨rfl, c338⟩
  have Z339 := Lib.hid (show w310.heap.size ≤ w337.heap.size from (c338).size)
  have B340 := Lib.hid (below_then B318.out B318.out.size c338)
  have L341 := Lib.hid (Nat.le_trans L319.out (c338).size)
  have F342 := Lib.hid (F320.out.keep c338 L319.out)
  have L343 := Lib.hid (Nat.le_trans L321.out (c338).size)
  have F344 := Lib.hid (F322.out.keep c338 L321.out)
  have L345 := Lib.hid (Nat.le_trans L323.out (c338).size)
  have F346 := Lib.hid (F324.out.keep c338 L323.out)
  have L347 := Lib.hid (Nat.le_trans L325.out (c338).size)
  have F348 := Lib.hid (F326.out.keep c338 L325.out)
  have L349 := Lib.hid (Nat.le_trans L327.out (c338).size)
  have F350 := Lib.hid (F328.out.keep c338 L327.out)
  have X351 := Lib.hid (X329.out.keep c338)
  have x352 := X351.out.c0
  have x353 := X351.out.c1
  have X354 := Lib.hid (X332.out.keep c338)
  have x355 := X354.out.c0
  have x356 := X354.out.c1
  have X357 := Lib.hid (X311.out.keep c338)
  have x358 := X357.out.c0
  have x359 := X357.out.c1
  clear B318 F320 F322 F324 F326 F328 L319 L321 L323 L325 L327 x330 x331 x333 x334 x335 x336 X329 X332 X311
  clear c338
  go_wp2_with fail
  have Q := heldCone_any RU.length RV.length (.slice a100 RU.length q101) (.slice a103 RV.length q104) w337.heap.size 1 w337 ((F346.out.fstR).upto L345.out) ((F346.out.sndR).upto L345.out) (Nat.le_refl _) (by omega) (by omega)
  have hq : decide (1 + (RU.length : Int) + (RV.length : Int) < 0) = false := by rw [decide_eq_false_iff_not]; omega
  refine Q.mono ?_
  clear Q
  rintro e w360 ⟨rfl, c361⟩
  have Z362 := Lib.hid (show w337.heap.size ≤ w360.heap.size from (c361).size)
  have B363 := Lib.hid (below_then B340.out B340.out.size c361)
  have L364 := Lib.hid (Nat.le_trans L341.out (c361).size)
  have F365 := Lib.hid (F342.out.keep c361 L341.out)
  have L366 := Lib.hid (Nat.le_trans L343.out (c361).size)
  have F367 := Lib.hid (F344.out.keep c361 L343.out)
  have L368 := Lib.hid (Nat.le_trans L345.out (c361).size)
  have F369 := Lib.hid (F346.out.keep c361 L345.out)
  have L370 := Lib.hid (Nat.le_trans L347.out (c361).size)
  have F371 := Lib.hid (F348.out.keep c361 L347.out)
  have L372 := Lib.hid (Nat.le_trans L349.out (c361).size)
  have F373 := Lib.hid (F350.out.keep c361 L349.out)
  have X374 := Lib.hid (X351.out.keep c361)
  have x375 := X374.out.c0
  have x376 := X374.out.c1
  have X377 := Lib.hid (X354.out.keep c361)
  have x378 := X377.out.c0
  have x379 := X377.out.c1
  have X380 := Lib.hid (X357.out.keep c361)
  have x381 := X380.out.c0
  have x382 := X380.out.c1
  clear B340 F342 F344 F346 F348 F350 L341 L343 L345 L347 L349 x352 x353 x355 x356 x358 x359 X351 X354 X357
  clear c361
  go_wp2
  go_ret
  exact ⟨rfl, B363.out⟩
end Go.Proofs.Ytcofkjnkdfibfaa
