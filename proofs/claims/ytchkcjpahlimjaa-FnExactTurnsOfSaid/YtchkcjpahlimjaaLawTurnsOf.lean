/- The law on TurnsOf: its walk. -/
import Derived.Test.YtchkcjpahlimjaaSplW
import Derived.Test.YtchkcjpahlimjaaMkS
import Derived.Test.YtchkcjpahlimjaaMkC
import Derived.Test.YtchkcjpahlimjaaOpenC
import Derived.Test.YtchkcjpahlimjaaGen
import Derived.Test.YtchkcjpahlimjaaConeT
import Derived.Deep.RegionHeld3
namespace Go.Proofs.Ytchkcjpahlimjaa
open Go.RowKit
set_option linter.unusedVariables false
set_option linter.unusedSimpArgs false

set_option maxHeartbeats 8000000 in
theorem lawTurnsOf (v0 : Value) (y0 : List Int × List Int) (w : World) (h0 : ConeR w w.heap.size v0 y0) :
    Calls Try.prog 4 #[v0] w fun e w' => e = .returned (.bool true) ∧ Below w.heap.size w w' := by
  obtain ⟨U0, V0⟩ := y0
  obtain ⟨r0, t0, rfl, i0, j0⟩ := h0
  simp only at i0 j0
  have b0 := below1 w (.cells #[r0, t0] 24)
  obtain ⟨z0, hz0⟩ : ∃ z : Nat, z = (U0.length + V0.length) := ⟨_, rfl⟩
  by_cases hZ0 : z0 ≤ 1048576
  case neg =>
    go_enter Try.func4, Try.ntmps4
    have B1 := Lib.hid b0
    have Z2 := Lib.hid (show w.heap.size + 1 ≤ ((w.alloc (.cells #[r0, t0] 24))).heap.size by simp)
    have F3 := Lib.hid (i0.keep b0 (Nat.le_refl _))
    have L4 := Lib.hid (b0.size)
    have F5 := Lib.hid (j0.keep b0 (Nat.le_refl _))
    have L6 := Lib.hid (b0.size)
    have X7 := Lib.hid (box2_new w r0 t0 24)
    have x8 := X7.out.c0
    have x9 := X7.out.c1
    clear b0 i0 j0
    go_wp2_with fail
    have SZ := szCone_any U0 V0 r0 t0 w.heap.size _ F3.out F5.out (B1.out.size)
    rw [← hz0] at SZ
    unfold szTot at SZ
    rw [if_neg hZ0] at SZ
    refine SZ.mono ?_
    clear SZ
    rintro e w10 ⟨rfl, c11⟩
    have Z12 := Lib.hid (show (w.alloc (.cells #[r0, t0] 24)).heap.size ≤ w10.heap.size from (c11).size)
    have B13 := Lib.hid (below_then B1.out B1.out.size c11)
    have L14 := Lib.hid (Nat.le_trans L4.out (c11).size)
    have F15 := Lib.hid (F3.out.keep c11 L4.out)
    have L16 := Lib.hid (Nat.le_trans L6.out (c11).size)
    have F17 := Lib.hid (F5.out.keep c11 L6.out)
    have X18 := Lib.hid (X7.out.keep c11)
    have x19 := X18.out.c0
    have x20 := X18.out.c1
    clear B1 F3 F5 L4 L6 x8 x9 X7
    clear c11
    go_wp2
    go_ret
    exact ⟨rfl, B13.out⟩
  have HT0 := fun w' (j1 : ISr w' w.heap.size r0 U0) (j2 : ISr w' w.heap.size t0 V0) (hs : w.heap.size ≤ w'.heap.size) => toCone_any U0 V0 r0 t0 w.heap.size w' j1 j2 hs (by omega) (by omega)
  have hl0 : V0.length ≤ 1048576 := by omega
  have hk0 : U0.length ≤ 1048576 := by omega
  have hRb := turnsC_len U0 V0
  obtain ⟨RL, hP⟩ : ∃ p, turnsL (splitC U0 V0) = p := ⟨_, rfl⟩
  rw [hP] at hRb
  go_enter Try.func4, Try.ntmps4
  have B21 := Lib.hid b0
  have Z22 := Lib.hid (show w.heap.size + 1 ≤ ((w.alloc (.cells #[r0, t0] 24))).heap.size by simp)
  have F23 := Lib.hid (i0.keep b0 (Nat.le_refl _))
  have L24 := Lib.hid (b0.size)
  have F25 := Lib.hid (j0.keep b0 (Nat.le_refl _))
  have L26 := Lib.hid (b0.size)
  have X27 := Lib.hid (box2_new w r0 t0 24)
  have x28 := X27.out.c0
  have x29 := X27.out.c1
  clear b0 i0 j0
  go_wp2_with fail
  have SZ := szCone_any U0 V0 r0 t0 w.heap.size _ F23.out F25.out (B21.out.size)
  rw [← hz0] at SZ
  unfold szTot at SZ
  rw [if_pos hZ0] at SZ
  refine SZ.mono ?_
  clear SZ
  rintro e w30 ⟨rfl, c31⟩
  have Z32 := Lib.hid (show (w.alloc (.cells #[r0, t0] 24)).heap.size ≤ w30.heap.size from (c31).size)
  have B33 := Lib.hid (below_then B21.out B21.out.size c31)
  have L34 := Lib.hid (Nat.le_trans L24.out (c31).size)
  have F35 := Lib.hid (F23.out.keep c31 L24.out)
  have L36 := Lib.hid (Nat.le_trans L26.out (c31).size)
  have F37 := Lib.hid (F25.out.keep c31 L26.out)
  have X38 := Lib.hid (X27.out.keep c31)
  have x39 := X38.out.c0
  have x40 := X38.out.c1
  clear B21 F23 F25 L24 L26 x28 x29 X27
  clear c31
  have hr0 : 0 ≤ (1048576 : Int) - (z0 : Int) := by omega
  clear hz0
  go_wp2_with fail
  refine (HT0 w30 F35.out F37.out B33.out.size).mono ?_
  rintro e w41 ⟨u44, u46, rfl, k45, k47, c42, s43⟩
  have F48 := Lib.hid (ConeO.of (lo := w30.heap.size) (hi := w41.heap.size) k45 k47 (.inl (by omega)) (by omega) (by omega) (by omega) (by omega))
  have L49 := Lib.hid (Nat.le_refl w41.heap.size)
  have Y50 := Lib.hid (show w30.heap.size ≤ w41.heap.size from c42.size)
  clear k45 k47 s43
  have Z51 := Lib.hid (show w30.heap.size ≤ w41.heap.size from (c42).size)
  have B52 := Lib.hid (below_then B33.out B33.out.size c42)
  have L53 := Lib.hid (Nat.le_trans L34.out (c42).size)
  have F54 := Lib.hid (F35.out.keep c42 L34.out)
  have L55 := Lib.hid (Nat.le_trans L36.out (c42).size)
  have F56 := Lib.hid (F37.out.keep c42 L36.out)
  have X57 := Lib.hid (X38.out.keep c42)
  have x58 := X57.out.c0
  have x59 := X57.out.c1
  clear B33 F35 F37 L34 L36 x39 x40 X38
  clear c42
  go_wp2_with fail
  have SP := specTurnsOf_law U0 V0 u44 u46 w41.heap.size w41  ((F48.out.fstR).upto L49.out) ((F48.out.sndR).upto L49.out) (Nat.le_refl _)
  rw [hP] at SP
  try dsimp only at SP
  refine SP.mono ?_
  clear SP
  rintro e w60 ⟨u63, rfl, k62, c61⟩
  have F64 := Lib.hid k62
  have L65 := Lib.hid (Nat.le_refl w60.heap.size)
  have Y66 := Lib.hid (show w41.heap.size ≤ w60.heap.size from c61.size)
  clear k62
  have Z67 := Lib.hid (show w41.heap.size ≤ w60.heap.size from (c61).size)
  have B68 := Lib.hid (below_then B52.out B52.out.size c61)
  have L69 := Lib.hid (Nat.le_trans L53.out (c61).size)
  have F70 := Lib.hid (F54.out.keep c61 L53.out)
  have L71 := Lib.hid (Nat.le_trans L55.out (c61).size)
  have F72 := Lib.hid (F56.out.keep c61 L55.out)
  have L73 := Lib.hid (Nat.le_trans L49.out (c61).size)
  have F74 := Lib.hid (F48.out.keep c61 L49.out)
  have X75 := Lib.hid (X57.out.keep c61)
  have x76 := X75.out.c0
  have x77 := X75.out.c1
  clear B52 F54 F56 F48 L53 L55 L49 x58 x59 X57
  clear c61
  clear F74
  go_wp2_with fail
  refine (HT0 w60 F70.out F72.out B68.out.size).mono ?_
  rintro e w78 ⟨u81, u83, rfl, k82, k84, c79, s80⟩
  have F85 := Lib.hid (ConeO.of (lo := w60.heap.size) (hi := w78.heap.size) k82 k84 (.inl (by omega)) (by omega) (by omega) (by omega) (by omega))
  have L86 := Lib.hid (Nat.le_refl w78.heap.size)
  have Y87 := Lib.hid (show w60.heap.size ≤ w78.heap.size from c79.size)
  clear k82 k84 s80
  have Z88 := Lib.hid (show w60.heap.size ≤ w78.heap.size from (c79).size)
  have B89 := Lib.hid (below_then B68.out B68.out.size c79)
  have L90 := Lib.hid (Nat.le_trans L69.out (c79).size)
  have F91 := Lib.hid (F70.out.keep c79 L69.out)
  have L92 := Lib.hid (Nat.le_trans L71.out (c79).size)
  have F93 := Lib.hid (F72.out.keep c79 L71.out)
  have L94 := Lib.hid (Nat.le_trans L65.out (c79).size)
  have F95 := Lib.hid (F64.out.keep c79 L65.out)
  have X96 := Lib.hid (X75.out.keep c79)
  have x97 := X96.out.c0
  have x98 := X96.out.c1
  clear B68 F70 F72 F64 L69 L71 L65 x76 x77 X75
  clear c79
  obtain ⟨a99, q100, h101, -⟩ := id (F85.out.fstR)
  subst h101
  obtain ⟨a102, q103, h104, -⟩ := id (F85.out.sndR)
  subst h104
  have ca := below1 w78 (.cells #[(.slice a99 U0.length q100), (.slice a102 V0.length q103)] 28)
  have X106 := Lib.hid (box2_new w78 (.slice a99 U0.length q100) (.slice a102 V0.length q103) 28)
  have Z107 := Lib.hid (show w78.heap.size + 1 ≤ (w78.alloc (.cells #[(.slice a99 U0.length q100), (.slice a102 V0.length q103)] 28)).heap.size by simp)
  have v108 := (X96.out.keep ca).c0
  have v109 := (X96.out.keep ca).c1
  go_wp2_with fail
  generalize w78.alloc (.cells #[(.slice a99 U0.length q100), (.slice a102 V0.length q103)] 28) = w105 at *
  clear v108 v109
  have Z110 := Lib.hid (show w78.heap.size ≤ w105.heap.size from (ca).size)
  have B111 := Lib.hid (below_then B89.out B89.out.size ca)
  have L112 := Lib.hid (Nat.le_trans L90.out (ca).size)
  have F113 := Lib.hid (F91.out.keep ca L90.out)
  have L114 := Lib.hid (Nat.le_trans L92.out (ca).size)
  have F115 := Lib.hid (F93.out.keep ca L92.out)
  have L116 := Lib.hid (Nat.le_trans L94.out (ca).size)
  have F117 := Lib.hid (F95.out.keep ca L94.out)
  have L118 := Lib.hid (Nat.le_trans L86.out (ca).size)
  have F119 := Lib.hid (F85.out.keep ca L86.out)
  have X120 := Lib.hid (X96.out.keep ca)
  have x121 := X120.out.c0
  have x122 := X120.out.c1
  clear B89 F91 F93 F95 F85 L90 L92 L94 L86 x97 x98 X96
  clear ca
  have x123 := X106.out.c0
  have x124 := X106.out.c1
  go_wp2_with fail
  have SP := implTurnsOf_law U0 V0 (.slice a99 U0.length q100) (.slice a102 V0.length q103) w105.heap.size w105  ((F119.out.fstR).upto L118.out) ((F119.out.sndR).upto L118.out) (Nat.le_refl _)
  rw [hP] at SP
  try dsimp only at SP
  refine SP.mono ?_
  clear SP
  rintro e w125 ⟨u128, rfl, k127, c126⟩
  have F129 := Lib.hid k127
  have L130 := Lib.hid (Nat.le_refl w125.heap.size)
  have Y131 := Lib.hid (show w105.heap.size ≤ w125.heap.size from c126.size)
  clear k127
  have Z132 := Lib.hid (show w105.heap.size ≤ w125.heap.size from (c126).size)
  have B133 := Lib.hid (below_then B111.out B111.out.size c126)
  have L134 := Lib.hid (Nat.le_trans L112.out (c126).size)
  have F135 := Lib.hid (F113.out.keep c126 L112.out)
  have L136 := Lib.hid (Nat.le_trans L114.out (c126).size)
  have F137 := Lib.hid (F115.out.keep c126 L114.out)
  have L138 := Lib.hid (Nat.le_trans L116.out (c126).size)
  have F139 := Lib.hid (F117.out.keep c126 L116.out)
  have L140 := Lib.hid (Nat.le_trans L118.out (c126).size)
  have F141 := Lib.hid (F119.out.keep c126 L118.out)
  have X142 := Lib.hid (X120.out.keep c126)
  have x143 := X142.out.c0
  have x144 := X142.out.c1
  have X145 := Lib.hid (X106.out.keep c126)
  have x146 := X145.out.c0
  have x147 := X145.out.c1
  clear B111 F113 F115 F117 F119 L112 L114 L116 L118 x121 x122 x123 x124 X120 X106
  clear c126
  go_wp2_with fail
  have E := eqIntS_any RL RL u128 u63 _ _ w125 (F129.out.read) (F139.out.read)
  rw [decide_eq_true (rfl : RL = RL)] at E
  refine (toBelow E).mono ?_
  clear E
  rintro e w148 ⟨rfl, c149⟩
  have Z150 := Lib.hid (show w125.heap.size ≤ w148.heap.size from (c149).size)
  have B151 := Lib.hid (below_then B133.out B133.out.size c149)
  have L152 := Lib.hid (Nat.le_trans L134.out (c149).size)
  have F153 := Lib.hid (F135.out.keep c149 L134.out)
  have L154 := Lib.hid (Nat.le_trans L136.out (c149).size)
  have F155 := Lib.hid (F137.out.keep c149 L136.out)
  have L156 := Lib.hid (Nat.le_trans L138.out (c149).size)
  have F157 := Lib.hid (F139.out.keep c149 L138.out)
  have L158 := Lib.hid (Nat.le_trans L140.out (c149).size)
  have F159 := Lib.hid (F141.out.keep c149 L140.out)
  have L160 := Lib.hid (Nat.le_trans L130.out (c149).size)
  have F161 := Lib.hid (F129.out.keep c149 L130.out)
  have X162 := Lib.hid (X142.out.keep c149)
  have x163 := X162.out.c0
  have x164 := X162.out.c1
  have X165 := Lib.hid (X145.out.keep c149)
  have x166 := X165.out.c0
  have x167 := X165.out.c1
  clear B133 F135 F137 F139 F141 F129 L134 L136 L138 L140 L130 x143 x144 x146 x147 X142 X145
  clear c149
  have cd : Below w148.heap.size w148 w148.drew := below_draws w148.heap.size w148 1
  have Z168 := Lib.hid (show w148.heap.size ≤ w148.drew.heap.size from (cd).size)
  have B169 := Lib.hid (below_then B151.out B151.out.size cd)
  have L170 := Lib.hid (Nat.le_trans L152.out (cd).size)
  have F171 := Lib.hid (F153.out.keep cd L152.out)
  have L172 := Lib.hid (Nat.le_trans L154.out (cd).size)
  have F173 := Lib.hid (F155.out.keep cd L154.out)
  have L174 := Lib.hid (Nat.le_trans L156.out (cd).size)
  have F175 := Lib.hid (F157.out.keep cd L156.out)
  have L176 := Lib.hid (Nat.le_trans L158.out (cd).size)
  have F177 := Lib.hid (F159.out.keep cd L158.out)
  have L178 := Lib.hid (Nat.le_trans L160.out (cd).size)
  have F179 := Lib.hid (F161.out.keep cd L160.out)
  have X180 := Lib.hid (X162.out.keep cd)
  have x181 := X180.out.c0
  have x182 := X180.out.c1
  have X183 := Lib.hid (X165.out.keep cd)
  have x184 := X183.out.c0
  have x185 := X183.out.c1
  clear B151 F153 F155 F157 F159 F161 L152 L154 L156 L158 L160 x163 x164 x166 x167 X162 X165
  clear cd
  go_wp2_with fail
  go_region_held3 (fun w' => w'.cell? ⟨w.heap.size, 0, none⟩ = some (r0) ∧ w'.cell? ⟨w.heap.size, 1, none⟩ = some (t0) ∧ w'.cell? ⟨w78.heap.size, 0, none⟩ = some (.slice a99 U0.length q100) ∧ w'.cell? ⟨w78.heap.size, 1, none⟩ = some (.slice a102 V0.length q103)) (first | exact ⟨x181, x182, x184, x185⟩ | exact ⟨t0, t1, t2, t3⟩ | exact ⟨y0, y1, y2, y3⟩) (first | (go_at_call 16; (with_reducible refine (HT0 _ F171.out F173.out B169.out.size).mono ?_); rintro e w186 ⟨u190, u192, rfl, k191, k193, c188, sq⟩; have t0 := ((X180.out.keep c188).c0); have t1 := ((X180.out.keep c188).c1); have t2 := ((X183.out.keep c188).c0); have t3 := ((X183.out.keep c188).c1)) | (go_at_call 19; have J0 := (k191.mono (Nat.le_refl _) (show _ ≤ w186.heap.size by omega)).read; have J1 := (k193.mono (Nat.le_refl _) (show _ ≤ w186.heap.size by omega)).read; (with_reducible refine (eqCone_any U0 V0 (.slice a99 U0.length q100) (.slice a102 V0.length q103) u190 u192 _ _ w186 ((F177.out.fstR).keep c188 L176.out) ((F177.out.sndR).keep c188 L176.out) J0 J1 (Nat.le_trans L176.out c188.size) (Nat.le_refl _)).mono ?_); rintro e w187 ⟨rfl, c189⟩; have y0 := (((X180.out.keep c188).keep c189).c0); have y1 := (((X180.out.keep c188).keep c189).c1); have y2 := (((X183.out.keep c188).keep c189).c0); have y3 := (((X183.out.keep c188).keep c189).c1)))
  clear t0 t1 t2 t3 y0 y1 y2 y3 sq k191 k193 J0 J1
  have Z194 := Lib.hid (show w148.drew.heap.size ≤ w186.heap.size from (c188).size)
  have B195 := Lib.hid (below_then B169.out B169.out.size c188)
  have L196 := Lib.hid (Nat.le_trans L170.out (c188).size)
  have F197 := Lib.hid (F171.out.keep c188 L170.out)
  have L198 := Lib.hid (Nat.le_trans L172.out (c188).size)
  have F199 := Lib.hid (F173.out.keep c188 L172.out)
  have L200 := Lib.hid (Nat.le_trans L174.out (c188).size)
  have F201 := Lib.hid (F175.out.keep c188 L174.out)
  have L202 := Lib.hid (Nat.le_trans L176.out (c188).size)
  have F203 := Lib.hid (F177.out.keep c188 L176.out)
  have L204 := Lib.hid (Nat.le_trans L178.out (c188).size)
  have F205 := Lib.hid (F179.out.keep c188 L178.out)
  have X206 := Lib.hid (X180.out.keep c188)
  have x207 := X206.out.c0
  have x208 := X206.out.c1
  have X209 := Lib.hid (X183.out.keep c188)
  have x210 := X209.out.c0
  have x211 := X209.out.c1
  clear B169 F171 F173 F175 F177 F179 L170 L172 L174 L176 L178 x181 x182 x184 x185 X180 X183
  clear c188
  have Z212 := Lib.hid (show w186.heap.size ≤ w187.heap.size from (c189).size)
  have B213 := Lib.hid (below_then B195.out B195.out.size c189)
  have L214 := Lib.hid (Nat.le_trans L196.out (c189).size)
  have F215 := Lib.hid (F197.out.keep c189 L196.out)
  have L216 := Lib.hid (Nat.le_trans L198.out (c189).size)
  have F217 := Lib.hid (F199.out.keep c189 L198.out)
  have L218 := Lib.hid (Nat.le_trans L200.out (c189).size)
  have F219 := Lib.hid (F201.out.keep c189 L200.out)
  have L220 := Lib.hid (Nat.le_trans L202.out (c189).size)
  have F221 := Lib.hid (F203.out.keep c189 L202.out)
  have L222 := Lib.hid (Nat.le_trans L204.out (c189).size)
  have F223 := Lib.hid (F205.out.keep c189 L204.out)
  have X224 := Lib.hid (X206.out.keep c189)
  have x225 := X224.out.c0
  have x226 := X224.out.c1
  have X227 := Lib.hid (X209.out.keep c189)
  have x228 := X227.out.c0
  have x229 := X227.out.c1
  clear B195 F197 F199 F201 F203 F205 L196 L198 L200 L202 L204 x207 x208 x210 x211 X206 X209
  clear c189
  go_wp2_with fail
  have M := markCone_any U0 V0 (.slice a99 U0.length q100) (.slice a102 V0.length q103) w60.heap.size w78.heap.size 1 w187 F221.out L220.out (by omega) (by  omega)
  refine M.mono ?_
  clear M
  rintro e w230 ⟨rfl, k231, o232⟩
  have F234 := Lib.hid k231
  clear k231
  have hK233 : 0 ≤ 1 + (U0.length : Int) + (V0.length : Int) ∧ 1 + (U0.length : Int) + (V0.length : Int) ≤ 4000000000000000000 := by  omega
  have Z235 := Lib.hid (show w187.heap.size ≤ w230.heap.size from o232.size)
  have B236 := Lib.hid (Only.base B213.out o232 (by have := Z22.out; have := Z32.out; have := Z51.out; have := Z67.out; have := Z88.out; have := Z110.out; have := Z107.out; have := Z132.out; have := Z150.out; have := Z168.out; have := Z194.out; have := Z212.out; have := L220.out; have := Y87.out; omega) (by have := Z22.out; have := Z32.out; have := Z51.out; have := Z67.out; have := Z88.out; have := Z110.out; have := Z107.out; have := Z132.out; have := Z150.out; have := Z168.out; have := Z194.out; have := Z212.out; have := L220.out; have := Y87.out; omega))
  have L237 := Lib.hid (Nat.le_trans L214.out o232.size)
  have L238 := Lib.hid (Nat.le_trans L216.out o232.size)
  have L239 := Lib.hid (Nat.le_trans L218.out o232.size)
  have L240 := Lib.hid (Nat.le_trans L220.out o232.size)
  have L241 := Lib.hid (Nat.le_trans L222.out o232.size)
  have F242 := Lib.hid (F215.out.keep (o232.below (by have := Z22.out; have := Z32.out; have := Z51.out; have := Z67.out; have := Z88.out; have := Z110.out; have := Z107.out; have := Z132.out; have := Z150.out; have := Z168.out; have := Z194.out; have := Z212.out; have := L220.out; have := Y87.out; omega)) (by have := Z22.out; have := Z32.out; have := Z51.out; have := Z67.out; have := Z88.out; have := Z110.out; have := Z107.out; have := Z132.out; have := Z150.out; have := Z168.out; have := Z194.out; have := Z212.out; have := L220.out; have := Y87.out; omega))
  have F243 := Lib.hid (F217.out.keep (o232.below (by have := Z22.out; have := Z32.out; have := Z51.out; have := Z67.out; have := Z88.out; have := Z110.out; have := Z107.out; have := Z132.out; have := Z150.out; have := Z168.out; have := Z194.out; have := Z212.out; have := L220.out; have := Y87.out; omega)) (by have := Z22.out; have := Z32.out; have := Z51.out; have := Z67.out; have := Z88.out; have := Z110.out; have := Z107.out; have := Z132.out; have := Z150.out; have := Z168.out; have := Z194.out; have := Z212.out; have := L220.out; have := Y87.out; omega))
  have F244 := Lib.hid (F219.out.keep (o232.below (by have := Z22.out; have := Z32.out; have := Z51.out; have := Z67.out; have := Z88.out; have := Z110.out; have := Z107.out; have := Z132.out; have := Z150.out; have := Z168.out; have := Z194.out; have := Z212.out; have := L220.out; have := Y87.out; omega)) (by have := Z22.out; have := Z32.out; have := Z51.out; have := Z67.out; have := Z88.out; have := Z110.out; have := Z107.out; have := Z132.out; have := Z150.out; have := Z168.out; have := Z194.out; have := Z212.out; have := L220.out; have := Y87.out; omega))
  have F245 := Lib.hid (F223.out.only o232 (.inr (by have := Z22.out; have := Z32.out; have := Z51.out; have := Z67.out; have := Z88.out; have := Z110.out; have := Z107.out; have := Z132.out; have := Z150.out; have := Z168.out; have := Z194.out; have := Z212.out; have := L220.out; have := Y87.out; omega)))
  have X246 := Lib.hid (X224.out.only o232 (by have := Z22.out; have := Z32.out; have := Z51.out; have := Z67.out; have := Z88.out; have := Z110.out; have := Z107.out; have := Z132.out; have := Z150.out; have := Z168.out; have := Z194.out; have := Z212.out; have := L220.out; have := Y87.out; omega))
  have x247 := X246.out.c0
  have x248 := X246.out.c1
  have X249 := Lib.hid (X227.out.only o232 (by have := Z22.out; have := Z32.out; have := Z51.out; have := Z67.out; have := Z88.out; have := Z110.out; have := Z107.out; have := Z132.out; have := Z150.out; have := Z168.out; have := Z194.out; have := Z212.out; have := L220.out; have := Y87.out; omega))
  have x250 := X249.out.c0
  have x251 := X249.out.c1
  clear B213 F215 F217 F219 F223 L214 L216 L218 L220 L222 F221 x225 x226 x228 x229 X224 X227 o232
  clear F234
  generalize 1 + (U0.length : Int) + (V0.length : Int) = K233 at *
  have hdK233 : decide (K233 < 0) = false := by rw [decide_eq_false_iff_not]; omega
  go_wp2_with fail
  have E := eqIntS_any RL RL u128 u63 _ _ w230 (F245.out.read) (F244.out.read)
  rw [decide_eq_true (rfl : RL = RL)] at E
  refine (toBelow E).mono ?_
  clear E
  rintro e w252 ⟨rfl, c253⟩
  have Z254 := Lib.hid (show w230.heap.size ≤ w252.heap.size from (c253).size)
  have B255 := Lib.hid (below_then B236.out B236.out.size c253)
  have L256 := Lib.hid (Nat.le_trans L237.out (c253).size)
  have F257 := Lib.hid (F242.out.keep c253 L237.out)
  have L258 := Lib.hid (Nat.le_trans L238.out (c253).size)
  have F259 := Lib.hid (F243.out.keep c253 L238.out)
  have L260 := Lib.hid (Nat.le_trans L239.out (c253).size)
  have F261 := Lib.hid (F244.out.keep c253 L239.out)
  have L262 := Lib.hid (Nat.le_trans L241.out (c253).size)
  have F263 := Lib.hid (F245.out.keep c253 L241.out)
  have X264 := Lib.hid (X246.out.keep c253)
  have x265 := X264.out.c0
  have x266 := X264.out.c1
  have X267 := Lib.hid (X249.out.keep c253)
  have x268 := X267.out.c0
  have x269 := X267.out.c1
  clear B236 F242 F243 F244 F245 L237 L238 L239 L241 x247 x248 x250 x251 X246 X249
  clear c253
  go_wp2_with fail
  have M := markIntS_any RL u128 w105.heap.size w125.heap.size 1 w252 F263.out (by omega) (by  omega)
  refine M.mono ?_
  clear M
  rintro e w270 ⟨rfl, k271, g274⟩
  have o272 := Only.of_grown (lo := w105.heap.size) (hi := w125.heap.size) g274 F263.out.blkIn
  clear g274
  have F275 := Lib.hid k271
  clear k271
  have hK273 : 0 ≤ 1 + (RL.length : Int) ∧ 1 + (RL.length : Int) ≤ 4000000000000000000 := by  omega
  have Z276 := Lib.hid (show w252.heap.size ≤ w270.heap.size from o272.size)
  have B277 := Lib.hid (Only.base B255.out o272 (by have := Z22.out; have := Z32.out; have := Z51.out; have := Z67.out; have := Z88.out; have := Z110.out; have := Z107.out; have := Z132.out; have := Z150.out; have := Z168.out; have := Z194.out; have := Z212.out; have := Z235.out; have := Z254.out; have := L262.out; have := Y131.out; omega) (by have := Z22.out; have := Z32.out; have := Z51.out; have := Z67.out; have := Z88.out; have := Z110.out; have := Z107.out; have := Z132.out; have := Z150.out; have := Z168.out; have := Z194.out; have := Z212.out; have := Z235.out; have := Z254.out; have := L262.out; have := Y131.out; omega))
  have L278 := Lib.hid (Nat.le_trans L256.out o272.size)
  have L279 := Lib.hid (Nat.le_trans L258.out o272.size)
  have L280 := Lib.hid (Nat.le_trans L260.out o272.size)
  have L281 := Lib.hid (Nat.le_trans L262.out o272.size)
  have F282 := Lib.hid (F257.out.keep (o272.below (by have := Z22.out; have := Z32.out; have := Z51.out; have := Z67.out; have := Z88.out; have := Z110.out; have := Z107.out; have := Z132.out; have := Z150.out; have := Z168.out; have := Z194.out; have := Z212.out; have := Z235.out; have := Z254.out; have := L262.out; have := Y131.out; omega)) (by have := Z22.out; have := Z32.out; have := Z51.out; have := Z67.out; have := Z88.out; have := Z110.out; have := Z107.out; have := Z132.out; have := Z150.out; have := Z168.out; have := Z194.out; have := Z212.out; have := Z235.out; have := Z254.out; have := L262.out; have := Y131.out; omega))
  have F283 := Lib.hid (F259.out.keep (o272.below (by have := Z22.out; have := Z32.out; have := Z51.out; have := Z67.out; have := Z88.out; have := Z110.out; have := Z107.out; have := Z132.out; have := Z150.out; have := Z168.out; have := Z194.out; have := Z212.out; have := Z235.out; have := Z254.out; have := L262.out; have := Y131.out; omega)) (by have := Z22.out; have := Z32.out; have := Z51.out; have := Z67.out; have := Z88.out; have := Z110.out; have := Z107.out; have := Z132.out; have := Z150.out; have := Z168.out; have := Z194.out; have := Z212.out; have := Z235.out; have := Z254.out; have := L262.out; have := Y131.out; omega))
  have F284 := Lib.hid (F261.out.keep (o272.below (by have := Z22.out; have := Z32.out; have := Z51.out; have := Z67.out; have := Z88.out; have := Z110.out; have := Z107.out; have := Z132.out; have := Z150.out; have := Z168.out; have := Z194.out; have := Z212.out; have := Z235.out; have := Z254.out; have := L262.out; have := Y131.out; omega)) (by have := Z22.out; have := Z32.out; have := Z51.out; have := Z67.out; have := Z88.out; have := Z110.out; have := Z107.out; have := Z132.out; have := Z150.out; have := Z168.out; have := Z194.out; have := Z212.out; have := Z235.out; have := Z254.out; have := L262.out; have := Y131.out; omega))
  have X285 := Lib.hid (X264.out.only o272 (by have := Z22.out; have := Z32.out; have := Z51.out; have := Z67.out; have := Z88.out; have := Z110.out; have := Z107.out; have := Z132.out; have := Z150.out; have := Z168.out; have := Z194.out; have := Z212.out; have := Z235.out; have := Z254.out; have := L262.out; have := Y131.out; omega))
  have x286 := X285.out.c0
  have x287 := X285.out.c1
  have X288 := Lib.hid (X267.out.only o272 (by have := Z22.out; have := Z32.out; have := Z51.out; have := Z67.out; have := Z88.out; have := Z110.out; have := Z107.out; have := Z132.out; have := Z150.out; have := Z168.out; have := Z194.out; have := Z212.out; have := Z235.out; have := Z254.out; have := L262.out; have := Y131.out; omega))
  have x289 := X288.out.c0
  have x290 := X288.out.c1
  clear B255 F257 F259 F261 L256 L258 L260 L262 F263 x265 x266 x268 x269 X264 X267 o272
  go_wp2_with fail
  have Q := toBelow0 (heldIntS_any RL.length u128 w270.heap.size 1 w270 ((F275.out.read).upto L281.out) (by omega) (by omega))
  have hq : decide (1 + (RL.length : Int) < 0) = false := by rw [decide_eq_false_iff_not]; omega
  refine Q.mono ?_
  clear Q
  rintro e w291 ⟨rfl, c292⟩
  have Z293 := Lib.hid (show w270.heap.size ≤ w291.heap.size from (c292).size)
  have B294 := Lib.hid (below_then B277.out B277.out.size c292)
  have L295 := Lib.hid (Nat.le_trans L278.out (c292).size)
  have F296 := Lib.hid (F282.out.keep c292 L278.out)
  have L297 := Lib.hid (Nat.le_trans L279.out (c292).size)
  have F298 := Lib.hid (F283.out.keep c292 L279.out)
  have L299 := Lib.hid (Nat.le_trans L280.out (c292).size)
  have F300 := Lib.hid (F284.out.keep c292 L280.out)
  have L301 := Lib.hid (Nat.le_trans L281.out (c292).size)
  have F302 := Lib.hid (F275.out.keep c292 L281.out)
  have X303 := Lib.hid (X285.out.keep c292)
  have x304 := X303.out.c0
  have x305 := X303.out.c1
  have X306 := Lib.hid (X288.out.keep c292)
  have x307 := X306.out.c0
  have x308 := X306.out.c1
  clear B277 F282 F283 F284 F275 L278 L279 L280 L281 x286 x287 x289 x290 X285 X288
  clear c292
  go_wp2_with fail
  refine (HT0 w291 F296.out F298.out B294.out.size).mono ?_
  rintro e w309 ⟨u312, u314, rfl, k313, k315, c310, s311⟩
  have F316 := Lib.hid (ConeO.of (lo := w291.heap.size) (hi := w309.heap.size) k313 k315 (.inl (by omega)) (by omega) (by omega) (by omega) (by omega))
  have L317 := Lib.hid (Nat.le_refl w309.heap.size)
  have Y318 := Lib.hid (show w291.heap.size ≤ w309.heap.size from c310.size)
  clear k313 k315 s311
  have Z319 := Lib.hid (show w291.heap.size ≤ w309.heap.size from (c310).size)
  have B320 := Lib.hid (below_then B294.out B294.out.size c310)
  have L321 := Lib.hid (Nat.le_trans L295.out (c310).size)
  have F322 := Lib.hid (F296.out.keep c310 L295.out)
  have L323 := Lib.hid (Nat.le_trans L297.out (c310).size)
  have F324 := Lib.hid (F298.out.keep c310 L297.out)
  have L325 := Lib.hid (Nat.le_trans L299.out (c310).size)
  have F326 := Lib.hid (F300.out.keep c310 L299.out)
  have L327 := Lib.hid (Nat.le_trans L301.out (c310).size)
  have F328 := Lib.hid (F302.out.keep c310 L301.out)
  have X329 := Lib.hid (X303.out.keep c310)
  have x330 := X329.out.c0
  have x331 := X329.out.c1
  have X332 := Lib.hid (X306.out.keep c310)
  have x333 := X332.out.c0
  have x334 := X332.out.c1
  clear B294 F296 F298 F300 F302 L295 L297 L299 L301 x304 x305 x307 x308 X303 X306
  clear c310
  go_wp2_with fail
  have SP := implTurnsOf_law U0 V0 u312 u314 w309.heap.size w309  ((F316.out.fstR).upto L317.out) ((F316.out.sndR).upto L317.out) (Nat.le_refl _)
  rw [hP] at SP
  try dsimp only at SP
  refine SP.mono ?_
  clear SP
  rintro e w335 ⟨u338, rfl, k337, c336⟩
  have F339 := Lib.hid k337
  have L340 := Lib.hid (Nat.le_refl w335.heap.size)
  have Y341 := Lib.hid (show w309.heap.size ≤ w335.heap.size from c336.size)
  clear k337
  have Z342 := Lib.hid (show w309.heap.size ≤ w335.heap.size from (c336).size)
  have B343 := Lib.hid (below_then B320.out B320.out.size c336)
  have L344 := Lib.hid (Nat.le_trans L321.out (c336).size)
  have F345 := Lib.hid (F322.out.keep c336 L321.out)
  have L346 := Lib.hid (Nat.le_trans L323.out (c336).size)
  have F347 := Lib.hid (F324.out.keep c336 L323.out)
  have L348 := Lib.hid (Nat.le_trans L325.out (c336).size)
  have F349 := Lib.hid (F326.out.keep c336 L325.out)
  have L350 := Lib.hid (Nat.le_trans L327.out (c336).size)
  have F351 := Lib.hid (F328.out.keep c336 L327.out)
  have L352 := Lib.hid (Nat.le_trans L317.out (c336).size)
  have F353 := Lib.hid (F316.out.keep c336 L317.out)
  have X354 := Lib.hid (X329.out.keep c336)
  have x355 := X354.out.c0
  have x356 := X354.out.c1
  have X357 := Lib.hid (X332.out.keep c336)
  have x358 := X357.out.c0
  have x359 := X357.out.c1
  clear B320 F322 F324 F326 F328 F316 L321 L323 L325 L327 L317 x330 x331 x333 x334 X329 X332
  clear c336
  go_wp2_with fail
  have E := eqIntS_any RL RL u338 u63 _ _ w335 (F339.out.read) (F349.out.read)
  rw [decide_eq_true (rfl : RL = RL)] at E
  refine (toBelow E).mono ?_
  clear E
  rintro e w360 ⟨rfl, c361⟩
  have Z362 := Lib.hid (show w335.heap.size ≤ w360.heap.size from (c361).size)
  have B363 := Lib.hid (below_then B343.out B343.out.size c361)
  have L364 := Lib.hid (Nat.le_trans L344.out (c361).size)
  have F365 := Lib.hid (F345.out.keep c361 L344.out)
  have L366 := Lib.hid (Nat.le_trans L346.out (c361).size)
  have F367 := Lib.hid (F347.out.keep c361 L346.out)
  have L368 := Lib.hid (Nat.le_trans L348.out (c361).size)
  have F369 := Lib.hid (F349.out.keep c361 L348.out)
  have L370 := Lib.hid (Nat.le_trans L350.out (c361).size)
  have F371 := Lib.hid (F351.out.keep c361 L350.out)
  have L372 := Lib.hid (Nat.le_trans L352.out (c361).size)
  have F373 := Lib.hid (F353.out.keep c361 L352.out)
  have L374 := Lib.hid (Nat.le_trans L340.out (c361).size)
  have F375 := Lib.hid (F339.out.keep c361 L340.out)
  have X376 := Lib.hid (X354.out.keep c361)
  have x377 := X376.out.c0
  have x378 := X376.out.c1
  have X379 := Lib.hid (X357.out.keep c361)
  have x380 := X379.out.c0
  have x381 := X379.out.c1
  clear B343 F345 F347 F349 F351 F353 F339 L344 L346 L348 L350 L352 L340 x355 x356 x358 x359 X354 X357
  clear c361
  go_wp2_with fail
  have Q := toBelow0 (heldIntS_any RL.length u128 w360.heap.size 1 w360 ((F371.out.read).upto L370.out) (by omega) (by omega))
  have hq : decide (1 + (RL.length : Int) < 0) = false := by rw [decide_eq_false_iff_not]; omega
  refine Q.mono ?_
  clear Q
  rintro e w382 ⟨rfl, c383⟩
  have Z384 := Lib.hid (show w360.heap.size ≤ w382.heap.size from (c383).size)
  have B385 := Lib.hid (below_then B363.out B363.out.size c383)
  have L386 := Lib.hid (Nat.le_trans L364.out (c383).size)
  have F387 := Lib.hid (F365.out.keep c383 L364.out)
  have L388 := Lib.hid (Nat.le_trans L366.out (c383).size)
  have F389 := Lib.hid (F367.out.keep c383 L366.out)
  have L390 := Lib.hid (Nat.le_trans L368.out (c383).size)
  have F391 := Lib.hid (F369.out.keep c383 L368.out)
  have L392 := Lib.hid (Nat.le_trans L370.out (c383).size)
  have F393 := Lib.hid (F371.out.keep c383 L370.out)
  have L394 := Lib.hid (Nat.le_trans L372.out (c383).size)
  have F395 := Lib.hid (F373.out.keep c383 L372.out)
  have L396 := Lib.hid (Nat.le_trans L374.out (c383).size)
  have F397 := Lib.hid (F375.out.keep c383 L374.out)
  have X398 := Lib.hid (X376.out.keep c383)
  have x399 := X398.out.c0
  have x400 := X398.out.c1
  have X401 := Lib.hid (X379.out.keep c383)
  have x402 := X401.out.c0
  have x403 := X401.out.c1
  clear B363 F365 F367 F369 F371 F373 F375 L364 L366 L368 L370 L372 L374 x377 x378 x380 x381 X376 X379
  clear c383
  go_wp2
  go_ret
  exact ⟨rfl, B385.out⟩
end Go.Proofs.Ytchkcjpahlimjaa
