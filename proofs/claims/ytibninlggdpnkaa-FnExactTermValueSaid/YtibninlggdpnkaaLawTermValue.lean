/- The law on TermValue: its walk. -/
import Derived.Test.YtibninlggdpnkaaTvS
import Derived.Test.YtibninlggdpnkaaOpenT
import Derived.Test.YtibninlggdpnkaaGen
import Derived.Deep.RegionHeld3
namespace Go.Proofs.Ytibninlggdpnkaa
open Go.RowKit
set_option linter.unusedVariables false
set_option linter.unusedSimpArgs false

set_option maxHeartbeats 4000000 in
theorem lawTermValue (v0 : Value) (y0 : Int × List Int × List (List Int)) (n1 : Int) (hn1 : -9223372036854775808 ≤ n1 ∧ n1 ≤ 9223372036854775807) (n2 : Int) (hn2 : -9223372036854775808 ≤ n2 ∧ n2 ≤ 9223372036854775807) (w : World) (h0 : TermR w w.heap.size v0 y0) :
    Calls Try.prog 13 #[v0, .int .i64 n1, .int .i64 n2] w fun e w' => e = .returned (.bool true) ∧ Below w.heap.size w w' := by
  obtain ⟨s0, U0, G0⟩ := y0
  obtain ⟨r0, t0, rfl, hs0, i0, j0⟩ := h0
  simp only at hs0 i0 j0
  have b0 := below1 w (.cells #[(.int .i64 s0), r0, t0] 58)
  obtain ⟨z0, hz0⟩ : ∃ z : Nat, z = (U0.length + totS G0) := ⟨_, rfl⟩
  by_cases hZ0 : z0 ≤ 1048576
  case neg =>
    go_enter Try.func13, Try.ntmps13
    have B1 := Lib.hid b0
    have F2 := Lib.hid (i0.keep b0 (Nat.le_refl _))
    have L3 := Lib.hid (b0.size)
    have F4 := Lib.hid (j0.keep b0 (Nat.le_refl _))
    have L5 := Lib.hid (b0.size)
    have X6 := Lib.hid (box3_new w (.int .i64 s0) r0 t0 58)
    have x7 := X6.out.c0
    have x8 := X6.out.c1
    have x9 := X6.out.c2
    clear b0 i0 j0
    go_wp2_with fail
    have SZ := szTerm_any (.int .i64 s0) U0 G0 r0 t0 w.heap.size _ F2.out F4.out (B1.out.size)
    rw [← hz0] at SZ
    unfold szTot at SZ
    rw [if_neg hZ0] at SZ
    refine SZ.mono ?_
    clear SZ
    rintro e w10 ⟨rfl, c11⟩
    have B12 := Lib.hid (below_then B1.out B1.out.size c11)
    have L13 := Lib.hid (Nat.le_trans L3.out (c11).size)
    have F14 := Lib.hid (F2.out.keep c11 L3.out)
    have L15 := Lib.hid (Nat.le_trans L5.out (c11).size)
    have F16 := Lib.hid (F4.out.keep c11 L5.out)
    have X17 := Lib.hid (X6.out.keep c11)
    have x18 := X17.out.c0
    have x19 := X17.out.c1
    have x20 := X17.out.c2
    clear B1 F2 F4 L3 L5 x7 x8 x9 X6
    clear c11
    go_wp2
    go_ret
    exact ⟨rfl, B12.out⟩
  have HT0 := fun w' (j1 : ISr w' w.heap.size r0 U0) (j2 : ISSr w' w.heap.size t0 G0) (hs : w.heap.size ≤ w'.heap.size) => toTerm_any s0 U0 G0 r0 t0 w.heap.size w' j1 j2 hs (by omega) (totS_len (ls := G0) (B := 1048576) (by omega)).1 (totS_len (ls := G0) (B := 1048576) (by omega)).2
  obtain ⟨pp, hP⟩ : ∃ p, termV s0 U0 G0 n1 n2 = p := ⟨_, rfl⟩
  obtain ⟨pa, pb⟩ := pp
  go_enter Try.func13, Try.ntmps13
  have B21 := Lib.hid b0
  have F22 := Lib.hid (i0.keep b0 (Nat.le_refl _))
  have L23 := Lib.hid (b0.size)
  have F24 := Lib.hid (j0.keep b0 (Nat.le_refl _))
  have L25 := Lib.hid (b0.size)
  have X26 := Lib.hid (box3_new w (.int .i64 s0) r0 t0 58)
  have x27 := X26.out.c0
  have x28 := X26.out.c1
  have x29 := X26.out.c2
  clear b0 i0 j0
  go_wp2_with fail
  have SZ := szTerm_any (.int .i64 s0) U0 G0 r0 t0 w.heap.size _ F22.out F24.out (B21.out.size)
  rw [← hz0] at SZ
  unfold szTot at SZ
  rw [if_pos hZ0] at SZ
  refine SZ.mono ?_
  clear SZ
  rintro e w30 ⟨rfl, c31⟩
  have B32 := Lib.hid (below_then B21.out B21.out.size c31)
  have L33 := Lib.hid (Nat.le_trans L23.out (c31).size)
  have F34 := Lib.hid (F22.out.keep c31 L23.out)
  have L35 := Lib.hid (Nat.le_trans L25.out (c31).size)
  have F36 := Lib.hid (F24.out.keep c31 L25.out)
  have X37 := Lib.hid (X26.out.keep c31)
  have x38 := X37.out.c0
  have x39 := X37.out.c1
  have x40 := X37.out.c2
  clear B21 F22 F24 L23 L25 x27 x28 x29 X26
  clear c31
  have hr0 : 0 ≤ (1048576 : Int) - (z0 : Int) := by omega
  clear hz0
  go_wp2_with fail
  refine (HT0 w30 F34.out F36.out B32.out.size).mono ?_
  rintro e w41 ⟨u44, u46, rfl, k45, k47, c42, s43⟩
  have F48 := Lib.hid (k45.mono (lo' := w30.heap.size) (hi' := w41.heap.size) (by omega) (by omega)).read
  have F49 := Lib.hid (k47.mono (lo' := w30.heap.size) (hi' := w41.heap.size) (by omega) (by omega)).read
  have L50 := Lib.hid (Nat.le_refl w41.heap.size)
  clear k45 k47 s43
  have B51 := Lib.hid (below_then B32.out B32.out.size c42)
  have L52 := Lib.hid (Nat.le_trans L33.out (c42).size)
  have F53 := Lib.hid (F34.out.keep c42 L33.out)
  have L54 := Lib.hid (Nat.le_trans L35.out (c42).size)
  have F55 := Lib.hid (F36.out.keep c42 L35.out)
  have X56 := Lib.hid (X37.out.keep c42)
  have x57 := X56.out.c0
  have x58 := X56.out.c1
  have x59 := X56.out.c2
  clear B32 F34 F36 L33 L35 x38 x39 x40 X37
  clear c42
  go_wp2_with fail
  have SP := specTermValue_any s0 U0 G0 u44 u46 n1 n2 w41.heap.size w41 hs0 (F48.out.upto L50.out) (F49.out.upto L50.out) (Nat.le_refl _)
  rw [hP] at SP
  refine SP.mono ?_
  clear SP
  rintro e w60 ⟨rfl, c61⟩
  have B62 := Lib.hid (below_then B51.out B51.out.size c61)
  have L63 := Lib.hid (Nat.le_trans L52.out (c61).size)
  have F64 := Lib.hid (F53.out.keep c61 L52.out)
  have L65 := Lib.hid (Nat.le_trans L54.out (c61).size)
  have F66 := Lib.hid (F55.out.keep c61 L54.out)
  have L67 := Lib.hid (Nat.le_trans L50.out (c61).size)
  have F68 := Lib.hid (F48.out.keep c61 L50.out)
  have F69 := Lib.hid (F49.out.keep c61 L50.out)
  have X70 := Lib.hid (X56.out.keep c61)
  have x71 := X70.out.c0
  have x72 := X70.out.c1
  have x73 := X70.out.c2
  clear B51 F53 F55 F48 F49 L52 L54 L50 x57 x58 x59 X56
  clear c61
  clear F68 F69
  go_wp2_with fail
  refine (HT0 w60 F64.out F66.out B62.out.size).mono ?_
  rintro e w74 ⟨u77, u79, rfl, k78, k80, c75, s76⟩
  have F81 := Lib.hid (k78.mono (lo' := w60.heap.size) (hi' := w74.heap.size) (by omega) (by omega)).read
  have F82 := Lib.hid (k80.mono (lo' := w60.heap.size) (hi' := w74.heap.size) (by omega) (by omega)).read
  have L83 := Lib.hid (Nat.le_refl w74.heap.size)
  clear k78 k80 s76
  have B84 := Lib.hid (below_then B62.out B62.out.size c75)
  have L85 := Lib.hid (Nat.le_trans L63.out (c75).size)
  have F86 := Lib.hid (F64.out.keep c75 L63.out)
  have L87 := Lib.hid (Nat.le_trans L65.out (c75).size)
  have F88 := Lib.hid (F66.out.keep c75 L65.out)
  have X89 := Lib.hid (X70.out.keep c75)
  have x90 := X89.out.c0
  have x91 := X89.out.c1
  have x92 := X89.out.c2
  clear B62 F64 F66 L63 L65 x71 x72 x73 X70
  clear c75
  obtain ⟨a93, q94, h95, -⟩ := id F81.out
  subst h95
  obtain ⟨a96, q97, h98, -⟩ := id F82.out
  subst h98
  have ca := below1 w74 (.cells #[.int .i64 s0, (.slice a93 U0.length q94), (.slice a96 G0.length q97)] 61)
  have X100 := Lib.hid (box3_new w74 (.int .i64 s0) (.slice a93 U0.length q94) (.slice a96 G0.length q97) 61)
  go_wp2_with fail
  generalize w74.alloc (.cells #[.int .i64 s0, (.slice a93 U0.length q94), (.slice a96 G0.length q97)] 61) = w99 at *
  have B101 := Lib.hid (below_then B84.out B84.out.size ca)
  have L102 := Lib.hid (Nat.le_trans L85.out (ca).size)
  have F103 := Lib.hid (F86.out.keep ca L85.out)
  have L104 := Lib.hid (Nat.le_trans L87.out (ca).size)
  have F105 := Lib.hid (F88.out.keep ca L87.out)
  have L106 := Lib.hid (Nat.le_trans L83.out (ca).size)
  have F107 := Lib.hid (F81.out.keep ca L83.out)
  have F108 := Lib.hid (F82.out.keep ca L83.out)
  have X109 := Lib.hid (X89.out.keep ca)
  have x110 := X109.out.c0
  have x111 := X109.out.c1
  have x112 := X109.out.c2
  clear B84 F86 F88 F81 F82 L85 L87 L83 x90 x91 x92 X89
  clear ca
  have x113 := X100.out.c0
  have x114 := X100.out.c1
  have x115 := X100.out.c2
  go_wp2_with fail
  have SP := implTermValue_any s0 U0 G0 (.slice a93 U0.length q94) (.slice a96 G0.length q97) n1 n2 w99.heap.size w99 hs0 (F107.out.upto L106.out) (F108.out.upto L106.out) (Nat.le_refl _)
  rw [hP] at SP
  refine SP.mono ?_
  clear SP
  rintro e w116 ⟨rfl, c117⟩
  have B118 := Lib.hid (below_then B101.out B101.out.size c117)
  have L119 := Lib.hid (Nat.le_trans L102.out (c117).size)
  have F120 := Lib.hid (F103.out.keep c117 L102.out)
  have L121 := Lib.hid (Nat.le_trans L104.out (c117).size)
  have F122 := Lib.hid (F105.out.keep c117 L104.out)
  have L123 := Lib.hid (Nat.le_trans L106.out (c117).size)
  have F124 := Lib.hid (F107.out.keep c117 L106.out)
  have F125 := Lib.hid (F108.out.keep c117 L106.out)
  have X126 := Lib.hid (X109.out.keep c117)
  have x127 := X126.out.c0
  have x128 := X126.out.c1
  have x129 := X126.out.c2
  have X130 := Lib.hid (X100.out.keep c117)
  have x131 := X130.out.c0
  have x132 := X130.out.c1
  have x133 := X130.out.c2
  clear B101 F103 F105 F107 F108 L102 L104 L106 x110 x111 x112 x113 x114 x115 X109 X100
  clear c117
  have cd := below_draws w116.heap.size w116 1
  have cd : Below w116.heap.size w116 w116.drew := cd
  have B134 := Lib.hid (below_then B118.out B118.out.size cd)
  have L135 := Lib.hid (Nat.le_trans L119.out (cd).size)
  have F136 := Lib.hid (F120.out.keep cd L119.out)
  have L137 := Lib.hid (Nat.le_trans L121.out (cd).size)
  have F138 := Lib.hid (F122.out.keep cd L121.out)
  have L139 := Lib.hid (Nat.le_trans L123.out (cd).size)
  have F140 := Lib.hid (F124.out.keep cd L123.out)
  have F141 := Lib.hid (F125.out.keep cd L123.out)
  have X142 := Lib.hid (X126.out.keep cd)
  have x143 := X142.out.c0
  have x144 := X142.out.c1
  have x145 := X142.out.c2
  have X146 := Lib.hid (X130.out.keep cd)
  have x147 := X146.out.c0
  have x148 := X146.out.c1
  have x149 := X146.out.c2
  clear B118 F120 F122 F124 F125 L119 L121 L123 x127 x128 x129 x131 x132 x133 X126 X130
  clear cd
  go_wp2_with fail
  go_region_held3 (fun w' => w'.cell? ⟨w.heap.size, 0, none⟩ = some (.int .i64 s0) ∧ w'.cell? ⟨w.heap.size, 1, none⟩ = some (r0) ∧ w'.cell? ⟨w.heap.size, 2, none⟩ = some (t0) ∧ w'.cell? ⟨w74.heap.size, 0, none⟩ = some (.int .i64 s0) ∧ w'.cell? ⟨w74.heap.size, 1, none⟩ = some (.slice a93 U0.length q94) ∧ w'.cell? ⟨w74.heap.size, 2, none⟩ = some (.slice a96 G0.length q97)) (first | exact ⟨x143, x144, x145, x147, x148, x149⟩ | exact ⟨t0, t1, t2, t3, t4, t5⟩ | exact ⟨z0, z1, z2, z3, z4, z5⟩) (first | (go_at_call 49; (with_reducible refine (HT0 _ F136.out F138.out B134.out.size).mono ?_); rintro e w150 ⟨u154, u156, rfl, k155, k157, c152, sq⟩; have t0 := ((X142.out.keep c152).c0); have t1 := ((X142.out.keep c152).c1); have t2 := ((X142.out.keep c152).c2); have t3 := ((X146.out.keep c152).c0); have t4 := ((X146.out.keep c152).c1); have t5 := ((X146.out.keep c152).c2)) | (go_at_call 51; have J0 := (k155.mono (Nat.le_refl _) (show _ ≤ w150.heap.size by omega)).read; have J1 := (k157.mono (Nat.le_refl _) (show _ ≤ w150.heap.size by omega)).read; (with_reducible refine (eqTerm_any s0 U0 G0 (.slice a93 U0.length q94) (.slice a96 G0.length q97) u154 u156 _ _ w150 (F140.out.keep c152 L139.out) (F141.out.keep c152 L139.out) J0 J1 (Nat.le_trans L139.out c152.size) (Nat.le_refl _)).mono ?_); rintro e w151 ⟨rfl, c153⟩; have z0 := (((X142.out.keep c152).keep c153).c0); have z1 := (((X142.out.keep c152).keep c153).c1); have z2 := (((X142.out.keep c152).keep c153).c2); have z3 := (((X146.out.keep c152).keep c153).c0); have z4 := (((X146.out.keep c152).keep c153).c1); have z5 := (((X146.out.keep c152).keep c153).c2)))
  clear t0 t1 t2 t3 t4 t5 z0 z1 z2 z3 z4 z5 sq k155 k157 J0 J1
  have B158 := Lib.hid (below_then B134.out B134.out.size c152)
  have L159 := Lib.hid (Nat.le_trans L135.out (c152).size)
  have F160 := Lib.hid (F136.out.keep c152 L135.out)
  have L161 := Lib.hid (Nat.le_trans L137.out (c152).size)
  have F162 := Lib.hid (F138.out.keep c152 L137.out)
  have L163 := Lib.hid (Nat.le_trans L139.out (c152).size)
  have F164 := Lib.hid (F140.out.keep c152 L139.out)
  have F165 := Lib.hid (F141.out.keep c152 L139.out)
  have X166 := Lib.hid (X142.out.keep c152)
  have x167 := X166.out.c0
  have x168 := X166.out.c1
  have x169 := X166.out.c2
  have X170 := Lib.hid (X146.out.keep c152)
  have x171 := X170.out.c0
  have x172 := X170.out.c1
  have x173 := X170.out.c2
  clear B134 F136 F138 F140 F141 L135 L137 L139 x143 x144 x145 x147 x148 x149 X142 X146
  clear c152
  have B174 := Lib.hid (below_then B158.out B158.out.size c153)
  have L175 := Lib.hid (Nat.le_trans L159.out (c153).size)
  have F176 := Lib.hid (F160.out.keep c153 L159.out)
  have L177 := Lib.hid (Nat.le_trans L161.out (c153).size)
  have F178 := Lib.hid (F162.out.keep c153 L161.out)
  have L179 := Lib.hid (Nat.le_trans L163.out (c153).size)
  have F180 := Lib.hid (F164.out.keep c153 L163.out)
  have F181 := Lib.hid (F165.out.keep c153 L163.out)
  have X182 := Lib.hid (X166.out.keep c153)
  have x183 := X182.out.c0
  have x184 := X182.out.c1
  have x185 := X182.out.c2
  have X186 := Lib.hid (X170.out.keep c153)
  have x187 := X186.out.c0
  have x188 := X186.out.c1
  have x189 := X186.out.c2
  clear B158 F160 F162 F164 F165 L159 L161 L163 x167 x168 x169 x171 x172 x173 X166 X170
  clear c153
  go_wp2
  go_ret
  exact ⟨rfl, B174.out⟩
end Go.Proofs.Ytibninlggdpnkaa
