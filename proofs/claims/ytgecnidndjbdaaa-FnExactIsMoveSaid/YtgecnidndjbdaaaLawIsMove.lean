/- The law on IsMove: its walk. -/
import Derived.Test.YtgecnidndjbdaaaMat2
import Derived.Test.YtgecnidndjbdaaaOpenM
import Derived.Test.YtgecnidndjbdaaaB1
import Derived.Deep.RegionHeld3
namespace Go.Proofs.Ytgecnidndjbdaaa
open Go.RowKit
set_option linter.unusedVariables false
set_option linter.unusedSimpArgs false

set_option maxHeartbeats 4000000 in
theorem lawIsMove (v0 : Value) (y0 : List (List Int) × List Int) (w : World) (h0 : MoveR w w.heap.size v0 y0) :
    Calls Try.prog 3 #[v0] w fun e w' => e = .returned (.bool true) ∧ Below w.heap.size w w' := by
  obtain ⟨M0, V0⟩ := y0
  obtain ⟨r0, t0, rfl, i0, j0⟩ := h0
  simp only at i0 j0
  have b0 := below1 w (.cells #[r0, t0] 25)
  obtain ⟨z0, hz0⟩ : ∃ z : Nat, z = (totS M0 + V0.length) := ⟨_, rfl⟩
  by_cases hZ0 : z0 ≤ 1048576
  case neg =>
    go_enter Try.func3, Try.ntmps3
    have B1 := Lib.hid b0
    have F2 := Lib.hid (i0.keep b0 (Nat.le_refl _))
    have L3 := Lib.hid (b0.size)
    have F4 := Lib.hid (j0.keep b0 (Nat.le_refl _))
    have L5 := Lib.hid (b0.size)
    have X6 := Lib.hid (box2_new w r0 t0 25)
    have x7 := X6.out.c0
    have x8 := X6.out.c1
    clear b0 i0 j0
    go_wp2_with fail
    have SZ := szMove_any M0 V0 r0 t0 w.heap.size _ F2.out F4.out (B1.out.size)
    rw [← hz0] at SZ
    unfold szTot at SZ
    rw [if_neg hZ0] at SZ
    refine SZ.mono ?_
    clear SZ
    rintro e w9 ⟨rfl, c10⟩
    have B11 := Lib.hid (below_then B1.out B1.out.size c10)
    have L12 := Lib.hid (Nat.le_trans L3.out (c10).size)
    have F13 := Lib.hid (F2.out.keep c10 L3.out)
    have L14 := Lib.hid (Nat.le_trans L5.out (c10).size)
    have F15 := Lib.hid (F4.out.keep c10 L5.out)
    have X16 := Lib.hid (X6.out.keep c10)
    have x17 := X16.out.c0
    have x18 := X16.out.c1
    clear B1 F2 F4 L3 L5 x7 x8 X6
    clear c10
    go_wp2
    go_ret
    exact ⟨rfl, B11.out⟩
  have HT0 := fun w' (j1 : ISSr w' w.heap.size r0 M0) (j2 : ISr w' w.heap.size t0 V0) (hs : w.heap.size ≤ w'.heap.size) => toMove_any M0 V0 r0 t0 w.heap.size w' j1 j2 hs (totS_len (ls := M0) (B := 1048576) (by omega)).1 (totS_len (ls := M0) (B := 1048576) (by omega)).2 (by omega)
  go_enter Try.func3, Try.ntmps3
  have B19 := Lib.hid b0
  have F20 := Lib.hid (i0.keep b0 (Nat.le_refl _))
  have L21 := Lib.hid (b0.size)
  have F22 := Lib.hid (j0.keep b0 (Nat.le_refl _))
  have L23 := Lib.hid (b0.size)
  have X24 := Lib.hid (box2_new w r0 t0 25)
  have x25 := X24.out.c0
  have x26 := X24.out.c1
  clear b0 i0 j0
  go_wp2_with fail
  have SZ := szMove_any M0 V0 r0 t0 w.heap.size _ F20.out F22.out (B19.out.size)
  rw [← hz0] at SZ
  unfold szTot at SZ
  rw [if_pos hZ0] at SZ
  refine SZ.mono ?_
  clear SZ
  rintro e w27 ⟨rfl, c28⟩
  have B29 := Lib.hid (below_then B19.out B19.out.size c28)
  have L30 := Lib.hid (Nat.le_trans L21.out (c28).size)
  have F31 := Lib.hid (F20.out.keep c28 L21.out)
  have L32 := Lib.hid (Nat.le_trans L23.out (c28).size)
  have F33 := Lib.hid (F22.out.keep c28 L23.out)
  have X34 := Lib.hid (X24.out.keep c28)
  have x35 := X34.out.c0
  have x36 := X34.out.c1
  clear B19 F20 F22 L21 L23 x25 x26 X24
  clear c28
  have hr0 : 0 ≤ (1048576 : Int) - (z0 : Int) := by omega
  clear hz0
  go_wp2_with fail
  refine (HT0 w27 F31.out F33.out B29.out.size).mono ?_
  rintro e w37 ⟨u40, u42, rfl, k41, k43, c38, s39⟩
  have F44 := Lib.hid (k41.mono (lo' := w27.heap.size) (hi' := w37.heap.size) (by omega) (by omega)).read
  have F45 := Lib.hid (k43.mono (lo' := w27.heap.size) (hi' := w37.heap.size) (by omega) (by omega)).read
  have L46 := Lib.hid (Nat.le_refl w37.heap.size)
  clear k41 k43 s39
  have B47 := Lib.hid (below_then B29.out B29.out.size c38)
  have L48 := Lib.hid (Nat.le_trans L30.out (c38).size)
  have F49 := Lib.hid (F31.out.keep c38 L30.out)
  have L50 := Lib.hid (Nat.le_trans L32.out (c38).size)
  have F51 := Lib.hid (F33.out.keep c38 L32.out)
  have X52 := Lib.hid (X34.out.keep c38)
  have x53 := X52.out.c0
  have x54 := X52.out.c1
  clear B29 F31 F33 L30 L32 x35 x36 X34
  clear c38
  go_wp2_with fail
  have SP := specIsMove_any M0 V0 u40 u42 w37.heap.size w37  (F44.out.upto L46.out) (F45.out.upto L46.out) (Nat.le_refl _)
  refine SP.mono ?_
  clear SP
  rintro e w55 ⟨rfl, c56⟩
  have B57 := Lib.hid (below_then B47.out B47.out.size c56)
  have L58 := Lib.hid (Nat.le_trans L48.out (c56).size)
  have F59 := Lib.hid (F49.out.keep c56 L48.out)
  have L60 := Lib.hid (Nat.le_trans L50.out (c56).size)
  have F61 := Lib.hid (F51.out.keep c56 L50.out)
  have L62 := Lib.hid (Nat.le_trans L46.out (c56).size)
  have F63 := Lib.hid (F44.out.keep c56 L46.out)
  have F64 := Lib.hid (F45.out.keep c56 L46.out)
  have X65 := Lib.hid (X52.out.keep c56)
  have x66 := X65.out.c0
  have x67 := X65.out.c1
  clear B47 F49 F51 F44 F45 L48 L50 L46 x53 x54 X52
  clear c56
  clear F63 F64
  go_wp2_with fail
  refine (HT0 w55 F59.out F61.out B57.out.size).mono ?_
  rintro e w68 ⟨u71, u73, rfl, k72, k74, c69, s70⟩
  have F75 := Lib.hid (k72.mono (lo' := w55.heap.size) (hi' := w68.heap.size) (by omega) (by omega)).read
  have F76 := Lib.hid (k74.mono (lo' := w55.heap.size) (hi' := w68.heap.size) (by omega) (by omega)).read
  have L77 := Lib.hid (Nat.le_refl w68.heap.size)
  clear k72 k74 s70
  have B78 := Lib.hid (below_then B57.out B57.out.size c69)
  have L79 := Lib.hid (Nat.le_trans L58.out (c69).size)
  have F80 := Lib.hid (F59.out.keep c69 L58.out)
  have L81 := Lib.hid (Nat.le_trans L60.out (c69).size)
  have F82 := Lib.hid (F61.out.keep c69 L60.out)
  have X83 := Lib.hid (X65.out.keep c69)
  have x84 := X83.out.c0
  have x85 := X83.out.c1
  clear B57 F59 F61 L58 L60 x66 x67 X65
  clear c69
  obtain ⟨a86, q87, h88, -⟩ := id F75.out
  subst h88
  obtain ⟨a89, q90, h91, -⟩ := id F76.out
  subst h91
  have ca := below1 w68 (.cells #[(.slice a86 M0.length q87), (.slice a89 V0.length q90)] 28)
  have X93 := Lib.hid (box2_new w68 (.slice a86 M0.length q87) (.slice a89 V0.length q90) 28)
  go_wp2_with fail
  generalize w68.alloc (.cells #[(.slice a86 M0.length q87), (.slice a89 V0.length q90)] 28) = w92 at *
  have B94 := Lib.hid (below_then B78.out B78.out.size ca)
  have L95 := Lib.hid (Nat.le_trans L79.out (ca).size)
  have F96 := Lib.hid (F80.out.keep ca L79.out)
  have L97 := Lib.hid (Nat.le_trans L81.out (ca).size)
  have F98 := Lib.hid (F82.out.keep ca L81.out)
  have L99 := Lib.hid (Nat.le_trans L77.out (ca).size)
  have F100 := Lib.hid (F75.out.keep ca L77.out)
  have F101 := Lib.hid (F76.out.keep ca L77.out)
  have X102 := Lib.hid (X83.out.keep ca)
  have x103 := X102.out.c0
  have x104 := X102.out.c1
  clear B78 F80 F82 F75 F76 L79 L81 L77 x84 x85 X83
  clear ca
  have x105 := X93.out.c0
  have x106 := X93.out.c1
  go_wp2_with fail
  have SP := implIsMove_any M0 V0 (.slice a86 M0.length q87) (.slice a89 V0.length q90) w92.heap.size w92  (F100.out.upto L99.out) (F101.out.upto L99.out) (Nat.le_refl _)
  refine SP.mono ?_
  clear SP
  rintro e w107 ⟨rfl, c108⟩
  have B109 := Lib.hid (below_then B94.out B94.out.size c108)
  have L110 := Lib.hid (Nat.le_trans L95.out (c108).size)
  have F111 := Lib.hid (F96.out.keep c108 L95.out)
  have L112 := Lib.hid (Nat.le_trans L97.out (c108).size)
  have F113 := Lib.hid (F98.out.keep c108 L97.out)
  have L114 := Lib.hid (Nat.le_trans L99.out (c108).size)
  have F115 := Lib.hid (F100.out.keep c108 L99.out)
  have F116 := Lib.hid (F101.out.keep c108 L99.out)
  have X117 := Lib.hid (X102.out.keep c108)
  have x118 := X117.out.c0
  have x119 := X117.out.c1
  have X120 := Lib.hid (X93.out.keep c108)
  have x121 := X120.out.c0
  have x122 := X120.out.c1
  clear B94 F96 F98 F100 F101 L95 L97 L99 x103 x104 x105 x106 X102 X93
  clear c108
  have cd := below_draws w107.heap.size w107 1
  have cd : Below w107.heap.size w107 w107.drew := cd
  have B123 := Lib.hid (below_then B109.out B109.out.size cd)
  have L124 := Lib.hid (Nat.le_trans L110.out (cd).size)
  have F125 := Lib.hid (F111.out.keep cd L110.out)
  have L126 := Lib.hid (Nat.le_trans L112.out (cd).size)
  have F127 := Lib.hid (F113.out.keep cd L112.out)
  have L128 := Lib.hid (Nat.le_trans L114.out (cd).size)
  have F129 := Lib.hid (F115.out.keep cd L114.out)
  have F130 := Lib.hid (F116.out.keep cd L114.out)
  have X131 := Lib.hid (X117.out.keep cd)
  have x132 := X131.out.c0
  have x133 := X131.out.c1
  have X134 := Lib.hid (X120.out.keep cd)
  have x135 := X134.out.c0
  have x136 := X134.out.c1
  clear B109 F111 F113 F115 F116 L110 L112 L114 x118 x119 x121 x122 X117 X120
  clear cd
  go_wp2_with fail
  go_region_held3 (fun w' => w'.cell? ⟨w.heap.size, 0, none⟩ = some (r0) ∧ w'.cell? ⟨w.heap.size, 1, none⟩ = some (t0) ∧ w'.cell? ⟨w68.heap.size, 0, none⟩ = some (.slice a86 M0.length q87) ∧ w'.cell? ⟨w68.heap.size, 1, none⟩ = some (.slice a89 V0.length q90)) (first | exact ⟨x132, x133, x135, x136⟩ | exact ⟨t0, t1, t2, t3⟩ | exact ⟨z0, z1, z2, z3⟩) (first | (go_at_call 12; (with_reducible refine (HT0 _ F125.out F127.out B123.out.size).mono ?_); rintro e w137 ⟨u141, u143, rfl, k142, k144, c139, sq⟩; have t0 := ((X131.out.keep c139).c0); have t1 := ((X131.out.keep c139).c1); have t2 := ((X134.out.keep c139).c0); have t3 := ((X134.out.keep c139).c1)) | (go_at_call 14; have J0 := (k142.mono (Nat.le_refl _) (show _ ≤ w137.heap.size by omega)).read; have J1 := (k144.mono (Nat.le_refl _) (show _ ≤ w137.heap.size by omega)).read; (with_reducible refine (eqMove_any M0 V0 (.slice a86 M0.length q87) (.slice a89 V0.length q90) u141 u143 _ _ w137 (F129.out.keep c139 L128.out) (F130.out.keep c139 L128.out) J0 J1 (Nat.le_trans L128.out c139.size) (Nat.le_refl _)).mono ?_); rintro e w138 ⟨rfl, c140⟩; have z0 := (((X131.out.keep c139).keep c140).c0); have z1 := (((X131.out.keep c139).keep c140).c1); have z2 := (((X134.out.keep c139).keep c140).c0); have z3 := (((X134.out.keep c139).keep c140).c1)))
  clear t0 t1 t2 t3 z0 z1 z2 z3 sq k142 k144 J0 J1
  have B145 := Lib.hid (below_then B123.out B123.out.size c139)
  have L146 := Lib.hid (Nat.le_trans L124.out (c139).size)
  have F147 := Lib.hid (F125.out.keep c139 L124.out)
  have L148 := Lib.hid (Nat.le_trans L126.out (c139).size)
  have F149 := Lib.hid (F127.out.keep c139 L126.out)
  have L150 := Lib.hid (Nat.le_trans L128.out (c139).size)
  have F151 := Lib.hid (F129.out.keep c139 L128.out)
  have F152 := Lib.hid (F130.out.keep c139 L128.out)
  have X153 := Lib.hid (X131.out.keep c139)
  have x154 := X153.out.c0
  have x155 := X153.out.c1
  have X156 := Lib.hid (X134.out.keep c139)
  have x157 := X156.out.c0
  have x158 := X156.out.c1
  clear B123 F125 F127 F129 F130 L124 L126 L128 x132 x133 x135 x136 X131 X134
  clear c139
  have B159 := Lib.hid (below_then B145.out B145.out.size c140)
  have L160 := Lib.hid (Nat.le_trans L146.out (c140).size)
  have F161 := Lib.hid (F147.out.keep c140 L146.out)
  have L162 := Lib.hid (Nat.le_trans L148.out (c140).size)
  have F163 := Lib.hid (F149.out.keep c140 L148.out)
  have L164 := Lib.hid (Nat.le_trans L150.out (c140).size)
  have F165 := Lib.hid (F151.out.keep c140 L150.out)
  have F166 := Lib.hid (F152.out.keep c140 L150.out)
  have X167 := Lib.hid (X153.out.keep c140)
  have x168 := X167.out.c0
  have x169 := X167.out.c1
  have X170 := Lib.hid (X156.out.keep c140)
  have x171 := X170.out.c0
  have x172 := X170.out.c1
  clear B145 F147 F149 F151 F152 L146 L148 L150 x154 x155 x157 x158 X153 X156
  clear c140
  go_wp2
  go_ret
  exact ⟨rfl, B159.out⟩
end Go.Proofs.Ytgecnidndjbdaaa
