/- The statement on segments: the walk. -/
import Derived.Test.YtfncikbmdaameaaDrS
import Derived.Test.YtfncikbmdaameaaPcs
import Derived.Test.YtfncikbmdaameaaSame
import Derived.Deep.RegionHeld3
namespace Go.Proofs.Ytfncikbmdaameaa
open Go.RowKit
set_option linter.unusedVariables false
set_option linter.unusedSimpArgs false

set_option maxRecDepth 100000 in
set_option maxHeartbeats 16000000 in
theorem lawFnLines (v : Value) (l : List Int) (w : World) (h : ISb w w.heap.size v l) :
    Calls Try.prog 5 #[v] w fun e w' => e = .returned (.bool true) ∧ Below w.heap.size w w' := by
  have HBG := big_any v l w.heap.size w h
  have D1 := DrawSegmentPieces_any v l w.heap.size w h (Nat.le_refl _)
  have HI := Lib.hid h
  clear h
  cases hbig : decide (1048576 < l.length)
  case true =>
    rw [hbig] at HBG
    go_enter Try.func5, Try.ntmps5
    go_wp2_with (go_at_call 22; (with_reducible refine HBG.mono ?_); rintro e w' ⟨rfl, rfl⟩)
    go_ret
    exact ⟨rfl, Below.refl _ _⟩
  rw [hbig] at HBG
  clear hbig
  unfold segV at D1
  go_enter Try.func5, Try.ntmps5
  go_wp2_with (go_at_call 22; (with_reducible refine HBG.mono ?_); rintro e w' ⟨rfl, rfl⟩)
  refine D1.mono ?_
  rintro e w1 ⟨⟨a, b, c, d, rfl, ha1, ha2, hb1, hb2, hd1, hd2, hc1, hc2⟩, c1⟩
  clear D1 HBG
  have HB1 := Lib.hid (below_then c1 c1.size (below1 w1 (.cells #[.int .i64 a, .int .i64 b, .int .i64 c, .int .i64 d] 26)))
  have X1 := Lib.hid (box4_new w1 (.int .i64 a) (.int .i64 b) (.int .i64 c) (.int .i64 d) 26)
  clear c1
  have P1 := implSegmentPieces_any a b c d (w1.alloc (.cells #[.int .i64 a, .int .i64 b, .int .i64 c, .int .i64 d] 26))
  unfold segV at P1
  go_wp2_with fail
  refine P1.mono ?_
  rintro e w2 ⟨u, rfl, ku, c2⟩
  have HB2 := Lib.hid (below_then HB1.out HB1.out.size c2)
  have X2 := Lib.hid (X1.out.keep c2)
  have F2 := Lib.hid ku.is.read
  have D2 := DrawSegmentCount_any v l w.heap.size w2 (HI.out.keep HB2.out (Nat.le_refl _)) HB2.out.size
  unfold segV at D2
  obtain ⟨au, qu, hu, -⟩ := id F2.out
  rw [pcL_len] at hu
  subst hu
  clear c2 P1 ku HB1 X1
  go_wp2_with fail
  refine D2.mono ?_
  rintro e w3 ⟨⟨a2, b2, c2, d2, t, rfl⟩, c3⟩
  have hz3 := c3.size
  have c4 := below_then c3 c3.size (below1 w3 (.cells #[.int .i64 a2, .int .i64 b2, .int .i64 c2, .int .i64 d2] 26))
  have HB4 := Lib.hid (below_then HB2.out HB2.out.size c4)
  have X4 := Lib.hid (X2.out.keep c4)
  have Y4 := Lib.hid (box4_new w3 (.int .i64 a2) (.int .i64 b2) (.int .i64 c2) (.int .i64 d2) 26)
  have F4 := Lib.hid (F2.out.keep c4 (Nat.le_refl _))
  have Z4 := Lib.hid c4.size
  clear c3 c4 D2 HB2 X2 F2 hz3
  generalize w2.heap.size = p2 at *
  have x0 := X4.out.c0
  have x1 := X4.out.c1
  have x2 := X4.out.c2
  have x3 := X4.out.c3
  have PP := implSegmentPeriod_any a b c d (w3.alloc (.cells #[.int .i64 a2, .int .i64 b2, .int .i64 c2, .int .i64 d2] 26))
  unfold segV at PP
  go_wp2_with fail
  refine PP.mono ?_
  rintro e w5 ⟨rfl, c5⟩
  have HB5 := Lib.hid (below_then HB4.out HB4.out.size c5)
  have X5 := Lib.hid (X4.out.keep c5)
  have Y5 := Lib.hid (Y4.out.keep c5)
  have F5 := Lib.hid (F4.out.keep c5 Z4.out)
  have Z5 := Lib.hid (Nat.le_trans Z4.out c5.size)
  clear c5 PP HB4 X4 Y4 F4 Z4 x0 x1 x2 x3 HI
  generalize w1.heap.size = n3 at *
  generalize w3.heap.size = n5 at *
  have pb := per_bd a b c d
  go_upto_region 7 with fail
  go_cut [58] (fun s wx => s = .bool false ∧ Hid (Below w5.heap.size w5 wx))
  case first =>
    as_aux_lemma =>
      have x0 := X5.out.c0
      have x1 := X5.out.c1
      have x2 := X5.out.c2
      have x3 := X5.out.c3
      have y0 := Y5.out.c0
      have y1 := Y5.out.c1
      have y2 := Y5.out.c2
      have y3 := Y5.out.c3
      have SP := fun W => specSegmentPieces_any a b c d W
      have CI := fun W => implSegmentCount_any a2 b2 c2 d2 t W
      have CS := fun W => specSegmentCount_any a2 b2 c2 d2 t W
      have II := fun W => implSegmentInner_any a2 b2 c2 d2 t W
      have IS' := fun W => specSegmentInner_any a2 b2 c2 d2 t W
      have PS := fun W => specSegmentPeriod_any a b c d W
      have GI := fun W => implIsSegment_any a b c d W
      have GS := fun W => specIsSegment_any a b c d W
      have B0 := Below.refl w5.heap.size w5
      unfold segV at *
      go_region_held3 (fun w' => w'.cell? ⟨n3, 0, none⟩ = some (.int .i64 a) ∧ w'.cell? ⟨n3, 1, none⟩ = some (.int .i64 b) ∧ w'.cell? ⟨n3, 2, none⟩ = some (.int .i64 c) ∧ w'.cell? ⟨n3, 3, none⟩ = some (.int .i64 d) ∧ w'.cell? ⟨n5, 0, none⟩ = some (.int .i64 a2) ∧ w'.cell? ⟨n5, 1, none⟩ = some (.int .i64 b2) ∧ w'.cell? ⟨n5, 2, none⟩ = some (.int .i64 c2) ∧ w'.cell? ⟨n5, 3, none⟩ = some (.int .i64 d2))
        (first | exact ⟨x0, x1, x2, x3, y0, y1, y2, y3⟩ | exact ⟨(X5.out.keep BB).c0, (X5.out.keep BB).c1, (X5.out.keep BB).c2, (X5.out.keep BB).c3, (Y5.out.keep BB).c0, (Y5.out.keep BB).c1, (Y5.out.keep BB).c2, (Y5.out.keep BB).c3⟩ | go_keep)
        (first
          | (go_at_call 11; (with_reducible refine (SP _).mono ?_); rintro e w6 ⟨u6, rfl, k6, c6⟩; have BB := below_then (below_draws w5.heap.size w5 1) (Nat.le_refl _) c6)
          | (go_at_call 26; have Q := toBelow (sameLists_any (pcL a b c d) (pcL a b c d) _ u6 _ _ w6 (F5.out.keep BB Z5.out) k6.is.read); (with_reducible refine Q.mono ?_); rw [decide_eq_true (rfl : pcL a b c d = pcL a b c d)]; rintro e w7 ⟨rfl, c7⟩; have BB := below_then BB BB.size c7)
          | (go_at_call 27; (with_reducible refine (CI _).mono ?_); rintro e w8 ⟨rfl, c8⟩; have BB := below_then BB BB.size c8)
          | (go_at_call 28; (with_reducible refine (CS _).mono ?_); rintro e w9 ⟨rfl, c9⟩; have BB := below_then BB BB.size c9)
          | (go_at_call 29; (with_reducible refine (II _).mono ?_); rintro e w10 ⟨rfl, c10⟩; have BB := below_then BB BB.size c10)
          | (go_at_call 30; (with_reducible refine (IS' _).mono ?_); rintro e w11 ⟨rfl, c11⟩; have BB := below_then BB BB.size c11)
          | (go_at_call 31; (with_reducible refine (PS _).mono ?_); rintro e w12 ⟨rfl, c12⟩; have BB := below_then BB BB.size c12)
          | (go_at_call 32; (with_reducible refine (GI _).mono ?_); rintro e w13 ⟨rfl, c13⟩; have BB := below_then BB BB.size c13)
          | (go_at_call 33; (with_reducible refine (GS _).mono ?_); rintro e w14 ⟨rfl, c14⟩; have BB := below_then BB BB.size c14))
      go_wp2_with fail
      go_meet
      exact ⟨rfl, Lib.hid BB⟩
  case rest =>
    obtain ⟨rfl, HC⟩ := hcut
    clear Y5
    have HSEG := Lib.hid (show 0 < segPeriod a b c d → segB a b c d = true ∧ segPeriod a b c d = perI a b c d from fun h => by
      unfold segPeriod at h ⊢
      split at h
      · rename_i g; exact ⟨g, by rw [if_pos g]⟩
      · omega)
    have HAT := Lib.hid (fun (r : Nat) (h : (r : Int) < segPeriod a b c d) => pcL_at (a := a) (b := b) (c := c) (d := d) h)
    have HLN := Lib.hid (pcL_len a b c d)
    obtain ⟨N, hN⟩ : ∃ N : Nat, segPeriod a b c d = N := ⟨(segPeriod a b c d).toNat, by omega⟩
    rw [hN] at pb HSEG HAT HLN F5
    rw [hN]
    rw [show ((N : Int)).toNat = N by omega] at HLN F5
    rw [show ((N : Int)).toNat = N by omega]
    clear hN
    by_cases h0 : N = 0
    · subst h0
      go_wp2
      go_ret
      exact ⟨rfl, below_then HB5.out HB5.out.size HC.out⟩
    · obtain ⟨hs, hper⟩ := HSEG.out (by omega)
      have HS := Lib.hid hs
      have HPR := Lib.hid hper
      clear HSEG hs hper
      have hn0 : ((N : Int) == 0) = false := by rw [beq_eq_false_iff_ne]; omega
      obtain ⟨bL, oL, VL, ea, hbb, hcc⟩ : ∃ bl off, ∃ V : Nat → Value, au = some ⟨bl, off, none⟩ ∧ bl < p2 ∧ ∀ i, i < (pcL a b c d).length → w5.cell? ⟨bl, off + i, none⟩ = some (V i) ∧ ISr w5 p2 (V i) ((pcL a b c d).getD i []) := by
        obtain ⟨a', cap', e', -, -, hc'⟩ := id F5.out
        injection e' with e1 e2 e3
        obtain ⟨b', o', V', f1, f2, f3⟩ := hc' (by intro e; have := HLN.out; rw [e] at this; simp at this; omega)
        exact ⟨b', o', V', e1.trans f1, f2, f3⟩
      subst ea
      have HCC := Lib.hid hcc
      obtain ⟨sb1, sb1', sd1, sd1', sa1, sa1', sc1, sc1'⟩ := segB_bd HS.out
      have CI := fun W t => implSegmentCount_any a b c d t W
      have II := fun W t => implSegmentInner_any a b c d t W
      unfold segV at CI II
      have stb := stp_bd HS.out
      have HCN := Lib.hid (fun (r j : Nat) (hr : r < N) (hj : j < 4) => (show segCount a b c d ((r : Int) + j * N) = cntI a b c d r + stpI a b c d * j by
        have jn : (j : Int) * N ≤ 3 * 144 := Int.mul_le_mul (by omega) (by omega) (by omega) (by omega)
        have jn0 : 0 ≤ (j : Int) * N := Int.mul_nonneg (by omega) (by omega)
        unfold segCount
        rw [if_pos (by rw [HS.out]; simp [inB]; omega), HPR.out, cnt_step HS.out, Int.mul_comm]))
      have HIN := Lib.hid (fun (r : Nat) (hr : r < N) (hne : a * d ≠ c * b) => (show segInner a b c d ((N : Int) - r) = stpI a b c d - cntI a b c d r by
        unfold segInner
        rw [if_pos (by rw [HS.out]; simp [inB]; omega), HPR.out]
        exact cnt_inner HS.out hne r (by rw [← HPR.out]; omega)))
      have HCB := Lib.hid (fun (r : Nat) (hr : r < N) => cnt_bd (t := r) HS.out (by omega) (by omega))
      have m1 := mul_bd2 (a := a) (b := d) (M := 1000) (N := 12) (by omega) (by omega) (by omega) (by omega) (by omega)
      have m2 := mul_bd2 (a := c) (b := b) (M := 1000) (N := 12) (by omega) (by omega) (by omega) (by omega) (by omega)
      clear hcc F5
      go_wp2_with fail
      go_loopw [8] (fun i wr => ∃ r : Nat, r ≤ N ∧ i = .int .i64 r ∧ Hid (Below w5.heap.size w5 wr)) (fun i _ => N - (intOf i).toNat)
      case atStart => exact ⟨0, by omega, rfl, HC⟩
      case round =>
        obtain ⟨r, hr, rfl, HBE⟩ := hrel
        by_cases hlt : r < N
        · have hrl : r < (pcL a b c d).length := by rw [HLN.out]; exact hlt
          have ck := (HBE.out.cell (p := ⟨bL, oL + r, none⟩) (Nat.lt_of_lt_of_le hbb Z5.out)).trans (HCC.out r hrl).1
          have ir := (HCC.out r hrl).2.keep HBE.out Z5.out
          rw [HAT.out r (by omega)] at ir
          obtain ⟨bR, oR, cR, hv, hbR, q0, q1⟩ := ir.two rfl
          rw [hv] at ck
          have X := Lib.hid (X5.out.keep HBE.out)
          have HR1 := Lib.hid (fun j hj => HCN.out r j hlt hj)
          have HR2 := Lib.hid (fun hne => HIN.out r hlt hne)
          have cb := HCB.out r hlt
          have hdec : decide ((r : Int) < (N : Int)) = true := by rw [decide_eq_true_eq]; omega
          have hbw := HBE.out.size
          have hlw : bL < wr.heap.size := by have := Z5.out; omega
          have hlR : bR < wr.heap.size := by have := Z5.out; omega
          have i1 : (0 : Int) ≤ (r : Int) := by omega
          have i2 : (r : Int) < (N : Int) := by omega
          clear ir hv HCC HAT HCN HIN HCB hrl
          simp only [List.getD_cons_zero, List.getD_cons_succ] at q0 q1
          generalize cntI a b c d r = cn at *
          generalize stpI a b c d = st at *
          have CK := Lib.hid ck
          have Q0 := Lib.hid q0
          have Q1 := Lib.hid q1
          generalize hwy : wr = wy at *
          clear hwy
          go_wp2_with fail
          go_loopw [9] (fun i wx => ∃ j : Nat, j ≤ 4 ∧ i = .int .i64 j ∧ Hid (Below wy.heap.size wy wx)) (fun i _ => 4 - (intOf i).toNat)
          case atStart => exact ⟨0, by omega, rfl, Lib.hid (Below.refl _ _)⟩
          case round =>
            obtain ⟨j, hj, rfl, HX⟩ := hrel
            clear ck q0 q1
            have x := X.out.keep HX.out
            have x0 := x.c0
            have x1 := x.c1
            have x2 := x.c2
            have x3 := x.c3
            have ck := (HX.out.cell (p := ⟨bL, oL + r, none⟩) hlw).trans CK.out
            have q0 := (HX.out.cell (p := ⟨bR, oR, none⟩) hlR).trans Q0.out
            have q1 := (HX.out.cell (p := ⟨bR, oR + 1, none⟩) hlR).trans Q1.out
            have hx := Lib.hid x
            clear x
            by_cases hj4 : j < 4
            · have hcs := HR1.out j hj4
              have jn : (j : Int) * N ≤ 3 * 144 := Int.mul_le_mul (by omega) (by omega) (by omega) (by omega)
              have jn0 : 0 ≤ (j : Int) * N := Int.mul_nonneg (by omega) (by omega)
              have sj := mul_bd2 (a := st) (b := j) (M := 288000) (N := 3) (by omega) (by omega) (by omega) (by omega) (by omega)
              have CIj := fun W => CI W ((r : Int) + j * N)
              rw [hcs] at CIj
              clear hcs CI II HR1 HR2 m1 m2
              generalize hP : (j : Int) * (N : Int) = P at *
              generalize hQ : st * (j : Int) = Q at *
              have wP := wr64 P (by omega)
              have wQ := wr64 Q (by omega)
              have wr1 := wr64 ((r : Int) + P) (by omega)
              have wr2 := wr64 (cn + Q) (by omega)
              have hne : (cn + Q != cn + Q) = false := by simp
              go_wp2_with fail
              go_region_held3 (fun w' => w'.cell? ⟨n3, 0, none⟩ = some (.int .i64 a) ∧ w'.cell? ⟨n3, 1, none⟩ = some (.int .i64 b) ∧ w'.cell? ⟨n3, 2, none⟩ = some (.int .i64 c) ∧ w'.cell? ⟨n3, 3, none⟩ = some (.int .i64 d) ∧ w'.cell? ⟨bL, oL + r, none⟩ = some (.slice (some ⟨bR, oR, none⟩) 2 cR) ∧ w'.cell? ⟨bR, oR, none⟩ = some (.int .i64 cn) ∧ w'.cell? ⟨bR, oR + 1, none⟩ = some (.int .i64 st))
                (first | exact ⟨x0, x1, x2, x3, ck, q0, q1⟩ | exact ⟨(hx.out.keep BB).c0, (hx.out.keep BB).c1, (hx.out.keep BB).c2, (hx.out.keep BB).c3, z0, z1, z2⟩ | go_keep)
                ((go_at_call 27; (with_reducible refine (CIj _).mono ?_); rintro e w8 ⟨rfl, c8⟩; have BB := below_then (below_draws wr.heap.size wr 1) (Nat.le_refl _) c8; have BY := below_then HX.out HX.out.size BB; have z0 := (BY.cell (p := ⟨bL, oL + r, none⟩) hlw).trans CK.out; have z1 := (BY.cell (p := ⟨bR, oR, none⟩) hlR).trans Q0.out; have z2 := (BY.cell (p := ⟨bR, oR + 1, none⟩) hlR).trans Q1.out))
              have HY := Lib.hid BY
              clear BB BY z0 z1 z2 c8
              go_wp2
              go_roundw
              case rel => exact ⟨j + 1, by omega, by go_num, HY⟩
              case measure => simp [intOf]; omega
            · obtain rfl : j = 4 := by omega
              clear CI HR1
              have hdec2 : decide ((4 : Int) < 4) = false := by simp
              go_wp2_with fail
              go_cut [151] (fun s w9 => s = .bool false ∧ Hid (Below wr.heap.size wr w9))
              case first =>
                as_aux_lemma =>
                  have hne0 := HR2.out
                  clear HR2
                  generalize hM1 : a * d = M1 at *
                  generalize hM2 : c * b = M2 at *
                  have wM1 := wr64 M1 (by omega)
                  have wM2 := wr64 M2 (by omega)
                  by_cases hne : M1 = M2
                  · subst hne
                    clear hne0 II
                    go_quiet (fail)
                    go_wp2_with fail
                    go_meet
                    exact ⟨rfl, Lib.hid (below_draws wr.heap.size wr nq)⟩
                  · have hb : (M1 != M2) = true := by simpa using hne
                    have hb2 : (M1 == M2) = false := by simpa using hne
                    have hin := hne0 hne
                    have IIr := fun W => II W ((N : Int) - r)
                    rw [hin] at IIr
                    have w1' := wr64 ((N : Int) - r) (by omega)
                    have w2' := wr64 (st - cn) (by omega)
                    have g1 : decide (1 ≤ (N : Int) - r) = true := by rw [decide_eq_true_eq]; omega
                    have g2 : (st - cn != st - cn) = false := by simp
                    clear hne0 II hin
                    go_region_held3 (fun w' => w'.cell? ⟨n3, 0, none⟩ = some (.int .i64 a) ∧ w'.cell? ⟨n3, 1, none⟩ = some (.int .i64 b) ∧ w'.cell? ⟨n3, 2, none⟩ = some (.int .i64 c) ∧ w'.cell? ⟨n3, 3, none⟩ = some (.int .i64 d) ∧ w'.cell? ⟨bL, oL + r, none⟩ = some (.slice (some ⟨bR, oR, none⟩) 2 cR) ∧ w'.cell? ⟨bR, oR, none⟩ = some (.int .i64 cn) ∧ w'.cell? ⟨bR, oR + 1, none⟩ = some (.int .i64 st))
                      (first | exact ⟨x0, x1, x2, x3, ck, q0, q1⟩ | exact ⟨(hx.out.keep BB).c0, (hx.out.keep BB).c1, (hx.out.keep BB).c2, (hx.out.keep BB).c3, z0, z1, z2⟩ | go_keep)
                      ((go_at_call 29; (with_reducible refine (IIr _).mono ?_); rintro e w8 ⟨rfl, c8⟩; have BB := below_then (below_draws wr.heap.size wr 1) (Nat.le_refl _) c8; have BY := below_then HX.out HX.out.size BB; have z0 := (BY.cell (p := ⟨bL, oL + r, none⟩) hlw).trans CK.out; have z1 := (BY.cell (p := ⟨bR, oR, none⟩) hlR).trans Q0.out; have z2 := (BY.cell (p := ⟨bR, oR + 1, none⟩) hlR).trans Q1.out))
                    go_wp2_with fail
                    go_meet
                    exact ⟨rfl, Lib.hid BB⟩
              case rest =>
                obtain ⟨rfl, HC9⟩ := hcut
                have HY := Lib.hid (below_then HX.out HX.out.size HC9.out)
                have HZ := Lib.hid (below_then HBE.out hbw HY.out)
                clear ck q0 q1 x0 x1 x2 x3 hx HX HY HC9 CK Q0 Q1 X
                go_wp2
                go_roundw
                case rel => exact ⟨r + 1, by omega, by go_num, HZ⟩
                case measure => simp [intOf]; omega
        · obtain rfl : r = N := by omega
          go_wp2
          go_ret
          exact ⟨rfl, below_then HB5.out HB5.out.size HBE.out⟩
end Go.Proofs.Ytfncikbmdaameaa
