/- The statement on coins: the walk. -/
import Derived.Test.YtfncikbmdaameaaDrC
import Derived.Test.YtfncikbmdaameaaCnt
import Derived.Test.YtfncikbmdaameaaTwoW
import Derived.Deep.DeepCutAuto
namespace Go.Proofs.Ytfncikbmdaameaa
open Go.RowKit
set_option linter.unusedVariables false
set_option linter.unusedSimpArgs false

theorem ways_bd (l : List Int) (n : Int) : -1 ≤ waysV l n ∧ waysV l n ≤ 20000000000000000 := by
  by_cases h : coinsB l = true ∧ 0 ≤ n ∧ n ≤ 500
  · rw [ways_wy h.1 h.2.1 h.2.2]
    have := wy_bd (cnR l) n.toNat (by omega)
    have hl : (cnR l).length ≤ 6 := by have := (coins_mem h.1).1; simp [cnR]; omega
    have : 501 ^ (cnR l).length ≤ 501 ^ 6 := Nat.pow_le_pow_right (by omega) hl
    have e : (501 : Nat) ^ 6 ≤ 20000000000000000 := by decide
    have this := Nat.le_trans this e
    generalize 501 ^ (cnR l).length = z at *
    omega
  · rw [ways_no h]; omega
theorem two_some (a b n : Int) : ∃ x, (twoB a b n = true → x ≤ 30 ∧ First a b n x) := by
  by_cases h : twoB a b n = true
  · have h' := h
    simp only [twoB, Bool.and_eq_true, inB_iff, decide_eq_true_eq] at h
    obtain ⟨⟨⟨h1, h2⟩, h3⟩, h4⟩ := h
    obtain ⟨x, hx⟩ := first_exists a b n h1.1 h1.2 h2.1 h2.2 h3 h4.1
    exact ⟨x, fun _ => hx⟩
  · exact ⟨0, fun g => absurd g h⟩
theorem two_in {a b n : Int} {x : Nat} (h : 0 ≤ twoV a b n x) : twoB a b n = true := by
  refine Classical.byContradiction fun g => ?_
  unfold twoV at h
  rw [if_neg g] at h
  omega
theorem gapV_bd (l : List Int) : -1 ≤ gapV l ∧ gapV l ≤ 870 := by
  unfold gapV
  split
  · have := gapD_bd l 870; omega
  · omega
theorem fewV_bd (l : List Int) (n : Int) : -1 ≤ fewV l n := by
  unfold fewV
  split
  · rename_i g
    simp only [Bool.and_eq_true] at g
    exact (fwT_bd (fun c hc => (coins_one g.1 c hc).1) _ _ (Nat.le_refl _)).1
  · omega
theorem ISr.take {w : World} {hi : Nat} {a : Option Addr} {n cap : Nat} {l : List Int} (h : ISr w hi (.slice a n cap) l) {k : Nat} (hk : k ≤ n) : ISr w hi (.slice a k cap) (l.take k) := by
  obtain ⟨a', cap', e, h1, h2, h3⟩ := h
  injection e with e1 e2 e3
  subst e1 e2 e3
  have hl : (l.take k).length = k := by rw [List.length_take]; omega
  refine ⟨_, _, by rw [hl], by rw [hl]; omega, h2, fun hne => ?_⟩
  have hl0 : l ≠ [] := by intro e; rw [e] at hne; simp at hne
  obtain ⟨b, off, ha, hb, hc⟩ := h3 hl0
  refine ⟨b, off, ha, hb, fun i hi => ?_⟩
  rw [hl] at hi
  rw [List.getD_eq_getElem?_getD, List.getElem?_take_of_lt hi, ← List.getD_eq_getElem?_getD]
  exact hc i (by omega)
set_option maxRecDepth 100000 in
set_option maxHeartbeats 16000000 in
theorem lawFnCoins (v : Value) (l : List Int) (w : World) (h : ISb w w.heap.size v l) :
    Calls Try.prog 7 #[v] w fun e w' => e = .returned (.bool true) ∧ Below w.heap.size w w' := by
  have HBG := big_any v l w.heap.size w h
  have D1 := DrawCountWays_any v l w.heap.size w h (Nat.le_refl _)
  have HI := Lib.hid h
  clear h
  cases hbig : decide (1048576 < l.length)
  case true =>
    rw [hbig] at HBG
    go_enter Try.func7, Try.ntmps7
    go_wp2_with (go_at_call 22; (with_reducible refine HBG.mono ?_); rintro e w' ⟨rfl, rfl⟩)
    go_ret
    exact ⟨rfl, Below.refl _ _⟩
  rw [hbig] at HBG
  clear hbig
  go_enter Try.func7, Try.ntmps7
  go_wp2_with (go_at_call 22; (with_reducible refine HBG.mono ?_); rintro e w' ⟨rfl, rfl⟩)
  refine D1.mono ?_
  rintro e w1 ⟨⟨u1, l1, n, rfl, k1, hl1⟩, c1⟩
  clear D1 HBG
  have HB1 := Lib.hid c1
  have F1 := Lib.hid k1.read
  clear c1 k1
  obtain ⟨a1, q1, e1, -⟩ := id F1.out
  subst e1
  have S1 := implCountWays_any l1 _ n _ w1 F1.out (Nat.le_refl _)
  go_wp2_with fail
  refine S1.mono ?_
  rintro e w2 ⟨rfl, c2⟩
  clear S1
  have HB2 := Lib.hid (below_then HB1.out HB1.out.size c2)
  have F2 := Lib.hid (F1.out.keep c2 (Nat.le_refl _))
  have Z1 := Lib.hid c2.size
  have S2 := implFewestCoins_any l1 _ n _ w2 F2.out c2.size
  clear c2 HB1 F1
  go_wp2_with fail
  refine S2.mono ?_
  rintro e w3 ⟨rfl, c3⟩
  clear S2
  have HB3 := Lib.hid (below_then HB2.out HB2.out.size c3)
  have F3 := Lib.hid (F2.out.keep c3 Z1.out)
  have Z3 := Lib.hid (Nat.le_trans Z1.out c3.size)
  have D2 := DrawGreatestGap_any v l w.heap.size w3 (HI.out.keep HB3.out (Nat.le_refl _)) HB3.out.size
  clear c3 HB2 F2 Z1
  go_wp2_with fail
  refine D2.mono ?_
  rintro e w4 ⟨⟨u2, l2, rfl, k2, hl2⟩, c4⟩
  clear D2
  have HB4 := Lib.hid (below_then HB3.out HB3.out.size c4)
  have F4 := Lib.hid (F3.out.keep c4 Z3.out)
  have Z4 := Lib.hid (Nat.le_trans Z3.out c4.size)
  have G4 := Lib.hid k2.read
  clear c4 HB3 F3 Z3 k2
  obtain ⟨a2, q2, e2, -⟩ := id G4.out
  subst e2
  have S3 := implGreatestGap_any l2 _ _ w4 G4.out (Nat.le_refl _)
  go_wp2_with fail
  refine S3.mono ?_
  rintro e w5 ⟨rfl, c5⟩
  clear S3
  have HB5 := Lib.hid (below_then HB4.out HB4.out.size c5)
  have F5 := Lib.hid (F4.out.keep c5 Z4.out)
  have G5 := Lib.hid (G4.out.keep c5 (Nat.le_refl _))
  have Z5 := Lib.hid (Nat.le_trans Z4.out c5.size)
  have Y5 := Lib.hid c5.size
  have D3 := DrawTwoCoins_any v l w.heap.size w5 (HI.out.keep HB5.out (Nat.le_refl _)) HB5.out.size
  clear c5 HB4 F4 G4 Z4 HI
  go_wp2_with fail
  refine D3.mono ?_
  rintro e w6 ⟨⟨a, b, m, rfl⟩, c6⟩
  clear D3
  obtain ⟨x, hx⟩ := two_some a b m
  have HX := Lib.hid hx
  have HB6 := Lib.hid (below_then HB5.out HB5.out.size c6)
  have F6 := Lib.hid (F5.out.keep c6 Z5.out)
  have G6 := Lib.hid (G5.out.keep c6 Y5.out)
  have Z6 := Lib.hid (Nat.le_trans Z5.out c6.size)
  have Y6 := Lib.hid (Nat.le_trans Y5.out c6.size)
  clear c6 HB5 F5 G5 Z5 Y5 hx
  generalize w1.heap.size = p1 at *
  generalize w4.heap.size = p2 at *
  -- what is known of the numbers
  have HW := Lib.hid (fun (W : World) (B : Below w6.heap.size w6 W) n' => implCountWays_any l1 _ n' p1 W (F6.out.keep B Z6.out) (Nat.le_trans Z6.out B.size))
  have HW2 := Lib.hid (fun (W : World) (B : Below w6.heap.size w6 W) n' => implCountWays_any l2 _ n' p2 W (G6.out.keep B Y6.out) (Nat.le_trans Y6.out B.size))
  have R1 := Lib.hid (fun h => coins_few (l := l1) (n := n) h)
  have R2 := Lib.hid (fun h h2 => ways_last (l := l1) (n := n) h h2)
  have R3 := Lib.hid (fun (h : 0 ≤ twoV a b m x) (hab : a < b) => let g := two_in h; two_ways g (HX.out g).2 hab)
  have R4 := Lib.hid (fun (h1 : 0 ≤ gapV l2) (h2 : gapV l2 < 480) k (hk : 1 ≤ k) (hk' : k < 20) => gap_above h1 h2 hk hk')
  have R5 := Lib.hid (fun (h1 : 0 ≤ gapV l2) (h2 : gapV l2 < 480) => gap_at h1 h2)
  have wb := ways_bd l1 n
  have gb := gapV_bd l2
  have fb := fewV_bd l1 n
  have T0 := fun W (hx : twoB a b m = true → x ≤ 30 ∧ First a b m x) => implTwoCoins_any a b m x W hx
  have T1 := fun W (hx : twoB a b m = true → x ≤ 30 ∧ First a b m x) => specTwoCoins_any a b m x W hx
  go_wp2_with (go_at_call 52; (with_reducible refine (T0 _ HX.out).mono ?_); rintro e w' ⟨rfl, d1, rfl⟩)
  clear T0
  have HB7 := Lib.hid (HB6.out.trans (below_draws w.heap.size w6 d1))
  have B7 := Lib.hid (below_draws w6.heap.size w6 d1)
  generalize w6.drewN d1 = w7 at *
  have S4 := specCountWays_any l1 _ n p1 w7 (F6.out.keep B7.out Z6.out) (Nat.le_trans Z6.out B7.out.size)
  refine S4.mono ?_
  rintro e w8 ⟨rfl, c8⟩
  clear S4
  have HB8 := Lib.hid (below_then HB7.out HB7.out.size c8)
  have B8 := Lib.hid (below_then B7.out B7.out.size c8)
  clear c8 HB7 B7
  have S5 := specFewestCoins_any l1 _ n p1 w8 (F6.out.keep B8.out Z6.out) (Nat.le_trans Z6.out B8.out.size)
  go_wp2_with fail
  refine S5.mono ?_
  rintro e w9 ⟨rfl, c9⟩
  clear S5
  have HB9 := Lib.hid (below_then HB8.out HB8.out.size c9)
  have B9 := Lib.hid (below_then B8.out B8.out.size c9)
  clear c9 HB8 B8
  have S6 := specGreatestGap_any l2 _ p2 w9 (G6.out.keep B9.out Y6.out) (Nat.le_trans Y6.out B9.out.size)
  go_wp2_with fail
  refine S6.mono ?_
  rintro e w10 ⟨rfl, c10⟩
  clear S6
  have HB10 := Lib.hid (below_then HB9.out HB9.out.size c10)
  have B10 := Lib.hid (below_then B9.out B9.out.size c10)
  clear c10 HB9 B9
  have A1 := fun d => implAreCoins_any l1 _ p1 (w10.drewN d) ((F6.out.keep B10.out Z6.out).draws d)
  have A2 := fun d => specAreCoins_any l1 _ p1 (w10.drewN d) ((F6.out.keep B10.out Z6.out).draws d)
  generalize hwv : waysV l1 n = wv at *
  generalize hfv : fewV l1 n = fv at *
  generalize hgv : gapV l2 = gv at *
  generalize htv : twoV a b m x = tv at *
  generalize coinsB l1 = cb at *
  go_upto_region 12 with (first
    | (go_at_call 56; (with_reducible refine (T1 _ HX.out).mono ?_); rintro e w' ⟨rfl, d2, rfl⟩)
    | (go_at_call 57; (with_reducible refine (A1 _).mono ?_); rintro e w' ⟨rfl, d3, rfl⟩)
    | (go_at_call 58; (with_reducible refine (A2 _).mono ?_); rintro e w' ⟨rfl, d4, rfl⟩))
  clear A1 A2 T1 HB6
  have HB11 := Lib.hid (HB10.out.trans (below_draws w.heap.size w10 (d2 + d3 + d4)))
  have B11 := Lib.hid (B10.out.trans (below_draws w6.heap.size w10 (d2 + d3 + d4)))
  generalize w10.drewN (d2 + d3 + d4) = wr at *
  clear HB10 B10
  go_cut [84] (fun s wx => s = .bool false ∧ wr = wx)
  case first =>
    as_aux_lemma =>
      by_cases h0 : 0 ≤ wv
      · by_cases h1 : 0 < wv
        · have h2 := (R1.out h0).1 h1
          go_wp2_with fail
          go_meet
          exact ⟨rfl, rfl⟩
        · have h2 : ¬ 0 ≤ fv := fun g => h1 ((R1.out h0).2 g)
          go_wp2_with fail
          go_meet
          exact ⟨rfl, rfl⟩
      · go_wp2_with fail
        go_meet
        exact ⟨rfl, rfl⟩
  case rest =>
    obtain ⟨rfl, rfl⟩ := hcut
    clear R1 fb hfv
    obtain ⟨n1, hn1⟩ : ∃ n1, l1.length = n1 := ⟨_, rfl⟩
    have HN := Lib.hid hn1
    have F7 := F6
    rw [hn1] at R2 F7 HW
    go_upto_region 14 with fail
    rw [hn1]
    clear hn1
    go_cut [91] (fun s wx => s = .bool (decide (0 ≤ wv ∧ 1 < n1)) ∧ wr = wx)
    case first =>
      as_aux_lemma =>
        go_wp2_with fail
        all_goals (go_meet; exact ⟨congrArg Value.bool (by first | (rw [decide_eq_decide]; omega) | exact (decide_eq_true (by omega)).symm | exact (decide_eq_false (by omega)).symm), rfl⟩)
    case rest =>
      obtain ⟨rfl, rfl⟩ := hcut
      go_upto_if 91 with fail
      go_cut [13, 14] (fun _ _ wx => Hid (Below wr.heap.size wr wx))
      case first =>
        as_aux_lemma =>
          by_cases hA : 0 ≤ wv ∧ 1 < n1
          · rw [decide_eq_true hA]
            have R2' := R2.out hA.1 hA.2
            obtain ⟨cc, nn0, nn1⟩ := ways_yes (l := l1) (n := n) (by rw [hwv]; exact hA.1)
            have hlast := (coins_mem cc).2.2 (n1 - 1) (by rw [HN.out]; omega)
            obtain ⟨b1, o1, ea, -, hcc⟩ : ∃ b off, a1 = some ⟨b, off, none⟩ ∧ b < p1 ∧ ∀ i, i < l1.length → wr.cell? ⟨b, off + i, none⟩ = some (.int .i64 (l1.getD i 0)) := by
              obtain ⟨a', cap', e, -, -, h3⟩ := (F6.out.keep B11.out Z6.out)
              injection e with e1 e2 e3
              rw [e1]
              exact h3 (by intro e; have := HN.out; rw [e] at this; simp at this; omega)
            have hcl := hcc (n1 - 1) (by rw [HN.out]; omega)
            obtain ⟨k1, hk1⟩ : ∃ k1 : Nat, (n1 : Int) - 1 = k1 := ⟨n1 - 1, by omega⟩
            have hk1' : n1 - 1 = k1 := by omega
            rw [hk1'] at R2' hlast hcl
            have hx1 : k1 < n1 := by omega
            have hx2 : (k1 : Int) < (n1 : Int) := by omega
            have hx3 : (0 : Int) ≤ (k1 : Int) := by omega
            have hx4 : ((k1 : Int)).toNat = k1 := by omega
            have hx5 : k1 ≤ n1 := by omega
            have hx6 : (n1 : Int) ≤ 1000 := by have := HN.out; omega
            have hcp : n1 ≤ q1 := by
              obtain ⟨a', cap', e, h1, -, -⟩ := F6.out
              injection e with e1 e2 e3
              rw [e3, ← HN.out]; exact h1
            have hx7 : k1 ≤ q1 := by omega
            have hx8 : ¬ q1 = 0 := by omega
            clear hcp
            subst ea
            have TK := implCountWays_any (l1.take k1) _ n p1 wr ((F7.out.keep B11.out Z6.out).take (k := k1) (by omega)) (Nat.le_trans Z6.out B11.out.size)
            have b1' := ways_bd (l1.take k1) n
            have b2' := ways_bd l1 (n - l1.getD k1 0)
            have HWL := Lib.hid (fun W B => HW.out W B (n - l1.getD k1 0))
            clear hcc hk1' cc R2 HW hwv R3 R4 R5 hgv htv HX HW2 G6 F7
            generalize waysV (l1.take k1) n = y1 at *
            generalize waysV l1 (n - l1.getD k1 0) = y2 at *
            generalize l1.getD k1 0 = la at *
            have HK1 := Lib.hid (show n1 = k1 + 1 by omega)
            by_cases hle : la ≤ n
            · rw [if_pos hle] at R2'
              have RR := Lib.hid R2'
              have hne : (y1 + y2 != wv) = false := by rw [R2']; simp
              clear R2'
              go_wp2_with fail
              refine TK.mono ?_
              rintro e w12 ⟨rfl, c12⟩
              have B12 := Lib.hid (below_then B11.out B11.out.size c12)
              have D12 := Lib.hid c12
              clear TK
              have TL := HWL.out w12 B12.out
              go_wp2_with fail
              refine TL.mono ?_
              rintro e w13 ⟨rfl, c13⟩
              have D13 := Lib.hid (below_then D12.out c12.size c13)
              clear TL c12 c13
              go_wp2_with fail
              go_meet
              exact D13
            · rw [if_neg hle] at R2'
              subst R2'
              have hne : (y1 != y1) = false := by simp
              go_wp2_with fail
              refine TK.mono ?_
              rintro e w12 ⟨rfl, c12⟩
              go_wp2_with fail
              go_meet
              exact Lib.hid c12
          · rw [decide_eq_false hA]
            go_wp2_with fail
            go_meet
            exact Lib.hid (Below.refl _ _)
      case rest =>
        have HB12 := Lib.hid (below_then HB11.out HB11.out.size hcut.out)
        have B12 := Lib.hid (below_then B11.out B11.out.size hcut.out)
        clear hcut HB11 B11 R2 HW hwv F7 HN
        generalize wc = wq at *
        go_upto_region 21 with fail
        go_cut [133] (fun s wx => s = .bool false ∧ Hid (Below wq.heap.size wq wx))
        case first =>
          as_aux_lemma =>
            by_cases h0 : 0 ≤ tv
            · by_cases hab : a < b
              · have h3 := R3.out h0 hab
                have TL := implCountWays_any [a, b] _ m _ _ (IS.lit2 wq wq.heap.size (Nat.le_refl _) a b).read (by simp)
                rw [h3] at TL
                have hne : (tv != tv) = false := by simp
                have D1 := Lib.hid (below1 wq (.cells #[.int .i64 a, .int .i64 b] 3))
                clear h3 R3 htv HX
                go_wp2_with fail
                refine TL.mono ?_
                rintro e w13 ⟨rfl, c13⟩
                have D13 := Lib.hid (below_then D1.out (by simp) c13)
                clear c13 TL
                go_wp2_with fail
                go_meet
                exact ⟨rfl, D13⟩
              · go_wp2_with fail
                go_meet
                exact ⟨rfl, Lib.hid (Below.refl _ _)⟩
            · go_wp2_with fail
              go_meet
              exact ⟨rfl, Lib.hid (Below.refl _ _)⟩
        case rest =>
          obtain ⟨rfl, HC⟩ := hcut
          have HB13 := Lib.hid (below_then HB12.out HB12.out.size HC.out)
          have B13 := Lib.hid (below_then B12.out B12.out.size HC.out)
          clear HC HB12 B12 R3 htv HX
          generalize wc = wp at *
          go_upto_region 23 with fail
          go_cut [139] (fun s wx => s = .bool (decide (gv < 0 ∨ 480 ≤ gv)) ∧ wp = wx)
          case first =>
            as_aux_lemma =>
              go_wp2_with fail
              all_goals (go_meet; exact ⟨congrArg Value.bool (by first | (rw [← Bool.decide_or]; done) | (rw [← Bool.decide_or]) | (simp; done) | (rw [decide_eq_decide]; omega) | exact (decide_eq_true (by omega)).symm | exact (decide_eq_false (by omega)).symm), rfl⟩)
          case rest =>
            obtain ⟨rfl, rfl⟩ := hcut
            by_cases hg : gv < 0 ∨ 480 ≤ gv
            · rw [decide_eq_true hg]
              go_wp2_with fail
              go_ret
              exact ⟨rfl, HB13.out⟩
            · rw [decide_eq_false hg]
              have g0 : 0 ≤ gv := by omega
              have g1 : gv < 480 := by omega
              have HS := Lib.hid (R4.out g0 g1)
              have HZ := Lib.hid (R5.out g0 g1)
              clear R4 R5 hgv hg gb
              go_wp2_with fail
              go_loopw [15] (fun i wr => ∃ k : Nat, 1 ≤ k ∧ k ≤ 20 ∧ i = .int .i64 k ∧ Hid (Below w.heap.size w wr) ∧ Hid (Below w6.heap.size w6 wr)) (fun i _ => 20 - (intOf i).toNat)
              case atStart => exact ⟨1, by omega, by omega, rfl, HB13, B13⟩
              case round =>
                obtain ⟨k, hk1, hk2, rfl, HB, B⟩ := hrel
                by_cases hlt : k < 20
                · have TL := HW2.out wr B.out (gv + k)
                  have h1 := HS.out k (by omega) (by omega)
                  have h2 := ways_bd l2 (gv + k)
                  generalize waysV l2 (gv + k) = z at *
                  go_wp2_with fail
                  refine TL.mono ?_
                  rintro e w13 ⟨rfl, c13⟩
                  have HB' := Lib.hid (below_then HB.out HB.out.size c13)
                  have B' := Lib.hid (below_then B.out B.out.size c13)
                  clear c13 TL
                  go_wp2
                  go_roundw
                  case rel => exact ⟨k + 1, by omega, by omega, by go_num, HB', B'⟩
                  case measure => simp [intOf]; omega
                · obtain rfl : k = 20 := by omega
                  have TL := HW2.out wr B.out gv
                  rw [HZ.out] at TL
                  go_wp2_with fail
                  refine TL.mono ?_
                  rintro e w13 ⟨rfl, c13⟩
                  have HB' := Lib.hid (below_then HB.out HB.out.size c13)
                  clear c13 TL
                  go_wp2
                  go_ret
                  exact ⟨rfl, HB'.out⟩
end Go.Proofs.Ytfncikbmdaameaa
