/- The model's tests of lists of points: l7Flat, l2Before, l7Turn, l7SameList. -/
import Derived.Test.YtehhoplenloocaaPly2
import Derived.Test.YtehhoplenloocaaB2
namespace Go.Proofs.Ytehhoplenloocaa
open Go.RowKit
set_option linter.unusedVariables false
set_option linter.unusedSimpArgs false

theorem zip_minus {a b : List Int} (la : a.length = 2) (lb : b.length = 2) : List.zipWith (· - ·) a b = minusI a b := by
  match a, b with
  | [_, _], [_, _] => rfl
theorem tn_rows2 (a b c : List Int) : crossI (minusI b a) (minusI c b) = tn (ptOf a) (ptOf b) (ptOf c) := by
  unfold crossI minusI tn crossP subP ptOf; simp; grind

set_option maxRecDepth 100000 in
set_option maxHeartbeats 4000000 in
theorem l7Flat_any (ls : List (List Int)) (v : Value) (hb : Nat) (w : World) (h : ISSr w hb v ls) :
    Calls Try.prog 129 #[v] w fun e w' => e = .returned (.bool (flatB ls 50)) ∧ ∃ d, w' = w.drewN d := by
  rcases h.cases with ⟨rfl, a, cap, rfl⟩ | ⟨hpos, hlen, b, off, cap, V, rfl, hbb, hcell⟩
  · go_enter Try.func129, Try.ntmps129
    go_wp2
    refine wp_loop_rounds 1 ?_
    rw [rounds_succ]
    go_wp2
    go_ret
    exact ⟨rfl, 0, rfl⟩
  · obtain ⟨n, hn⟩ : ∃ n, n = ls.length := ⟨_, rfl⟩
    rw [← hn] at hlen hpos ⊢
    have HN := Lib.hid hn; clear hn
    have HC := Lib.hid hcell; clear hcell hbb h
    go_enter Try.func129, Try.ntmps129
    go_wp2
    go_loopw [3] (fun i wr => ∃ (d k : Nat), k ≤ n ∧ i = .int .i64 k ∧ Hid (wr = w.drewN d) ∧ Hid (flatK ls 50 k = true)) (fun i _ => n - (intOf i).toNat)
    case atStart => exact ⟨0, 0, by omega, rfl, Lib.hid rfl, Lib.hid rfl⟩
    case round =>
      obtain ⟨d, k, hk, rfl, HW, HALL⟩ := hrel
      by_cases hlt : k < n
      · have hkl : k < ls.length := by rw [← HN.out]; exact hlt
        have hc : wr.cell? ⟨b, off + k, none⟩ = some (V k) := by rw [HW.out]; exact (HC.out k hkl).1
        have hrow : ISr wr hb (V k) (ls.getD k []) := by rw [HW.out]; exact (HC.out k hkl).2
        have HS := Lib.hid (flatK_step ls 50 k hkl)
        have HNO := Lib.hid (fun h => flatB_no (ls := ls) (m := 50) (k := k) hkl h)
        have Q := l2Small_any _ _ 50 hb wr hrow (by omega) (by omega)
        have HPT := Lib.hid (show ptB (ls.getD k []) 50 = (decide ((ls.getD k []).length = 2) && allIn (ls.getD k []) (-50) 50) from rfl)
        obtain ⟨a1, cp, hxk, -⟩ := id hrow
        rw [hxk] at hc Q
        clear hrow hkl
        generalize ls.getD k [] = row at *
        by_cases h2 : row.length = 2
        · rw [h2] at hc Q
          cases hs : allIn row (-50) 50
          · rw [hs] at Q
            have HR := Lib.hid (HNO.out (by rw [HPT.out, hs]; simp))
            clear hs h2
            go_wp2_with (go_at_call 148; (with_reducible refine Q.mono ?_); rintro e w' ⟨rfl, d2, rfl⟩)
            go_ret
            exact ⟨ret_bool HR.out.symm, d + d2, by rw [HW.out, World.drewN_drewN]⟩
          · rw [hs] at Q
            have HK := Lib.hid (show flatK ls 50 (k + 1) = true by rw [HS.out, HALL.out, HPT.out, hs, h2]; rfl)
            clear hs h2
            go_wp2_with (go_at_call 148; (with_reducible refine Q.mono ?_); rintro e w' ⟨rfl, d2, rfl⟩)
            go_roundw
            case rel => exact ⟨d + d2, k + 1, by omega, by go_num, Lib.hid (by rw [HW.out, World.drewN_drewN]), HK⟩
            case measure => simp [intOf]; omega
        · have hne : ((row.length : Int) != 2) = true := by rw [bne_iff_ne]; omega
          have HR := Lib.hid (HNO.out (by rw [HPT.out, decide_eq_false h2]; rfl))
          clear h2 Q
          generalize row.length = rl at *
          go_wp2
          go_ret
          exact ⟨ret_bool HR.out.symm, _, HW.out⟩
      · obtain rfl : k = n := by omega
        have HR := Lib.hid (show flatB ls 50 = true by rw [← flatK_full, ← HN.out]; exact HALL.out)
        go_wp2
        go_ret
        exact ⟨ret_bool HR.out.symm, _, HW.out⟩
set_option maxRecDepth 100000 in
set_option maxHeartbeats 4000000 in
theorem l2Before_any (a b : List Int) (va vb : Value) (ha hb : Nat) (w : World) (ia : ISr w ha va a) (ib : ISr w hb vb b) (la : a.length = 2) (lb : b.length = 2) :
    Calls Try.prog 151 #[va, vb] w fun e w' => e = .returned (.bool (decide (ltP (ptOf a) (ptOf b)))) ∧ ∃ d, w' = w.drewN d := by
  unfold ptOf ltP
  obtain ⟨b1, o1, c1, rfl, -, x0, x1⟩ := ia.two la
  obtain ⟨b2, o2, c2, rfl, -, y0, y1⟩ := ib.two lb
  dsimp only
  have HX := Lib.hid (fun d => (show (w.drewN d).cell? _ = _ from x0))
  have HX1 := Lib.hid (fun d => (show (w.drewN d).cell? _ = _ from x1))
  have HY := Lib.hid (fun d => (show (w.drewN d).cell? _ = _ from y0))
  have HY1 := Lib.hid (fun d => (show (w.drewN d).cell? _ = _ from y1))
  generalize a.getD 0 0 = p0 at *
  generalize a.getD 1 0 = p1 at *
  generalize b.getD 0 0 = q0 at *
  generalize b.getD 1 0 = q1 at *
  clear ia ib la lb
  by_cases h0 : p0 = q0
  · subst h0
    have hxx : (p0 != p0) = false := by simp
    by_cases h1 : p1 = q1
    · subst h1
      have hyy : (p1 != p1) = false := by simp
      have HR := Lib.hid (show decide (p0 < p0 ∨ p0 = p0 ∧ p1 < p1) = false by rw [decide_eq_false_iff_not]; omega)
      go_enter Try.func151, Try.ntmps151
      go_wp2
      refine wp_loop_rounds 3 ?_
      rw [rounds_succ]
      go_wp2
      go_quiet (fail)
      have x0' := HX.out nq
      have x1' := HX1.out nq
      have y0' := HY.out nq
      have y1' := HY1.out nq
      go_wp2
      rw [rounds_succ]
      go_wp2
      go_quiet (fail)
      go_wp2
      rw [rounds_succ]
      go_wp2
      go_ret
      first | exact ⟨ret_bool HR.out.symm, _, rfl⟩ | exact ⟨ret_bool HR.out.symm, _, World.drewN_drewN ..⟩ | exact ⟨ret_bool HR.out.symm, _, (World.drewN_drewN ..).trans (World.drewN_drewN ..)⟩
    · have hne : (p1 != q1) = true := by simpa using h1
      have HR := Lib.hid (show decide (p0 < p0 ∨ p0 = p0 ∧ p1 < q1) = decide (p1 < q1) by rw [decide_eq_decide]; omega)
      clear h1
      go_enter Try.func151, Try.ntmps151
      go_wp2
      refine wp_loop_rounds 3 ?_
      rw [rounds_succ]
      go_wp2
      go_quiet (fail)
      go_wp2
      rw [rounds_succ]
      go_wp2
      go_quiet (fail)
      go_wp2
      go_quiet (fail)
      go_wp2
      go_ret
      first | exact ⟨ret_bool (by rw [HR.out]), _, rfl⟩ | exact ⟨ret_bool (by rw [HR.out]), _, World.drewN_drewN ..⟩ | exact ⟨ret_bool (by rw [HR.out]), _, (World.drewN_drewN ..).trans (World.drewN_drewN ..)⟩
  · have hne : (p0 != q0) = true := by simpa using h0
    have HR := Lib.hid (show decide (p0 < q0 ∨ p0 = q0 ∧ p1 < q1) = decide (p0 < q0) by rw [decide_eq_decide]; omega)
    clear h0
    go_enter Try.func151, Try.ntmps151
    go_wp2
    refine wp_loop_rounds 3 ?_
    rw [rounds_succ]
    go_wp2
    go_quiet (fail)
    go_wp2
    go_quiet (fail)
    go_wp2
    go_ret
    first | exact ⟨ret_bool (by rw [HR.out]), _, rfl⟩ | exact ⟨ret_bool (by rw [HR.out]), _, World.drewN_drewN ..⟩ | exact ⟨ret_bool (by rw [HR.out]), _, (World.drewN_drewN ..).trans (World.drewN_drewN ..)⟩
set_option maxHeartbeats 2000000 in
theorem l7Turn_any (a b c : List Int) (va vb vc : Value) (hb : Nat) (w : World) (ia : ISr w hb va a) (ib : ISr w hb vb b) (ic : ISr w hb vc c) (hhb : hb ≤ w.heap.size) (la : a.length = 2) (lb : b.length = 2) (lc : c.length = 2)
    (ba : allIn a (-1000000) 1000000 = true) (bb : allIn b (-1000000) 1000000 = true) (bc : allIn c (-1000000) 1000000 = true) :
    Calls Try.prog 165 #[va, vb, vc] w fun e w' => e = .returned (.int .i64 (tn (ptOf a) (ptOf b) (ptOf c))) ∧ Below w.heap.size w w' := by
  rw [← tn_rows2]
  have M1 := l2Less_any b a vb va hb w ib ia hhb (by omega) (by omega) (fun k hk => by
    have a0 := allIn_at ba k (by omega)
    have b0 := allIn_at bb k (by omega)
    omega)
  have M2 := fun W (B : Below w.heap.size w W) => l2Less_any c b vc vb hb W (ic.keep B hhb) (ib.keep B hhb) (by have := B.size; omega) (by omega) (by omega) (fun k hk => by
    have a0 := allIn_at bb k (by omega)
    have b0 := allIn_at bc k (by omega)
    omega)
  rw [zip_minus lb la] at M1
  have e2 := zip_minus lc lb
  simp only [e2] at M2
  have N1 := allIn_wide (minusI_in bb ba lb la) (k := 1000000000) (by omega)
  have N2 := allIn_wide (minusI_in bc bb lc lb) (k := 1000000000) (by omega)
  have L1 := Lib.hid (show (minusI b a).length = 2 from rfl)
  have L2 := Lib.hid (show (minusI c b).length = 2 from rfl)
  clear e2
  generalize minusI b a = x at *
  generalize minusI c b = y at *
  clear ia ib ic ba bb bc la lb lc
  go_enter Try.func165, Try.ntmps165
  go_wp2_with fail
  refine M1.mono ?_
  rintro e w1 ⟨u1, rfl, k1, c1⟩
  have HB1 := Lib.hid c1
  have HK1 := Lib.hid k1
  obtain ⟨a1, e1, rfl, -⟩ := id k1
  clear c1 k1
  go_wp2_with fail
  refine (M2 _ HB1.out).mono ?_
  rintro e w2 ⟨u2, rfl, k2, c2⟩
  have CR := l7Cross_any x y _ _ w2.heap.size w2.heap.size w2 ((HK1.out.keep c2 (Nat.le_refl _)).read.upto c2.size) k2.read L1.out L2.out N1 N2
  have HB2 := Lib.hid (below_then HB1.out HB1.out.size c2)
  obtain ⟨a2, e2, rfl, -⟩ := id k2
  clear c2 k2
  go_wp2_with fail
  refine CR.mono ?_
  rintro e w3 ⟨rfl, d, rfl⟩
  go_wp2
  go_ret
  exact ⟨rfl, HB2.out.trans (below_draws _ _ _)⟩
set_option maxHeartbeats 1000000 in
theorem l7SameList_any (l1 l2 : List (List Int)) (v1 v2 : Value) (h1 h2 : Nat) (w : World) (i1 : ISSr w h1 v1 l1) (i2 : ISSr w h2 v2 l2) :
    Calls Try.prog 131 #[v1, v2] w fun e w' => e = .returned (.bool (decide (l1 = l2))) ∧ ∃ d, w' = w.drewN d := by
  by_cases hle : l1.length = l2.length
  · rcases i1.cases with ⟨rfl, a1, cap1, rfl⟩ | ⟨hpos, hlen, b1, off1, cap1, V1, rfl, hbb1, hcell1⟩
    · have : l2 = [] := List.length_eq_zero_iff.1 hle.symm
      subst this
      obtain ⟨a2, cap2, rfl, -, -, -⟩ := i2
      go_enter Try.func131, Try.ntmps131
      go_wp2
      refine wp_loop_rounds 1 ?_
      rw [rounds_succ]
      go_wp2
      go_ret
      exact ⟨rfl, 0, rfl⟩
    · rcases i2.cases with ⟨rfl, a2, cap2, rfl⟩ | ⟨hpos2, hlen2, b2, off2, cap2, V2, rfl, hbb2, hcell2⟩
      · simp at hle; subst hle; simp at hpos
      · rw [← hle]
        obtain ⟨n, hn⟩ : ∃ n, n = l1.length := ⟨_, rfl⟩
        have HN2 := Lib.hid (hn.trans hle)
        rw [← hn] at hlen hpos ⊢
        have HN := Lib.hid hn; clear hn hle hpos2 hlen2
        have HC1 := Lib.hid hcell1; clear hcell1
        have HC2 := Lib.hid hcell2; clear hcell2
        clear hbb1 hbb2 i1 i2
        go_enter Try.func131, Try.ntmps131
        go_wp2
        go_loopw [5] (fun i wr => ∃ (d k : Nat), wr = w.drewN d ∧ k ≤ n ∧ i = .int .i64 k ∧ l1.take k = l2.take k) (fun i _ => n - (intOf i).toNat)
        case atStart => exact ⟨0, 0, rfl, by omega, rfl, rfl⟩
        case round =>
          obtain ⟨d, k, hw, hk, rfl, heq⟩ := hrel
          have HW := Lib.hid hw; clear hw
          have HE := Lib.hid heq; clear heq
          by_cases hlt : k < n
          · have hk1 : k < l1.length := by rw [← HN.out]; exact hlt
            have hk2 : k < l2.length := by rw [← HN2.out]; exact hlt
            have hc1 : wr.cell? ⟨b1, off1 + k, none⟩ = some (V1 k) := by rw [HW.out]; exact (HC1.out k hk1).1
            have hc2 : wr.cell? ⟨b2, off2 + k, none⟩ = some (V2 k) := by rw [HW.out]; exact (HC2.out k hk2).1
            have HQ := fun n' => l2Same_any (l1.getD k []) (l2.getD k []) (V1 k) (V2 k) h1 h2 (wr.drewN n') (by rw [HW.out]; exact (HC1.out k hk1).2) (by rw [HW.out]; exact (HC2.out k hk2).2)
            generalize V1 k = x1 at *
            generalize V2 k = x2 at *
            by_cases he : l1.getD k [] = l2.getD k []
            · have HS := Lib.hid (take_eq_stepL hk1 hk2 HE.out he)
              clear hk1 hk2
              rw [decide_eq_true he] at HQ
              clear he
              have HQ' := Lib.hid HQ; clear HQ
              go_wp2
              go_quiet ((go_at_call 104; exact Calls.quiet_of (HQ'.out _)))
              go_wp2
              go_roundw
              case rel => exact ⟨d + nq, k + 1, by rw [HW.out, World.drewN_drewN], by omega, by go_num, HS.out⟩
              case measure => simp [intOf]; omega
            · have hfin := ne_of_getDL he
              have HF := Lib.hid hfin; clear hfin hk1 hk2
              rw [decide_eq_false he] at HQ
              clear he
              have HQ' := Lib.hid HQ; clear HQ
              go_wp2
              go_quiet ((go_at_call 104; exact Calls.quiet_of (HQ'.out _)))
              go_wp2
              go_ret
              exact ⟨ret_bool HF.out.symm, d + nq, by rw [HW.out, World.drewN_drewN]⟩
          · obtain rfl : k = n := by omega
            go_wp2
            go_ret
            refine ⟨ret_bool ?_, _, HW.out⟩
            have e1 := HE.out
            rw [HN.out, List.take_length, ← HN.out, HN2.out, List.take_length] at e1
            simp [e1]
  · have hf : decide (l1 = l2) = false := by rw [decide_eq_false_iff_not]; intro h; exact hle (by rw [h])
    rw [hf]
    obtain ⟨a1, cap1, rfl, -, -, -⟩ := i1
    obtain ⟨a2, cap2, rfl, -, -, -⟩ := i2
    have hb : ((l1.length : Int) != (l2.length : Int)) = true := by rw [bne_iff_ne]; omega
    generalize l1.length = n1 at *
    generalize l2.length = n2 at *
    clear hf
    go_enter Try.func131, Try.ntmps131
    go_wp2
    go_ret
    exact ⟨rfl, 0, rfl⟩
end Go.Proofs.Ytehhoplenloocaa
