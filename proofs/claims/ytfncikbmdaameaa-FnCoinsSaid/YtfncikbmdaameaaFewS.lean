/- The least numbers of coins: the reference's walk. -/
import Derived.Test.YtfncikbmdaameaaFewW
namespace Go.Proofs.Ytfncikbmdaameaa
open Go.RowKit
set_option linter.unusedVariables false
set_option linter.unusedSimpArgs false

theorem own_step {w w1 : World} {B : Nat} {v v' : Value} {l : List Int} {x : Int} {n : Nat} (hbe : Below B w w1) (hB : B ≤ w1.heap.size) (o : Obj) {w2 : World} (hg : (w1.alloc o).grownBy w2 v.ownBlock) (hown : w1.ownsRow B 3 1 v n (l.map (Value.int .i64))) : Below B w w2 :=
  (hbe.alloc hB o).grown hg (by simp; omega) fun k hk => (hown.lt k hk).1

set_option maxRecDepth 100000 in
set_option maxHeartbeats 3000000 in
theorem l15Fewest_any (l : List Int) (v : Value) (N : Nat) (hb : Nat) (w : World) (h : ISr w hb v l) (hhb : hb ≤ w.heap.size) (hN : N ≤ 2000) (c2 : l ≠ []) (c1 : l.length ≤ 6) (c3 : ∀ k, k < l.length → 1 ≤ l.getD k 0 ∧ l.getD k 0 ≤ 30) :
    Calls Try.prog 137 #[v, .int .i64 N] w fun e w' => ∃ v', e = .returned v' ∧ w'.ownsRow w.heap.size 3 1 v' (N + 1) ((fwT l N).map (Value.int .i64)) ∧ Below w.heap.size w w' := by
  have hmem := mem_of_getD c3
  obtain ⟨i0, hi0, hz0, hz1, hz2⟩ := info_parts info_int
  rcases h.cases with ⟨rfl, a, cap, rfl⟩ | ⟨hpos, hlen, b, off, cap, rfl, hbb, hcell⟩
  · exact absurd rfl c2
  · clear h
    have HC := Lib.hid hcell; clear hcell
    have HM := Lib.hid c3; clear c3 c2
    have HMEM := Lib.hid hmem; clear hmem
    obtain ⟨m, hm⟩ : ∃ m, m = l.length := ⟨_, rfl⟩
    rw [← hm] at hpos hlen c1 ⊢
    have HL := Lib.hid hm; clear hm
    have hst : (w.alloc (.cells #[.int .i64 0] 3)).ownsRow w.heap.size 3 1 (.slice (some ⟨w.heap.size, 0, none⟩) 1 1) 1 [.int .i64 0] :=
      World.ownsRow_lit w #[.int .i64 0] 1 (Nat.le_refl _) (by simp [maxLen]) rfl
    have HST := Lib.hid hst; clear hst
    have HI0 := Lib.hid hi0; clear hi0
    have HZ0 := Lib.hid hz0; clear hz0
    have HZ1 := Lib.hid hz1; clear hz1
    have HZ2 := Lib.hid hz2; clear hz2
    go_enter Try.func137, Try.ntmps137
    go_wp2
    go_loopw [5, 6, 7, 8] (fun ov sn _ _ wr => ∃ n : Nat, n ≤ N ∧ sn = .int .i64 ((n : Int) + 1) ∧ Hid (wr.ownsRow w.heap.size 3 1 ov (n + 1) ((fwT l n).map (Value.int .i64))) ∧ Hid (Below w.heap.size w wr)) (fun _ sn _ _ _ => N + 1 - (intOf sn).toNat)
    case atStart => exact ⟨0, by omega, rfl, HST, below1 _ _⟩
    case round =>
      obtain ⟨n, hn, rfl, hown, hbe⟩ := hrel
      by_cases hlt : n < N
      · have his : IS wr w.heap.size wr.heap.size u5 (fwT l n) := IS.of_owned (by rw [fwT_len]; exact hown.out)
        rcases his.cases with ⟨e0, -⟩ | ⟨-, -, g, go, gcap, rfl, -, -, -, -, hbk⟩
        · have := fwT_len l n; rw [e0] at this; simp at this
        · rw [fwT_len] at hown ⊢
          have HBK := Lib.hid hbk; clear hbk his
          have h14 : decide ((n : Int) + 1 ≤ (N : Int)) = true := by rw [decide_eq_true_eq]; omega
          go_wp2
          clear h14
          go_loop [7, 8] (fun bs i => ∃ (j : Nat) (bst : Int), j ≤ m ∧ i = .int .i64 j ∧ bs = .int .i64 bst ∧ Hid (bst = (l.take j).foldl (bstep (fwT l n) (n + 1)) (-1))) (fun _ i => m - (intOf i).toNat)
          case atStart => exact ⟨0, -1, by omega, rfl, rfl, rfl⟩
          case round =>
            obtain ⟨j, bst, hj, rfl, rfl, hbst⟩ := hrel
            have hbb2 : -1 ≤ bst ∧ bst ≤ (n : Int) + 1 := by
              rw [hbst.out]
              have := fold_bd (t := fwT l n) (n := n + 1) (fun i hi => fwT_bd (fun c hc => (HMEM.out c hc).1) n i (by omega)) (l.take j) (-1) (fun c hc => (HMEM.out c (List.mem_of_mem_take hc)).1) ⟨by omega, by omega⟩
              omega
            by_cases hjm : j < m
            · have hjl : j < l.length := by rw [← HL.out]; exact hjm
              have hcb := HM.out j hjl
              have hft := fold_take (bstep (fwT l n) (n + 1)) (-1) l j hjl
              rw [← hbst.out] at hft
              have hcj := (hbe.out.cell (p := ⟨b, off + j, none⟩) (Nat.lt_of_lt_of_le hbb hhb)).trans (HC.out j hjl)
              obtain ⟨C, hC⟩ : ∃ C : Nat, l.getD j 0 = C := ⟨(l.getD j 0).toNat, by omega⟩
              rw [hC] at hcj hft hcb
              have HFT := Lib.hid hft; clear hft
              clear hC hjl
              by_cases g1 : C ≤ n + 1
              · have x2 := HBK.out.cell (i := n + 1 - C) (by rw [fwT_len]; omega)
                have hix : (((n + 1 : Nat) : Int) - (C : Int)).toNat = n + 1 - C := by omega
                have htb := fwT_bd (fun c hc => (HMEM.out c hc).1) n (n + 1 - C) (by omega) (l := l)
                have d0 : decide ((C : Int) ≤ (n : Int) + 1) = true := by rw [decide_eq_true_eq]; omega
                by_cases g2 : 0 ≤ (fwT l n).getD (n + 1 - C) 0
                · by_cases g3 : bst < 0
                  · have HB := Lib.hid (HFT.out.trans (bstep_yes (by omega) (by rw [hix]; exact g2) (.inl g3)))
                    rw [hix] at HB
                    clear hix HFT hbst
                    generalize (fwT l n).getD (n + 1 - C) 0 = t at *
                    have d1 : decide (0 ≤ t) = true := by simpa using g2
                    have d2 : decide (bst < 0) = true := by simpa using g3
                    go_wp2
                    go_round
                    case rel => exact ⟨j + 1, t + 1, by omega, by go_num, rfl, HB.out.symm⟩
                    case measure => simp [intOf]; omega
                  · have d2 : decide (bst < 0) = false := by simpa using g3
                    by_cases g4 : (fwT l n).getD (n + 1 - C) 0 + 1 < bst
                    · have HB := Lib.hid (HFT.out.trans (bstep_yes (by omega) (by rw [hix]; exact g2) (.inr (by rw [hix]; exact g4))))
                      rw [hix] at HB
                      clear hix HFT hbst
                      generalize (fwT l n).getD (n + 1 - C) 0 = t at *
                      have d1 : decide (0 ≤ t) = true := by simpa using g2
                      have d3 : decide (t + 1 < bst) = true := by simpa using g4
                      go_wp2
                      go_round
                      case rel => exact ⟨j + 1, t + 1, by omega, by go_num, rfl, HB.out.symm⟩
                      case measure => simp [intOf]; omega
                    · have HB := Lib.hid (HFT.out.trans (bstep_no3 (by rw [hix]; omega)))
                      clear hix HFT hbst
                      generalize (fwT l n).getD (n + 1 - C) 0 = t at *
                      have d1 : decide (0 ≤ t) = true := by simpa using g2
                      have d3 : decide (t + 1 < bst) = false := by simpa using g4
                      go_wp2
                      go_round
                      case rel => exact ⟨j + 1, bst, by omega, by go_num, rfl, HB.out.symm⟩
                      case measure => simp [intOf]; omega
                · have HB := Lib.hid (HFT.out.trans (bstep_no2 (by rw [hix]; exact g2)))
                  clear hix HFT hbst
                  generalize (fwT l n).getD (n + 1 - C) 0 = t at *
                  have d1 : decide (0 ≤ t) = false := by simpa using g2
                  go_wp2
                  go_round
                  case rel => exact ⟨j + 1, bst, by omega, by go_num, rfl, HB.out.symm⟩
                  case measure => simp [intOf]; omega
              · have HB := Lib.hid (HFT.out.trans (bstep_no1 (by omega)))
                clear HFT hbst
                have d0 : decide ((C : Int) ≤ (n : Int) + 1) = false := by rw [decide_eq_false_iff_not]; omega
                go_wp2
                go_round
                case rel => exact ⟨j + 1, bst, by omega, by go_num, rfl, HB.out.symm⟩
                case measure => simp [intOf]; omega
            · have hend : bst = fbest l (fwT l n) (n + 1) := by
                have e1 := hbst.out
                rw [show j = l.length from by rw [← HL.out]; omega, List.take_length] at e1
                exact e1
              have HE := Lib.hid (show (fwT l n).map (Value.int .i64) ++ [Value.int .i64 bst] = (fwT l (n + 1)).map (Value.int .i64) by rw [hend]; show _ = (fwT l n ++ [_]).map _; rw [List.map_append]; rfl)
              clear hend hbst
              have hbs := hbe.out.size
              go_wp2_with (at_builtin; refine wpList_append_own _ rfl _ _ 46 rfl w.heap.size 3 i0 (.int .i64 0) 1 8 Try.underlying46 HI0.out HZ0.out HZ1.out HZ2.out rfl (by decide) _ _ _ rfl (hown.out.alloc _) ⟨wr.heap.size, 0, none⟩ 1 1 [.int .i64 bst] rfl rfl ?c1 ?c2 ?c3 ?c4 ?c5 ?_)
              case c2 => first | rfl | (intro u hu; simp at hu; subst hu; rfl)
              case c3 => unfold maxLen; omega
              case c4 => omega
              case c5 => first | omega | (simp; omega)
              intro v2 w2 hown2 hgrow _
              rw [HE.out] at hown2
              have HO := Lib.hid hown2; clear hown2
              have HBE := Lib.hid (own_step (l := fwT l n) (n := n + 1) (x := 0) (v' := v2) hbe.out hbs _ hgrow hown.out)
              clear hgrow
              go_wp2
              go_roundw
              case rel => exact ⟨n + 1, by omega, by go_num, HO, HBE⟩
              case measure => simp [intOf]; omega
      · obtain rfl : n = N := by omega
        go_wp2
        go_ret
        exact ⟨_, rfl, hown.out, hbe.out⟩
end Go.Proofs.Ytfncikbmdaameaa
