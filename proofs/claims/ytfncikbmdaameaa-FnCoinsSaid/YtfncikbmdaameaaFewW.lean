/- The least numbers of coins: the walks. -/
import Derived.Test.YtfncikbmdaameaaB1
import Derived.Test.YtfncikbmdaameaaWays
namespace Go.Proofs.Ytfncikbmdaameaa
open Go.RowKit
set_option linter.unusedVariables false
set_option linter.unusedSimpArgs false

/-- what the array holds while sum number n is reckoned, the best so far being b -/
def curF (l : List Int) (n : Nat) (b : Int) : Nat → Value := fun i => if i < n then .int .i64 ((fwT l (n - 1)).getD i 0) else if i = n then .int .i64 b else .int .i64 0
theorem curF_set (w : World) (l : List Int) (B m n : Nat) (b x : Int) (hn : n < m) (h : w.rowIs B 3 m (curF l n b)) : (w.setCell ⟨B, n, none⟩ (.int .i64 x)).rowIs B 3 m (curF l n x) := by
  refine (h.set n (.int .i64 x)).congr fun i hi => ?_
  unfold curF
  by_cases e : i = n
  · subst e; simp
  · simp [e]
theorem curF_next (l : List Int) (n : Nat) (b : Int) (hb : b = fbest l (fwT l n) (n + 1)) (i : Nat) : curF l (n + 1) b i = curF l (n + 2) 0 i := by
  unfold curF
  rcases Nat.lt_trichotomy i (n + 1) with h | h | h
  · rw [if_pos h, if_pos (by omega)]
    rw [show n + 1 - 1 = n from rfl, show n + 2 - 1 = n + 1 from rfl, fwT_getD l i (n + 1) (by omega), fwT_getD l i n (by omega)]
  · subst h
    rw [if_neg (by omega), if_pos rfl, if_pos (by omega), show n + 2 - 1 = n + 1 from rfl, fwT_last, hb]
  · rw [if_neg (by omega), if_neg (by omega), if_neg (by omega)]
    by_cases e : i = n + 2
    · rw [if_pos e]
    · rw [if_neg e]
theorem bstep_no1 {t : List Int} {n : Nat} {b c : Int} (h : ¬ c ≤ n) : bstep t n b c = b := by unfold bstep; rw [if_neg (fun h' => h h'.1)]
theorem bstep_no2 {t : List Int} {n : Nat} {b c : Int} (h : ¬ 0 ≤ t.getD ((n : Int) - c).toNat 0) : bstep t n b c = b := by unfold bstep; rw [if_neg (fun h' => h h'.2.1)]
theorem bstep_no3 {t : List Int} {n : Nat} {b c : Int} (h : ¬ (b < 0 ∨ t.getD ((n : Int) - c).toNat 0 + 1 < b)) : bstep t n b c = b := by unfold bstep; rw [if_neg (fun h' => h h'.2.2)]
theorem bstep_yes {t : List Int} {n : Nat} {b c : Int} (h1 : c ≤ n) (h2 : 0 ≤ t.getD ((n : Int) - c).toNat 0) (h3 : b < 0 ∨ t.getD ((n : Int) - c).toNat 0 + 1 < b) : bstep t n b c = t.getD ((n : Int) - c).toNat 0 + 1 := by
  unfold bstep; rw [if_pos ⟨h1, h2, h3⟩]
theorem mem_of_getD {l : List Int} (h : ∀ k, k < l.length → 1 ≤ l.getD k 0 ∧ l.getD k 0 ≤ 30) : ∀ c ∈ l, 1 ≤ c ∧ c ≤ 30 := by
  intro c hc
  obtain ⟨i, hi, rfl⟩ := List.getElem_of_mem hc
  have := h i hi
  rwa [List.getD_eq_getElem?_getD, List.getElem?_eq_getElem hi] at this

set_option maxHeartbeats 3000000 in
theorem fewest_any (l : List Int) (v : Value) (N : Nat) (hb : Nat) (w : World) (h : ISr w hb v l) (hhb : hb ≤ w.heap.size) (hN : N ≤ 2000) (c2 : l ≠ []) (c1 : l.length ≤ 6) (c3 : ∀ k, k < l.length → 1 ≤ l.getD k 0 ∧ l.getD k 0 ≤ 30) :
    Calls Try.prog 135 #[v, .int .i64 N] w fun e w' => e = .returned (.slice (some ⟨w.heap.size, 0, none⟩) (N + 1) (N + 1)) ∧ w'.rowIs w.heap.size 3 (N + 1) (fun i => .int .i64 ((fwT l N).getD i 0)) ∧ Below w.heap.size w w' := by
  have hmem := mem_of_getD c3
  rcases h.cases with ⟨rfl, a, cap, rfl⟩ | ⟨hpos, hlen, b, off, cap, rfl, hbb, hcell⟩
  · exact absurd rfl c2
  · clear h
    have HC := Lib.hid hcell; clear hcell
    have HM := Lib.hid c3; clear c3 c2
    have HMEM := Lib.hid hmem; clear hmem
    obtain ⟨m, hm⟩ : ∃ m, m = l.length := ⟨_, rfl⟩
    rw [← hm] at hpos hlen c1 ⊢
    have HL := Lib.hid hm; clear hm
    have hmk := run_make_row' (P := Try.prog) 46 3 (.int .i64 0) 8 Try.underlying46 info_int rfl .i64 .i64 (N + 1) (by omega) (by omega)
    have e1 : ((N + 1 : Nat) : Int) = (N : Int) + 1 := by omega
    rw [e1] at hmk
    clear e1
    go_enter Try.func135, Try.ntmps135
    go_wp2
    clear hmk
    have hst : Hid ((w.alloc (.cells (madeCells #[.int .i64 0] (N + 1)) 3)).rowIs w.heap.size 3 (N + 1) (curF l 1 0)) := (World.rowIs_made w (.int .i64 0) (N + 1) 3).congr fun i hi => by
      unfold curF
      rcases Nat.eq_zero_or_pos i with e | e
      · subst e; simp [fwT]
      · rw [if_neg (by omega)]; split <;> rfl
    go_loopw [6, 8, 22] (fun sn _ _ wr => ∃ n : Nat, n ≤ N ∧ sn = .int .i64 ((n : Int) + 1) ∧ Hid (wr.rowIs w.heap.size 3 (N + 1) (curF l (n + 1) 0)) ∧ Hid (Below w.heap.size w wr)) (fun sn _ _ _ => N + 1 - (intOf sn).toNat)
    case atStart => exact ⟨0, by omega, rfl, hst, below1 _ _⟩
    case round =>
      obtain ⟨n, hn, rfl, hrow, hbe⟩ := hrel
      by_cases hlt : n < N
      · have x0 := hrow.out.cell (i := n + 1) (by omega)
        have xf := hrow.out.frozen (n + 1)
        have hr1 := Lib.hid (curF_set _ l _ (N + 1) (n + 1) 0 (-1) (by omega) hrow.out)
        have hb1 := Lib.hid (hbe.out.setCell (p := ⟨w.heap.size, n + 1, none⟩) (Nat.le_refl _) (.int .i64 (-1)))
        generalize curF l (n + 1) 0 (n + 1) = z at *
        have h14 : decide ((n : Int) + 1 ≤ (N : Int)) = true := by rw [decide_eq_true_eq]; omega
        go_wp2
        clear h14
        clear xf x0 hrow hbe
        obtain ⟨wo, hwo⟩ : ∃ wo : World, wo = wr := ⟨_, rfl⟩
        clear hwo
        go_loopw [8, 22] (fun _ i wi => ∃ (j : Nat) (bst : Int), j ≤ m ∧ i = .int .i64 j ∧ Hid (bst = (l.take j).foldl (bstep (fwT l n) (n + 1)) (-1)) ∧ Hid (wi.rowIs w.heap.size 3 (N + 1) (curF l (n + 1) bst)) ∧ Hid (Below w.heap.size w wi)) (fun _ i _ => m - (intOf i).toNat)
        case atStart => exact ⟨0, -1, by omega, rfl, rfl, hr1, hb1⟩
        case round =>
          obtain ⟨j, bst, hj, rfl, hbst, hr2, hb2⟩ := hrel
          by_cases hjm : j < m
          · have hjl : j < l.length := by rw [← HL.out]; exact hjm
            have hcb := HM.out j hjl
            have hft := fold_take (bstep (fwT l n) (n + 1)) (-1) l j hjl
            rw [← hbst.out] at hft
            have hcj := (hb2.out.cell (p := ⟨b, off + j, none⟩) (Nat.lt_of_lt_of_le hbb hhb)).trans (HC.out j hjl)
            obtain ⟨C, hC⟩ : ∃ C : Nat, l.getD j 0 = C := ⟨(l.getD j 0).toNat, by omega⟩
            rw [hC] at hcj hft hcb
            have HFT := Lib.hid hft; clear hft
            clear hC hjl
            have x1 := hr2.out.cell (i := n + 1) (by omega)
            have xf := hr2.out.frozen (n + 1)
            have ex1 : curF l (n + 1) bst (n + 1) = .int .i64 bst := by unfold curF; rw [if_neg (by omega), if_pos rfl]
            rw [ex1] at x1
            clear ex1
            have hbb2 : -1 ≤ bst ∧ bst ≤ (n : Int) + 1 := by
              rw [hbst.out]
              have := fold_bd (t := fwT l n) (n := n + 1) (fun i hi => fwT_bd (fun c hc => (HMEM.out c hc).1) n i (by omega)) (l.take j) (-1) (fun c hc => (HMEM.out c (List.mem_of_mem_take hc)).1) ⟨by omega, by omega⟩
              omega
            by_cases g1 : C ≤ n + 1
            · have x2 := hr2.out.cell (i := n + 1 - C) (by omega)
              have ex2 : curF l (n + 1) bst (n + 1 - C) = .int .i64 ((fwT l n).getD (n + 1 - C) 0) := by unfold curF; rw [if_pos (by omega), show n + 1 - 1 = n from rfl]
              rw [ex2] at x2
              clear ex2
              have hix : (((n + 1 : Nat) : Int) - (C : Int)).toNat = n + 1 - C := by omega
              have htb := fwT_bd (fun c hc => (HMEM.out c hc).1) n (n + 1 - C) (by omega) (l := l)
              have hs3 := Lib.hid (hb2.out.setCell (p := ⟨w.heap.size, n + 1, none⟩) (Nat.le_refl _) (.int .i64 ((fwT l n).getD (n + 1 - C) 0 + 1)))
              have hs2 := Lib.hid (curF_set _ l _ (N + 1) (n + 1) bst ((fwT l n).getD (n + 1 - C) 0 + 1) (by omega) hr2.out)
              by_cases g2 : 0 ≤ (fwT l n).getD (n + 1 - C) 0
              · by_cases g3 : bst < 0
                · have HB := Lib.hid (HFT.out.trans (bstep_yes (by omega) (by rw [hix]; exact g2) (.inl g3)))
                  rw [hix] at HB
                  clear hix HFT hbst
                  generalize (fwT l n).getD (n + 1 - C) 0 = t at *
                  have d1 : decide (0 ≤ t) = true := by simpa using g2
                  have d2 : decide (bst < 0) = true := by simpa using g3
                  have d0 : decide ((C : Int) ≤ (n : Int) + 1) = true := by rw [decide_eq_true_eq]; omega
                  go_wp2
                  go_quiet (fail)
                  go_wp2
                  go_roundw
                  case rel => exact ⟨j + 1, t + 1, by omega, by go_num, HB.out.symm, hs2.out, hs3.out.trans (below_draws _ _ nq)⟩
                  case measure => simp [intOf]; omega
                · have d2 : decide (bst < 0) = false := by simpa using g3
                  by_cases g4 : (fwT l n).getD (n + 1 - C) 0 + 1 < bst
                  · have HB := Lib.hid (HFT.out.trans (bstep_yes (by omega) (by rw [hix]; exact g2) (.inr (by rw [hix]; exact g4))))
                    rw [hix] at HB
                    clear hix HFT hbst
                    generalize (fwT l n).getD (n + 1 - C) 0 = t at *
                    have d1 : decide (0 ≤ t) = true := by simpa using g2
                    have d3 : decide (t + 1 < bst) = true := by simpa using g4
                    have d0 : decide ((C : Int) ≤ (n : Int) + 1) = true := by rw [decide_eq_true_eq]; omega
                    go_wp2
                    go_quiet (fail)
                    go_wp2
                    go_roundw
                    case rel => exact ⟨j + 1, t + 1, by omega, by go_num, HB.out.symm, hs2.out, hs3.out.trans (below_draws _ _ nq)⟩
                    case measure => simp [intOf]; omega
                  · have HB := Lib.hid (HFT.out.trans (bstep_no3 (by rw [hix]; omega)))
                    clear hix HFT hbst hs2 hs3
                    generalize (fwT l n).getD (n + 1 - C) 0 = t at *
                    have d1 : decide (0 ≤ t) = true := by simpa using g2
                    have d3 : decide (t + 1 < bst) = false := by simpa using g4
                    have d0 : decide ((C : Int) ≤ (n : Int) + 1) = true := by rw [decide_eq_true_eq]; omega
                    go_wp2
                    go_quiet (fail)
                    go_wp2
                    go_roundw
                    case rel => exact ⟨j + 1, bst, by omega, by go_num, HB.out.symm, hr2.out, hb2.out.trans (below_draws _ _ nq)⟩
                    case measure => simp [intOf]; omega
              · have HB := Lib.hid (HFT.out.trans (bstep_no2 (by rw [hix]; exact g2)))
                clear hix HFT hbst hs2 hs3
                generalize (fwT l n).getD (n + 1 - C) 0 = t at *
                have d1 : decide (0 ≤ t) = false := by simpa using g2
                have d0 : decide ((C : Int) ≤ (n : Int) + 1) = true := by rw [decide_eq_true_eq]; omega
                go_wp2
                go_quiet (fail)
                go_wp2
                go_roundw
                case rel => exact ⟨j + 1, bst, by omega, by go_num, HB.out.symm, hr2.out, hb2.out.trans (below_draws _ _ nq)⟩
                case measure => simp [intOf]; omega
            · have HB := Lib.hid (HFT.out.trans (bstep_no1 (by omega)))
              clear HFT hbst
              have d0 : decide ((C : Int) ≤ (n : Int) + 1) = false := by rw [decide_eq_false_iff_not]; omega
              go_wp2
              go_quiet (fail)
              go_wp2
              go_roundw
              case rel => exact ⟨j + 1, bst, by omega, by go_num, HB.out.symm, hr2.out, hb2.out.trans (below_draws _ _ nq)⟩
              case measure => simp [intOf]; omega
          · have hend : bst = fbest l (fwT l n) (n + 1) := by
              have e1 := hbst.out
              rw [show j = l.length from by rw [← HL.out]; omega, List.take_length] at e1
              exact e1
            have HE := Lib.hid (World.rowIs.congr hr2.out fun i _ => curF_next l n bst hend i)
            clear hend hbst
            go_wp2
            go_roundw
            case rel => exact ⟨n + 1, by omega, by go_num, HE.out, hb2⟩
            case measure => simp [intOf]; omega
      · have hfin := Lib.hid (World.rowIs.congr (g := fun i => .int .i64 ((fwT l N).getD i 0)) hrow.out fun i hi => by
          unfold curF; rw [if_pos (by omega), show n + 1 - 1 = n from rfl, show n = N from by omega])
        go_wp2
        go_ret
        exact ⟨rfl, hfin.out, hbe.out⟩

end Go.Proofs.Ytfncikbmdaameaa
