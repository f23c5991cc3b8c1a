/- The greatest sum without a way: the walks. -/
import Derived.Test.YtfncikbmdaameaaFewC
import Derived.Test.YtfncikbmdaameaaB1
namespace Go.Proofs.Ytfncikbmdaameaa
open Go.RowKit
set_option linter.unusedVariables false
set_option linter.unusedSimpArgs false
def gapV (l : List Int) : Int := if coinsB l && decide (gcdL l ≤ 1) then gapD l 870 else -1
theorem gap_eq {l : List Int} (i1 : coinsB l = true) (i2 : gcdL l ≤ 1) (d : Nat) : gapV l = gapD l (870 + d) := by
  obtain ⟨c1, c2, c3⟩ := coins_mem i1
  rw [gapD_far (mem_of_getD c3) c2 i2 d]
  simp [gapV, i1, i2]
theorem gapD_yes {l : List Int} {n : Nat} (h : (fwT l n).getD n 0 < 0) : gapD l (n + 1) = n := by
  show (if _ then _ else _) = _; rw [if_pos h]
theorem gapD_no {l : List Int} {n : Nat} (h : ¬ (fwT l n).getD n 0 < 0) : gapD l (n + 1) = gapD l n := by
  show (if _ then _ else _) = _; rw [if_neg h]

set_option maxHeartbeats 1000000 in
theorem implGreatestGap_any (l : List Int) (v : Value) (hb : Nat) (w : World) (h : ISr w hb v l) (hhb : hb ≤ w.heap.size) :
    Calls Try.prog 50 #[v] w fun e w' => e = .returned (.int .i64 (gapV l)) ∧ Below w.heap.size w w' := by
  have H1 := implAreCoins_any l v hb w h
  by_cases i1 : coinsB l = true
  · obtain ⟨c1, c2, c3⟩ := coins_mem i1
    rw [i1] at H1
    have HG := fun d => gcdAll_any l v hb (w.drewN d) (h.draws d) 30 (by omega) (fun k hk => by have := c3 k hk; omega)
    have HF := fun d => fewest_any l v 900 hb (w.drewN d) (h.draws d) hhb (by omega) c2 c1 c3
    simp only [World.heap_drewN] at HF
    have e900 : ((900 : Nat) : Int) = 900 := rfl
    simp only [e900] at HF
    clear e900
    by_cases i2 : gcdL l ≤ 1
    · have HV := Lib.hid (gap_eq i1 i2 31)
      obtain ⟨a, cap, rfl, -, -, -⟩ := h
      clear c1 c2 c3 i1
      go_enter Try.func50, Try.ntmps50
      go_wp2_with (first | (go_at_call 57; (with_reducible refine H1.mono ?_); rintro e w' ⟨rfl, d, rfl⟩) | (go_at_call 136; (with_reducible refine (HG _).mono ?_); rintro e w' ⟨rfl, d, rfl⟩))
      refine (HF _).mono ?_
      rintro e w2 ⟨rfl, hr, hbe⟩
      have HR := Lib.hid hr; clear hr HF HG H1
      go_wp2
      go_loop [4] (fun i => ∃ n : Nat, n ≤ 901 ∧ i = .int .i64 ((n : Int) - 1) ∧ Hid (gapV l = gapD l n)) (fun i => (intOf i + 1).toNat)
      case atStart => exact ⟨901, by omega, by simp, HV.out⟩
      case round =>
        obtain ⟨n, hn, rfl, hg⟩ := hrel
        cases n with
        | zero =>
          have HE := Lib.hid (show gapV l = -1 from hg.out)
          go_wp2
          go_ret
          exact ⟨ret_int HE.out.symm, (below_draws _ _ _).trans hbe⟩
        | succ n =>
          have x := HR.out.cell (i := n) (by omega)
          rw [fwT_getD l n 900 (by omega)] at x
          have e1 : ((n + 1 : Nat) : Int) - 1 = n := by omega
          rw [e1]
          clear e1
          by_cases hc : (fwT l n).getD n 0 < 0
          · have HE := Lib.hid (hg.out.trans (gapD_yes hc))
            generalize (fwT l n).getD n 0 = t at *
            have d1 : decide (0 ≤ t) = false := by rw [decide_eq_false_iff_not]; omega
            go_wp2
            go_ret
            exact ⟨ret_int HE.out.symm, (below_draws _ _ _).trans hbe⟩
          · have HE := Lib.hid (hg.out.trans (gapD_no hc))
            generalize (fwT l n).getD n 0 = t at *
            have d1 : decide (0 ≤ t) = true := by rw [decide_eq_true_eq]; omega
            go_wp2
            go_round
            case rel => exact ⟨n, by omega, rfl, HE⟩
            case measure => simp [intOf]
    · have hv : gapV l = -1 := by simp [gapV, i2]
      rw [hv]; clear hv HF
      obtain ⟨a, cap, rfl, -, -, -⟩ := h
      clear c1 c2 c3 i1
      go_enter Try.func50, Try.ntmps50
      go_wp2_with (first | (go_at_call 57; (with_reducible refine H1.mono ?_); rintro e w' ⟨rfl, d, rfl⟩) | (go_at_call 136; (with_reducible refine (HG _).mono ?_); rintro e w' ⟨rfl, d, rfl⟩))
      go_ret
      exact ⟨rfl, below_draws _ _ _⟩
  · have hv : gapV l = -1 := by simp [gapV, i1]
    rw [hv]; clear hv
    have i1 : coinsB l = false := by simpa using i1
    rw [i1] at H1
    obtain ⟨a, cap, rfl, -, -, -⟩ := h
    go_enter Try.func50, Try.ntmps50
    go_wp2_with (go_at_call 57; (with_reducible refine H1.mono ?_); rintro e w' ⟨rfl, d, rfl⟩)
    go_ret
    exact ⟨rfl, below_draws _ _ _⟩
set_option maxHeartbeats 1000000 in
theorem specGreatestGap_any (l : List Int) (v : Value) (hb : Nat) (w : World) (h : ISr w hb v l) (hhb : hb ≤ w.heap.size) :
    Calls Try.prog 55 #[v] w fun e w' => e = .returned (.int .i64 (gapV l)) ∧ Below w.heap.size w w' := by
  have H1 := specAreCoins_any l v hb w h
  by_cases i1 : coinsB l = true
  · obtain ⟨c1, c2, c3⟩ := coins_mem i1
    rw [i1] at H1
    have HG := fun d => l2All_any l v hb (w.drewN d) (h.draws d) 30 (by omega) (fun k hk => by have := c3 k hk; omega)
    have HF := fun d => l15Fewest_any l v 1000 hb (w.drewN d) (h.draws d) hhb (by omega) c2 c1 c3
    simp only [World.heap_drewN] at HF
    have e900 : ((1000 : Nat) : Int) = 1000 := rfl
    simp only [e900] at HF
    clear e900
    by_cases i2 : gcdL l ≤ 1
    · have HV := Lib.hid (gap_eq i1 i2 131)
      obtain ⟨a, cap, rfl, -, -, -⟩ := h
      clear c1 c2 c3 i1
      go_enter Try.func55, Try.ntmps55
      go_wp2_with (first | (go_at_call 58; (with_reducible refine H1.mono ?_); rintro e w' ⟨rfl, d, rfl⟩) | (go_at_call 133; (with_reducible refine (HG _).mono ?_); rintro e w' ⟨rfl, rfl⟩))
      refine (HF _).mono ?_
      rintro e w2 ⟨v2, rfl, hown, hbe⟩
      have his : IS w2 _ _ v2 (fwT l 1000) := IS.of_owned (by rw [fwT_len]; exact hown)
      have hlen2 := fwT_len l 1000
      rcases his.cases with ⟨e0, -⟩ | ⟨-, -, g, go, gcap, rfl, -, -, -, -, hbk⟩
      · rw [e0] at hlen2; simp at hlen2
      have HR := Lib.hid hbk; clear hbk his hown HF HG H1
      rw [hlen2] at HR ⊢
      clear hlen2
      simp only [show ((1000 + 1 : Nat)) = 1001 from rfl] at HR ⊢
      go_wp2
      go_loop [4] (fun i => ∃ n : Nat, n ≤ 1001 ∧ i = .int .i64 ((n : Int) - 1) ∧ Hid (gapV l = gapD l n)) (fun i => (intOf i + 1).toNat)
      case atStart => exact ⟨1001, by omega, by simp, HV.out⟩
      case round =>
        obtain ⟨n, hn, rfl, hg⟩ := hrel
        cases n with
        | zero =>
          have HE := Lib.hid (show gapV l = -1 from hg.out)
          go_wp2
          go_ret
          exact ⟨ret_int HE.out.symm, (below_draws _ _ _).trans hbe⟩
        | succ n =>
          have x := HR.out.cell (i := n) (by omega)
          rw [fwT_getD l n 1000 (by omega)] at x
          have e1 : ((n + 1 : Nat) : Int) - 1 = n := by omega
          rw [e1]
          clear e1
          by_cases hc : (fwT l n).getD n 0 < 0
          · have HE := Lib.hid (hg.out.trans (gapD_yes hc))
            generalize (fwT l n).getD n 0 = t at *
            have d1 : decide (0 ≤ t) = false := by rw [decide_eq_false_iff_not]; omega
            go_wp2
            go_ret
            exact ⟨ret_int HE.out.symm, (below_draws _ _ _).trans hbe⟩
          · have HE := Lib.hid (hg.out.trans (gapD_no hc))
            generalize (fwT l n).getD n 0 = t at *
            have d1 : decide (0 ≤ t) = true := by rw [decide_eq_true_eq]; omega
            go_wp2
            go_round
            case rel => exact ⟨n, by omega, rfl, HE⟩
            case measure => simp [intOf]
    · have hv : gapV l = -1 := by simp [gapV, i2]
      rw [hv]; clear hv HF
      obtain ⟨a, cap, rfl, -, -, -⟩ := h
      clear c1 c2 c3 i1
      go_enter Try.func55, Try.ntmps55
      go_wp2_with (first | (go_at_call 58; (with_reducible refine H1.mono ?_); rintro e w' ⟨rfl, d, rfl⟩) | (go_at_call 133; (with_reducible refine (HG _).mono ?_); rintro e w' ⟨rfl, rfl⟩))
      go_ret
      exact ⟨rfl, below_draws _ _ _⟩
  · have hv : gapV l = -1 := by simp [gapV, i1]
    rw [hv]; clear hv
    have i1 : coinsB l = false := by simpa using i1
    rw [i1] at H1
    obtain ⟨a, cap, rfl, -, -, -⟩ := h
    go_enter Try.func55, Try.ntmps55
    go_wp2_with (go_at_call 58; (with_reducible refine H1.mono ?_); rintro e w' ⟨rfl, d, rfl⟩)
    go_ret
    exact ⟨rfl, below_draws _ _ _⟩
end Go.Proofs.Ytfncikbmdaameaa
