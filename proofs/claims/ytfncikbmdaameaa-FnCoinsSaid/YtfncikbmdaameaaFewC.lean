/- The least number of coins for a sum: the walks. -/
import Derived.Test.YtfncikbmdaameaaFewS
namespace Go.Proofs.Ytfncikbmdaameaa
open Go.RowKit
set_option linter.unusedVariables false
set_option linter.unusedSimpArgs false
def fewV (l : List Int) (n : Int) : Int := if coinsB l && inB n 0 500 then (fwT l n.toNat).getD n.toNat 0 else -1

set_option maxHeartbeats 1000000 in
theorem implFewestCoins_any (l : List Int) (v : Value) (n : Int) (hb : Nat) (w : World) (h : ISr w hb v l) (hhb : hb ≤ w.heap.size) :
    Calls Try.prog 48 #[v, .int .i64 n] w fun e w' => e = .returned (.int .i64 (fewV l n)) ∧ Below w.heap.size w w' := by
  have H1 := implAreCoins_any l v hb w h
  by_cases hin : coinsB l = true ∧ inB n 0 500 = true
  · obtain ⟨i1, i2⟩ := hin
    have hv : fewV l n = (fwT l n.toNat).getD n.toNat 0 := by simp [fewV, i1, i2]
    rw [hv]; clear hv
    obtain ⟨c1, c2, c3⟩ := coins_mem i1
    obtain ⟨n1, n2⟩ := inB_iff.1 i2
    obtain ⟨N, rfl⟩ : ∃ N : Nat, n = N := ⟨n.toNat, by omega⟩
    rw [Int.toNat_natCast]
    rw [i1] at H1
    have HF := fun d => fewest_any l v N hb (w.drewN d) (h.draws d) hhb (by omega) c2 c1 c3
    simp only [World.heap_drewN] at HF
    obtain ⟨a, cap, rfl, -, -, -⟩ := h
    have HN := Lib.hid n2
    go_enter Try.func48, Try.ntmps48
    go_wp2_with (first | (go_at_call 57; (with_reducible refine H1.mono ?_); rintro e w' ⟨rfl, d, rfl⟩) | (go_at_call 119; (with_reducible refine (within_any _ _ _ _).mono ?_); rintro e w' ⟨rfl, rfl⟩))
    all_goals
      refine (HF _).mono ?_
      rintro e w2 ⟨rfl, hr, hbe⟩
      have x := hr.cell (i := N) (by omega)
      generalize hT : (fwT l N).getD N 0 = t at *
      have HT := Lib.hid hT; clear hT
      go_wp2
      go_ret
      exact ⟨ret_int HT.out.symm, (below_draws _ _ _).trans hbe⟩
  · have hv : fewV l n = -1 := by
      rcases and2_false hin with i1 | ⟨i1, i2⟩ <;> simp [fewV, *]
    rw [hv]; clear hv
    obtain ⟨a, cap, rfl, -, -, -⟩ := h
    rcases and2_false hin with i1 | ⟨i1, i2⟩
    all_goals
      rw [i1] at H1
      clear hin
      go_enter Try.func48, Try.ntmps48
      go_wp2_with (first | (go_at_call 57; (with_reducible refine H1.mono ?_); rintro e w' ⟨rfl, d, rfl⟩) | (go_at_call 119; (with_reducible refine (within_any _ _ _ _).mono ?_); rintro e w' ⟨rfl, rfl⟩))
      go_ret
      exact ⟨rfl, below_draws _ _ _⟩

set_option maxHeartbeats 1000000 in
theorem specFewestCoins_any (l : List Int) (v : Value) (n : Int) (hb : Nat) (w : World) (h : ISr w hb v l) (hhb : hb ≤ w.heap.size) :
    Calls Try.prog 54 #[v, .int .i64 n] w fun e w' => e = .returned (.int .i64 (fewV l n)) ∧ Below w.heap.size w w' := by
  have H1 := specAreCoins_any l v hb w h
  by_cases hin : coinsB l = true ∧ inB n 0 500 = true
  · obtain ⟨i1, i2⟩ := hin
    have hv : fewV l n = (fwT l n.toNat).getD n.toNat 0 := by simp [fewV, i1, i2]
    rw [hv]; clear hv
    obtain ⟨c1, c2, c3⟩ := coins_mem i1
    obtain ⟨n1, n2⟩ := inB_iff.1 i2
    obtain ⟨N, rfl⟩ : ∃ N : Nat, n = N := ⟨n.toNat, by omega⟩
    rw [Int.toNat_natCast]
    rw [i1] at H1
    have HF := fun d => l15Fewest_any l v N hb (w.drewN d) (h.draws d) hhb (by omega) c2 c1 c3
    simp only [World.heap_drewN] at HF
    obtain ⟨a, cap, rfl, -, -, -⟩ := h
    have HN := Lib.hid n2
    go_enter Try.func54, Try.ntmps54
    go_wp2_with (first | (go_at_call 58; (with_reducible refine H1.mono ?_); rintro e w' ⟨rfl, d, rfl⟩) | (go_at_call 122; (with_reducible refine (l1In_any _ _ _ _).mono ?_); rintro e w' ⟨rfl, rfl⟩))
    all_goals
      refine (HF _).mono ?_
      rintro e w2 ⟨v2, rfl, hown, hbe⟩
      have his : IS w2 _ _ v2 (fwT l N) := IS.of_owned (by rw [fwT_len]; exact hown)
      rcases his.cases with ⟨e0, -⟩ | ⟨-, -, g, go, gcap, rfl, -, -, -, -, hbk⟩
      · have := fwT_len l N; rw [e0] at this; simp at this
      have x := hbk.cell (i := N) (by rw [fwT_len]; omega)
      rw [fwT_len]
      clear hown his hbk
      generalize hT : (fwT l N).getD N 0 = t at *
      have HT := Lib.hid hT; clear hT
      go_wp2
      go_ret
      exact ⟨ret_int HT.out.symm, (below_draws _ _ _).trans hbe⟩
  · have hv : fewV l n = -1 := by
      rcases and2_false hin with i1 | ⟨i1, i2⟩ <;> simp [fewV, *]
    rw [hv]; clear hv
    obtain ⟨a, cap, rfl, -, -, -⟩ := h
    rcases and2_false hin with i1 | ⟨i1, i2⟩
    all_goals
      rw [i1] at H1
      clear hin
      go_enter Try.func54, Try.ntmps54
      go_wp2_with (first | (go_at_call 58; (with_reducible refine H1.mono ?_); rintro e w' ⟨rfl, d, rfl⟩) | (go_at_call 122; (with_reducible refine (l1In_any _ _ _ _).mono ?_); rintro e w' ⟨rfl, rfl⟩))
      go_ret
      exact ⟨rfl, below_draws _ _ _⟩
end Go.Proofs.Ytfncikbmdaameaa
