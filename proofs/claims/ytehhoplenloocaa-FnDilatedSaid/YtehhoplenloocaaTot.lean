/- laws.total: the sum of a list. -/
import Derived.Test.YtehhoplenloocaaB2
namespace Go.Proofs.Ytehhoplenloocaa
open Go.RowKit
set_option linter.unusedVariables false
set_option linter.unusedSimpArgs false

theorem sum_take_succ {l : List Int} {k : Nat} (h : k < l.length) : (l.take (k + 1)).sum = (l.take k).sum + l.getD k 0 := by
  rw [List.take_succ_eq_append_getElem h, List.sum_append, List.getD_eq_getElem?_getD, List.getElem?_eq_getElem h]; simp
theorem sum_take_bd {l : List Int} (hb : ∀ x ∈ l, -1000000000 ≤ x ∧ x ≤ 1000000000) : ∀ k : Nat, -1000000000 * (k : Int) ≤ (l.take k).sum ∧ (l.take k).sum ≤ 1000000000 * k
  | 0 => by simp
  | k + 1 => by
    have ih := sum_take_bd hb k
    by_cases h : k < l.length
    · rw [sum_take_succ h]
      have := hb (l.getD k 0) (by rw [List.getD_eq_getElem?_getD, List.getElem?_eq_getElem h]; exact List.getElem_mem _)
      omega
    · rw [List.take_of_length_le (by omega)] at ih ⊢
      omega
set_option maxHeartbeats 1000000 in
theorem total_any (l : List Int) (v : Value) (hb : Nat) (w : World) (h : ISr w hb v l) (hl : l.length ≤ 1000) (hbd : ∀ x ∈ l, -1000000000 ≤ x ∧ x ≤ 1000000000) :
    Calls Try.prog 23 #[v] w fun e w' => e = .returned (.int .i64 l.sum) ∧ w = w' := by
  obtain ⟨n, hn⟩ : ∃ n, n = l.length := ⟨_, rfl⟩
  obtain ⟨aa, cap, rfl, hc, hm, hcell⟩ := id h
  rw [← hn] at hl ⊢
  have HC := Lib.hid hcell
  have HN := Lib.hid hn
  have HS := Lib.hid (sum_take_bd hbd)
  have HF := Lib.hid (show (l.take n).sum = l.sum by rw [hn, List.take_length])
  clear hcell hn hc hm h hbd
  go_enter Try.func23, Try.ntmps23
  go_wp2
  go_loop [3, 4] (fun s i => ∃ k : Nat, k ≤ n ∧ i = .int .i64 k ∧ s = .int .i64 (l.take k).sum) (fun _ i => n - (intOf i).toNat)
  case atStart => exact ⟨0, by omega, rfl, rfl⟩
  case round =>
    obtain ⟨k, hk, rfl, rfl⟩ := hrel
    by_cases hlt : k < n
    · have hkl : k < l.length := by rw [← HN.out]; exact hlt
      obtain ⟨b1, o1, rfl, -, hcc⟩ := HC.out (by intro e; rw [e] at hkl; exact absurd hkl (Nat.not_lt_zero _))
      have hck := hcc k hkl
      have s0 := HS.out k
      have s1 := HS.out (k + 1)
      have HSS := Lib.hid (sum_take_succ hkl)
      rw [HSS.out] at s1
      clear hcc hkl
      generalize l.getD k 0 = x at *
      generalize hS : (l.take k).sum = S at *
      have e1 := wr64 (S + x) (by omega)
      have i1 : (0 : Int) ≤ (k : Int) := by omega
      have i2 : (k : Int) < (n : Int) := by omega
      go_wp2
      go_round
      case rel => exact ⟨k + 1, by omega, by go_num, by rw [HSS.out]⟩
      case measure => simp [intOf]; omega
    · obtain rfl : k = n := by omega
      have HF' := HF.out
      go_wp2
      go_ret
      exact ⟨rfl, rfl⟩
end Go.Proofs.Ytehhoplenloocaa
