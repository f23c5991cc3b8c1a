/- The statements' own comparisons of lists. -/
import Derived.Test.YtehhoplenloocaaGreatB2
namespace Go.Proofs.YtehhoplenloocaaGreat
open Go.RowKit
set_option linter.unusedVariables false
set_option linter.unusedSimpArgs false

set_option maxHeartbeats 1000000 in
theorem sameInts_any (l1 l2 : List Int) (v1 v2 : Value) (h1 h2 : Nat) (w : World) (i1 : ISr w h1 v1 l1) (i2 : ISr w h2 v2 l2) :
    Calls Tryz.prog 24 #[v1, v2] w fun e w' => e = .returned (.bool (decide (l1 = l2))) ∧ ∃ d, w' = w.drewN d := by
  obtain ⟨n, hn⟩ : ∃ n, n = l1.length := ⟨_, rfl⟩
  obtain ⟨n', hn'⟩ : ∃ n, n = l2.length := ⟨_, rfl⟩
  obtain ⟨aa, cap, rfl, hc, hm, hcell⟩ := id i1
  obtain ⟨ab, cap', rfl, hc', hm', hcell'⟩ := id i2
  unfold maxLen at hm hm'
  rw [← hn, ← hn'] at ⊢
  rw [← hn] at hc
  rw [← hn'] at hc'
  have hb1 : n ≤ 9223372036854775807 := by omega
  have hb2 : n' ≤ 9223372036854775807 := by omega
  have HN := Lib.hid hn; clear hn
  have HN' := Lib.hid hn'; clear hn'
  have HC := Lib.hid hcell; clear hcell i1
  have HC' := Lib.hid hcell'; clear hcell' i2 hm' hm hc hc'
  by_cases hle : n = n'
  case neg =>
    have HF := Lib.hid (show decide (l1 = l2) = false by rw [decide_eq_false_iff_not]; intro e; exact hle (by rw [HN.out, HN'.out, e]))
    have hb : ((n : Int) != (n' : Int)) = true := by rw [bne_iff_ne]; omega
    clear hle
    go_enter Tryz.func24, Tryz.ntmps24
    go_wp2
    go_ret
    exact ⟨ret_bool HF.out.symm, 0, rfl⟩
  subst hle
  go_enter Tryz.func24, Tryz.ntmps24
  go_wp2
  go_loopw [5] (fun i wr => ∃ (d k : Nat), k ≤ n ∧ i = .int .i64 k ∧ Hid (l1.take k = l2.take k) ∧ Hid (wr = w.drewN d)) (fun i _ => n - (intOf i).toNat)
  case atStart => exact ⟨0, 0, by omega, rfl, Lib.hid rfl, Lib.hid rfl⟩
  case round =>
    obtain ⟨d, k, hk, rfl, hE, HW⟩ := hrel
    by_cases hlt : k < n
    · have hkl : k < l1.length := by rw [← HN.out]; exact hlt
      have hkl' : k < l2.length := by rw [← HN'.out]; omega
      obtain ⟨b1, o1, rfl, -, hcc⟩ := HC.out (by intro e; rw [e] at hkl; exact absurd hkl (Nat.not_lt_zero _))
      obtain ⟨b2, o2, rfl, -, hcc'⟩ := HC'.out (by intro e; rw [e] at hkl'; exact absurd hkl' (Nat.not_lt_zero _))
      have hck : wr.cell? ⟨b1, o1 + k, none⟩ = some (.int .i64 (l1.getD k 0)) := by rw [HW.out]; exact hcc k hkl
      have hck' : wr.cell? ⟨b2, o2 + k, none⟩ = some (.int .i64 (l2.getD k 0)) := by rw [HW.out]; exact hcc' k hkl'
      have i1 : (0 : Int) ≤ (k : Int) := by omega
      have i2 : (k : Int) < (n : Int) := by omega
      by_cases he : l1.getD k 0 = l2.getD k 0
      · have HS := Lib.hid (take_eq_step hkl hkl' hE.out he)
        clear hkl hkl' hcc hcc'
        rw [← he] at hck'
        clear he
        generalize l1.getD k 0 = x at *
        have hxx : (x != x) = false := by simp
        go_wp2
        go_quiet (fail)
        go_wp2
        go_roundw
        case rel => exact ⟨d + nq, k + 1, by omega, by go_num, HS, Lib.hid (by rw [HW.out, World.drewN_drewN])⟩
        case measure => simp [intOf]; omega
      · have HF := Lib.hid (ne_of_getD he)
        clear hkl hkl' hcc hcc'
        generalize l1.getD k 0 = x at *
        generalize l2.getD k 0 = y at *
        have hxy : (x != y) = true := by simpa using he
        go_wp2
        go_quiet (fail)
        go_wp2
        go_ret
        exact ⟨ret_bool HF.out.symm, d + nq, by rw [HW.out, World.drewN_drewN]⟩
    · obtain rfl : k = n := by omega
      have e1 := hE.out
      rw [HN.out, List.take_length, ← HN.out, HN'.out, List.take_length] at e1
      have HF := Lib.hid (show decide (l1 = l2) = true by rw [decide_eq_true_eq]; exact e1)
      clear e1
      go_wp2
      go_ret
      exact ⟨ret_bool HF.out.symm, _, HW.out⟩
set_option maxHeartbeats 1000000 in
theorem sameLists_any (l1 l2 : List (List Int)) (v1 v2 : Value) (h1 h2 : Nat) (w : World) (i1 : ISSr w h1 v1 l1) (i2 : ISSr w h2 v2 l2) :
    Calls Tryz.prog 15 #[v1, v2] w fun e w' => e = .returned (.bool (decide (l1 = l2))) ∧ ∃ d, w' = w.drewN d := by
  by_cases hle : l1.length = l2.length
  · rcases i1.cases with ⟨rfl, a1, cap1, rfl⟩ | ⟨hpos, hlen, b1, off1, cap1, V1, rfl, hbb1, hcell1⟩
    · have : l2 = [] := List.length_eq_zero_iff.1 hle.symm
      subst this
      obtain ⟨a2, cap2, rfl, -, -, -⟩ := i2
      go_enter Tryz.func15, Tryz.ntmps15
      go_wp2
      refine wp_loop_rounds 1 ?_
      rw [rounds_succ]
      go_wp2
      go_ret
      exact ⟨rfl, 0, rfl⟩
    · rcases i2.cases with ⟨rfl, a2, cap2, rfl⟩ | ⟨hpos2, hlen2, b2, off2, cap2, V2, rfl, hbb2, hcell2⟩
      · simp at hle; subst hle; simp at hpos
      · rw [← hle]
        obtain ⟨n, hn⟩ : ∃ n, n = l1.length := ⟨_, rfl⟩
        have HN2 := Lib.hid (hn.trans hle)
        rw [← hn] at hlen hpos ⊢
        have HN := Lib.hid hn; clear hn hle hpos2 hlen2
        have HC1 := Lib.hid hcell1; clear hcell1
        have HC2 := Lib.hid hcell2; clear hcell2
        clear hbb1 hbb2 i1 i2
        go_enter Tryz.func15, Tryz.ntmps15
        go_wp2
        go_loopw [5] (fun i wr => ∃ (d k : Nat), wr = w.drewN d ∧ k ≤ n ∧ i = .int .i64 k ∧ l1.take k = l2.take k) (fun i _ => n - (intOf i).toNat)
        case atStart => exact ⟨0, 0, rfl, by omega, rfl, rfl⟩
        case round =>
          obtain ⟨d, k, hw, hk, rfl, heq⟩ := hrel
          have HW := Lib.hid hw; clear hw
          have HE := Lib.hid heq; clear heq
          by_cases hlt : k < n
          · have hk1 : k < l1.length := by rw [← HN.out]; exact hlt
            have hk2 : k < l2.length := by rw [← HN2.out]; exact hlt
            have hc1 : wr.cell? ⟨b1, off1 + k, none⟩ = some (V1 k) := by rw [HW.out]; exact (HC1.out k hk1).1
            have hc2 : wr.cell? ⟨b2, off2 + k, none⟩ = some (V2 k) := by rw [HW.out]; exact (HC2.out k hk2).1
            have HQ := fun n' => sameInts_any (l1.getD k []) (l2.getD k []) (V1 k) (V2 k) h1 h2 (wr.drewN n') (by rw [HW.out]; exact (HC1.out k hk1).2) (by rw [HW.out]; exact (HC2.out k hk2).2)
            generalize V1 k = x1 at *
            generalize V2 k = x2 at *
            by_cases he : l1.getD k [] = l2.getD k []
            · have HS := Lib.hid (take_eq_stepL hk1 hk2 HE.out he)
              clear hk1 hk2
              rw [decide_eq_true he] at HQ
              clear he
              have HQ' := Lib.hid HQ; clear HQ
              go_wp2
              go_quiet ((go_at_call 24; exact Calls.quiet_of (HQ'.out _)))
              go_wp2
              go_roundw
              case rel => exact ⟨d + nq, k + 1, by rw [HW.out, World.drewN_drewN], by omega, by go_num, HS.out⟩
              case measure => simp [intOf]; omega
            · have hfin := ne_of_getDL he
              have HF := Lib.hid hfin; clear hfin hk1 hk2
              rw [decide_eq_false he] at HQ
              clear he
              have HQ' := Lib.hid HQ; clear HQ
              go_wp2
              go_quiet ((go_at_call 24; exact Calls.quiet_of (HQ'.out _)))
              go_wp2
              go_ret
              exact ⟨ret_bool HF.out.symm, d + nq, by rw [HW.out, World.drewN_drewN]⟩
          · obtain rfl : k = n := by omega
            go_wp2
            go_ret
            refine ⟨ret_bool ?_, _, HW.out⟩
            have e1 := HE.out
            rw [HN.out, List.take_length, ← HN.out, HN2.out, List.take_length] at e1
            simp [e1]
  · have hf : decide (l1 = l2) = false := by rw [decide_eq_false_iff_not]; intro h; exact hle (by rw [h])
    rw [hf]
    obtain ⟨a1, cap1, rfl, -, -, -⟩ := i1
    obtain ⟨a2, cap2, rfl, -, -, -⟩ := i2
    have hb : ((l1.length : Int) != (l2.length : Int)) = true := by rw [bne_iff_ne]; omega
    generalize l1.length = n1 at *
    generalize l2.length = n2 at *
    clear hf
    go_enter Tryz.func15, Tryz.ntmps15
    go_wp2
    go_ret
    exact ⟨rfl, 0, rfl⟩
end Go.Proofs.YtehhoplenloocaaGreat
