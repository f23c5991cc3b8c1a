/- laws.sameTerms of one list with itself. -/
import Derived.Test.YtehhoplenloocaaSame
import Derived.Test.YtehhoplenloocaaB7
import Derived.Deep.RegionHeld3
namespace Go.Proofs.Ytehhoplenloocaa
open Go.RowKit
set_option linter.unusedVariables false
set_option linter.unusedSimpArgs false

set_option maxRecDepth 100000 in
set_option maxHeartbeats 4000000 in
theorem sameTerms_same (ts : List TermL) (v1 v2 : Value) (h1 h2 : Nat) (w : World) (i1 : TSr w h1 v1 ts) (i2 : TSr w h2 v2 ts) :
    Calls Try.prog 57 #[v1, v2] w fun e w' => e = .returned (.bool true) ∧ ∃ d, w' = w.drewN d := by
  obtain ⟨n, hn⟩ : ∃ n, n = ts.length := ⟨_, rfl⟩
  obtain ⟨aa, cap, rfl, hc, hm, hcell⟩ := id i1
  obtain ⟨ab, cap', rfl, hc', hm', hcell'⟩ := id i2
  unfold maxLen at hm hm'
  rw [← hn] at ⊢ hc
  have hb1 : n ≤ 9223372036854775807 := by omega
  have HN := Lib.hid hn; clear hn
  have HC := Lib.hid hcell; clear hcell i1
  have HC' := Lib.hid hcell'; clear hcell' i2 hm' hm hc hc'
  have hnn : ((n : Int) != (n : Int)) = false := by simp
  go_enter Try.func57, Try.ntmps57
  go_wp2
  go_loopw [5] (fun i wr => ∃ (d k : Nat), k ≤ n ∧ i = .int .i64 k ∧ Hid (wr = w.drewN d)) (fun i _ => n - (intOf i).toNat)
  case atStart => exact ⟨0, 0, by omega, rfl, Lib.hid rfl⟩
  case round =>
    obtain ⟨d, k, hk, rfl, HW⟩ := hrel
    by_cases hlt : k < n
    · have hkl : k < ts.length := by rw [← HN.out]; exact hlt
      have hne : ts ≠ [] := by intro e; rw [e] at hkl; exact absurd hkl (Nat.not_lt_zero _)
      obtain ⟨b1, o1, V2, V3, rfl, -, tc, hr⟩ := HC.out hne
      obtain ⟨b2, o2, S2, S3, rfl, -, tc', hr'⟩ := HC'.out hne
      obtain ⟨x0, x1, x2⟩ := tc k hkl
      obtain ⟨y0, y1, y2⟩ := tc' k hkl
      have x0 : wr.cell? ⟨b1, o1 + k * 3, none⟩ = some (.int .i64 (ts.getD k t0).1) := by rw [HW.out]; exact x0
      have x1 : wr.cell? ⟨b1, o1 + k * 3 + 1, none⟩ = some (V2 k) := by rw [HW.out]; exact x1
      have x2 : wr.cell? ⟨b1, o1 + k * 3 + 2, none⟩ = some (V3 k) := by rw [HW.out]; exact x2
      have y0 : wr.cell? ⟨b2, o2 + k * 3, none⟩ = some (.int .i64 (ts.getD k t0).1) := by rw [HW.out]; exact y0
      have y1 : wr.cell? ⟨b2, o2 + k * 3 + 1, none⟩ = some (S2 k) := by rw [HW.out]; exact y1
      have y2 : wr.cell? ⟨b2, o2 + k * 3 + 2, none⟩ = some (S3 k) := by rw [HW.out]; exact y2
      have r1 := Lib.hid (fun dd => sameInts_any (ts.getD k t0).2.1 (ts.getD k t0).2.1 (V2 k) (S2 k) _ _ (wr.drewN dd) (show ISr (wr.drewN dd) h1 _ _ by rw [HW.out]; exact (hr k hkl).2.1) (show ISr (wr.drewN dd) h2 _ _ by rw [HW.out]; exact (hr' k hkl).2.1))
      have r2 := Lib.hid (fun dd => sameLists_any (ts.getD k t0).2.2 (ts.getD k t0).2.2 (V3 k) (S3 k) _ _ (wr.drewN dd) (show ISSr (wr.drewN dd) h1 _ _ by rw [HW.out]; exact (hr k hkl).2.2) (show ISSr (wr.drewN dd) h2 _ _ by rw [HW.out]; exact (hr' k hkl).2.2))
      rw [decide_eq_true (rfl : (ts.getD k t0).2.1 = (ts.getD k t0).2.1)] at r1
      rw [decide_eq_true (rfl : (ts.getD k t0).2.2 = (ts.getD k t0).2.2)] at r2
      have i1 : (0 : Int) ≤ (k : Int) := by omega
      have i2 : (k : Int) < (n : Int) := by omega
      clear tc tc' hr hr' hkl
      generalize (ts.getD k t0).1 = s at *
      generalize V2 k = v2 at *
      generalize V3 k = v3 at *
      generalize S2 k = z2 at *
      generalize S3 k = z3 at *
      have hss : (s != s) = false := by simp
      go_wp2_with fail
      go_quiet (first | (go_at_call 18; with_reducible exact Calls.quiet_of (r1.out _)) | (go_at_call 15; with_reducible exact Calls.quiet_of (r2.out _)))
      go_wp2
      go_roundw
      case rel => exact ⟨d + nq, k + 1, by omega, by go_num, Lib.hid (by rw [HW.out, World.drewN_drewN])⟩
      case measure => simp [intOf]; omega
    · obtain rfl : k = n := by omega
      go_wp2
      go_ret
      exact ⟨rfl, _, HW.out⟩
end Go.Proofs.Ytehhoplenloocaa
