/- PointsValue of the model: the walks. -/
import Derived.Test.YtibninlggdpnkaaPts
namespace Go.Proofs.Ytibninlggdpnkaa
open Go.RowKit
set_option linter.unusedVariables false
set_option linter.unusedSimpArgs false

set_option maxHeartbeats 400000 in
theorem l11Fine_any (s u : Int) (w : World) :
    Calls Try.prog 66 #[.int .i64 s, .int .i64 u] w fun e w' => e = .returned (.bool (inB s 1 10006 && inB u 1 10006)) ∧ w = w' := by
  have W1 := fun w => l1In_any s 1 10006 w
  have W2 := fun w => l1In_any u 1 10006 w
  cases hs : inB s 1 10006
  · simp only [hs] at W1
    go_enter Try.func66, Try.ntmps66
    go_wp2_with (go_at_call 57; (with_reducible refine (W1 _).mono ?_); rintro e w' ⟨rfl, rfl⟩)
    go_ret
    exact ⟨rfl, rfl⟩
  · simp only [hs] at W1
    go_enter Try.func66, Try.ntmps66
    go_wp2_with (first | (go_at_call 57; (with_reducible refine (W1 _).mono ?_); rintro e w' ⟨rfl, rfl⟩) | (go_at_call 57; (with_reducible refine (W2 _).mono ?_); rintro e w' ⟨rfl, rfl⟩))
    go_ret
    exact ⟨rfl, rfl⟩

set_option maxHeartbeats 400000 in
theorem l11Monomial_any (X : List Int) (v : Value) (s u : Int) (hb : Nat) (w : World) (h : ISr w hb v X) (h2 : X.length = 2) :
    Calls Try.prog 68 #[v, .int .i64 s, .int .i64 u] w fun e w' => e = .returned (.int .i64 (monI X s u % 10007)) ∧ ∃ d, w' = w.drewN d := by
  obtain ⟨b1, o1, c1, rfl, -, y0, y1⟩ := h.two h2
  have mb := monI_bd X s u
  unfold monI at mb ⊢
  generalize X.getD 0 0 = X0 at *
  generalize X.getD 1 0 = X1 at *
  have P1 := fun w => specPowerMod_any s X0 w
  have P2 := fun w => specPowerMod_any u X1 w
  clear h h2
  generalize powP s X0 = m1 at *
  generalize powP u X1 = m2 at *
  have q1 := wr64 (m1 * m2) (by omega)
  have HM := Lib.hid mb.1
  have q3 := wr64 ((m1 * m2).tmod 10007) (by rw [Int.tmod_eq_emod_of_nonneg HM.out]; have := Int.emod_nonneg (m1 * m2) (show (10007 : Int) ≠ 0 by omega); have := Int.emod_lt_of_pos (m1 * m2) (show (0 : Int) < 10007 by omega); omega)
  clear mb
  go_enter Try.func68, Try.ntmps68
  go_wp2
  go_quiet (first | (go_at_call 87; with_reducible exact quiet_eq (P1 _)) | (go_at_call 87; with_reducible exact quiet_eq (P2 _)))
  go_wp2
  go_ret
  exact ⟨ret_int (Int.tmod_eq_emod_of_nonneg HM.out), _, rfl⟩

set_option maxHeartbeats 800000 in
theorem specPointsValue_any (ls : List (List Int)) (v : Value) (s u : Int) (hb : Nat) (w : World) (h : ISSr w hb v ls) :
    Calls Try.prog 29 #[v, .int .i64 s, .int .i64 u] w fun e w' => e = .returned (.tuple #[.int .i64 (ptsV ls s u).1, .bool (ptsV ls s u).2]) ∧ ∃ d, w' = w.drewN d := by
  have F1 := fun w => l11Fine_any s u w
  by_cases hf : (inB s 1 10006 && inB u 1 10006) = false
  · have hv : ptsV ls s u = (0, false) := by unfold ptsV; rw [if_neg]; rw [hf]; simp
    simp only [hf] at F1
    rw [hv]
    obtain ⟨a, cap, rfl, -⟩ := h
    clear hv hf
    generalize ls.length = n at *
    go_enter Try.func29, Try.ntmps29
    go_wp2_with (go_at_call 66; (with_reducible refine (F1 _).mono ?_); rintro e w' ⟨rfl, rfl⟩)
    go_ret2
    exact ⟨rfl, 0, rfl⟩
  have hf : (inB s 1 10006 && inB u 1 10006) = true := by simpa using hf
  simp only [hf] at F1
  obtain ⟨hs, hu⟩ : inB s 1 10006 = true ∧ inB u 1 10006 = true := by simpa using hf
  clear hf
  rcases h.cases with ⟨rfl, a, cap, rfl⟩ | ⟨hpos, hlen, b, off, cap, V0, rfl, hbb, hcell⟩
  · have hv : ptsV [] s u = (0, true) := ptsV_good hs hu (fun j hj => absurd hj (Nat.not_lt_zero _))
    rw [hv]
    clear hv hs hu
    go_enter Try.func29, Try.ntmps29
    go_wp2_with (go_at_call 66; (with_reducible refine (F1 _).mono ?_); rintro e w' ⟨rfl, rfl⟩)
    refine wp_loop_rounds 1 ?_
    rw [rounds_succ]
    go_wp2
    go_ret2
    exact ⟨rfl, 0, rfl⟩
  obtain ⟨n, hn⟩ : ∃ n, n = ls.length := ⟨_, rfl⟩
  rw [← hn] at hlen hpos ⊢
  have HN := Lib.hid hn; clear hn h
  have HC := Lib.hid hcell; clear hcell
  have HS := Lib.hid hs; clear hs
  have HU := Lib.hid hu; clear hu
  go_enter Try.func29, Try.ntmps29
  go_wp2_with (go_at_call 66; (with_reducible refine (F1 _).mono ?_); rintro e w' ⟨rfl, rfl⟩)
  clear F1
  go_loopw [8, 9] (fun m i wr => ∃ (d k : Nat) (r : Int), wr = w.drewN d ∧ k ≤ n ∧ i = .int .i64 k ∧ m = .int .i64 r ∧ 0 ≤ r ∧ r < 10007 ∧ Hid (r = accP ls s u k) ∧ Hid (∀ j, j < k → goodR (ls.getD j []) = true)) (fun _ i _ => n - (intOf i).toNat)
  case atStart => exact ⟨0, 0, 0, rfl, by omega, rfl, rfl, by omega, by omega, Lib.hid rfl, fun j hj => absurd hj (Nat.not_lt_zero _)⟩
  case round =>
    obtain ⟨d, k, r, hw, hk, rfl, rfl, hr0, hr1, hr, hall⟩ := hrel
    have HW := Lib.hid hw; clear hw
    by_cases hlt : k < n
    · have hkl : k < ls.length := by rw [← HN.out]; exact hlt
      have hck : wr.cell? ⟨b, off + k, none⟩ = some (V0 k) := by rw [HW.out]; exact (HC.out k hkl).1
      have hrow : ISr wr hb (V0 k) (ls.getD k []) := by rw [HW.out]; exact (HC.out k hkl).2
      have HV := specIsVector_any (ls.getD k []) (V0 k) hb wr hrow
      have HCK := Lib.hid (show ∀ n', (wr.drewN n').cell? ⟨b, off + k, none⟩ = some (V0 k) from fun n' => hck)
      cases hg : goodR (ls.getD k [])
      · have HB := Lib.hid (ptsV_bad (s := s) (u := u) hkl hg)
        cases hv : vecB (ls.getD k [])
        · rw [hv] at HV
          clear hkl hv hg hrow HCK
          generalize V0 k = xk at *
          go_wp2_with (go_at_call 67; (with_reducible refine HV.mono ?_); rintro e w' ⟨rfl, d2, rfl⟩)
          go_ret2
          exact ⟨ret_pts HB.out, _, by rw [HW.out, World.drewN_drewN]⟩
        · have h2 : (ls.getD k []).length ≠ 2 := by intro e; rw [goodR, hv, e] at hg; simp at hg
          have hne : (((ls.getD k []).length : Int) != 2) = true := by rw [bne_iff_ne]; omega
          rw [hv] at HV
          obtain ⟨a1, c1, e1, -⟩ := hrow
          rw [e1] at hck HV HCK
          clear hkl hv hg h2 e1
          generalize (ls.getD k []).length = m at *
          go_wp2_with fail
          refine HV.mono ?_
          rintro e w' ⟨rfl, d2, rfl⟩
          have hc2 := HCK.out d2
          go_wp2
          go_ret2
          exact ⟨ret_pts HB.out, _, by rw [HW.out, World.drewN_drewN]⟩
      · obtain ⟨g1, g2⟩ := goodR_of hg
        have hvv : vecB (ls.getD k []) = true := by simp only [goodR, Bool.and_eq_true] at hg; exact hg.1
        have HALL := Lib.hid (fun j (hj : j < k + 1) => show goodR (ls.getD j []) = true by
          by_cases e : j = k
          · subst e; exact hg
          · exact hall.out j (by omega))
        have mb := monI_bd (ls.getD k []) s u
        have HACC := Lib.hid (show ∀ x : Int, x = (r + monI (ls.getD k []) s u % 10007) % 10007 → x = accP ls s u (k + 1) by intro x hx; rw [accP, ← hr.out, hx]; omega)
        obtain ⟨a1, c1, e1, -⟩ := id hrow
        have HM2 := fun n' => l11Monomial_any (ls.getD k []) (V0 k) s u hb (wr.drewN n') hrow g1
        rw [hvv] at HV
        rw [g1] at e1
        rw [e1] at hck HV HCK HM2
        have mb2 : 0 ≤ monI (ls.getD k []) s u % 10007 ∧ monI (ls.getD k []) s u % 10007 < 10007 := by omega
        clear hkl hg g1 g2 hvv hrow e1 hr hall mb
        generalize monI (ls.getD k []) s u % 10007 = p at *
        have q2 := wr64 (r + p) (by omega)
        have HM := Lib.hid (show 0 ≤ r + p by omega)
        have q3 := wr64 ((r + p).tmod 10007) (by rw [Int.tmod_eq_emod_of_nonneg HM.out]; have := Int.emod_nonneg (r + p) (show (10007 : Int) ≠ 0 by omega); have := Int.emod_lt_of_pos (r + p) (show (0 : Int) < 10007 by omega); omega)
        clear hr0 hr1 mb2
        go_wp2_with fail
        refine HV.mono ?_
        rintro e w' ⟨rfl, d2, rfl⟩
        have hc2 := HCK.out d2
        go_wp2_with fail
        refine (HM2 d2).mono ?_
        rintro e w' ⟨rfl, d3, rfl⟩
        go_wp2
        go_round
        case rel => exact ⟨d + d2 + d3, k + 1, (r + p) % 10007, by rw [HW.out]; simp only [World.drewN_drewN, Nat.add_assoc], by omega, by go_num, by rw [Int.tmod_eq_emod_of_nonneg HM.out], Int.emod_nonneg _ (by omega), Int.emod_lt_of_pos _ (by omega), Lib.hid (HACC.out _ rfl), HALL.out⟩
        case measure => simp [intOf]; omega
    · obtain rfl : k = n := by omega
      have hv := ptsV_good HS.out HU.out (fun j hj => hall.out j (by rw [HN.out]; exact hj))
      have HVV := Lib.hid hv; clear hv
      go_wp2
      go_ret2
      exact ⟨ret_pts (HVV.out.trans (by rw [← HN.out, hr.out])), _, HW.out⟩
end Go.Proofs.Ytibninlggdpnkaa
