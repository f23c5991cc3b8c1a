/- TermValue: the program's walk. -/
import Derived.Test.YtibninlggdpnkaaTvM
import Derived.Test.YtibninlggdpnkaaGen
namespace Go.Proofs.Ytibninlggdpnkaa
open Go.RowKit
set_option linter.unusedVariables false
set_option linter.unusedSimpArgs false

theorem mul_lt7 {p q : Int} (h1 : 0 ≤ p ∧ p < 10007) (h2 : 0 ≤ q ∧ q < 10007) : 0 ≤ p * q ∧ p * q ≤ 100140049 := by
  have := mul_bd2 (a := p) (b := q) (M := 10007) (N := 10007) (by omega) (by omega) h2.1 (by omega) (by omega)
  exact ⟨Int.mul_nonneg h1.1 h2.1, by omega⟩
theorem tm7 {x : Int} (h : 0 ≤ x) : 0 ≤ x.tmod 10007 ∧ x.tmod 10007 < 10007 := by
  rw [Int.tmod_eq_emod_of_nonneg h]; omega
/-- the factor as the program reckons it -/
theorem facI_prog (g : List Int) (a b : Int) : (1 - (powP a (g.getD 0 0) * powP b (g.getD 1 0)).tmod 10007 + 10007).tmod 10007 = facI g a b := by
  have := monI_bd g a b
  unfold facI
  rw [show monI g a b = powP a (g.getD 0 0) * powP b (g.getD 1 0) from rfl] at *
  generalize powP a (g.getD 0 0) * powP b (g.getD 1 0) = m at *
  rw [Int.tmod_eq_emod_of_nonneg this.1, Int.tmod_eq_emod_of_nonneg (by omega)]; omega

set_option maxHeartbeats 4000000 in
theorem implTermValue_any (s : Int) (U : List Int) (G : List (List Int)) (v1 v2 : Value) (a b : Int) (hb : Nat) (w : World) (hs : -9223372036854775808 ≤ s ∧ s ≤ 9223372036854775807) (i1 : ISr w hb v1 U) (i2 : ISSr w hb v2 G) (hhb : hb ≤ w.heap.size) :
    Calls Try.prog 53 #[.agg #[.int .i64 s, v1, v2], .int .i64 a, .int .i64 b] w fun e w' => e = .returned (.tuple #[.int .i64 (termV s U G a b).1, .bool (termV s U G a b).2]) ∧ Below w.heap.size w w' := by
  have b1 := below1 w (.cells #[.int .i64 s, v1, v2] 61)
  have bx := box3_new w (.int .i64 s) v1 v2 61
  have P1 := fun W (B : Below w.heap.size w W) => implIsTerm_any s U G v1 v2 hb W hs (i1.keep B hhb) (i2.keep B hhb) (Nat.le_trans hhb B.size)
  have W1 := fun w => within_any a 1 10006 w
  have W2 := fun w => within_any b 1 10006 w
  have HB := Lib.hid b1
  have BX := Lib.hid bx
  clear b1 bx
  cases ht : termB s U G
  · rw [termV_no1 ht]
    simp only [ht] at P1
    clear ht i1 i2 W1 W2
    go_enter Try.func53, Try.ntmps53
    go_wp2_with (go_at_call 50; (with_reducible refine (P1 _ HB.out).mono ?_); rintro e w2 ⟨rfl, c2⟩)
    go_ret2
    exact ⟨rfl, below_then HB.out HB.out.size c2⟩
  obtain ⟨hG, hU, hse⟩ := gens_of_term ht
  simp only [ht] at P1
  cases ha : inB a 1 10006
  · rw [termV_no2 ha]
    simp only [ha] at W1
    clear ha ht i1 i2 W2 hG hU hse
    go_enter Try.func53, Try.ntmps53
    go_wp2_with (first | (go_at_call 50; (with_reducible refine (P1 _ HB.out).mono ?_); rintro e w2 ⟨rfl, c2⟩) | (go_at_call 59; (with_reducible refine (W1 _).mono ?_); rintro e w' ⟨rfl, rfl⟩))
    go_ret2
    exact ⟨rfl, below_then HB.out HB.out.size c2⟩
  simp only [ha] at W1
  cases hbq : inB b 1 10006
  · rw [termV_no3 hbq]
    simp only [hbq] at W2
    clear hbq ha ht i1 i2 hG hU hse
    go_enter Try.func53, Try.ntmps53
    go_wp2_with (first | (go_at_call 50; (with_reducible refine (P1 _ HB.out).mono ?_); rintro e w2 ⟨rfl, c2⟩) | (go_at_call 59; (with_reducible refine (W1 _).mono ?_); rintro e w' ⟨rfl, rfl⟩) | (go_at_call 59; (with_reducible refine (W2 _).mono ?_); rintro e w' ⟨rfl, rfl⟩))
    go_ret2
    exact ⟨rfl, below_then HB.out HB.out.size c2⟩
  simp only [hbq] at W2
  have BA := inB_iff.1 ha
  have BB := inB_iff.1 hbq
  have lU := ptB_len hU
  have HV0 := Lib.hid (tv0_prog hse U a b)
  have u0 := allIn_at lU.2 0 (by omega)
  have u1 := allIn_at lU.2 1 (by omega)
  have PW1 := fun w => power_P a (U.getD 0 0) w BA.1 BA.2 u0.1 u0.2
  have PW2 := fun w => power_P b (U.getD 1 0) w BB.1 BB.2 u1.1 u1.2
  have pb1 := powP_bd a (U.getD 0 0)
  have pb2 := powP_bd b (U.getD 1 0)
  obtain ⟨bu, ou, cu, hvu, hbu, y0, y1⟩ := i1.two lU.1
  obtain ⟨n, hn⟩ : ∃ n, n = G.length := ⟨_, rfl⟩
  obtain ⟨ag, cg, hvg, hcg, hmg, hcell⟩ := id i2
  unfold maxLen at hmg
  rw [← hn] at hvg hcg
  have hlen : n ≤ 9223372036854775807 := by omega
  have HY := Lib.hid (And.intro y0 y1)
  have HN := Lib.hid hn
  have HC := Lib.hid hcell
  have HTB := Lib.hid ht
  have HA := Lib.hid ha
  have HBQ := Lib.hid hbq
  have HG := Lib.hid hG
  have HBA := Lib.hid BA
  have HBB := Lib.hid BB
  have hsg : 0 ≤ s + 10007 ∧ s + 10007 ≤ 10008 := by omega
  have sm := tm7 hsg.1
  have m1 := mul_lt7 sm pb1
  have sm2 := tm7 m1.1
  have m2 := mul_lt7 sm2 pb2
  have sm3 := tm7 m2.1
  clear hn hcell ht ha hbq hG BA BB hU hse lU i1 i2 y0 y1 u0 u1 hcg hmg
  generalize U.getD 0 0 = U0 at *
  generalize U.getD 1 0 = U1 at *
  generalize powP a U0 = p at *
  generalize powP b U1 = q at *
  subst hvu
  subst hvg
  go_enter Try.func53, Try.ntmps53
  go_wp2_with (first | (go_at_call 50; (with_reducible refine (P1 _ HB.out).mono ?_); rintro e w2 ⟨rfl, c2⟩) | (go_at_call 59; (with_reducible refine (W1 _).mono ?_); rintro e w' ⟨rfl, rfl⟩) | (go_at_call 59; (with_reducible refine (W2 _).mono ?_); rintro e w' ⟨rfl, rfl⟩))
  have B2 := Lib.hid (below_then HB.out HB.out.size c2)
  have X2 := Lib.hid (BX.out.keep c2)
  clear c2 P1 W1 W2 HB BX
  have x0 := X2.out.c0
  have x1 := X2.out.c1
  have y0 := (B2.out.cell (p := ⟨bu, ou, none⟩) (by exact Nat.lt_of_lt_of_le hbu hhb)).trans HY.out.1
  have y1 := (B2.out.cell (p := ⟨bu, ou + 1, none⟩) (by exact Nat.lt_of_lt_of_le hbu hhb)).trans HY.out.2
  have k1 := wr64 (s + 10007) (by omega)
  have k2 := wr64 ((s + 10007).tmod 10007) (by omega)
  have k3 := wr64 ((s + 10007).tmod 10007 * p) (by omega)
  have k4 := wr64 (((s + 10007).tmod 10007 * p).tmod 10007) (by omega)
  have k5 := wr64 (((s + 10007).tmod 10007 * p).tmod 10007 * q) (by omega)
  have k6 := wr64 ((((s + 10007).tmod 10007 * p).tmod 10007 * q).tmod 10007) (by omega)
  have hsg' := Lib.hid hsg
  have HPB := Lib.hid (And.intro pb1 pb2)
  clear hsg sm m1 sm2 m2 sm3 pb1 pb2
  go_quiet (first | (go_at_call 70; with_reducible exact quiet_eq (PW1 _)) | (go_at_call 70; with_reducible exact quiet_eq (PW2 _)))
  clear k1 k2 k3 k4 k5 k6 PW1 PW2 x0 x1 y0 y1
  have x2 := X2.out.c2
  go_wp2
  have HR0 := Lib.hid (tm7 (mul_lt7 (tm7 (mul_lt7 (tm7 hsg'.out.1) (HPB.out.1)).1) HPB.out.2).1)
  go_loopw [8, 10, 11, 48] (fun m _ _ i wr => ∃ (d k : Nat) (r : Int), k ≤ n ∧ i = .int .i64 k ∧ m = .int .i64 r ∧ 0 ≤ r ∧ r < 10007 ∧ Hid (r = tvK s U G a b k) ∧ Hid (∀ j, j < k → facI (G.getD j []) a b ≠ 0) ∧ Hid (wr = w2.drewN d)) (fun _ _ _ i _ => n - (intOf i).toNat)
  case atStart => exact ⟨nq, 0, _, by omega, rfl, rfl, HR0.out.1, HR0.out.2, HV0, fun j hj => absurd hj (Nat.not_lt_zero _), Lib.hid rfl⟩
  case round =>
    obtain ⟨d, k, r, hk, rfl, rfl, hr0, hr1, hr, hall, HW⟩ := hrel
    have HBW := Lib.hid (show Below w.heap.size w wr by rw [HW.out]; exact B2.out.trans (below_draws _ _ _))
    by_cases hlt : k < n
    · have hkl : k < G.length := by rw [← HN.out]; exact hlt
      obtain ⟨bg, og, V, rfl, hbb, hcc⟩ := HC.out (by intro e; rw [e] at hkl; exact absurd hkl (Nat.not_lt_zero _))
      have hck := (HBW.out.cell (p := ⟨bg, og + k, none⟩) (Nat.lt_of_lt_of_le hbb hhb)).trans (hcc k hkl).1
      have hrow := (hcc k hkl).2.keep HBW.out hhb
      obtain ⟨lg, sg, -, -⟩ := HG.out.at hkl
      have g0 := allIn_at sg 0 (by omega)
      have g1 := allIn_at sg 1 (by omega)
      obtain ⟨br, or', cr, hvr, -, z0, z1⟩ := hrow.two lg
      have HF := Lib.hid (facI_prog (G.getD k []) a b)
      have hfb := facI_bd (G.getD k []) a b
      have hno := fun (h : facI (G.getD k []) a b = 0) => termV_no4 (s := s) (U := U) hkl h
      have HNO := Lib.hid hno
      have PW1 := fun w => power_P a ((G.getD k []).getD 0 0) w HBA.out.1 HBA.out.2 (by omega) (by omega)
      have PW2 := fun w => power_P b ((G.getD k []).getD 1 0) w HBB.out.1 HBB.out.2 (by omega) (by omega)
      have pb1 := powP_bd a ((G.getD k []).getD 0 0)
      have pb2 := powP_bd b ((G.getD k []).getD 1 0)
      have HSTEP := Lib.hid (show ∀ f, f = facI (G.getD k []) a b → r * powP f (-1) % 10007 = tvK s U G a b (k + 1) by
        intro f hf; rw [tvK, ← hr.out, hf])
      have HALL := Lib.hid (show facI (G.getD k []) a b ≠ 0 → ∀ j, j < k + 1 → facI (G.getD j []) a b ≠ 0 by
        intro h j hj
        by_cases e : j = k
        · subst e; exact h
        · exact hall.out j (by omega))
      clear hcc hkl sg lg hrow hno hall hr
      generalize V k = xk at *
      subst hvr
      generalize facI (G.getD k []) a b = ff at *
      generalize (G.getD k []).getD 0 0 = g0' at *
      generalize (G.getD k []).getD 1 0 = g1' at *
      generalize powP a g0' = m1 at *
      generalize powP b g1' = m2 at *
      have mm := mul_lt7 pb1 pb2
      have mt := tm7 mm.1
      have k1 := wr64 (m1 * m2) (by omega)
      have k2 := wr64 ((m1 * m2).tmod 10007) (by omega)
      have k3 := wr64 (1 - (m1 * m2).tmod 10007) (by omega)
      have k4 := wr64 (1 - (m1 * m2).tmod 10007 + 10007) (by omega)
      have k5 := wr64 ((1 - (m1 * m2).tmod 10007 + 10007).tmod 10007) (by rw [HF.out]; omega)
      clear g0 g1 pb1 pb2 mm mt
      go_wp2
      go_quiet (first | (go_at_call 70; with_reducible exact quiet_eq (PW1 _)) | (go_at_call 70; with_reducible exact quiet_eq (PW2 _)))
      clear k1 k2 k3 k4 k5 PW1 PW2 z0 z1
      rw [HF.out]
      by_cases h0 : ff = 0
      · have HFIN := Lib.hid (HNO.out h0)
        subst h0
        go_wp2
        go_ret2
        exact ⟨ret_pts HFIN.out, HBW.out.trans (below_draws _ _ _)⟩
      · have hz : (ff == 0) = false := by simpa using h0
        have PW3 := fun w => power_P ff (-1) w (by omega) (by omega) (by omega) (by omega)
        have pb3 := powP_bd ff (-1)
        have HS := Lib.hid (HSTEP.out ff rfl)
        have HA2 := Lib.hid (HALL.out h0)
        clear HSTEP HALL HNO HF h0
        generalize powP ff (-1) = m3 at *
        have mm := mul_lt7 ⟨hr0, hr1⟩ pb3
        have HM := Lib.hid mm
        go_wp2_with (go_at_call 70; (with_reducible refine (PW3 _).mono ?_); rintro e w' ⟨rfl, rfl⟩)
        go_roundw
        case rel => exact ⟨d + nq, k + 1, _, by omega, by go_num, rfl, by omega, by omega, HS, HA2, Lib.hid (by rw [HW.out, World.drewN_drewN])⟩
        case measure => simp [intOf]; omega
    · obtain rfl : k = n := by omega
      have HFIN := Lib.hid (termV_yes HTB.out HA.out HBQ.out (fun j hj => hall.out j (by rw [HN.out]; exact hj)))
      go_wp2
      go_ret2
      exact ⟨ret_pts (HFIN.out.trans (by rw [← HN.out, hr.out])), HBW.out⟩
end Go.Proofs.Ytibninlggdpnkaa
