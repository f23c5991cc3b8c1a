/- Terms: IsTerm of the model. -/
import Derived.Test.YtibninlggdpnkaaTerm
namespace Go.Proofs.Ytibninlggdpnkaa
open Go.RowKit
set_option linter.unusedVariables false
set_option linter.unusedSimpArgs false

theorem vec_pt (U : List Int) : (vecB U && decide (U.length = 2)) = ptB U 1000 := by
  unfold vecB ptB
  by_cases h : U.length = 2
  · rw [h, decide_eq_true rfl]; simp [inB]
  · rw [decide_eq_false h]; simp

theorem vec_pt30 {g : List Int} (h : g.length = 2) : ptB g 30 = allIn g (-30) 30 := by unfold ptB; rw [decide_eq_true h]; rfl
set_option maxHeartbeats 2000000 in
theorem specIsTerm_any (s : Int) (U : List Int) (G : List (List Int)) (v1 v2 : Value) (hb : Nat) (w : World) (hs : -9223372036854775808 ≤ s ∧ s ≤ 9223372036854775807) (i1 : ISr w hb v1 U) (i2 : ISSr w hb v2 G) (hhb : hb ≤ w.heap.size) :
    Calls Try.prog 48 #[.agg #[.int .i64 s, v1, v2]] w fun e w' => e = .returned (.bool (termB s U G)) ∧ Below w.heap.size w w' := by
  have B0 := below1 w (.cells #[.int .i64 s, v1, v2] 61)
  have bx := box3_new w (.int .i64 s) v1 v2 61
  obtain ⟨n, hn⟩ : ∃ n, n = G.length := ⟨_, rfl⟩
  obtain ⟨au, cu, hvu, -, hcu, -⟩ := id i1
  obtain ⟨a, cap, hv2, hc2, hcm, hcell⟩ := id i2
  unfold maxLen at hcm hcu
  subst hvu
  subst hv2
  rw [← hn] at B0 bx hc2 ⊢
  have hlen : n ≤ 9223372036854775807 := by omega
  have HN := Lib.hid hn
  have HC := Lib.hid hcell
  have HI1 := Lib.hid i1
  have HB0 := Lib.hid B0
  have BX := Lib.hid bx
  clear hn hcell i1 i2 B0 bx hcm hcu hc2
  go_enter Try.func48, Try.ntmps48
  go_wp2
  generalize w.alloc (.cells #[.int .i64 s, .slice au U.length cu, .slice a n cap] 61) = w1 at *
  go_loopw [3] (fun i wr => ∃ (d k : Nat), k ≤ n ∧ i = .int .i64 k ∧ Hid (wr = w1.drewN d) ∧ Hid (∀ j, j < k → genB (G.getD j []) = true)) (fun i _ => n - (intOf i).toNat)
  case atStart => exact ⟨0, 0, by omega, rfl, Lib.hid rfl, fun j hj => absurd hj (Nat.not_lt_zero _)⟩
  case round =>
    obtain ⟨d, k, hk, rfl, HW, hall⟩ := hrel
    have HBW := Lib.hid (show Below w.heap.size w wr by rw [HW.out]; exact HB0.out.trans (below_draws _ _ _))
    have BXW := Lib.hid (BX.out.keep (show Below w1.heap.size w1 wr by rw [HW.out]; exact below_draws _ _ _))
    have x2 := BXW.out.c2
    by_cases hlt : k < n
    · have hkl : k < G.length := by rw [← HN.out]; exact hlt
      obtain ⟨b, off, V, rfl, hbb, hcc⟩ := HC.out (by intro e; rw [e] at hkl; exact absurd hkl (Nat.not_lt_zero _))
      have hck := (HBW.out.cell (p := ⟨b, off + k, none⟩) (Nat.lt_of_lt_of_le hbb hhb)).trans (hcc k hkl).1
      have hrow := (hcc k hkl).2.keep HBW.out hhb
      have Q := l2Small_any _ _ 30 hb wr hrow (by omega) (by omega)
      have hgp := fun (h2 : (G.getD k []).length = 2) => vec_pt30 h2
      have hno := termB_no (s := s) (U := U) hkl
      obtain ⟨ar, cr, hvr, -⟩ := id hrow
      clear hcc hkl
      generalize hgg : G.getD k [] = g at *
      generalize V k = xk at *
      by_cases h2 : g.length = 2
      case neg =>
        have HR := Lib.hid (hno (by simp [genB, ptB, h2]))
        have hne : ((g.length : Int) != 2) = true := by rw [bne_iff_ne]; omega
        clear hno h2 hgp hrow Q hgg
        subst hvr
        generalize g.length = m at *
        go_wp2
        go_ret
        exact ⟨ret_bool HR.out.symm, HBW.out⟩
      have hgp := hgp h2
      rw [h2] at hvr
      cases h3 : allIn g (-30) 30
      · have HR := Lib.hid (hno (by simp [genB, hgp, h3]))
        rw [h3] at Q
        clear hno h2 hgp hrow hgg h3
        subst hvr
        go_wp2_with (go_at_call 77; (with_reducible refine Q.mono ?_); rintro e w' ⟨rfl, d2, rfl⟩)
        go_ret
        exact ⟨ret_bool HR.out.symm, HBW.out.trans (below_draws _ _ _)⟩
      · have bd := ptB_bd (hgp.trans h3) (by omega)
        have A := fun d2 => l2All_any _ _ hb (wr.drewN d2) (hrow.draws d2) 1000000000 (by omega) bd.2.2
        rw [h3] at Q
        by_cases h4 : gcdL g = 0
        · have HR := Lib.hid (hno (by simp only [genB, h4]; simp))
          have hz : (gcdL g == 0) = true := by simpa using h4
          clear hno h2 hgp hrow hgg h3 h4 bd
          subst hvr
          generalize gcdL g = gg at *
          go_wp2_with (first | (go_at_call 77; (with_reducible refine Q.mono ?_); rintro e w' ⟨rfl, d2, rfl⟩) | (go_at_call 62; (with_reducible refine (A _).mono ?_); rintro e w' ⟨rfl, rfl⟩))
          go_ret
          exact ⟨ret_bool HR.out.symm, HBW.out.trans (below_draws _ _ _)⟩
        · have hz : (gcdL g == 0) = false := by simpa using h4
          have HALL := Lib.hid (fun j (hj : j < k + 1) => show genB (G.getD j []) = true by
            by_cases e : j = k
            · subst e; rw [hgg]; simp only [genB, hgp, h3, Bool.true_and]; exact decide_eq_true h4
            · exact hall.out j (by omega))
          clear hno h2 hgp hrow hgg h3 h4 bd
          subst hvr
          generalize gcdL g = gg at *
          go_wp2_with (first | (go_at_call 77; (with_reducible refine Q.mono ?_); rintro e w' ⟨rfl, d2, rfl⟩) | (go_at_call 62; (with_reducible refine (A _).mono ?_); rintro e w' ⟨rfl, rfl⟩))
          go_roundw
          case rel => exact ⟨d + d2, k + 1, by omega, by go_num, Lib.hid (by rw [HW.out, World.drewN_drewN]), HALL⟩
          case measure => simp [intOf]; omega
    · obtain rfl : k = n := by omega
      have x0 := BXW.out.c0
      have x1 := BXW.out.c1
      have HG := Lib.hid (all_getD (p := genB) (fun j hj => hall.out j (by rw [HN.out]; exact hj)))
      have HI := Lib.hid (HI1.out.keep HBW.out hhb)
      have IV := fun d2 => specIsVector_any U (.slice au U.length cu) hb (wr.drewN d2) (HI.out.draws d2)
      by_cases h2 : k = 2
      · subst h2
        obtain ⟨b, off, V, rfl, hbb, hcc⟩ := HC.out (by intro e; have := HN.out; rw [e] at this; cases this)
        have c0 := (HBW.out.cell (p := ⟨b, off, none⟩) (Nat.lt_of_lt_of_le hbb hhb)).trans (hcc 0 (by rw [← HN.out]; omega)).1
        have c1 := (HBW.out.cell (p := ⟨b, off + 1, none⟩) (Nat.lt_of_lt_of_le hbb hhb)).trans (hcc 1 (by rw [← HN.out]; omega)).1
        have r0 := (hcc 0 (by rw [← HN.out]; omega)).2.keep HBW.out hhb
        have r1 := (hcc 1 (by rw [← HN.out]; omega)).2.keep HBW.out hhb
        have p0 := hall.out 0 (by omega)
        have p1 := hall.out 1 (by omega)
        simp only [genB, Bool.and_eq_true] at p0 p1
        have b0 := ptB_bd p0.1 (by omega)
        have b1 := ptB_bd p1.1 (by omega)
        have X := fun n => l7Cross_any _ _ _ _ hb hb (wr.drewN n) (r0.draws n) (r1.draws n) b0.1 b1.1 b0.2.1 b1.2.1
        have HRR := Lib.hid (show termB s U G = (decide (s = 1 ∨ s = -1) && (vecB U && decide (U.length = 2)) && (crossI (G.getD 0 []) (G.getD 1 []) != 0)) by
          unfold termB; rw [HG.out, ← HN.out, vec_pt, Bool.eq_iff_iff]; simp)
        clear p0 p1 b0 b1 r0 r1 hcc
        generalize crossI (G.getD 0 []) (G.getD 1 []) = cc at *
        generalize V 0 = y0 at *
        generalize V 1 = y1 at *
        by_cases hc : cc = 0
        · subst hc
          go_wp2
          go_quiet ((go_at_call 72; exact Calls.quiet_of (X _)))
          go_wp2
          go_ret
          exact ⟨ret_bool (by rw [HRR.out]; simp), HBW.out.trans (below_draws _ _ _)⟩
        · have hz : (cc == 0) = false := by simpa using hc
          have hc' : (cc != 0) = true := by simpa using hc
          rw [hc'] at HRR
          clear hc hc'
          generalize vecB U = vu at *
          generalize U.length = lu at *
          go_wp2
          go_quiet ((go_at_call 72; exact Calls.quiet_of (X _)))
          go_wp2_with (go_at_call 67; (with_reducible refine (IV _).mono ?_); rintro e w' ⟨rfl, d2, rfl⟩)
          all_goals go_ret
          all_goals refine ⟨ret_bool ?_, HBW.out.trans (below_draws _ _ _)⟩
          all_goals rw [HRR.out]
          all_goals clear HRR X IV HC
          all_goals first | (simp [*]; done) | (simp [*]; omega)
      · have HRR := Lib.hid (show termB s U G = (decide (s = 1 ∨ s = -1) && (vecB U && decide (U.length = 2)) && decide (k ≤ 2)) by
          unfold termB; rw [HG.out, ← HN.out, vec_pt, Bool.eq_iff_iff]; simp [h2])
        have h2' : ((k : Int) == 2) = false := by rw [beq_eq_false_iff_ne]; omega
        clear HC h2
        generalize vecB U = vu at *
        generalize U.length = lu at *
        go_wp2
        go_quiet (fail)
        go_wp2_with (go_at_call 67; (with_reducible refine (IV _).mono ?_); rintro e w' ⟨rfl, d2, rfl⟩)
        all_goals go_ret
        all_goals refine ⟨ret_bool ?_, HBW.out.trans (below_draws _ _ _)⟩
        all_goals rw [HRR.out]
        all_goals clear HRR IV
        all_goals first | (simp [*]; done) | (rw [Bool.eq_iff_iff]; simp [*]; omega)
end Go.Proofs.Ytibninlggdpnkaa
