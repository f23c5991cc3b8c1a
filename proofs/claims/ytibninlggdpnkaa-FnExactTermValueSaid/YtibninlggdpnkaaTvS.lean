/- TermValue: the model's walk. -/
import Derived.Test.YtibninlggdpnkaaTv
import Derived.Test.YtibninlggdpnkaaTermS
import Derived.Test.YtibninlggdpnkaaPtsS
namespace Go.Proofs.Ytibninlggdpnkaa
open Go.RowKit
set_option linter.unusedVariables false
set_option linter.unusedSimpArgs false

set_option maxHeartbeats 400000 in
theorem l11Power_P (f : Int) (w : World) (h1 : 1 ≤ f) (h2 : f ≤ 10006) :
    Calls Try.prog 81 #[.int .i64 f, .int .i64 10005] w fun e w' => e = .returned (.int .i64 (powP f (-1))) ∧ w = w' := by
  obtain ⟨A, rfl⟩ : ∃ A : Nat, f = A := ⟨f.toNat, by omega⟩
  have hv : powP (A : Int) (-1) = (pmN A 10005 : Int) := by
    unfold powP
    rw [if_pos]
    · simp
    · rw [inB_iff.2 ⟨by omega, by omega⟩]; rfl
  rw [hv]
  exact l11Power_inv A w (by omega)

set_option maxHeartbeats 4000000 in
theorem specTermValue_any (s : Int) (U : List Int) (G : List (List Int)) (v1 v2 : Value) (a b : Int) (hb : Nat) (w : World) (hs : -9223372036854775808 ≤ s ∧ s ≤ 9223372036854775807) (i1 : ISr w hb v1 U) (i2 : ISSr w hb v2 G) (hhb : hb ≤ w.heap.size) :
    Calls Try.prog 52 #[.agg #[.int .i64 s, v1, v2], .int .i64 a, .int .i64 b] w fun e w' => e = .returned (.tuple #[.int .i64 (termV s U G a b).1, .bool (termV s U G a b).2]) ∧ Below w.heap.size w w' := by
  have b1 := below1 w (.cells #[.int .i64 s, v1, v2] 61)
  have bx := box3_new w (.int .i64 s) v1 v2 61
  have P1 := fun W (B : Below w.heap.size w W) => specIsTerm_any s U G v1 v2 hb W hs (i1.keep B hhb) (i2.keep B hhb) (Nat.le_trans hhb B.size)
  have F1 := fun w => l11Fine_any a b w
  have HB := Lib.hid b1
  have BX := Lib.hid bx
  clear b1 bx
  cases ht : termB s U G
  · rw [termV_no1 ht]
    simp only [ht] at P1
    clear ht i1 i2 F1
    go_enter Try.func52, Try.ntmps52
    go_wp2_with (go_at_call 48; (with_reducible refine (P1 _ HB.out).mono ?_); rintro e w2 ⟨rfl, c2⟩)
    go_ret2
    exact ⟨rfl, below_then HB.out HB.out.size c2⟩
  obtain ⟨hG, hU, hse⟩ := gens_of_term ht
  simp only [ht] at P1
  cases hf : (inB a 1 10006 && inB b 1 10006)
  · have hr : termV s U G a b = (0, false) := by
      rcases Bool.and_eq_false_iff.1 hf with h | h
      · exact termV_no2 h
      · exact termV_no3 h
    rw [hr]
    simp only [hf] at F1
    clear hf ht i1 i2 hG hU hse hr
    go_enter Try.func52, Try.ntmps52
    go_wp2_with (first | (go_at_call 48; (with_reducible refine (P1 _ HB.out).mono ?_); rintro e w2 ⟨rfl, c2⟩) | (go_at_call 66; (with_reducible refine (F1 _).mono ?_); rintro e w' ⟨rfl, rfl⟩))
    go_ret2
    exact ⟨rfl, below_then HB.out HB.out.size c2⟩
  simp only [hf] at F1
  obtain ⟨ha, hbq⟩ : inB a 1 10006 = true ∧ inB b 1 10006 = true := by simpa using hf
  have lU := ptB_len hU
  have M1 := fun W (B : Below w.heap.size w W) => l11Monomial_any U v1 a b hb W (i1.keep B hhb) lU.1
  obtain ⟨n, hn⟩ : ∃ n, n = G.length := ⟨_, rfl⟩
  obtain ⟨ag, cg, hvg, hcg, hmg, hcell⟩ := id i2
  unfold maxLen at hmg
  rw [← hn] at hvg hcg
  have hlen : n ≤ 9223372036854775807 := by omega
  have HN := Lib.hid hn
  have HC := Lib.hid hcell
  have HTB := Lib.hid ht
  have HA := Lib.hid ha
  have HBQ := Lib.hid hbq
  have HG := Lib.hid hG
  have mb : 0 ≤ monI U a b % 10007 ∧ monI U a b % 10007 < 10007 := by omega
  have HT0 := Lib.hid (show tv0 s U a b = if s < 0 then (10007 - monI U a b % 10007) % 10007 else monI U a b % 10007 from rfl)
  clear hn hcell ht ha hbq hG hf hU lU i1 i2 hcg hmg
  generalize monI U a b % 10007 = mU at *
  subst hvg
  have HSE := Lib.hid hse
  have L0 : ∃ r0 : Int, (0 ≤ r0 ∧ r0 < 10007) ∧ r0 = tv0 s U a b := ⟨_, (tvK_bd s U G a b 0), rfl⟩
  clear hse
  by_cases hneg : s < 0
  case' pos => have hdec : decide (s < 0) = true := by simpa using hneg
  case' neg => have hdec : decide (s < 0) = false := by simpa using hneg
  all_goals
    go_enter Try.func52, Try.ntmps52
    go_wp2_with (first | (go_at_call 48; (with_reducible refine (P1 _ HB.out).mono ?_); rintro e w2 ⟨rfl, c2⟩; have B2 := Lib.hid (below_then HB.out HB.out.size c2); have X2 := Lib.hid (BX.out.keep c2); have x0 := X2.out.c0; have x1 := X2.out.c1) | (go_at_call 66; (with_reducible refine (F1 _).mono ?_); rintro e w' ⟨rfl, rfl⟩))
    clear c2 P1 F1 HB BX
    refine (M1 w2 B2.out).mono ?_
    rintro e w' ⟨rfl, dm, rfl⟩
    clear M1
    go_wp2
    clear x0 x1
    have hib : 0 ≤ (10007 - mU) % 10007 ∧ (10007 - mU) % 10007 < 10007 := by omega
    generalize (10007 - mU) % 10007 = ini at *
    go_loopw [8, 9, 10] (fun m i _ wr => ∃ (d k : Nat) (r : Int), k ≤ n ∧ i = .int .i64 k ∧ m = .int .i64 r ∧ 0 ≤ r ∧ r < 10007 ∧ Hid (r = tvK s U G a b k) ∧ Hid (∀ j, j < k → facI (G.getD j []) a b ≠ 0) ∧ Hid (wr = w2.drewN d)) (fun _ i _ _ => n - (intOf i).toNat)
    case atStart =>
      refine ⟨dm, 0, _, by omega, rfl, rfl, ?_, ?_, Lib.hid (show _ = tv0 s U a b from ?_), fun j hj => absurd hj (Nat.not_lt_zero _), Lib.hid rfl⟩
      case refine_3 => rw [HT0.out]; first | (rw [if_pos (by omega)]; done) | (rw [if_neg (by omega)]; done) | (rw [if_pos (by omega)]; rfl) | (rw [if_neg (by omega)]; rfl)
      all_goals omega
    case round =>
      obtain ⟨d, k, r, hk, rfl, rfl, hr0, hr1, hr, hall, HW⟩ := hrel
      have HBW := Lib.hid (show Below w.heap.size w wr by rw [HW.out]; exact B2.out.trans (below_draws _ _ _))
      have XW := Lib.hid (X2.out.keep (show Below w2.heap.size w2 wr by rw [HW.out]; exact below_draws _ _ _))
      have x2 := XW.out.c2
      by_cases hlt : k < n
      · have hkl : k < G.length := by rw [← HN.out]; exact hlt
        obtain ⟨bg, og, V, rfl, hbb, hcc⟩ := HC.out (by intro e; rw [e] at hkl; exact absurd hkl (Nat.not_lt_zero _))
        have hck := (HBW.out.cell (p := ⟨bg, og + k, none⟩) (Nat.lt_of_lt_of_le hbb hhb)).trans (hcc k hkl).1
        have hrow := (hcc k hkl).2.keep HBW.out hhb
        obtain ⟨lg, -, -, -⟩ := HG.out.at hkl
        have M2 := l11Monomial_any (G.getD k []) (V k) a b hb wr hrow lg
        have HF := Lib.hid (show (10008 - monI (G.getD k []) a b % 10007) % 10007 = facI (G.getD k []) a b from rfl)
        have hfb := facI_bd (G.getD k []) a b
        have HNO := Lib.hid (fun (h : facI (G.getD k []) a b = 0) => termV_no4 (s := s) (U := U) hkl h)
        have mb2 : 0 ≤ monI (G.getD k []) a b % 10007 ∧ monI (G.getD k []) a b % 10007 < 10007 := by omega
        have HSTEP := Lib.hid (show ∀ f, f = facI (G.getD k []) a b → r * powP f (-1) % 10007 = tvK s U G a b (k + 1) by
          intro f hf; rw [tvK, ← hr.out, hf])
        have HALL := Lib.hid (show facI (G.getD k []) a b ≠ 0 → ∀ j, j < k + 1 → facI (G.getD j []) a b ≠ 0 by
          intro h j hj
          by_cases e : j = k
          · subst e; exact h
          · exact hall.out j (by omega))
        clear hcc hkl lg hrow hall hr
        generalize V k = xk at *
        generalize monI (G.getD k []) a b % 10007 = mm at *
        by_cases h0 : facI (G.getD k []) a b = 0
        · have HFIN := Lib.hid (HNO.out h0)
          have hz : ((10008 - mm) % 10007 == 0) = true := by rw [HF.out, h0]; rfl
          clear HSTEP HALL HNO HF h0 hfb
          go_wp2_with (go_at_call 68; (with_reducible refine M2.mono ?_); rintro e w' ⟨rfl, d2, rfl⟩)
          go_ret2
          exact ⟨ret_pts HFIN.out, HBW.out.trans (below_draws _ _ _)⟩
        · have HA2 := Lib.hid (HALL.out h0)
          have PW3 := fun w => l11Power_P (facI (G.getD k []) a b) w (by omega) (by omega)
          have hz : (facI (G.getD k []) a b == 0) = false := by simpa using h0
          have pb3 := powP_bd (facI (G.getD k []) a b) (-1)
          have HS := Lib.hid (HSTEP.out _ rfl)
          rw [← HF.out] at PW3 hz pb3 HS
          clear HSTEP HALL HNO HF h0 hfb
          generalize powP ((10008 - mm) % 10007) (-1) = m3 at *
          have mmb := mul_lt7 ⟨hr0, hr1⟩ pb3
          go_wp2_with (first | (go_at_call 68; (with_reducible refine M2.mono ?_); rintro e w' ⟨rfl, d2, rfl⟩) | (go_at_call 81; (with_reducible refine (PW3 _).mono ?_); rintro e w' ⟨rfl, rfl⟩))
          go_roundw
          case rel => first | exact ⟨d + d2, k + 1, _, by omega, by go_num, rfl, by omega, by omega, HS, HA2, Lib.hid (by rw [HW.out, World.drewN_drewN])⟩ | ((repeat apply Exists.intro); exact ⟨⟨d + d2, k + 1, _, by omega, by go_num, rfl, by omega, by omega, HS, HA2, Lib.hid (by rw [HW.out, World.drewN_drewN])⟩, rfl⟩)
          case measure => simp [intOf]; omega
      · obtain rfl : k = n := by omega
        have HFIN := Lib.hid (termV_yes HTB.out HA.out HBQ.out (fun j hj => hall.out j (by rw [HN.out]; exact hj)))
        go_wp2
        go_ret2
        exact ⟨ret_pts (HFIN.out.trans (by rw [← HN.out, hr.out])), HBW.out⟩
end Go.Proofs.Ytibninlggdpnkaa
