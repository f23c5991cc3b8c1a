/- ConeOfTurns: the model's walk. -/
import Derived.Test.YtibninlggdpnkaaTurn
namespace Go.Proofs.Ytibninlggdpnkaa
open Go.RowKit
set_option linter.unusedVariables false
set_option linter.unusedSimpArgs false

theorem allIn_of {l : List Int} {lo hi : Int} (h : ∀ k, k < l.length → inB (l.getD k 0) lo hi = true) : allIn l lo hi = true := by
  unfold allIn
  rw [List.all_eq_true]
  intro x hx
  obtain ⟨i, hi, rfl⟩ := List.mem_iff_getElem.1 hx
  have := h i hi
  rwa [List.getD_eq_getElem?_getD, List.getElem?_eq_getElem hi] at this
theorem turn_small {l : List Int} {j : Nat} (hj : j ≤ l.length) (hb : allIn (tnB l j) (-30) 30 = false) : turnOk l = false := by
  cases h : allIn l 2 30
  · unfold turnOk; rw [h]; simp
  · exact tn_big (fun k hk => (allIn_at h k hk).1) hj hb
theorem turn_bad {l : List Int} {j : Nat} (hj : j < l.length) (hb : inB (l.getD j 0) 2 30 = false) : turnOk l = false := by
  unfold turnOk; rw [allIn_false _ _ _ j hj hb]; simp

set_option maxHeartbeats 4000000 in
theorem specConeOfTurns_any (l : List Int) (v : Value) (hb : Nat) (w : World) (h : ISr w hb v l) (hhb : hb ≤ w.heap.size) :
    Calls Try.prog 42 #[v] w fun e w' => ∃ u1 u2, e = .returned (.tuple #[.agg #[u1, u2], .bool (turnV l).2]) ∧ ConeO w' w.heap.size w'.heap.size u1 u2 (turnV l).1.1 (turnV l).1.2 ∧ Below w.heap.size w w' := by
  have HB := Lib.hid (below1 w (.cells #[.slice none 0 0, .slice none 0 0] 47))
  have W1 := fun w => l1In_any l.length 1 10 w
  obtain ⟨a, cap, hv, -, -, hcell⟩ := id h
  cases h1 : inB l.length 1 10
  · have hr := turnV_no (l := l) (by unfold turnOk; rw [h1]; rfl)
    rw [hr]
    simp only [h1] at W1
    subst hv
    clear h1 hr hcell h
    generalize l.length = n at *
    go_enter Try.func42, Try.ntmps42
    go_wp2_with (go_at_call 57; (with_reducible refine (W1 _).mono ?_); rintro e w' ⟨rfl, rfl⟩)
    refine bodyPost_ret (v := .tuple #[.agg #[.slice none 0 0, .slice none 0 0], .bool false]) (by simp [results, Try.results42, go_sem]) rfl ⟨_, _, rfl, ConeO.nil _ _ _, HB.out⟩
  simp only [h1] at W1
  have hlen := inB_iff.1 h1
  have HL1 := Lib.hid h1
  obtain ⟨n, hn⟩ : ∃ n, n = l.length := ⟨_, rfl⟩
  rw [← hn] at hv hlen W1
  have hn10 : n ≤ 10 := by omega
  have HN := Lib.hid hn
  have HC := Lib.hid hcell
  have BX := Lib.hid (box2_new w (.slice none 0 0) (.slice none 0 0) 47)
  clear h1 h hcell hn hlen
  subst hv
  go_enter Try.func42, Try.ntmps42
  go_wp2_with (go_at_call 57; (with_reducible refine (W1 _).mono ?_); rintro e w' ⟨rfl, rfl⟩)
  clear W1
  obtain ⟨w1, hw1⟩ : ∃ w1, w1 = w.alloc (.cells #[.slice none 0 0, .slice none 0 0] 47) := ⟨_, rfl⟩
  rw [← hw1] at HB BX ⊢
  have hs1 : w1.heap.size = w.heap.size + 1 := by rw [hw1]; simp
  have HS1 := Lib.hid hs1
  have IA0 := Lib.hid ((IS.lit2 w1 w1.heap.size (Nat.le_refl _) 1 0).keep (below1 _ (.cells #[.int .i64 0, .int .i64 1] 3)) (by simp))
  have IB0 := Lib.hid (IS.lit2 (w1.alloc (.cells #[.int .i64 1, .int .i64 0] 3)) w1.heap.size (by simp) 0 1)
  have BB0 := Lib.hid (below2 w1 (.cells #[.int .i64 1, .int .i64 0] 3) (.cells #[.int .i64 0, .int .i64 1] 3))
  simp only [World.size_alloc] at IA0 IB0 ⊢
  rw [← hs1]
  clear hw1 hs1
  go_loopw [4, 5, 6, 7] (fun va vb i _ wr => ∃ k : Nat, k ≤ n ∧ i = .int .i64 k ∧ Hid (IS wr w1.heap.size wr.heap.size va [(tnK l k).1, (tnK l k).2.1]) ∧ Hid (IS wr w1.heap.size wr.heap.size vb (tnB l k)) ∧ Hid (Below w1.heap.size w1 wr) ∧ Hid (allIn [(tnK l k).1, (tnK l k).2.1] (-30) 30 = true) ∧ Hid (allIn (tnB l k) (-30) 30 = true) ∧ Hid (∀ j, j < k → inB (l.getD j 0) 2 30 = true)) (fun _ _ i _ _ => n - (intOf i).toNat)
  case atStart => exact ⟨0, by omega, rfl, Lib.hid (IA0.out.mono (Nat.le_refl _) (by simp)), Lib.hid (IB0.out.mono (Nat.le_refl _) (by simp)), BB0, Lib.hid (by simp [tnK, allIn, inB]), Lib.hid (by simp [tnB, tnK, allIn, inB]), fun j hj => absurd hj (Nat.not_lt_zero _)⟩
  case round =>
    obtain ⟨k, hk, rfl, hia, hib, hbe, hsa, hsb, hall⟩ := hrel
    have HBW := Lib.hid (HB.out.trans (hbe.out.mono (show w.heap.size ≤ w1.heap.size by rw [HS1.out]; omega)))
    have BXW := Lib.hid (BX.out.keep hbe.out)
    have q0 := BXW.out.c0
    have q1 := BXW.out.c1
    have f0 := BXW.out.f0
    have f1 := BXW.out.f1
    by_cases hlt : k < n
    · have hkl : k < l.length := by rw [← HN.out]; exact hlt
      obtain ⟨b, off, rfl, hbb, hcc⟩ := HC.out (by intro e; rw [e] at hkl; exact absurd hkl (Nat.not_lt_zero _))
      have hck := (HBW.out.cell (p := ⟨b, off + k, none⟩) (Nat.lt_of_lt_of_le hbb hhb)).trans (hcc k hkl)
      have HWH := Lib.hid (show w.heap.size ≤ wr.heap.size from HBW.out.size)
      have BADK := Lib.hid (fun (h : inB (l.getD k 0) 2 30 = false) => turnV_no (turn_bad hkl h))
      have HALL := Lib.hid (show inB (l.getD k 0) 2 30 = true → ∀ j, j < k + 1 → inB (l.getD j 0) 2 30 = true by
        intro h j hj
        by_cases e : j = k
        · subst e; exact h
        · exact hall.out j (by omega))
      have LI := fun w => l1In_any (l.getD k 0) 2 30 w
      have HNX := Lib.hid (show [l.getD k 0 * (tnK l k).2.2.1 - (tnK l k).1, l.getD k 0 * (tnK l k).2.2.2 - (tnK l k).2.1] = tnB l (k + 1) from rfl)
      have HPA := Lib.hid (show tnB l k = [(tnK l (k + 1)).1, (tnK l (k + 1)).2.1] from rfl)
      have SMALL := Lib.hid (fun (h : allIn (tnB l (k + 1)) (-30) 30 = false) => turnV_no (turn_small hkl h))
      clear hcc hkl hall
      generalize l.getD k 0 = m at *
      cases hm : inB m 2 30
      · have HT := Lib.hid (BADK.out hm)
        simp only [hm] at LI
        clear hm BADK HALL SMALL HNX
        go_wp2_with (go_at_call 57; (with_reducible refine (LI _).mono ?_); rintro e w' ⟨rfl, rfl⟩)
        refine bodyPost_ret (v := .tuple #[.agg #[.slice none 0 0, .slice none 0 0], .bool false]) (by simp [results, Try.results42, go_sem, q0, q1]) rfl ⟨.slice none 0 0, .slice none 0 0, by rw [HT.out], by rw [HT.out]; exact ConeO.nil _ _ _, ?_⟩
        first | exact HBW.out | exact (HBW.out.setCell (Nat.le_refl _) _).setCell (Nat.le_refl _) _
      simp only [hm] at LI
      have hmb := inB_iff.1 hm
      have HALL2 := Lib.hid (HALL.out hm)
      clear hm BADK HALL
      have ea := allIn_at hsa.out
      have eb := allIn_at hsb.out
      have ea0 := ea 0 (by simp)
      have ea1 := ea 1 (by simp)
      have eb0 := eb 0 (by simp [tnB])
      have eb1 := eb 1 (by simp [tnB])
      simp only [tnB, List.getD_cons_zero, List.getD_cons_succ] at ea0 ea1 eb0 eb1
      have pr := mul_bd6 (a := (tnK l k).2.2.1) (b := m) (by omega) (by omega) (by omega) (by omega)
      have pr1 := mul_bd6 (a := (tnK l k).2.2.2) (b := m) (by omega) (by omega) (by omega) (by omega)
      have SC := l2Scale_any (tnB l k) u5 m wr.heap.size wr hib.out.read (Nat.le_refl _) (by simp [tnB]) (fun j hj => by
        have hj : j < 2 := hj
        unfold tnB
        rcases (show j = 0 ∨ j = 1 by omega) with rfl | rfl
        · simp only [List.getD_cons_zero]; omega
        · simp only [List.getD_cons_succ, List.getD_cons_zero]; omega)
      have HPR := Lib.hid (show (tnB l k).map (· * m) = [(tnK l k).2.2.1 * m, (tnK l k).2.2.2 * m] from rfl)
      rw [HPR.out] at SC
      have IAr := Lib.hid hia.out
      have ZS := Lib.hid (show List.zipWith (· - ·) [(tnK l k).2.2.1 * m, (tnK l k).2.2.2 * m] [(tnK l k).1, (tnK l k).2.1] = tnB l (k + 1) by rw [← HNX.out]; simp only [List.zipWith]; rw [Int.mul_comm m, Int.mul_comm m])
      have LS := fun W u (c : Below wr.heap.size wr W) (hu : IS W wr.heap.size W.heap.size u [(tnK l k).2.2.1 * m, (tnK l k).2.2.2 * m]) => l2Less_any _ _ u u4 W.heap.size W hu.read ((IAr.out.keep c (Nat.le_refl _)).read.upto c.size) (Nat.le_refl _) (by simp) (by simp) (fun j hj => by
        have hj : j < 2 := hj
        rcases (show j = 0 ∨ j = 1 by omega) with rfl | rfl
        · simp only [List.getD_cons_zero]; omega
        · simp only [List.getD_cons_succ, List.getD_cons_zero]; omega)
      simp only [ZS.out] at LS
      clear ea eb ea0 ea1 eb0 eb1 pr pr1 hmb hia hsa
      have SM := fun W u (hu : ISr W W.heap.size u (tnB l (k + 1))) => l2Small_any (tnB l (k + 1)) u 30 W.heap.size W hu (by omega) (by omega)
      cases hsm : allIn (tnB l (k + 1)) (-30) 30
      all_goals
        simp only [hsm] at SM
        have HSM := Lib.hid hsm
        clear hsm
        go_wp2_with (first | (go_at_call 57; (with_reducible refine (LI _).mono ?_); rintro e w' ⟨rfl, rfl⟩) | (go_at_call 76; (with_reducible refine SC.mono ?_); rintro e w2 ⟨u2, rfl, k2, c2⟩; have K2 := Lib.hid k2; clear k2) | (go_at_call 75; (with_reducible refine (LS _ _ c2 K2.out).mono ?_); rintro e w3 ⟨u3, rfl, k3, c3⟩; have K3 := Lib.hid k3; clear k3; have X3 := (BXW.out.keep c2).keep c3; have r0 := X3.c0; have r1 := X3.c1; have r2 := X3.f0; have r3 := X3.f1) | (go_at_call 77; (with_reducible refine (SM _ _ K3.out.read).mono ?_); rintro e w' ⟨rfl, d, rfl⟩))
      · have HT := Lib.hid (SMALL.out HSM.out)
        have B3 := below_then (below_then HBW.out HBW.out.size c2) (Nat.le_trans HBW.out.size c2.size) c3
        refine bodyPost_ret (v := .tuple #[.agg #[.slice none 0 0, .slice none 0 0], .bool false]) (by simp [results, Try.results42, go_sem, r0, r1]) rfl ⟨.slice none 0 0, .slice none 0 0, by rw [HT.out], by rw [HT.out]; exact ConeO.nil _ _ _, ?_⟩
        first | exact B3.trans (below_draws _ _ _) | exact ((B3.trans (below_draws _ _ _)).setCell (Nat.le_refl _) _).setCell (Nat.le_refl _) _ | exact ((B3.setCell (Nat.le_refl _) _).setCell (Nat.le_refl _) _).trans (below_draws _ _ _)
      · have B3 := (hbe.out.trans (c2.mono hbe.out.size)).trans (c3.mono (Nat.le_trans hbe.out.size c2.size))
        have HKB := Lib.hid ((hib.out.keep c2 (Nat.le_refl _)).keep c3 c2.size)
        go_roundw
        case rel => exact ⟨k + 1, by omega, by go_num, Lib.hid (by rw [← HPA.out]; exact (HKB.out.mono (Nat.le_refl _) (Nat.le_trans c2.size c3.size)).draws d), Lib.hid ((K3.out.mono (Nat.le_trans hbe.out.size c2.size) (Nat.le_refl _)).draws d), Lib.hid (B3.trans (below_draws _ _ _)), Lib.hid (by rw [← HPA.out]; exact hsb.out), HSM, HALL2⟩
        case measure => simp [intOf]; omega
    · obtain rfl : k = n := by omega
      have HOK := Lib.hid (show turnOk l = coneB [1, 0] (tnB l k) by
        unfold turnOk; rw [HL1.out, allIn_of (fun j hj => hall.out j (by rw [HN.out]; exact hj)), HN.out]; rfl)
      obtain ⟨bb, ob, cb, rfl, -, lb, b0, b1⟩ := (show IS wr w1.heap.size wr.heap.size u5 [(tnK l k).2.2.1, (tnK l k).2.2.2] from hib.out).at2
      have IU := IS.lit2 wr w1.heap.size hbe.out.size 1 0
      have cA := below1 wr (.cells #[.int .i64 1, .int .i64 0] 3)
      have cB := below1 (wr.alloc (.cells #[.int .i64 1, .int .i64 0] 3)) (.cells #[.slice (some ⟨wr.heap.size, 0, none⟩) 2 2, .slice (some ⟨bb, ob, none⟩) 2 cb] 47)
      have IU5 := Lib.hid (IU.keep cB (by simp))
      have IV5 := Lib.hid ((hib.out.keep cA (Nat.le_refl _)).keep cB (by simp))
      have B5 := Lib.hid ((hbe.out.trans (cA.mono hbe.out.size)).trans (cB.mono (by simp; exact Nat.le_trans hbe.out.size (by omega))))
      have X5 := Lib.hid ((BXW.out.keep cA).keep cB)
      have Y5 := Lib.hid (box2_new (wr.alloc (.cells #[.int .i64 1, .int .i64 0] 3)) (.slice (some ⟨wr.heap.size, 0, none⟩) 2 2) (.slice (some ⟨bb, ob, none⟩) 2 cb) 47)
      have hz5 : ((wr.alloc (.cells #[.int .i64 1, .int .i64 0] 3)).alloc (.cells #[.slice (some ⟨wr.heap.size, 0, none⟩) 2 2, .slice (some ⟨bb, ob, none⟩) 2 cb] 47)).heap.size = wr.heap.size + 2 := by simp
      have HZ5 := Lib.hid hz5
      have HW0 := Lib.hid hbe.out.size
      clear b0 b1 IU cA cB BXW q0 q1 f0 f1 hz5 IA0 IB0 BB0 hia hbe hib hsa hsb hall HBW
      go_wp2_with fail
      simp only [World.size_alloc] at Y5
      generalize (wr.alloc (.cells #[.int .i64 1, .int .i64 0] 3)).alloc (.cells #[.slice (some ⟨wr.heap.size, 0, none⟩) 2 2, .slice (some ⟨bb, ob, none⟩) 2 cb] 47) = w5 at *
      have C := specIsCone_any [1, 0] (tnB l k) (.slice (some ⟨wr.heap.size, 0, none⟩) 2 2) (.slice (some ⟨bb, ob, none⟩) 2 cb) w5.heap.size w5 (IU5.out.read.upto (by rw [HZ5.out]; omega)) (IV5.out.read.upto (by rw [HZ5.out]; omega)) (Nat.le_refl _)
      cases hc : coneB [1, 0] (tnB l k)
      all_goals
        rw [hc] at C
        refine C.mono ?_
        rintro e w6 ⟨rfl, c6⟩
        have X6 := X5.out.keep c6
        have Y6 := Y5.out.keep c6
        have q0 := X6.c0
        have q1 := X6.c1
        have f0 := X6.f0
        have f1 := X6.f1
        have y0 := Y6.c0
        have y1 := Y6.c1
        have B6 := Lib.hid (HB.out.trans ((below_then B5.out B5.out.size c6).mono (by rw [HS1.out]; omega)))
        have IU6 := Lib.hid (IU5.out.keep c6 (by rw [HZ5.out]; omega))
        have IV6 := Lib.hid (IV5.out.keep c6 (by rw [HZ5.out]; omega))
        have Z6 := Lib.hid c6.size
        clear c6 C X6 Y6
      · have HT := Lib.hid (turnV_no (HOK.out.trans hc))
        go_wp2
        refine bodyPost_ret (v := .tuple #[.agg #[.slice none 0 0, .slice none 0 0], .bool false]) (by simp [results, Try.results42, go_sem, q0, q1]) rfl ⟨.slice none 0 0, .slice none 0 0, by rw [HT.out], by rw [HT.out]; exact ConeO.nil _ _ _, ?_⟩
        first | exact B6.out | exact (B6.out.setCell (Nat.le_refl _) _).setCell (Nat.le_refl _) _
      · have HT := Lib.hid ((turnV_yes (HOK.out.trans hc)).trans (by rw [← HN.out]))
        go_wp2
        refine bodyPost_ret (v := .tuple #[.agg #[.slice (some ⟨wr.heap.size, 0, none⟩) 2 2, .slice (some ⟨bb, ob, none⟩) 2 cb], .bool true]) (by simp [results, Try.results42, go_sem, q0, q1]) rfl ⟨_, _, by rw [HT.out], ?_, ?_⟩
        · rw [HT.out]
          have h1 := HS1.out
          have h2 := HZ5.out
          have h3 := Z6.out
          have h4 := HW0.out
          refine ⟨(((IU6.out.setOther (a := ⟨w.heap.size, 0, none⟩) (.inl (by dsimp only; omega)) _).setOther (a := ⟨w.heap.size, 1, none⟩) (.inl (by dsimp only; omega)) _).mono (by omega) (by simp; omega)), (((IV6.out.setOther (a := ⟨w.heap.size, 0, none⟩) (.inl (by dsimp only; omega)) _).setOther (a := ⟨w.heap.size, 1, none⟩) (.inl (by dsimp only; omega)) _).mono (by omega) (by simp; omega)), .inr ?_⟩
          rw [blkOf_some _ _ _ _ (by omega), blkOf_some _ _ _ _ (by omega)]
          intro e; injection e with e; omega
        · exact (B6.out.setCell (Nat.le_refl _) _).setCell (Nat.le_refl _) _
end Go.Proofs.Ytibninlggdpnkaa
