/- ConeOfTurns: the program's walk. -/
import Derived.Test.YtibninlggdpnkaaTurnM
import Derived.Test.YtibninlggdpnkaaVec2
import Derived.Test.YtibninlggdpnkaaMkC
namespace Go.Proofs.Ytibninlggdpnkaa
open Go.RowKit
set_option linter.unusedVariables false
set_option linter.unusedSimpArgs false

/-- the answer: a cone and whether there is one -/
def turnV (l : List Int) : (List Int × List Int) × Bool := if turnOk l then (([1, 0], tnB l l.length), true) else (([], []), false)
theorem turnV_no {l : List Int} (h : turnOk l = false) : turnV l = (([], []), false) := by unfold turnV; rw [h]; rfl
theorem turnV_yes {l : List Int} (h : turnOk l = true) : turnV l = (([1, 0], tnB l l.length), true) := by unfold turnV; rw [h]; rfl
theorem IS.at2 {w : World} {lo hi : Nat} {v : Value} {x y : Int} (h : IS w lo hi v [x, y]) : ∃ b off cap, v = .slice (some ⟨b, off, none⟩) 2 cap ∧ lo ≤ b ∧ b < hi ∧ w.cell? ⟨b, off, none⟩ = some (.int .i64 x) ∧ w.cell? ⟨b, off + 1, none⟩ = some (.int .i64 y) := by
  rcases h.cases with ⟨e, -⟩ | ⟨-, -, b, off, cap, rfl, -, -, h1, h2, h3⟩
  · cases e
  · refine ⟨b, off, cap, rfl, h1, h2, ?_, ?_⟩
    · have := h3.cell (i := 0) (by simp); rwa [Nat.add_zero] at this
    · exact h3.cell (i := 1) (by simp)

set_option maxHeartbeats 4000000 in
theorem implConeOfTurns_any (l : List Int) (v : Value) (hb : Nat) (w : World) (h : ISr w hb v l) (hhb : hb ≤ w.heap.size) :
    Calls Try.prog 43 #[v] w fun e w' => ∃ u1 u2, e = .returned (.tuple #[.agg #[u1, u2], .bool (turnV l).2]) ∧ ConeO w' w.heap.size w'.heap.size u1 u2 (turnV l).1.1 (turnV l).1.2 ∧ Below w.heap.size w w' := by
  have HB := Lib.hid (below1 w (.cells #[.slice none 0 0, .slice none 0 0] 47))
  have W1 := fun w => within_any l.length 1 10 w
  have A1 := fun W (B : Below w.heap.size w W) => allWithin_any l v 2 30 hb W (h.keep B hhb)
  obtain ⟨a, cap, hv, -, -, hcell⟩ := id h
  cases h1 : inB l.length 1 10
  · have hr := turnV_no (l := l) (by unfold turnOk; rw [h1]; rfl)
    rw [hr]
    simp only [h1] at W1
    subst hv
    clear h1 hr hcell h A1
    generalize l.length = n at *
    go_enter Try.func43, Try.ntmps43
    go_wp2_with (go_at_call 59; (with_reducible refine (W1 _).mono ?_); rintro e w' ⟨rfl, rfl⟩)
    refine bodyPost_ret (v := .tuple #[.agg #[.slice none 0 0, .slice none 0 0], .bool false]) (by simp [results, Try.results43, go_sem]) rfl ⟨_, _, rfl, ConeO.nil _ _ _, HB.out⟩
  simp only [h1] at W1
  cases h2 : allIn l 2 30
  · have hr := turnV_no (l := l) (by unfold turnOk; rw [h1, h2]; rfl)
    rw [hr]
    simp only [h2] at A1
    subst hv
    clear h1 hr hcell h h2
    generalize l.length = n at *
    go_enter Try.func43, Try.ntmps43
    go_wp2_with (first | (go_at_call 59; (with_reducible refine (W1 _).mono ?_); rintro e w' ⟨rfl, rfl⟩) | (go_at_call 78; (with_reducible refine (A1 _ HB.out).mono ?_); rintro e w' ⟨rfl, rfl⟩))
    refine bodyPost_ret (v := .tuple #[.agg #[.slice none 0 0, .slice none 0 0], .bool false]) (by simp [results, Try.results43, go_sem]) rfl ⟨_, _, rfl, ConeO.nil _ _ _, HB.out⟩
  simp only [h2] at A1
  have hlen := inB_iff.1 h1
  have hall := allIn_at h2
  have HTB := Lib.hid (tn_bd l hall)
  have HALL := Lib.hid hall
  have HOK := Lib.hid (show turnOk l = coneB [1, 0] (tnB l l.length) by unfold turnOk; rw [h1, h2]; rfl)
  obtain ⟨n, hn⟩ : ∃ n, n = l.length := ⟨_, rfl⟩
  rw [← hn] at hv hlen W1 HOK
  have hn10 : n ≤ 10 := by omega
  have HN := Lib.hid hn
  have HC := Lib.hid hcell
  have BX := Lib.hid (box2_new w (.slice none 0 0) (.slice none 0 0) 47)
  clear h1 h2 h hcell hall hn hlen
  subst hv
  go_enter Try.func43, Try.ntmps43
  go_wp2_with (first | (go_at_call 59; (with_reducible refine (W1 _).mono ?_); rintro e w' ⟨rfl, rfl⟩) | (go_at_call 78; (with_reducible refine (A1 _ HB.out).mono ?_); rintro e w' ⟨rfl, rfl⟩))
  clear W1 A1
  obtain ⟨w1, hw1⟩ : ∃ w1, w1 = w.alloc (.cells #[.slice none 0 0, .slice none 0 0] 47) := ⟨_, rfl⟩
  rw [← hw1] at HB BX ⊢
  have hs1 : w1.heap.size = w.heap.size + 1 := by rw [hw1]; simp
  have HS1 := Lib.hid hs1
  have HW1 := Lib.hid hw1
  have IA0 := Lib.hid ((IS.lit2 w1 w1.heap.size (Nat.le_refl _) 1 0).keep (below1 _ (.cells #[.int .i64 0, .int .i64 1] 3)) (by simp))
  have IB0 := Lib.hid (IS.lit2 (w1.alloc (.cells #[.int .i64 1, .int .i64 0] 3)) w1.heap.size (by simp) 0 1)
  have BB0 := Lib.hid (below2 w1 (.cells #[.int .i64 1, .int .i64 0] 3) (.cells #[.int .i64 0, .int .i64 1] 3))
  simp only [World.size_alloc] at IA0 IB0 ⊢
  rw [← hs1]
  clear hw1 hs1
  go_loopw [4, 5, 7, 23] (fun va vb _ i wr => ∃ k : Nat, k ≤ n ∧ i = .int .i64 k ∧ Hid (IS wr w1.heap.size wr.heap.size va [(tnK l k).1, (tnK l k).2.1]) ∧ Hid (IS wr w1.heap.size wr.heap.size vb (tnB l k)) ∧ Hid (Below w1.heap.size w1 wr)) (fun _ _ _ i _ => n - (intOf i).toNat)
  case atStart => exact ⟨0, by omega, rfl, Lib.hid (IA0.out.mono (Nat.le_refl _) (by simp)), Lib.hid (IB0.out.mono (Nat.le_refl _) (by simp)), BB0⟩
  case round =>
    obtain ⟨k, hk, rfl, hia, hib, hbe⟩ := hrel
    by_cases hlt : k < n
    · have hkl : k < l.length := by rw [← HN.out]; exact hlt
      obtain ⟨b, off, rfl, hbb, hcc⟩ := HC.out (by intro e; rw [e] at hkl; exact absurd hkl (Nat.not_lt_zero _))
      have hck := ((HB.out.trans (hbe.out.mono (by rw [HS1.out]; omega))).cell (p := ⟨b, off + k, none⟩) (Nat.lt_of_lt_of_le hbb hhb)).trans (hcc k hkl)
      have hn2 := HALL.out k hkl
      obtain ⟨-, -, t3, t4⟩ := HTB.out k (by omega)
      obtain ⟨t5, t6, t7, t8⟩ := HTB.out (k + 1) (by omega)
      have d1 := bd31_le k (by omega)
      have d2 := bd31_le (k + 1) (by omega)
      have e1 : (tnK l (k + 1)).2.2.1 = l.getD k 0 * (tnK l k).2.2.1 - (tnK l k).1 := rfl
      have e2 : (tnK l (k + 1)).2.2.2 = l.getD k 0 * (tnK l k).2.2.2 - (tnK l k).2.1 := rfl
      obtain ⟨t1, t2, -, -⟩ := HTB.out k (by omega)
      rw [e1] at t7
      rw [e2] at t8
      have HNX := Lib.hid (show ∀ p : List Int, p = [l.getD k 0 * (tnK l k).2.2.1 - (tnK l k).1, l.getD k 0 * (tnK l k).2.2.2 - (tnK l k).2.1] → p = tnB l (k + 1) from fun p hp => hp)
      have hib' : IS wr w1.heap.size wr.heap.size u5 [(tnK l k).2.2.1, (tnK l k).2.2.2] := hib.out
      have HIB := Lib.hid (show IS wr w1.heap.size wr.heap.size u5 [(tnK l (k + 1)).1, (tnK l (k + 1)).2.1] from hib.out)
      obtain ⟨ba, oa, ca, rfl, -, la, a0, a1⟩ := hia.out.at2
      obtain ⟨bb, ob, cb, rfl, -, lb, b0, b1⟩ := hib'.at2
      clear hcc hkl e1 e2 t5 t6 hia hib hib'
      generalize l.getD k 0 = m at *
      generalize (tnK l k).1 = x0 at *
      generalize (tnK l k).2.1 = x1 at *
      generalize (tnK l k).2.2.1 = y0 at *
      generalize (tnK l k).2.2.2 = y1 at *
      have w1' := wr64 (m * y0) (by omega)
      have w2' := wr64 (m * y0 - x0) (by omega)
      have w3' := wr64 (m * y1) (by omega)
      have w4' := wr64 (m * y1 - x1) (by omega)
      have HIS := Lib.hid (IS.lit2 wr w1.heap.size hbe.out.size (m * y0 - x0) (m * y1 - x1))
      have HBE := Lib.hid (hbe.out.trans (below1 wr (.cells #[.int .i64 (m * y0 - x0), .int .i64 (m * y1 - x1)] 3) |>.mono hbe.out.size))
      have HKB := Lib.hid (HIB.out.keep (below1 wr (.cells #[.int .i64 (m * y0 - x0), .int .i64 (m * y1 - x1)] 3)) (Nat.le_refl _))
      clear hn2 t1 t2 t3 t4 t7 t8 d1 d2 hbe HIB
      go_wp2
      go_region_held3 (fun w' => w'.cell? ⟨ba, oa, none⟩ = some (.int .i64 x0) ∧ w'.cell? ⟨ba, oa + 1, none⟩ = some (.int .i64 x1) ∧ w'.cell? ⟨bb, ob, none⟩ = some (.int .i64 y0) ∧ w'.cell? ⟨bb, ob + 1, none⟩ = some (.int .i64 y1)) (go_keep) (fail)
      clear w1' w2' w3' w4' a0 a1 b0 b1
      go_wp2
      go_roundw
      case rel => exact ⟨k + 1, by omega, by go_num, Lib.hid ((HKB.out.mono (Nat.le_refl _) (by simp)).world rfl), Lib.hid (by rw [← HNX.out _ rfl]; exact (HIS.out.mono (Nat.le_refl _) (by simp)).world rfl), Lib.hid (HBE.out.trans (below_draws _ _ 1))⟩
      case measure => simp [intOf]; omega
    · obtain rfl : k = n := by omega
      obtain ⟨bb, ob, cb, rfl, -, lb, b0, b1⟩ := (show IS wr w1.heap.size wr.heap.size u5 [(tnK l k).2.2.1, (tnK l k).2.2.2] from hib.out).at2
      have BXW := Lib.hid (BX.out.keep hbe.out)
      have q0 := BXW.out.c0
      have q1 := BXW.out.c1
      have f0 := BXW.out.f0
      have f1 := BXW.out.f1
      have IU := IS.lit2 wr w1.heap.size hbe.out.size 1 0
      have cA := below1 wr (.cells #[.int .i64 1, .int .i64 0] 3)
      have cB := below1 (wr.alloc (.cells #[.int .i64 1, .int .i64 0] 3)) (.cells #[.slice (some ⟨wr.heap.size, 0, none⟩) 2 2, .slice (some ⟨bb, ob, none⟩) 2 cb] 47)
      have IU5 := Lib.hid (IU.keep cB (by simp))
      have IV5 := Lib.hid ((hib.out.keep cA (Nat.le_refl _)).keep cB (by simp))
      have B5 := Lib.hid ((hbe.out.trans (cA.mono hbe.out.size)).trans (cB.mono (by simp; exact Nat.le_trans hbe.out.size (by omega))))
      have X5 := Lib.hid ((BXW.out.keep cA).keep cB)
      have Y5 := Lib.hid (box2_new (wr.alloc (.cells #[.int .i64 1, .int .i64 0] 3)) (.slice (some ⟨wr.heap.size, 0, none⟩) 2 2) (.slice (some ⟨bb, ob, none⟩) 2 cb) 47)
      have hz5 : ((wr.alloc (.cells #[.int .i64 1, .int .i64 0] 3)).alloc (.cells #[.slice (some ⟨wr.heap.size, 0, none⟩) 2 2, .slice (some ⟨bb, ob, none⟩) 2 cb] 47)).heap.size = wr.heap.size + 2 := by simp
      have HZ5 := Lib.hid hz5
      have HW0 := Lib.hid hbe.out.size
      clear b0 b1 IU cA cB BXW q0 q1 f0 f1 hz5 IA0 IB0 BB0 hia hbe hib
      go_wp2_with fail
      simp only [World.size_alloc] at Y5
      generalize (wr.alloc (.cells #[.int .i64 1, .int .i64 0] 3)).alloc (.cells #[.slice (some ⟨wr.heap.size, 0, none⟩) 2 2, .slice (some ⟨bb, ob, none⟩) 2 cb] 47) = w5 at *
      have C := implIsCone_any [1, 0] (tnB l k) (.slice (some ⟨wr.heap.size, 0, none⟩) 2 2) (.slice (some ⟨bb, ob, none⟩) 2 cb) w5.heap.size w5 (IU5.out.read.upto (by rw [HZ5.out]; omega)) (IV5.out.read.upto (by rw [HZ5.out]; omega)) (Nat.le_refl _)
      cases hc : coneB [1, 0] (tnB l k)
      all_goals
        rw [hc] at C
        refine C.mono ?_
        rintro e w6 ⟨rfl, c6⟩
        have X6 := X5.out.keep c6
        have Y6 := Y5.out.keep c6
        have q0 := X6.c0
        have q1 := X6.c1
        have f0 := X6.f0
        have f1 := X6.f1
        have y0 := Y6.c0
        have y1 := Y6.c1
        have B6 := Lib.hid (HB.out.trans ((below_then B5.out B5.out.size c6).mono (by rw [HS1.out]; omega)))
        have IU6 := Lib.hid (IU5.out.keep c6 (by rw [HZ5.out]; omega))
        have IV6 := Lib.hid (IV5.out.keep c6 (by rw [HZ5.out]; omega))
        have Z6 := Lib.hid c6.size
        clear c6 C X6 Y6
      · have HT := Lib.hid (turnV_no (HOK.out.trans hc))
        go_wp2
        refine bodyPost_ret (v := .tuple #[.agg #[.slice none 0 0, .slice none 0 0], .bool false]) (by simp [results, Try.results43, go_sem, q0, q1]) rfl ⟨.slice none 0 0, .slice none 0 0, by rw [HT.out], by rw [HT.out]; exact ConeO.nil _ _ _, ?_⟩
        first | exact B6.out | exact (B6.out.setCell (Nat.le_refl _) _).setCell (Nat.le_refl _) _
      · have HT := Lib.hid ((turnV_yes (HOK.out.trans hc)).trans (by rw [← HN.out]))
        go_wp2
        refine bodyPost_ret (v := .tuple #[.agg #[.slice (some ⟨wr.heap.size, 0, none⟩) 2 2, .slice (some ⟨bb, ob, none⟩) 2 cb], .bool true]) (by simp [results, Try.results43, go_sem, q0, q1]) rfl ⟨_, _, by rw [HT.out], ?_, ?_⟩
        · rw [HT.out]
          have h1 := HS1.out
          have h2 := HZ5.out
          have h3 := Z6.out
          have h4 := HW0.out
          refine ⟨(((IU6.out.setOther (a := ⟨w.heap.size, 0, none⟩) (.inl (by dsimp only; omega)) _).setOther (a := ⟨w.heap.size, 1, none⟩) (.inl (by dsimp only; omega)) _).mono (by omega) (by simp; omega)), (((IV6.out.setOther (a := ⟨w.heap.size, 0, none⟩) (.inl (by dsimp only; omega)) _).setOther (a := ⟨w.heap.size, 1, none⟩) (.inl (by dsimp only; omega)) _).mono (by omega) (by simp; omega)), .inr ?_⟩
          rw [blkOf_some _ _ _ _ (by omega), blkOf_some _ _ _ _ (by omega)]
          intro e; injection e with e; omega
        · exact (B6.out.setCell (Nat.le_refl _) _).setCell (Nat.le_refl _) _
end Go.Proofs.Ytibninlggdpnkaa
