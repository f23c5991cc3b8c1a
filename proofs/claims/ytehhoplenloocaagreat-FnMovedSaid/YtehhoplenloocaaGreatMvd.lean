/- AreMoved: the walks. -/
import Derived.Test.YtehhoplenloocaaGreatNrmX
import Derived.Test.YtehhoplenloocaaGreatNrmY
namespace Go.Proofs.YtehhoplenloocaaGreat
open Go.RowKit
set_option linter.unusedVariables false
set_option linter.unusedSimpArgs false

set_option maxRecDepth 100000 in
set_option maxHeartbeats 4000000 in
theorem equalL_any (a b : List Int) (va vb : Value) (h1 h2 : Nat) (w : World) (ia : ISr w h1 va a) (ib : ISr w h2 vb b) :
    Calls Tryz.prog 91 #[va, vb] w fun e w' => e = .returned (.bool (decide (a = b))) ∧ ∃ d, w' = w.drewN d := by
  obtain ⟨a1, c1, rfl, la, ma, x0⟩ := ia
  obtain ⟨a2, c2, rfl, -, mb, y0⟩ := ib
  obtain ⟨n, hn⟩ : ∃ n, n = a.length := ⟨_, rfl⟩
  obtain ⟨m, hm⟩ : ∃ m, m = b.length := ⟨_, rfl⟩
  rw [← hn, ← hm]
  have hnb : n ≤ 9223372036854775807 := by unfold maxLen at ma; omega
  have HN := Lib.hid hn
  have HM := Lib.hid hm
  have HX := Lib.hid x0
  have HY := Lib.hid y0
  clear hn hm x0 y0
  by_cases hne : n = m
  · subst hne
    clear la ma mb
    have hbb : ((n : Int) != (n : Int)) = false := by simp
    go_enter Tryz.func91, Tryz.ntmps91
    go_wp2
    go_loopw [5, 13] (fun _ i wr => ∃ (d k : Nat), k ≤ n ∧ i = .int .i64 k ∧ Hid (wr = w.drewN d) ∧ Hid (a.take k = b.take k)) (fun _ i _ => n - (intOf i).toNat)
    case atStart => exact ⟨0, 0, by omega, rfl, Lib.hid rfl, Lib.hid (by simp)⟩
    case round =>
      obtain ⟨d, k, hk, rfl, HW, ht⟩ := hrel
      by_cases hlt : k < n
      · have ka : k < a.length := by rw [← HN.out]; exact hlt
        have kb : k < b.length := by rw [← HM.out]; exact hlt
        obtain ⟨b1, o1, rfl, -, xc⟩ := HX.out (by intro e; rw [e] at ka; simp at ka)
        obtain ⟨b2, o2, rfl, -, yc⟩ := HY.out (by intro e; rw [e] at kb; simp at kb)
        have xk : wr.cell? ⟨b1, o1 + k, none⟩ = some (.int .i64 (a.getD k 0)) := by rw [HW.out]; exact xc k ka
        have yk : wr.cell? ⟨b2, o2 + k, none⟩ = some (.int .i64 (b.getD k 0)) := by rw [HW.out]; exact yc k kb
        have HS := Lib.hid (fun h => take_stepI ka kb ht.out h)
        have HNE := Lib.hid (show a.getD k 0 ≠ b.getD k 0 → decide (a = b) = false from fun h => by rw [decide_eq_false_iff_not]; intro e; rw [e] at h; exact h rfl)
        have k0 : (0 : Int) ≤ (k : Int) := by omega
        have k1 : (k : Int) < (n : Int) := by omega
        have kt : ((k : Int)).toNat = k := by omega
        clear ka kb xc yc
        generalize a.getD k 0 = x at *
        generalize b.getD k 0 = y at *
        by_cases hc : x = y
        · have HT := Lib.hid (HS.out hc)
          subst hc
          have hxx : (x != x) = false := by simp
          go_wp2
          go_quiet (fail)
          go_wp2
          go_roundw
          case rel => exact ⟨_, k + 1, by omega, by go_num, Lib.hid (by rw [HW.out, World.drewN_drewN]), HT⟩
          case measure => simp [intOf]; omega
        · have HT := Lib.hid (HNE.out hc)
          have hcb : (x != y) = true := by simpa using hc
          go_wp2
          go_quiet (fail)
          go_wp2
          go_ret
          refine ⟨ret_bool HT.out.symm, ?_⟩
          rw [HW.out]
          simp only [World.drewN_drewN]
          exact ⟨_, rfl⟩
      · obtain rfl : k = n := by omega
        have he : a = b := by
          have := ht.out
          rwa [HN.out, List.take_length, ← HN.out, HM.out, List.take_length] at this
        have HE := Lib.hid (show decide (a = b) = true by rw [decide_eq_true_eq]; exact he)
        clear he
        go_wp2
        go_ret
        exact ⟨ret_bool HE.out.symm, _, HW.out⟩
  · have HE := Lib.hid (show decide (a = b) = false by rw [decide_eq_false_iff_not]; intro e; exact hne (by rw [HN.out, HM.out, e]))
    have hbb : ((n : Int) != (m : Int)) = true := by rw [bne_iff_ne]; omega
    clear hne
    go_enter Tryz.func91, Tryz.ntmps91
    go_wp2
    go_ret
    exact ⟨ret_bool HE.out.symm, 0, rfl⟩
set_option maxRecDepth 100000 in
set_option maxHeartbeats 4000000 in
theorem equalLL_any (l1 l2 : List (List Int)) (v1 v2 : Value) (h1 h2 : Nat) (w : World) (i1 : ISSr w h1 v1 l1) (i2 : ISSr w h2 v2 l2) :
    Calls Tryz.prog 90 #[v1, v2, .func (.func 91) #[] #[]] w fun e w' => e = .returned (.bool (decide (l1 = l2))) ∧ ∃ d, w' = w.drewN d := by
  obtain ⟨a1, c1, rfl, la, ma, x0⟩ := i1
  obtain ⟨a2, c2, rfl, -, mb, y0⟩ := i2
  obtain ⟨n, hn⟩ : ∃ n, n = l1.length := ⟨_, rfl⟩
  obtain ⟨m, hm⟩ : ∃ m, m = l2.length := ⟨_, rfl⟩
  rw [← hn, ← hm]
  have hnb : n ≤ 9223372036854775807 := by unfold maxLen at ma; omega
  have HN := Lib.hid hn
  have HM := Lib.hid hm
  have HX := Lib.hid x0
  have HY := Lib.hid y0
  clear hn hm x0 y0
  by_cases hne : n = m
  · subst hne
    clear la ma mb
    have hbb : ((n : Int) != (n : Int)) = false := by simp
    go_enter Tryz.func90, Tryz.ntmps90
    go_wp2
    go_loopw [7, 8, 9, 17] (fun _ _ _ i wr => ∃ (d k : Nat), k ≤ n ∧ i = .int .i64 k ∧ Hid (wr = w.drewN d) ∧ Hid (l1.take k = l2.take k)) (fun _ _ _ i _ => n - (intOf i).toNat)
    case atStart => exact ⟨0, 0, by omega, rfl, Lib.hid rfl, Lib.hid (by simp)⟩
    case round =>
      obtain ⟨d, k, hk, rfl, HW, ht⟩ := hrel
      by_cases hlt : k < n
      · have ka : k < l1.length := by rw [← HN.out]; exact hlt
        have kb : k < l2.length := by rw [← HM.out]; exact hlt
        obtain ⟨b1, o1, V1, rfl, -, xc⟩ := HX.out (by intro e; rw [e] at ka; simp at ka)
        obtain ⟨b2, o2, V2, rfl, -, yc⟩ := HY.out (by intro e; rw [e] at kb; simp at kb)
        have xk : wr.cell? ⟨b1, o1 + k, none⟩ = some (V1 k) := by rw [HW.out]; exact (xc k ka).1
        have yk : wr.cell? ⟨b2, o2 + k, none⟩ = some (V2 k) := by rw [HW.out]; exact (yc k kb).1
        have EQ := equalL_any (l1.getD k []) (l2.getD k []) (V1 k) (V2 k) h1 h2 wr (by rw [HW.out]; exact (xc k ka).2) (by rw [HW.out]; exact (yc k kb).2)
        have HS := Lib.hid (fun h => take_eq_stepL ka kb ht.out h)
        have HNE := Lib.hid (show l1.getD k [] ≠ l2.getD k [] → decide (l1 = l2) = false from fun h => by rw [decide_eq_false_iff_not]; intro e; rw [e] at h; exact h rfl)
        have k0 : (0 : Int) ≤ (k : Int) := by omega
        have k1 : (k : Int) < (n : Int) := by omega
        have kt : ((k : Int)).toNat = k := by omega
        clear ka kb xc yc
        generalize l1.getD k [] = x at *
        generalize l2.getD k [] = y at *
        generalize V1 k = vx at *
        generalize V2 k = vy at *
        by_cases hc : x = y
        · have HT := Lib.hid (HS.out hc)
          rw [decide_eq_true hc] at EQ
          clear hc
          go_wp2_with (go_at_call 91; (with_reducible refine EQ.mono ?_); rintro e w9 ⟨rfl, d9, rfl⟩)
          go_roundw
          case rel => exact ⟨_, k + 1, by omega, by go_num, Lib.hid (by rw [HW.out, World.drewN_drewN]), HT⟩
          case measure => simp [intOf]; omega
        · have HT := Lib.hid (HNE.out hc)
          rw [decide_eq_false hc] at EQ
          clear hc
          go_wp2_with (go_at_call 91; (with_reducible refine EQ.mono ?_); rintro e w9 ⟨rfl, d9, rfl⟩)
          go_ret
          refine ⟨ret_bool HT.out.symm, ?_⟩
          rw [HW.out]
          simp only [World.drewN_drewN]
          exact ⟨_, rfl⟩
      · obtain rfl : k = n := by omega
        have he : l1 = l2 := by
          have := ht.out
          rwa [HN.out, List.take_length, ← HN.out, HM.out, List.take_length] at this
        have HE := Lib.hid (show decide (l1 = l2) = true by rw [decide_eq_true_eq]; exact he)
        clear he
        go_wp2
        go_ret
        exact ⟨ret_bool HE.out.symm, _, HW.out⟩
  · have HE := Lib.hid (show decide (l1 = l2) = false by rw [decide_eq_false_iff_not]; intro e; exact hne (by rw [HN.out, HM.out, e]))
    have hbb : ((n : Int) != (m : Int)) = true := by rw [bne_iff_ne]; omega
    clear hne
    go_enter Tryz.func90, Tryz.ntmps90
    go_wp2
    go_ret
    exact ⟨ret_bool HE.out.symm, 0, rfl⟩
theorem equalPoints_any (l1 l2 : List (List Int)) (v1 v2 : Value) (h1 h2 : Nat) (w : World) (i1 : ISSr w h1 v1 l1) (i2 : ISSr w h2 v2 l2) :
    Calls Tryz.prog 45 #[v1, v2] w fun e w' => e = .returned (.bool (decide (l1 = l2))) ∧ ∃ d, w' = w.drewN d := by
  have EQ := equalLL_any l1 l2 v1 v2 h1 h2 w i1 i2
  go_enter Tryz.func45, Tryz.ntmps45
  go_wp2_with (go_at_call 90; (with_reducible refine EQ.mono ?_); rintro e w9 ⟨rfl, d9, rfl⟩)
  go_ret
  exact ⟨rfl, _, rfl⟩
def arB (p q : List (List Int)) : Bool := (nrV p).2 && ((nrV q).2 && decide ((nrV p).1 = (nrV q).1))
set_option maxRecDepth 100000 in
set_option maxHeartbeats 4000000 in
theorem implAreMoved_any (l1 l2 : List (List Int)) (v1 v2 : Value) (hb : Nat) (w : World) (i1 : ISSr w hb v1 l1) (i2 : ISSr w hb v2 l2) (hhb : hb ≤ w.heap.size) :
    Calls Tryz.prog 17 #[v1, v2] w fun e w' => e = .returned (.bool (arB l1 l2)) ∧ Below w.heap.size w w' := by
  have N1 := implNormal_any l1 v1 hb w i1 hhb
  have N2 := Lib.hid (fun W (B : Below w.heap.size w W) => implNormal_any l2 v2 hb W (i2.keep B hhb) (Nat.le_trans hhb B.size))
  have HAR := Lib.hid (show arB l1 l2 = ((nrV l1).2 && ((nrV l2).2 && decide ((nrV l1).1 = (nrV l2).1))) from rfl)
  clear i1 i2
  generalize nrV l1 = R1 at *
  generalize nrV l2 = R2 at *
  obtain ⟨r1, o1⟩ := R1
  obtain ⟨r2, o2⟩ := R2
  dsimp only at N1 N2 HAR
  go_enter Tryz.func17, Tryz.ntmps17
  go_wp2_with fail
  with_reducible refine N1.mono ?_
  rintro e w1 ⟨u1, rfl, k1, c1⟩
  have M2 := N2.out w1 c1
  have K1 := Lib.hid k1
  have C1 := Lib.hid c1
  clear N1 N2 k1 c1
  go_wp2_with fail
  with_reducible refine M2.mono ?_
  rintro e w2 ⟨u2, rfl, k2, c2⟩
  have EQ := equalPoints_any r1 r2 u1 u2 w1.heap.size w2.heap.size w2 ((K1.out.keep c2 (Nat.le_refl _)).read) k2.read
  have B2 := Lib.hid (below_then C1.out C1.out.size c2)
  clear M2 k2 c2
  cases o1
  · go_wp2
    go_ret
    exact ⟨ret_bool (by rw [HAR.out]; rfl), B2.out⟩
  · cases o2
    · go_wp2
      go_ret
      exact ⟨ret_bool (by rw [HAR.out]; rfl), B2.out⟩
    · go_wp2_with (go_at_call 45; (with_reducible refine EQ.mono ?_); rintro e w9 ⟨rfl, d9, rfl⟩)
      go_ret
      exact ⟨ret_bool (by rw [HAR.out]; simp), B2.out.trans (below_draws _ _ _)⟩
set_option maxRecDepth 100000 in
set_option maxHeartbeats 4000000 in
theorem specAreMoved_any (l1 l2 : List (List Int)) (v1 v2 : Value) (hb : Nat) (w : World) (i1 : ISSr w hb v1 l1) (i2 : ISSr w hb v2 l2) (hhb : hb ≤ w.heap.size) :
    Calls Tryz.prog 18 #[v1, v2] w fun e w' => e = .returned (.bool (arB l1 l2)) ∧ Below w.heap.size w w' := by
  have N1 := specNormal_any l1 v1 hb w i1 hhb
  have N2 := Lib.hid (fun W (B : Below w.heap.size w W) => specNormal_any l2 v2 hb W (i2.keep B hhb) (Nat.le_trans hhb B.size))
  have HAR := Lib.hid (show arB l1 l2 = ((nrV l1).2 && ((nrV l2).2 && decide ((nrV l1).1 = (nrV l2).1))) from rfl)
  clear i1 i2
  generalize nrV l1 = R1 at *
  generalize nrV l2 = R2 at *
  obtain ⟨r1, o1⟩ := R1
  obtain ⟨r2, o2⟩ := R2
  dsimp only at N1 N2 HAR
  go_enter Tryz.func18, Tryz.ntmps18
  go_wp2_with fail
  with_reducible refine N1.mono ?_
  rintro e w1 ⟨u1, rfl, k1, c1⟩
  have M2 := N2.out w1 c1
  have K1 := Lib.hid k1
  have C1 := Lib.hid c1
  clear N1 N2 k1 c1
  go_wp2_with fail
  with_reducible refine M2.mono ?_
  rintro e w2 ⟨u2, rfl, k2, c2⟩
  have EQ := l7SameList_any r1 r2 u1 u2 w1.heap.size w2.heap.size w2 ((K1.out.keep c2 (Nat.le_refl _)).read) k2.read
  have B2 := Lib.hid (below_then C1.out C1.out.size c2)
  clear M2 k2 c2
  cases o1
  · go_wp2
    go_ret
    exact ⟨ret_bool (by rw [HAR.out]; rfl), B2.out⟩
  · cases o2
    · go_wp2
      go_ret
      exact ⟨ret_bool (by rw [HAR.out]; rfl), B2.out⟩
    · go_wp2_with (go_at_call 46; (with_reducible refine EQ.mono ?_); rintro e w9 ⟨rfl, d9, rfl⟩)
      go_ret
      exact ⟨ret_bool (by rw [HAR.out]; simp), B2.out.trans (below_draws _ _ _)⟩
end Go.Proofs.YtehhoplenloocaaGreat
