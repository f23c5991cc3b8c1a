/- The order of polygons. -/
import Derived.Test.YtehhoplenloocaaGreatFrmA
import Derived.Test.YtehhoplenloocaaGreatCmpG
import Derived.Test.YtehhoplenloocaaGreatB15
import Derived.BigQuiet
namespace Go.Proofs.YtehhoplenloocaaGreat
open Go.RowKit
set_option linter.unusedVariables false
set_option linter.unusedSimpArgs false

def ltLL : List (List Int) → List (List Int) → Bool
  | x :: a, y :: b => if x = y then ltLL a b else ltB x y
  | [], _ :: _ => true
  | _, [] => false
theorem ltLL_at : ∀ (k : Nat) (a b : List (List Int)), a.take k = b.take k → k < a.length → k < b.length → a.getD k [] ≠ b.getD k [] → ltLL a b = ltB (a.getD k []) (b.getD k [])
  | _, [], _, _, h, _, _ => by simp at h
  | _, _ :: _, [], _, _, h, _ => by simp at h
  | 0, x :: a, y :: b, _, _, _, hne => by
    simp only [List.getD_cons_zero] at hne ⊢
    rw [ltLL, if_neg hne]
  | k + 1, x :: a, y :: b, ht, ha, hb, hne => by
    simp only [List.take_succ_cons, List.cons.injEq] at ht
    simp only [List.getD_cons_succ] at hne ⊢
    rw [ltLL, if_pos ht.1]
    exact ltLL_at k a b ht.2 (by simpa using ha) (by simpa using hb) hne
theorem ltLL_pre : ∀ (k : Nat) (a b : List (List Int)), a.take k = b.take k → a.length = k → k ≤ b.length → ltLL a b = decide (k < b.length)
  | 0, [], [], _, _, _ => rfl
  | 0, [], _ :: _, _, _, _ => by simp [ltLL]
  | 0, _ :: _, _, _, h, _ => by simp at h
  | k + 1, [], _, _, h, _ => by simp at h
  | k + 1, x :: a, [], _, _, h => by simp at h
  | k + 1, x :: a, y :: b, ht, ha, hb => by
    simp only [List.take_succ_cons, List.cons.injEq] at ht
    rw [ltLL, if_pos ht.1, ltLL_pre k a b ht.2 (by simpa using ha) (by simpa using hb)]
    simp
theorem ltLL_pre2 : ∀ (k : Nat) (a b : List (List Int)), a.take k = b.take k → b.length = k → k ≤ a.length → ltLL a b = false
  | 0, [], [], _, _, _ => rfl
  | 0, _ :: _, [], _, _, _ => rfl
  | 0, _, _ :: _, _, h, _ => by simp at h
  | k + 1, _, [], _, h, _ => by simp at h
  | k + 1, [], y :: b, _, _, h => by simp at h
  | k + 1, x :: a, y :: b, ht, ha, hb => by
    simp only [List.take_succ_cons, List.cons.injEq] at ht
    rw [ltLL, if_pos ht.1, ltLL_pre2 k a b ht.2 (by simpa using ha) (by simpa using hb)]
theorem cmpL_neg (a b : List Int) : decide (cmpL a b < 0) = ltB a b := by
  unfold cmpL
  cases ltB a b
  · cases ltB b a <;> rfl
  · rfl
theorem cmpL_zero {a b : List Int} (h : a.length = b.length) : cmpL a b = 0 ↔ a = b := by
  constructor
  · intro e
    unfold cmpL at e
    cases h1 : ltB a b
    · cases h2 : ltB b a
      · exact ltB_total h h1 h2
      · rw [h1, h2] at e; simp at e
    · rw [h1] at e; simp at e
  · intro e; rw [e]; exact cmpL_self b
set_option maxRecDepth 100000 in
set_option maxHeartbeats 4000000 in
theorem compareLL_any (l1 l2 : List (List Int)) (v1 v2 : Value) (h1 h2 : Nat) (w : World) (i1 : ISSr w h1 v1 l1) (i2 : ISSr w h2 v2 l2) (p1 : 1 ≤ l1.length) (p2 : 1 ≤ l2.length) (r1 : ∀ r ∈ l1, r.length = 2) (r2 : ∀ r ∈ l2, r.length = 2) :
    Calls Tryz.prog 39 #[v1, v2, .func (.func 40) #[] #[]] w fun e w' => ∃ c : Int, e = .returned (.int .i64 c) ∧ decide (c < 0) = ltLL l1 l2 ∧ w = w' := by
  obtain ⟨-, hm1, b1, off1, cap1, V1, rfl, hbb1, hcell1⟩ := (i1.cases).resolve_left (fun e => by rw [e.1] at p1; simp at p1)
  obtain ⟨-, hm2, b2, off2, cap2, V2, rfl, hbb2, hcell2⟩ := (i2.cases).resolve_left (fun e => by rw [e.1] at p2; simp at p2)
  obtain ⟨n, hn⟩ : ∃ n, n = l1.length := ⟨_, rfl⟩
  obtain ⟨m, hmm⟩ : ∃ m, m = l2.length := ⟨_, rfl⟩
  rw [← hn] at p1 hm1 ⊢
  rw [← hmm] at p2 hm2 ⊢
  have HN := Lib.hid hn
  have HM := Lib.hid hmm
  have HC1 := Lib.hid hcell1
  have HC2 := Lib.hid hcell2
  have HR1 := Lib.hid (fun k (hk : k < l1.length) => r1 _ (by rw [List.getD_eq_getElem?_getD, List.getElem?_eq_getElem hk]; exact List.getElem_mem hk : l1.getD k [] ∈ l1))
  have HR2 := Lib.hid (fun k (hk : k < l2.length) => r2 _ (by rw [List.getD_eq_getElem?_getD, List.getElem?_eq_getElem hk]; exact List.getElem_mem hk : l2.getD k [] ∈ l2))
  clear i1 i2 hn hmm hcell1 hcell2 r1 r2 hbb1 hbb2
  go_enter Tryz.func39, Tryz.ntmps39
  go_wp2
  go_loop [6, 7, 8, 9, 10, 13] (fun _ _ _ _ _ i => ∃ k : Nat, k ≤ n ∧ k ≤ m ∧ i = .int .i64 k ∧ Hid (l1.take k = l2.take k)) (fun _ _ _ _ _ i => n - (intOf i).toNat)
  case atStart => exact ⟨0, by omega, by omega, rfl, Lib.hid (by simp)⟩
  case round =>
    obtain ⟨k, hk, hkm, rfl, ht⟩ := hrel
    have k0 : (0 : Int) ≤ (k : Int) := by omega
    have kt : ((k : Int)).toNat = k := by omega
    by_cases hlt : k < n
    · have ka : k < l1.length := by rw [← HN.out]; exact hlt
      have xk := (HC1.out k ka).1
      have IR := (HC1.out k ka).2
      have LR := HR1.out k ka
      have k1 : (k : Int) < (n : Int) := by omega
      by_cases hlm : k < m
      · have kb : k < l2.length := by rw [← HM.out]; exact hlm
        have yk := (HC2.out k kb).1
        have IS2 := (HC2.out k kb).2
        have LR2 := HR2.out k kb
        have hge : ¬ (m : Int) ≤ (k : Int) := by omega
        have k2 : (k : Int) < (m : Int) := by omega
        have C0 := compareG_any 2 (l1.getD k []) (l2.getD k []) (V1 k) (V2 k) (max h1 h2) w (IR.up (Nat.le_max_left _ _)) (IS2.up (Nat.le_max_right _ _)) LR LR2 (by omega) (by omega)
        have HNE := Lib.hid (fun h => ltLL_at k l1 l2 ht.out ka kb h)
        have HS := Lib.hid (fun h => take_eq_stepL ka kb ht.out h)
        have HZ := Lib.hid (cmpL_zero (LR.trans LR2.symm))
        have HNG := Lib.hid (cmpL_neg (l1.getD k []) (l2.getD k []))
        clear ka kb IR IS2 LR LR2
        generalize l1.getD k [] = x at *
        generalize l2.getD k [] = y at *
        generalize V1 k = vx at *
        generalize V2 k = vy at *
        generalize cmpL x y = c at *
        by_cases hc : c = 0
        · have HT := Lib.hid (HS.out (HZ.out.1 hc))
          subst hc
          go_wp2_with (go_at_call 40; (with_reducible refine C0.mono ?_); rintro e w' ⟨rfl, rfl⟩)
          go_round
          case rel => exact ⟨k + 1, by omega, by omega, by go_num, HT⟩
          case measure => simp [intOf]; omega
        · have HT := Lib.hid (HNE.out (fun e => hc (HZ.out.2 e)))
          have hcb : (c != 0) = true := by simpa using hc
          go_wp2_with (go_at_call 40; (with_reducible refine C0.mono ?_); rintro e w' ⟨rfl, rfl⟩)
          go_ret
          exact ⟨_, rfl, by rw [HT.out, HNG.out], rfl⟩
      · have hge : (m : Int) ≤ (k : Int) := by omega
        have hkm2 : k = m := by omega
        have HT := Lib.hid (ltLL_pre2 k l1 l2 ht.out (by rw [hkm2]; exact HM.out.symm) (by rw [← HN.out]; omega))
        clear IR LR ka hkm2
        go_wp2
        go_ret
        exact ⟨1, rfl, by rw [HT.out]; rfl, rfl⟩
    · obtain rfl : k = n := by omega
      have HT := Lib.hid (ltLL_pre k l1 l2 ht.out HN.out.symm (by rw [← HM.out]; exact hkm))
      rw [← HM.out] at HT
      by_cases hlm : k < m
      · have k2 : (k : Int) < (m : Int) := by omega
        go_wp2
        go_ret
        exact ⟨-1, rfl, by rw [HT.out]; simp; omega, rfl⟩
      · have k2 : ¬ (k : Int) < (m : Int) := by omega
        go_wp2
        go_ret
        exact ⟨0, rfl, by rw [HT.out]; simp; omega, rfl⟩
theorem drew_of {w wr : World} {d : Nat} (h : wr = w.drewN d) (n : Nat) : ∃ m, wr.drewN n = w.drewN m := ⟨d + n, by rw [h, World.drewN_drewN]⟩
theorem drew_of2 {w wr : World} {d : Nat} (h : wr = w.drewN d) (n n' : Nat) : ∃ m, (wr.drewN n).drewN n' = w.drewN m := ⟨d + (n + n'), by rw [h, World.drewN_drewN, World.drewN_drewN]⟩
set_option maxRecDepth 100000 in
set_option maxHeartbeats 4000000 in
theorem l17Before_any (l1 l2 : List (List Int)) (v1 v2 : Value) (h1 h2 : Nat) (w : World) (i1 : ISSr w h1 v1 l1) (i2 : ISSr w h2 v2 l2) (p1 : 1 ≤ l1.length) (p2 : 1 ≤ l2.length) (r1 : ∀ r ∈ l1, r.length = 2) (r2 : ∀ r ∈ l2, r.length = 2) :
    Calls Tryz.prog 42 #[v1, v2] w fun e w' => e = .returned (.bool (ltLL l1 l2)) ∧ ∃ d, w' = w.drewN d := by
  obtain ⟨-, hm1, b1, off1, cap1, V1, rfl, hbb1, hcell1⟩ := (i1.cases).resolve_left (fun e => by rw [e.1] at p1; simp at p1)
  obtain ⟨-, hm2, b2, off2, cap2, V2, rfl, hbb2, hcell2⟩ := (i2.cases).resolve_left (fun e => by rw [e.1] at p2; simp at p2)
  obtain ⟨n, hn⟩ : ∃ n, n = l1.length := ⟨_, rfl⟩
  obtain ⟨m, hmm⟩ : ∃ m, m = l2.length := ⟨_, rfl⟩
  rw [← hn] at p1 hm1 ⊢
  rw [← hmm] at p2 hm2 ⊢
  have HN := Lib.hid hn
  have HM := Lib.hid hmm
  have HC1 := Lib.hid hcell1
  have HC2 := Lib.hid hcell2
  have HR1 := Lib.hid (fun k (hk : k < l1.length) => r1 _ (by rw [List.getD_eq_getElem?_getD, List.getElem?_eq_getElem hk]; exact List.getElem_mem hk : l1.getD k [] ∈ l1))
  have HR2 := Lib.hid (fun k (hk : k < l2.length) => r2 _ (by rw [List.getD_eq_getElem?_getD, List.getElem?_eq_getElem hk]; exact List.getElem_mem hk : l2.getD k [] ∈ l2))
  clear i1 i2 hn hmm hcell1 hcell2 r1 r2 hbb1 hbb2
  go_enter Tryz.func42, Tryz.ntmps42
  go_wp2
  go_loopw [5] (fun i wr => ∃ (d k : Nat), k ≤ n ∧ k ≤ m ∧ i = .int .i64 k ∧ Hid (wr = w.drewN d) ∧ Hid (l1.take k = l2.take k)) (fun i _ => n - (intOf i).toNat)
  case atStart => exact ⟨0, 0, by omega, by omega, rfl, Lib.hid rfl, Lib.hid (by simp)⟩
  case round =>
    obtain ⟨d, k, hk, hkm, rfl, HW, ht⟩ := hrel
    have k0 : (0 : Int) ≤ (k : Int) := by omega
    have kt : ((k : Int)).toNat = k := by omega
    by_cases hlt : k < n
    · have ka : k < l1.length := by rw [← HN.out]; exact hlt
      have k1 : (k : Int) < (n : Int) := by omega
      have d1 : decide ((k : Int) < (n : Int)) = true := by simpa using k1
      by_cases hlm : k < m
      · have kb : k < l2.length := by rw [← HM.out]; exact hlm
        have k2 : (k : Int) < (m : Int) := by omega
        have d2 : decide ((k : Int) < (m : Int)) = true := by simpa using k2
        have xk : wr.cell? ⟨b1, off1 + k, none⟩ = some (V1 k) := by rw [HW.out]; exact (HC1.out k ka).1
        have yk : wr.cell? ⟨b2, off2 + k, none⟩ = some (V2 k) := by rw [HW.out]; exact (HC2.out k kb).1
        have HXK := Lib.hid (show ∀ n, (wr.drewN n).cell? ⟨b1, off1 + k, none⟩ = some (V1 k) from fun n => xk)
        have HYK := Lib.hid (show ∀ n, (wr.drewN n).cell? ⟨b2, off2 + k, none⟩ = some (V2 k) from fun n => yk)
        have IX : ∀ n', ISr (wr.drewN n') h1 (V1 k) (l1.getD k []) := fun n' => by rw [HW.out]; exact (HC1.out k ka).2
        have IY : ∀ n', ISr (wr.drewN n') h2 (V2 k) (l2.getD k []) := fun n' => by rw [HW.out]; exact (HC2.out k kb).2
        have LR := HR1.out k ka
        have LR2 := HR2.out k kb
        have HQ := Lib.hid (fun n' => l2Same_any (l1.getD k []) (l2.getD k []) (V1 k) (V2 k) h1 h2 (wr.drewN n') (IX n') (IY n'))
        have JX : ∀ W, (∃ m, W = w.drewN m) → ISr W h1 (V1 k) (l1.getD k []) := fun W e => by obtain ⟨m, rfl⟩ := e; exact (HC1.out k ka).2
        have JY : ∀ W, (∃ m, W = w.drewN m) → ISr W h2 (V2 k) (l2.getD k []) := fun W e => by obtain ⟨m, rfl⟩ := e; exact (HC2.out k kb).2
        have HB := Lib.hid (fun W (e : ∃ m, W = w.drewN m) => l2BeforeG_any (l1.getD k []) (l2.getD k []) (V1 k) (V2 k) h1 h2 W (JX W e) (JY W e) LR LR2 (by omega))
        have HNE := Lib.hid (fun h => ltLL_at k l1 l2 ht.out ka kb h)
        have HS := Lib.hid (fun h => take_eq_stepL ka kb ht.out h)
        clear ka kb IX IY JX JY LR LR2
        generalize l1.getD k [] = x at *
        generalize l2.getD k [] = y at *
        generalize V1 k = vx at *
        generalize V2 k = vy at *
        by_cases hc : x = y
        · have HT := Lib.hid (HS.out hc)
          rw [decide_eq_true hc] at HQ
          clear hc HB HNE
          go_wp2
          go_quiet ((go_at_call 88; exact Calls.quiet_of (HQ.out _)))
          go_wp2
          go_roundw
          case rel => exact ⟨_, k + 1, by omega, by omega, by go_num, Lib.hid (by rw [HW.out, World.drewN_drewN]), HT⟩
          case measure => simp [intOf]; omega
        · have HT := Lib.hid (HNE.out hc)
          rw [decide_eq_false hc] at HQ
          clear hc HS
          go_wp2
          go_quiet ((go_at_call 88; exact Calls.quiet_of (HQ.out _)))
          have xk' := HXK.out nq
          have yk' := HYK.out nq
          have HW2 := Lib.hid (show wr.drewN nq = w.drewN (d + nq) by rw [HW.out, World.drewN_drewN])
          clear HXK HYK xk yk
          generalize wr.drewN nq = w2 at *
          go_wp2
          go_quiet ((go_at_call 89; exact Calls.quiet_of (HB.out _ (drew_of HW2.out _))))
          go_wp2
          go_ret
          refine ⟨ret_bool HT.out.symm, ?_⟩
          rw [HW2.out]
          simp only [World.drewN_drewN]
          exact ⟨_, rfl⟩
      · have k2 : ¬ (k : Int) < (m : Int) := by omega
        have d2 : decide ((k : Int) < (m : Int)) = false := by simpa using k2
        have hkm2 : k = m := by omega
        have HT := Lib.hid (ltLL_pre2 k l1 l2 ht.out (by rw [hkm2]; exact HM.out.symm) (by rw [← HN.out]; omega))
        have k3 : ¬ (n : Int) < (m : Int) := by omega
        clear ka hkm2
        go_wp2
        go_ret
        exact ⟨ret_bool (by rw [HT.out]; try (simp; try omega)), _, HW.out⟩
    · obtain rfl : k = n := by omega
      have HT := Lib.hid (ltLL_pre k l1 l2 ht.out HN.out.symm (by rw [← HM.out]; exact hkm))
      rw [← HM.out] at HT
      have d1 : decide ((k : Int) < (k : Int)) = false := by simp
      go_wp2
      go_ret
      exact ⟨ret_bool (by rw [HT.out]), _, HW.out⟩
end Go.Proofs.YtehhoplenloocaaGreat
