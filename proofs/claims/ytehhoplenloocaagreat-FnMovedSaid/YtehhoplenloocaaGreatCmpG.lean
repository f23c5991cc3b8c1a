/- The order of lists of one length: plain law, and the walks of slices.Compare and of the model's l2Before. -/
import Derived.Test.YtehhoplenloocaaGreatB15
namespace Go.Proofs.YtehhoplenloocaaGreat
open Go.RowKit
set_option linter.unusedVariables false
set_option linter.unusedSimpArgs false

def ltB : List Int → List Int → Bool
  | x :: a, y :: b => if x = y then ltB a b else decide (x < y)
  | _, _ => false
theorem ltB_self : ∀ a, ltB a a = false
  | [] => rfl
  | x :: a => by rw [ltB, if_pos rfl]; exact ltB_self a
theorem ltB_at : ∀ (k : Nat) (a b : List Int), a.take k = b.take k → k < a.length → k < b.length → a.getD k 0 ≠ b.getD k 0 → ltB a b = decide (a.getD k 0 < b.getD k 0)
  | _, [], _, _, h, _, _ => by simp at h
  | _, _ :: _, [], _, _, h, _ => by simp at h
  | 0, x :: a, y :: b, _, _, _, hne => by
    simp only [List.getD_cons_zero] at hne ⊢
    rw [ltB, if_neg hne]
  | k + 1, x :: a, y :: b, ht, ha, hb, hne => by
    simp only [List.take_succ_cons, List.cons.injEq] at ht
    simp only [List.getD_cons_succ] at hne ⊢
    rw [ltB, if_pos ht.1]
    exact ltB_at k a b ht.2 (by simpa using ha) (by simpa using hb) hne
def cmpL (a b : List Int) : Int := if ltB a b then -1 else if ltB b a then 1 else 0
theorem cmpL_self (a : List Int) : cmpL a a = 0 := by unfold cmpL; rw [ltB_self]; rfl
theorem cmpL_at {k : Nat} {a b : List Int} (ht : a.take k = b.take k) (ha : k < a.length) (hb : k < b.length) (hne : cmpI (a.getD k 0) (b.getD k 0) ≠ 0) : cmpL a b = cmpI (a.getD k 0) (b.getD k 0) := by
  have hn : a.getD k 0 ≠ b.getD k 0 := fun e => hne (by rw [e]; unfold cmpI; simp)
  unfold cmpL
  rw [ltB_at k a b ht ha hb hn, ltB_at k b a ht.symm hb ha hn.symm]
  unfold cmpI; simp
theorem cmpI_zero {x y : Int} (h : cmpI x y = 0) : x = y := by unfold cmpI at h; split at h <;> (try split at h) <;> omega
theorem ltB_trans : ∀ {a b c : List Int}, ltB a b = true → ltB b c = true → ltB a c = true
  | [], _, _, h, _ => by simp [ltB] at h
  | _ :: _, [], _, h, _ => by simp [ltB] at h
  | _ :: _, _ :: _, [], _, h => by simp [ltB] at h
  | x :: a, y :: b, z :: c, h, k => by
    rw [ltB] at h k ⊢
    split at h
    · rename_i e
      subst e
      split at k
      · rename_i e2
        rw [if_pos e2]; exact ltB_trans h k
      · rename_i e2
        rw [if_neg e2]; exact k
    · split at k
      · rename_i e1 e2
        subst e2
        rw [if_neg e1]; exact h
      · rw [decide_eq_true_eq] at h k
        rw [if_neg (by omega), decide_eq_true_eq]; omega
theorem ltB_total : ∀ {a b : List Int}, a.length = b.length → ltB a b = false → ltB b a = false → a = b
  | [], [], _, _, _ => rfl
  | [], _ :: _, h, _, _ => by simp at h
  | _ :: _, [], h, _, _ => by simp at h
  | x :: a, y :: b, h, k1, k2 => by
    rw [ltB] at k1 k2
    by_cases e : x = y
    · subst e
      rw [if_pos rfl] at k1 k2
      rw [ltB_total (by simpa using h) k1 k2]
    · rw [if_neg e, decide_eq_false_iff_not] at k1
      rw [if_neg (fun h => e h.symm), decide_eq_false_iff_not] at k2
      omega
theorem take_stepI {a b : List Int} {k : Nat} (ha : k < a.length) (hb : k < b.length) (h : a.take k = b.take k) (e : a.getD k 0 = b.getD k 0) : a.take (k + 1) = b.take (k + 1) := by
  rw [List.getD_eq_getElem?_getD, List.getElem?_eq_getElem ha, List.getD_eq_getElem?_getD, List.getElem?_eq_getElem hb] at e
  rw [List.take_succ_eq_append_getElem ha, List.take_succ_eq_append_getElem hb, h]
  simp at e; rw [e]
set_option maxRecDepth 100000 in
set_option maxHeartbeats 4000000 in
theorem compareG_any (m : Nat) (a b : List Int) (va vb : Value) (hb : Nat) (w : World) (ia : ISr w hb va a) (ib : ISr w hb vb b) (la : a.length = m) (lb : b.length = m) (hm : m ≤ 1000) (h1 : 1 ≤ m) :
    Calls Tryz.prog 40 #[va, vb] w fun e w' => e = .returned (.int .i64 (cmpL a b)) ∧ w = w' := by
  obtain ⟨b1, o1, c1, rfl, -, x0⟩ := (ia.cases).resolve_left (fun e => by rw [e.1] at la; simp at la; omega) |>.2.2
  obtain ⟨b2, o2, c2, rfl, -, y0⟩ := (ib.cases).resolve_left (fun e => by rw [e.1] at lb; simp at lb; omega) |>.2.2
  have HX := Lib.hid x0
  have HY := Lib.hid y0
  have HA := Lib.hid la
  have HB := Lib.hid lb
  rw [la, lb]
  clear ia ib x0 y0 la lb
  go_enter Tryz.func40, Tryz.ntmps40
  go_wp2
  go_loop [5, 6, 7, 8, 11] (fun _ _ _ _ i => ∃ k : Nat, k ≤ m ∧ i = .int .i64 k ∧ Hid (a.take k = b.take k)) (fun _ _ _ _ i => m - (intOf i).toNat)
  case atStart => exact ⟨0, by omega, rfl, Lib.hid (by simp)⟩
  case round =>
    obtain ⟨k, hk, rfl, ht⟩ := hrel
    by_cases hlt : k < m
    · have ka : k < a.length := by rw [HA.out]; exact hlt
      have kb : k < b.length := by rw [HB.out]; exact hlt
      have xk := HX.out k ka
      have yk := HY.out k kb
      have C0 := cmpI_any (a.getD k 0) (b.getD k 0) w
      have HN := Lib.hid (fun h => cmpL_at ht.out ka kb h)
      have HS := Lib.hid (fun h => take_stepI ka kb ht.out (cmpI_zero h))
      have hge : ¬ (m : Int) ≤ (k : Int) := by omega
      clear ka kb
      generalize a.getD k 0 = x at *
      generalize b.getD k 0 = y at *
      generalize cmpI x y = c at *
      by_cases hc : c = 0
      · have HT := Lib.hid (HS.out hc)
        subst hc
        go_wp2_with (go_at_call 83; (with_reducible refine C0.mono ?_); rintro e w' ⟨rfl, rfl⟩)
        go_round
        case rel => exact ⟨k + 1, by omega, by go_num, HT⟩
        case measure => simp [intOf]; omega
      · have HT := Lib.hid (HN.out hc)
        have hcb : (c != 0) = true := by simpa using hc
        go_wp2_with (go_at_call 83; (with_reducible refine C0.mono ?_); rintro e w' ⟨rfl, rfl⟩)
        go_ret
        exact ⟨by rw [HT.out]; rfl, rfl⟩
    · obtain rfl : k = m := by omega
      have he : a = b := by
        have := ht.out
        rwa [← HA.out, List.take_length, HA.out, ← HB.out, List.take_length] at this
      have HC := Lib.hid (show cmpL a b = 0 by rw [he]; exact cmpL_self b)
      clear he
      go_wp2
      go_ret
      exact ⟨by rw [HC.out]; rfl, rfl⟩
set_option maxRecDepth 100000 in
set_option maxHeartbeats 4000000 in
theorem l2BeforeG_any (a b : List Int) (va vb : Value) (ha hb : Nat) (w : World) {m : Nat} (ia : ISr w ha va a) (ib : ISr w hb vb b) (la : a.length = m) (lb : b.length = m) (hm : m ≤ 1000) :
    Calls Tryz.prog 89 #[va, vb] w fun e w' => e = .returned (.bool (ltB a b)) ∧ ∃ d, w' = w.drewN d := by
  obtain ⟨a1, c1, rfl, -, -, x0⟩ := ia
  obtain ⟨a2, c2, rfl, -, -, y0⟩ := ib
  have HX := Lib.hid x0
  have HY := Lib.hid y0
  have HA := Lib.hid la
  have HB := Lib.hid lb
  rw [la, lb]
  clear x0 y0 la lb
  go_enter Tryz.func89, Tryz.ntmps89
  go_wp2
  go_loopw [5] (fun i wr => ∃ (d k : Nat), k ≤ m ∧ i = .int .i64 k ∧ Hid (wr = w.drewN d) ∧ Hid (a.take k = b.take k)) (fun i _ => m - (intOf i).toNat)
  case atStart => exact ⟨0, 0, by omega, rfl, Lib.hid rfl, Lib.hid (by simp)⟩
  case round =>
    obtain ⟨d, k, hk, rfl, HW, ht⟩ := hrel
    by_cases hlt : k < m
    · have ka : k < a.length := by rw [HA.out]; exact hlt
      have kb : k < b.length := by rw [HB.out]; exact hlt
      obtain ⟨b1, o1, rfl, -, xc⟩ := HX.out (by intro e; rw [e] at ka; simp at ka)
      obtain ⟨b2, o2, rfl, -, yc⟩ := HY.out (by intro e; rw [e] at kb; simp at kb)
      have xk : wr.cell? ⟨b1, o1 + k, none⟩ = some (.int .i64 (a.getD k 0)) := by rw [HW.out]; exact xc k ka
      have yk : wr.cell? ⟨b2, o2 + k, none⟩ = some (.int .i64 (b.getD k 0)) := by rw [HW.out]; exact yc k kb
      have HN := Lib.hid (fun h => ltB_at k a b ht.out ka kb h)
      have HS := Lib.hid (fun h => take_stepI ka kb ht.out h)
      have k0 : (0 : Int) ≤ (k : Int) := by omega
      have k1 : (k : Int) < (m : Int) := by omega
      clear ka kb xc yc
      generalize a.getD k 0 = x at *
      generalize b.getD k 0 = y at *
      by_cases hc : x = y
      · have HT := Lib.hid (HS.out hc)
        subst hc
        have hxx : (x != x) = false := by simp
        go_wp2
        go_quiet (fail)
        go_wp2
        go_roundw
        case rel => exact ⟨_, k + 1, by omega, by go_num, Lib.hid (by rw [HW.out, World.drewN_drewN]), HT⟩
        case measure => simp [intOf]; omega
      · have HT := Lib.hid (HN.out hc)
        have hcb : (x != y) = true := by simpa using hc
        have XK := Lib.hid (show ∀ n, (wr.drewN n).cell? ⟨b1, o1 + k, none⟩ = some (.int .i64 x) from fun n => xk)
        have YK := Lib.hid (show ∀ n, (wr.drewN n).cell? ⟨b2, o2 + k, none⟩ = some (.int .i64 y) from fun n => yk)
        go_wp2
        go_quiet (fail)
        have xk' := XK.out nq
        have yk' := YK.out nq
        go_wp2
        go_quiet (fail)
        go_wp2
        go_ret
        refine ⟨ret_bool HT.out.symm, ?_⟩
        rw [HW.out]
        simp only [World.drewN_drewN]
        exact ⟨_, rfl⟩
    · obtain rfl : k = m := by omega
      have he : a = b := by
        have := ht.out
        rwa [← HA.out, List.take_length, HA.out, ← HB.out, List.take_length] at this
      have HC := Lib.hid (show ltB a b = false by rw [he]; exact ltB_self b)
      have k1 : ¬ (k : Int) < (k : Int) := by omega
      clear he
      go_wp2
      go_ret
      exact ⟨ret_bool HC.out.symm, _, HW.out⟩
end Go.Proofs.YtehhoplenloocaaGreat
