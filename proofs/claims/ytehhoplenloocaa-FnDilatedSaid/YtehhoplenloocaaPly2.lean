/- IsPolygon: the program's walk. -/
import Derived.Test.YtehhoplenloocaaPly1
import Derived.Test.YtehhoplenloocaaB1
namespace Go.Proofs.Ytehhoplenloocaa
open Go.RowKit
set_option linter.unusedVariables false
set_option linter.unusedSimpArgs false

def pf (ls : List (List Int)) (k : Nat) : Pt := ptOf (ls.getD k [])
def flatB (ls : List (List Int)) (m : Int) : Bool := ls.all fun r => ptB r m
def isPolyB (ls : List (List Int)) : Bool := inB ls.length 3 12 && (flatB ls 50 && locB ls.length (pf ls))
def flatK (ls : List (List Int)) (m : Int) (k : Nat) : Bool := (ls.take k).all fun r => ptB r m
theorem flatK_step (ls : List (List Int)) (m : Int) (k : Nat) (h : k < ls.length) : flatK ls m (k + 1) = (flatK ls m k && ptB (ls.getD k []) m) := by
  unfold flatK
  rw [List.take_succ_eq_append_getElem h, List.all_append, List.getD_eq_getElem?_getD, List.getElem?_eq_getElem h]; simp
theorem flatK_full (ls : List (List Int)) (m : Int) : flatK ls m ls.length = flatB ls m := by unfold flatK flatB; rw [List.take_length]
theorem flatB_no {ls : List (List Int)} {m : Int} {k : Nat} (h : k < ls.length) (hf : ptB (ls.getD k []) m = false) : flatB ls m = false := by
  unfold flatB
  rw [List.all_eq_false]
  refine ⟨ls.getD k [], ?_, by rw [hf]; simp⟩
  rw [List.getD_eq_getElem?_getD, List.getElem?_eq_getElem h]; exact List.getElem_mem h
theorem flatB_at {ls : List (List Int)} {m : Int} (h : flatB ls m = true) : ∀ k, k < ls.length → ptB (ls.getD k []) m = true := fun k hk => by
  refine List.all_eq_true.1 h _ ?_
  rw [List.getD_eq_getElem?_getD, List.getElem?_eq_getElem hk]; exact List.getElem_mem hk
theorem locB_no {n : Nat} {p : Nat → Pt} {k : Nat} (hk : k < n) (h : locAt n p k = false) : locB n p = false := by
  unfold locB; rw [List.all_eq_false]; exact ⟨k, List.mem_range.2 hk, by rw [h]; simp⟩
theorem locB_yes {n : Nat} {p : Nat → Pt} (h : ∀ k, k < n → locAt n p k = true) : locB n p = true := by
  unfold locB; rw [List.all_eq_true]; exact fun k hk => h k (List.mem_range.1 hk)
theorem isPolyB_no2 {ls : List (List Int)} (h : flatB ls 50 = false) : isPolyB ls = false := by unfold isPolyB; rw [h]; simp
theorem isPolyB_no3 {ls : List (List Int)} (h : locB ls.length (pf ls) = false) : isPolyB ls = false := by unfold isPolyB; rw [h]; simp
theorem cmp2_lt {a b : Pt} : cmp2 a b < 0 ↔ ltP a b := by
  unfold cmp2
  by_cases h : ltP a b
  · rw [if_pos h]; exact ⟨fun _ => h, fun _ => by omega⟩
  · rw [if_neg h]
    constructor
    · intro k; split at k <;> omega
    · intro k; exact absurd k h
theorem pt_ok {r : List Int} (h : ptB r 50 = true) : r.length = 2 ∧ allIn r (-1000000) 1000000 = true := ⟨(ptB_len h).1, allIn_wide (ptB_len h).2 (by omega)⟩

set_option maxRecDepth 100000 in
set_option maxHeartbeats 16000000 in
theorem implIsPolygon_any (ls : List (List Int)) (v : Value) (hb : Nat) (w : World) (h : ISSr w hb v ls) (hhb : hb ≤ w.heap.size) :
    Calls Try.prog 64 #[v] w fun e w' => e = .returned (.bool (isPolyB ls)) ∧ Below w.heap.size w w' := by
  obtain ⟨a, cap, rfl, hcap, hm, hcell⟩ := id h
  unfold maxLen at hm
  have W1 := fun w => within_any ls.length 3 12 w
  cases h1 : inB ls.length 3 12
  · have hr : isPolyB ls = false := by unfold isPolyB; rw [h1]; rfl
    rw [hr]
    simp only [h1] at W1
    clear hr h1 hcell h hcap
    generalize ls.length = n at *
    go_enter Try.func64, Try.ntmps64
    go_wp2_with (go_at_call 65; (with_reducible refine (W1 _).mono ?_); rintro e w' ⟨rfl, rfl⟩)
    go_ret
    exact ⟨rfl, Below.refl _ _⟩
  have hlen := inB_iff.1 h1
  simp only [h1] at W1
  have HF := Lib.hid (show isPolyB ls = (flatB ls 50 && locB ls.length (pf ls)) by unfold isPolyB; rw [h1]; rfl)
  have HN2 := Lib.hid (isPolyB_no2 (ls := ls))
  have HN3 := Lib.hid (isPolyB_no3 (ls := ls))
  generalize isPolyB ls = RES at *
  obtain ⟨n, hn⟩ : ∃ n, n = ls.length := ⟨_, rfl⟩
  obtain ⟨b, off, V, rfl, hbb, hrow⟩ := hcell (by intro e; rw [e] at hlen; simp at hlen)
  rw [← hn] at hlen hcap hrow W1 HF HN3 ⊢
  have HN := Lib.hid hn
  have HCW := Lib.hid (show ∀ i, i < n → ∀ W, Below w.heap.size w W → W.cell? ⟨b, off + i, none⟩ = some (V i) ∧ ISr W hb (V i) (ls.getD i []) from fun i hi W B => ⟨(B.cell (p := ⟨b, off + i, none⟩) (Nat.lt_of_lt_of_le hbb hhb)).trans (hrow i hi).1, (hrow i hi).2.keep B hhb⟩)
  clear hn hrow h h1
  have HB0 := Lib.hid (Below.refl w.heap.size w)
  have HC0 := Lib.hid (HCW.out · · w HB0.out)
  go_enter Try.func64, Try.ntmps64
  go_wp2_with (go_at_call 65; (with_reducible refine (W1 _).mono ?_); rintro e w' ⟨rfl, rfl⟩)
  go_loop [4, 14] (fun _ i => ∃ k : Nat, k ≤ n ∧ i = .int .i64 k ∧ flatK ls 50 k = true) (fun _ i => n - (intOf i).toNat)
  case atStart => exact ⟨0, by omega, rfl, rfl⟩
  case round =>
    obtain ⟨k, hk, rfl, hall⟩ := hrel
    have HALL := Lib.hid hall
    clear hall
    by_cases hlt : k < n
    · have hc := (HC0.out k hlt).1
      have HS := Lib.hid (flatK_step ls 50 k (by rw [← HN.out]; exact hlt))
      have HNO := Lib.hid (fun h => HN2.out (flatB_no (ls := ls) (m := 50) (k := k) (by rw [← HN.out]; exact hlt) h))
      have CP := isPoint_any (ls.getD k []) (V k) 50 hb w (HC0.out k hlt).2 (by omega) (by omega)
      generalize V k = xk at *
      cases hp : ptB (ls.getD k []) 50
      · rw [hp] at CP
        have HR := Lib.hid (HNO.out hp)
        clear hp
        go_wp2_with (go_at_call 127; (with_reducible refine CP.mono ?_); rintro e w' ⟨rfl, rfl⟩)
        go_ret
        exact ⟨ret_bool HR.out.symm, HB0.out⟩
      · rw [hp] at CP
        have HK := Lib.hid (show flatK ls 50 (k + 1) = true by rw [HS.out, HALL.out, hp]; rfl)
        clear hp
        go_wp2_with (go_at_call 127; (with_reducible refine CP.mono ?_); rintro e w' ⟨rfl, rfl⟩)
        go_round
        case rel => exact ⟨k + 1, by omega, by go_num, HK.out⟩
        case measure => simp [intOf]; omega
    · obtain rfl : k = n := by omega
      have hfl : flatB ls 50 = true := by rw [← flatK_full, ← HN.out]; exact HALL.out
      have HFL := Lib.hid (flatB_at hfl)
      have HRES := Lib.hid (show RES = locB k (pf ls) by rw [HF.out, hfl]; rfl)
      clear hfl hlt
      go_wp2
      generalize hk' : k = n at *
      clear hk'
      go_loopw [6, 7, 26] (fun _ _ i wr => ∃ k : Nat, k ≤ n ∧ i = .int .i64 k ∧ Hid (∀ j, j < k → locAt n (pf ls) j = true) ∧ Hid (Below w.heap.size w wr)) (fun _ _ i _ => n - (intOf i).toNat)
      case atStart => exact ⟨0, by omega, rfl, Lib.hid (fun j hj => absurd hj (Nat.not_lt_zero _)), HB0⟩
      case round =>
        obtain ⟨k, hk, rfl, hloc, hbe⟩ := hrel
        by_cases hlt : k < n
        · have hbs := hbe.out.size
          have hck := (HCW.out k hlt wr hbe.out).1
          obtain ⟨i1, hi1⟩ : ∃ i1, i1 = (k + 1) % n := ⟨_, rfl⟩
          obtain ⟨i2, hi2⟩ : ∃ i2, i2 = (k + 2) % n := ⟨_, rfl⟩
          have l1 : i1 < n := by rw [hi1]; exact Nat.mod_lt _ (by omega)
          have l2 : i2 < n := by rw [hi2]; exact Nat.mod_lt _ (by omega)
          have m1 : ((k : Int) + 1).tmod (n : Int) = (i1 : Int) := by
            rw [Int.tmod_eq_emod_of_nonneg (by omega), hi1]; simp
          have m2 : ((k : Int) + 2).tmod (n : Int) = (i2 : Int) := by
            rw [Int.tmod_eq_emod_of_nonneg (by omega), hi2]; simp
          have HLA := Lib.hid (locAt_iff (n := n) (p := pf ls) (k := k))
          rw [← hi1, ← hi2] at HLA
          have HNO := Lib.hid (fun h => HRES.out.trans (locB_no (p := pf ls) hlt h))
          have HYS := Lib.hid (show locAt n (pf ls) k = true → ∀ j, j < k + 1 → locAt n (pf ls) j = true from fun h0 j hj => by
            by_cases e : j = k
            · subst e; exact h0
            · exact hloc.out j (by omega))
          have HPT := Lib.hid (fun i (hi : i < n) => pt_ok (HFL.out i (by rw [← HN.out]; exact hi)))
          have hw1 := wr64 ((k : Int) + 1) (by omega)
          have hw2 := wr64 ((k : Int) + 2) (by omega)
          have hw3 := wr64 ((n : Int) - 1) (by omega)
          have hn0 : ((n : Int) == 0) = false := by rw [beq_eq_false_iff_ne]; omega
          have hn0' : ¬ (n : Int) = 0 := by omega
          have q1 : (0 : Int) ≤ (i1 : Int) := by omega
          have q2 : (i1 : Int) < (n : Int) := by omega
          have q3 : (0 : Int) ≤ (i2 : Int) := by omega
          have q4 : (i2 : Int) < (n : Int) := by omega
          have q5 : (0 : Int) < (n : Int) := by omega
          have q6 : (k : Int) < (n : Int) := by omega
          have CT1 := fun W (B : Below w.heap.size w W) => turn_any _ _ _ (V k) (V i1) (V i2) hb W (HCW.out k hlt W B).2 (HCW.out i1 l1 W B).2 (HCW.out i2 l2 W B).2 (by have := B.size; omega) (HPT.out k hlt).1 (HPT.out i1 l1).1 (HPT.out i2 l2).1 (HPT.out k hlt).2 (HPT.out i1 l1).2 (HPT.out i2 l2).2
          have CC := fun W (B : Below w.heap.size w W) => compare_any _ _ (V 0) (V k) hb W (HCW.out 0 (by omega) W B).2 (HCW.out k hlt W B).2 (HPT.out 0 (by omega)).1 (HPT.out k hlt).1
          have hT1 : tn (ptOf (ls.getD k [])) (ptOf (ls.getD i1 [])) (ptOf (ls.getD i2 [])) = tn (pf ls k) (pf ls i1) (pf ls i2) := rfl
          have hCC : cmp2 (ptOf (ls.getD 0 [])) (ptOf (ls.getD k [])) = cmp2 (pf ls 0) (pf ls k) := rfl
          rw [hT1] at CT1
          rw [hCC] at CC
          clear hi1 hi2 hT1 hCC
          obtain ⟨T1, hT1⟩ : ∃ t, t = tn (pf ls k) (pf ls i1) (pf ls i2) := ⟨_, rfl⟩
          rw [← hT1] at CT1 HLA
          obtain ⟨D, hD⟩ : ∃ t, t = cmp2 (pf ls 0) (pf ls k) := ⟨_, rfl⟩
          rw [← hD] at CC
          have HD := Lib.hid (show D < 0 ↔ ltP (pf ls 0) (pf ls k) by rw [hD]; exact cmp2_lt)
          clear hT1 hD
          by_cases ht1 : T1 ≤ 0
          · have hg1 : decide (T1 ≤ 0) = true := by rw [decide_eq_true_eq]; omega
            have HR := Lib.hid (HNO.out (by rw [← Bool.not_eq_true, HLA.out]; intro hh; omega))
            go_wp2_with fail
            refine wp_region_class (fun w' => Below w.heap.size w w') (by kernel_rfl) (by kernel_rfl) (hbe.out.trans (below_draws _ wr 1)) (fun hne => ?_)
            generalize hC : (fun w' => Below w.heap.size w w') = C at *
            have ck : ∀ x : InC C, x.w.cell? ⟨b, off + k, none⟩ = some (V k) := by subst hC; exact fun x => (HCW.out k (by omega) _ x.h).1
            have c1 : ∀ x : InC C, x.w.cell? ⟨b, off + i1, none⟩ = some (V i1) := by subst hC; exact fun x => (HCW.out i1 (by omega) _ x.h).1
            have c2 : ∀ x : InC C, x.w.cell? ⟨b, off + i2, none⟩ = some (V i2) := by subst hC; exact fun x => (HCW.out i2 (by omega) _ x.h).1
            have R1 : ∀ x : InC C, Calls Try.prog 128 #[V k, V i1, V i2] x.w fun e w' => e = .returned (.int .i64 T1) ∧ ∃ m : InC C, w' = m.w := by subst hC; exact fun x => Calls.inC ((CT1 _ x.h).mono fun e w' ⟨he, c⟩ => ⟨he, below_then x.h x.h.size c⟩)
            have HCC := Lib.hid hC
            clear hC CT1 CC
            repeat (go_big_quiet_step (first | (go_at_call 128; with_reducible exact R1 _)))
            refine wpQuiet_nil ?_
            rintro _ ⟨x, rfl⟩
            have HBx := Lib.hid (show Below w.heap.size w x.w by have := HCC.out; subst this; exact x.h)
            generalize x.w = w2 at *
            clear ck c1 c2 R1
            go_wp2
            go_ret
            exact ⟨ret_bool HR.out.symm, HBx.out⟩
          have ht1' : 0 < T1 := by omega
          have hg1 : decide (T1 ≤ 0) = false := by rw [decide_eq_false_iff_not]; omega
          rcases Nat.eq_zero_or_pos k with rfl | hk0
          · have HR := Lib.hid (HYS.out (HLA.out.2 ⟨ht1', .inl rfl, .inl rfl⟩))
            have hck0 : wr.cell? ⟨b, off, none⟩ = some (V 0) := hck
            have m1b : (1 : Int).tmod (n : Int) = (i1 : Int) := m1
            have m2b : (2 : Int).tmod (n : Int) = (i2 : Int) := m2
            go_wp2_with fail
            refine wp_region_class (fun w' => Below w.heap.size w w') (by kernel_rfl) (by kernel_rfl) (hbe.out.trans (below_draws _ wr 1)) (fun hne => ?_)
            generalize hC : (fun w' => Below w.heap.size w w') = C at *
            have ck : ∀ x : InC C, x.w.cell? ⟨b, off, none⟩ = some (V 0) := by subst hC; exact fun x => (HCW.out 0 (by omega) _ x.h).1
            have c1 : ∀ x : InC C, x.w.cell? ⟨b, off + i1, none⟩ = some (V i1) := by subst hC; exact fun x => (HCW.out i1 (by omega) _ x.h).1
            have c2 : ∀ x : InC C, x.w.cell? ⟨b, off + i2, none⟩ = some (V i2) := by subst hC; exact fun x => (HCW.out i2 (by omega) _ x.h).1
            have R1 : ∀ x : InC C, Calls Try.prog 128 #[V 0, V i1, V i2] x.w fun e w' => e = .returned (.int .i64 T1) ∧ ∃ m : InC C, w' = m.w := by subst hC; exact fun x => Calls.inC ((CT1 _ x.h).mono fun e w' ⟨he, c⟩ => ⟨he, below_then x.h x.h.size c⟩)
            have HCC := Lib.hid hC
            clear hC CT1 CC
            repeat (go_big_quiet_step (first | (go_at_call 128; with_reducible exact R1 _)))
            refine wpQuiet_nil ?_
            rintro _ ⟨x, rfl⟩
            have HBx := Lib.hid (show Below w.heap.size w x.w by have := HCC.out; subst this; exact x.h)
            generalize x.w = w2 at *
            clear ck c1 c2 R1
            go_wp2
            go_roundw
            case rel => exact ⟨0 + 1, by omega, by go_num, HR, HBx⟩
            case measure => simp [intOf]; omega
          have hk0' : (0 : Int) < (k : Int) := by omega
          have hg2 : decide ((0 : Int) < (k : Int)) = true := by rw [decide_eq_true_eq]; omega
          by_cases hd : 0 ≤ D
          · have hg3 : decide (0 ≤ D) = true := by rw [decide_eq_true_eq]; omega
            have HR := Lib.hid (HNO.out (by
              rw [← Bool.not_eq_true, HLA.out]
              rintro ⟨-, h2 | h2, -⟩
              · omega
              · have := HD.out.2 h2; omega))
            go_wp2_with fail
            refine wp_region_class (fun w' => Below w.heap.size w w') (by kernel_rfl) (by kernel_rfl) (hbe.out.trans (below_draws _ wr 1)) (fun hne => ?_)
            generalize hC : (fun w' => Below w.heap.size w w') = C at *
            have ck : ∀ x : InC C, x.w.cell? ⟨b, off + k, none⟩ = some (V k) := by subst hC; exact fun x => (HCW.out k (by omega) _ x.h).1
            have c1 : ∀ x : InC C, x.w.cell? ⟨b, off + i1, none⟩ = some (V i1) := by subst hC; exact fun x => (HCW.out i1 (by omega) _ x.h).1
            have c2 : ∀ x : InC C, x.w.cell? ⟨b, off + i2, none⟩ = some (V i2) := by subst hC; exact fun x => (HCW.out i2 (by omega) _ x.h).1
            have c0 : ∀ x : InC C, x.w.cell? ⟨b, off, none⟩ = some (V 0) := by subst hC; exact fun x => (HCW.out 0 (by omega) _ x.h).1
            have R1 : ∀ x : InC C, Calls Try.prog 128 #[V k, V i1, V i2] x.w fun e w' => e = .returned (.int .i64 T1) ∧ ∃ m : InC C, w' = m.w := by subst hC; exact fun x => Calls.inC ((CT1 _ x.h).mono fun e w' ⟨he, c⟩ => ⟨he, below_then x.h x.h.size c⟩)
            have R2 : ∀ x : InC C, Calls Try.prog 87 #[V 0, V k] x.w fun e w' => e = .returned (.int .i64 D) ∧ ∃ m : InC C, w' = m.w := by subst hC; exact fun x => (CC _ x.h).mono fun e w' ⟨he, c⟩ => ⟨he, x, c.symm⟩
            have HCC := Lib.hid hC
            clear hC CT1 CC
            repeat (go_big_quiet_step (first | (go_at_call 128; with_reducible exact R1 _) | (go_at_call 87; with_reducible exact R2 _)))
            refine wpQuiet_nil ?_
            rintro _ ⟨x, rfl⟩
            have HBx := Lib.hid (show Below w.heap.size w x.w by have := HCC.out; subst this; exact x.h)
            generalize x.w = w2 at *
            clear ck c1 c2 c0 R1 R2
            go_wp2
            go_ret
            exact ⟨ret_bool HR.out.symm, HBx.out⟩
          have hd' : D < 0 := by omega
          have hg3 : decide (0 ≤ D) = false := by rw [decide_eq_false_iff_not]; omega
          by_cases hkn : n ≤ k + 1
          · have HR := Lib.hid (HYS.out (HLA.out.2 ⟨ht1', .inr (HD.out.1 hd'), .inr (.inl hkn)⟩))
            have hkn' : ¬ (k : Int) < (n : Int) - 1 := by omega
            have hg4 : decide ((k : Int) < (n : Int) - 1) = false := by rw [decide_eq_false_iff_not]; omega
            go_wp2_with fail
            refine wp_region_class (fun w' => Below w.heap.size w w') (by kernel_rfl) (by kernel_rfl) (hbe.out.trans (below_draws _ wr 1)) (fun hne => ?_)
            generalize hC : (fun w' => Below w.heap.size w w') = C at *
            have ck : ∀ x : InC C, x.w.cell? ⟨b, off + k, none⟩ = some (V k) := by subst hC; exact fun x => (HCW.out k (by omega) _ x.h).1
            have c1 : ∀ x : InC C, x.w.cell? ⟨b, off + i1, none⟩ = some (V i1) := by subst hC; exact fun x => (HCW.out i1 (by omega) _ x.h).1
            have c2 : ∀ x : InC C, x.w.cell? ⟨b, off + i2, none⟩ = some (V i2) := by subst hC; exact fun x => (HCW.out i2 (by omega) _ x.h).1
            have c0 : ∀ x : InC C, x.w.cell? ⟨b, off, none⟩ = some (V 0) := by subst hC; exact fun x => (HCW.out 0 (by omega) _ x.h).1
            have R1 : ∀ x : InC C, Calls Try.prog 128 #[V k, V i1, V i2] x.w fun e w' => e = .returned (.int .i64 T1) ∧ ∃ m : InC C, w' = m.w := by subst hC; exact fun x => Calls.inC ((CT1 _ x.h).mono fun e w' ⟨he, c⟩ => ⟨he, below_then x.h x.h.size c⟩)
            have R2 : ∀ x : InC C, Calls Try.prog 87 #[V 0, V k] x.w fun e w' => e = .returned (.int .i64 D) ∧ ∃ m : InC C, w' = m.w := by subst hC; exact fun x => (CC _ x.h).mono fun e w' ⟨he, c⟩ => ⟨he, x, c.symm⟩
            have HCC := Lib.hid hC
            clear hC CT1 CC
            repeat (go_big_quiet_step (first | (go_at_call 128; with_reducible exact R1 _) | (go_at_call 87; with_reducible exact R2 _)))
            refine wpQuiet_nil ?_
            rintro _ ⟨x, rfl⟩
            have HBx := Lib.hid (show Below w.heap.size w x.w by have := HCC.out; subst this; exact x.h)
            generalize x.w = w2 at *
            clear ck c1 c2 c0 R1 R2
            go_wp2
            go_roundw
            case rel => exact ⟨k + 1, by omega, by go_num, HR, HBx⟩
            case measure => simp [intOf]; omega
          have hkn' : (k : Int) < (n : Int) - 1 := by omega
          have hg4 : decide ((k : Int) < (n : Int) - 1) = true := by rw [decide_eq_true_eq]; omega
          have q7 : (k : Int) + 1 < (n : Int) := by omega
          have q8 : (0 : Int) ≤ (k : Int) + 1 := by omega
          have hto1 : ((k : Int) + 1).toNat = k + 1 := by omega
          have CT3 := fun W (B : Below w.heap.size w W) => turn_any _ _ _ (V 0) (V k) (V (k + 1)) hb W (HCW.out 0 (by omega) W B).2 (HCW.out k hlt W B).2 (HCW.out (k + 1) (by omega) W B).2 (by have := B.size; omega) (HPT.out 0 (by omega)).1 (HPT.out k hlt).1 (HPT.out (k + 1) (by omega)).1 (HPT.out 0 (by omega)).2 (HPT.out k hlt).2 (HPT.out (k + 1) (by omega)).2
          have hT3 : tn (ptOf (ls.getD 0 [])) (ptOf (ls.getD k [])) (ptOf (ls.getD (k + 1) [])) = tn (pf ls 0) (pf ls k) (pf ls (k + 1)) := rfl
          rw [hT3] at CT3
          clear hT3
          obtain ⟨T3, hT3⟩ : ∃ t, t = tn (pf ls 0) (pf ls k) (pf ls (k + 1)) := ⟨_, rfl⟩
          rw [← hT3] at CT3 HLA
          clear hT3
          by_cases ht3 : T3 ≤ 0
          · have hg5 : decide (T3 ≤ 0) = true := by rw [decide_eq_true_eq]; omega
            have HR := Lib.hid (HNO.out (by rw [← Bool.not_eq_true, HLA.out]; rintro ⟨-, -, h3 | h3 | h3⟩ <;> omega))
            go_wp2_with fail
            refine wp_region_class (fun w' => Below w.heap.size w w') (by kernel_rfl) (by kernel_rfl) (hbe.out.trans (below_draws _ wr 1)) (fun hne => ?_)
            generalize hC : (fun w' => Below w.heap.size w w') = C at *
            have ck : ∀ x : InC C, x.w.cell? ⟨b, off + k, none⟩ = some (V k) := by subst hC; exact fun x => (HCW.out k (by omega) _ x.h).1
            have c1 : ∀ x : InC C, x.w.cell? ⟨b, off + i1, none⟩ = some (V i1) := by subst hC; exact fun x => (HCW.out i1 (by omega) _ x.h).1
            have c2 : ∀ x : InC C, x.w.cell? ⟨b, off + i2, none⟩ = some (V i2) := by subst hC; exact fun x => (HCW.out i2 (by omega) _ x.h).1
            have c0 : ∀ x : InC C, x.w.cell? ⟨b, off, none⟩ = some (V 0) := by subst hC; exact fun x => (HCW.out 0 (by omega) _ x.h).1
            have c3 : ∀ x : InC C, x.w.cell? ⟨b, off + (k + 1), none⟩ = some (V (k + 1)) := by subst hC; exact fun x => (HCW.out (k + 1) (by omega) _ x.h).1
            have R1 : ∀ x : InC C, Calls Try.prog 128 #[V k, V i1, V i2] x.w fun e w' => e = .returned (.int .i64 T1) ∧ ∃ m : InC C, w' = m.w := by subst hC; exact fun x => Calls.inC ((CT1 _ x.h).mono fun e w' ⟨he, c⟩ => ⟨he, below_then x.h x.h.size c⟩)
            have R2 : ∀ x : InC C, Calls Try.prog 87 #[V 0, V k] x.w fun e w' => e = .returned (.int .i64 D) ∧ ∃ m : InC C, w' = m.w := by subst hC; exact fun x => (CC _ x.h).mono fun e w' ⟨he, c⟩ => ⟨he, x, c.symm⟩
            have R3 : ∀ x : InC C, Calls Try.prog 128 #[V 0, V k, V (k + 1)] x.w fun e w' => e = .returned (.int .i64 T3) ∧ ∃ m : InC C, w' = m.w := by subst hC; exact fun x => Calls.inC ((CT3 _ x.h).mono fun e w' ⟨he, c⟩ => ⟨he, below_then x.h x.h.size c⟩)
            have HCC := Lib.hid hC
            clear hC CT1 CC CT3
            repeat (go_big_quiet_step (first | (go_at_call 128; with_reducible exact R1 _) | (go_at_call 87; with_reducible exact R2 _) | (go_at_call 128; with_reducible exact R3 _)))
            refine wpQuiet_nil ?_
            rintro _ ⟨x, rfl⟩
            have HBx := Lib.hid (show Below w.heap.size w x.w by have := HCC.out; subst this; exact x.h)
            generalize x.w = w2 at *
            clear ck c1 c2 c0 c3 R1 R2 R3
            go_wp2
            go_ret
            exact ⟨ret_bool HR.out.symm, HBx.out⟩
          · have hg5 : decide (T3 ≤ 0) = false := by rw [decide_eq_false_iff_not]; omega
            have HR := Lib.hid (HYS.out (HLA.out.2 ⟨ht1', .inr (HD.out.1 hd'), .inr (.inr (by omega))⟩))
            go_wp2_with fail
            refine wp_region_class (fun w' => Below w.heap.size w w') (by kernel_rfl) (by kernel_rfl) (hbe.out.trans (below_draws _ wr 1)) (fun hne => ?_)
            generalize hC : (fun w' => Below w.heap.size w w') = C at *
            have ck : ∀ x : InC C, x.w.cell? ⟨b, off + k, none⟩ = some (V k) := by subst hC; exact fun x => (HCW.out k (by omega) _ x.h).1
            have c1 : ∀ x : InC C, x.w.cell? ⟨b, off + i1, none⟩ = some (V i1) := by subst hC; exact fun x => (HCW.out i1 (by omega) _ x.h).1
            have c2 : ∀ x : InC C, x.w.cell? ⟨b, off + i2, none⟩ = some (V i2) := by subst hC; exact fun x => (HCW.out i2 (by omega) _ x.h).1
            have c0 : ∀ x : InC C, x.w.cell? ⟨b, off, none⟩ = some (V 0) := by subst hC; exact fun x => (HCW.out 0 (by omega) _ x.h).1
            have c3 : ∀ x : InC C, x.w.cell? ⟨b, off + (k + 1), none⟩ = some (V (k + 1)) := by subst hC; exact fun x => (HCW.out (k + 1) (by omega) _ x.h).1
            have R1 : ∀ x : InC C, Calls Try.prog 128 #[V k, V i1, V i2] x.w fun e w' => e = .returned (.int .i64 T1) ∧ ∃ m : InC C, w' = m.w := by subst hC; exact fun x => Calls.inC ((CT1 _ x.h).mono fun e w' ⟨he, c⟩ => ⟨he, below_then x.h x.h.size c⟩)
            have R2 : ∀ x : InC C, Calls Try.prog 87 #[V 0, V k] x.w fun e w' => e = .returned (.int .i64 D) ∧ ∃ m : InC C, w' = m.w := by subst hC; exact fun x => (CC _ x.h).mono fun e w' ⟨he, c⟩ => ⟨he, x, c.symm⟩
            have R3 : ∀ x : InC C, Calls Try.prog 128 #[V 0, V k, V (k + 1)] x.w fun e w' => e = .returned (.int .i64 T3) ∧ ∃ m : InC C, w' = m.w := by subst hC; exact fun x => Calls.inC ((CT3 _ x.h).mono fun e w' ⟨he, c⟩ => ⟨he, below_then x.h x.h.size c⟩)
            have HCC := Lib.hid hC
            clear hC CT1 CC CT3
            repeat (go_big_quiet_step (first | (go_at_call 128; with_reducible exact R1 _) | (go_at_call 87; with_reducible exact R2 _) | (go_at_call 128; with_reducible exact R3 _)))
            refine wpQuiet_nil ?_
            rintro _ ⟨x, rfl⟩
            have HBx := Lib.hid (show Below w.heap.size w x.w by have := HCC.out; subst this; exact x.h)
            generalize x.w = w2 at *
            clear ck c1 c2 c0 c3 R1 R2 R3
            go_wp2
            go_roundw
            case rel => exact ⟨k + 1, by omega, by go_num, HR, HBx⟩
            case measure => simp [intOf]; omega
        · obtain rfl : k = n := by omega
          have HR := Lib.hid (HRES.out.trans (locB_yes hloc.out))
          go_wp2
          go_ret
          exact ⟨ret_bool HR.out.symm, hbe.out⟩
end Go.Proofs.Ytehhoplenloocaa
