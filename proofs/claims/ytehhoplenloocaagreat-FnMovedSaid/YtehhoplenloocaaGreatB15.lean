/- B15: texts in one: Ply1 Ply2 PS1 Put Hull HulS HulW. -/
import Derived.Test.YtehhoplenloocaaGreatB2
import Derived.Test.YtehhoplenloocaaGreatB9
import Derived.Test.YtehhoplenloocaaGreatB1
import Derived.Deep.RegionHeld3
import Derived.Deep.DeepCutAuto
import Derived.Test.YtehhoplenloocaaGreatB4
/- Turns and the order of points: the program's walks. -/
namespace Go.Proofs.YtehhoplenloocaaGreat
open Go.RowKit
set_option linter.unusedVariables false
set_option linter.unusedSimpArgs false

def cmpI (a b : Int) : Int := if a < b then -1 else if b < a then 1 else 0
def cmp2 (a b : Pt) : Int := if ltP a b then -1 else if ltP b a then 1 else 0
theorem cmp2_rows (a b : Pt) : cmp2 a b = if cmpI a.1 b.1 = 0 then cmpI a.2 b.2 else cmpI a.1 b.1 := by
  unfold cmp2 cmpI ltP
  rcases Int.lt_trichotomy a.1 b.1 with h | h | h <;> rcases Int.lt_trichotomy a.2 b.2 with k | k | k <;> simp [h, k] <;> first | omega | (split <;> (try split) <;> omega) | skip
set_option maxHeartbeats 1000000 in
theorem cmpI_any (a b : Int) (w : World) : Calls Tryz.prog 83 #[.int .i64 a, .int .i64 b] w fun e w' => e = .returned (.int .i64 (cmpI a b)) ∧ w = w' := by
  have ha : (a != a) = false := by simp
  have hb : (b != b) = false := by simp
  unfold cmpI
  by_cases h1 : a < b
  · rw [if_pos h1]
    go_enter Tryz.func83, Tryz.ntmps83
    go_wp2
    go_ret
    exact ⟨rfl, rfl⟩
  · rw [if_neg h1]
    by_cases h2 : b < a
    · rw [if_pos h2]
      go_enter Tryz.func83, Tryz.ntmps83
      go_wp2
      go_ret
      exact ⟨rfl, rfl⟩
    · rw [if_neg h2]
      go_enter Tryz.func83, Tryz.ntmps83
      go_wp2
      go_ret
      exact ⟨rfl, rfl⟩
set_option maxRecDepth 100000 in
set_option maxHeartbeats 2000000 in
theorem compare_any (a b : List Int) (va vb : Value) (hb : Nat) (w : World) (ia : ISr w hb va a) (ib : ISr w hb vb b) (la : a.length = 2) (lb : b.length = 2) :
    Calls Tryz.prog 40 #[va, vb] w fun e w' => e = .returned (.int .i64 (cmp2 (ptOf a) (ptOf b))) ∧ w = w' := by
  rw [cmp2_rows]
  unfold ptOf
  obtain ⟨b1, o1, c1, rfl, -, x0, x1⟩ := ia.two la
  obtain ⟨b2, o2, c2, rfl, -, y0, y1⟩ := ib.two lb
  have C0 := cmpI_any (a.getD 0 0) (b.getD 0 0) w
  have C1 := cmpI_any (a.getD 1 0) (b.getD 1 0) w
  dsimp only
  generalize a.getD 0 0 = p0 at *
  generalize a.getD 1 0 = p1 at *
  generalize b.getD 0 0 = q0 at *
  generalize b.getD 1 0 = q1 at *
  clear ia ib la lb
  generalize cmpI p0 q0 = k0 at *
  generalize cmpI p1 q1 = k1 at *
  by_cases h0 : k0 = 0
  · rw [if_pos h0]
    subst h0
    by_cases h1 : k1 = 0
    · subst h1
      go_enter Tryz.func40, Tryz.ntmps40
      go_wp2
      refine wp_loop_rounds 3 ?_
      rw [rounds_succ]
      go_wp2_with (go_at_call 83; (first | with_reducible refine C0.mono ?_ | with_reducible refine C1.mono ?_); rintro e w' ⟨rfl, rfl⟩)
      rw [rounds_succ]
      go_wp2_with (go_at_call 83; (first | with_reducible refine C0.mono ?_ | with_reducible refine C1.mono ?_); rintro e w' ⟨rfl, rfl⟩)
      rw [rounds_succ]
      go_wp2_with (go_at_call 83; (first | with_reducible refine C0.mono ?_ | with_reducible refine C1.mono ?_); rintro e w' ⟨rfl, rfl⟩)
      go_ret
      exact ⟨rfl, rfl⟩
    · have hne : (k1 != 0) = true := by simpa using h1
      go_enter Tryz.func40, Tryz.ntmps40
      go_wp2
      refine wp_loop_rounds 3 ?_
      rw [rounds_succ]
      go_wp2_with (go_at_call 83; (first | with_reducible refine C0.mono ?_ | with_reducible refine C1.mono ?_); rintro e w' ⟨rfl, rfl⟩)
      rw [rounds_succ]
      go_wp2_with (go_at_call 83; (first | with_reducible refine C0.mono ?_ | with_reducible refine C1.mono ?_); rintro e w' ⟨rfl, rfl⟩)
      go_ret
      exact ⟨rfl, rfl⟩
  · rw [if_neg h0]
    have hne : (k0 != 0) = true := by simpa using h0
    go_enter Tryz.func40, Tryz.ntmps40
    go_wp2
    refine wp_loop_rounds 3 ?_
    rw [rounds_succ]
    go_wp2_with (go_at_call 83; (first | with_reducible refine C0.mono ?_ | with_reducible refine C1.mono ?_); rintro e w' ⟨rfl, rfl⟩)
    go_ret
    exact ⟨rfl, rfl⟩
theorem tn_rows (a b c : List Int) : crossI (minusI b a) (minusI c a) = tn (ptOf a) (ptOf b) (ptOf c) := by
  unfold crossI minusI tn crossP subP ptOf; simp
theorem minusI_in {a b : List Int} {m : Int} (ha : allIn a (-m) m = true) (hb : allIn b (-m) m = true) (la : a.length = 2) (lb : b.length = 2) : allIn (minusI a b) (-(2 * m)) (2 * m) = true := by
  have a0 := allIn_at ha 0 (by omega)
  have a1 := allIn_at ha 1 (by omega)
  have b0 := allIn_at hb 0 (by omega)
  have b1 := allIn_at hb 1 (by omega)
  unfold minusI
  generalize a.getD 0 0 = x0 at *
  generalize a.getD 1 0 = x1 at *
  generalize b.getD 0 0 = y0 at *
  generalize b.getD 1 0 = y1 at *
  simp [allIn, inB]
  omega
theorem allIn_wide {l : List Int} {m k : Int} (h : allIn l (-m) m = true) (hk : m ≤ k) : allIn l (-k) k = true := by
  unfold allIn at *
  rw [List.all_eq_true] at *
  intro x hx
  have := inB_iff.1 (h x hx)
  exact inB_iff.2 (by omega)
set_option maxHeartbeats 2000000 in
theorem turn_any (a b c : List Int) (va vb vc : Value) (hb : Nat) (w : World) (ia : ISr w hb va a) (ib : ISr w hb vb b) (ic : ISr w hb vc c) (hhb : hb ≤ w.heap.size) (la : a.length = 2) (lb : b.length = 2) (lc : c.length = 2)
    (ba : allIn a (-1000000) 1000000 = true) (bb : allIn b (-1000000) 1000000 = true) (bc : allIn c (-1000000) 1000000 = true) :
    Calls Tryz.prog 59 #[va, vb, vc] w fun e w' => e = .returned (.int .i64 (tn (ptOf a) (ptOf b) (ptOf c))) ∧ Below w.heap.size w w' := by
  rw [← tn_rows]
  have a0 := allIn_at ba 0 (by omega)
  have a1 := allIn_at ba 1 (by omega)
  have b0 := allIn_at bb 0 (by omega)
  have b1 := allIn_at bb 1 (by omega)
  have c0 := allIn_at bc 0 (by omega)
  have c1 := allIn_at bc 1 (by omega)
  have M1 := minus_any b a vb va hb w ib ia hhb lb la (by omega) (by omega)
  have M2 := fun W (B : Below w.heap.size w W) => minus_any c a vc va hb W (ic.keep B hhb) (ia.keep B hhb) (by have := B.size; omega) lc la (by omega) (by omega)
  have N1 := allIn_wide (minusI_in bb ba lb la) (k := 1000000000) (by omega)
  have N2 := allIn_wide (minusI_in bc ba lc la) (k := 1000000000) (by omega)
  have L1 := Lib.hid (show (minusI b a).length = 2 from rfl)
  have L2 := Lib.hid (show (minusI c a).length = 2 from rfl)
  generalize minusI b a = x at *
  generalize minusI c a = y at *
  clear a0 a1 b0 b1 c0 c1 ia ib ic ba bb bc la lb lc
  go_enter Tryz.func59, Tryz.ntmps59
  go_wp2_with fail
  refine M1.mono ?_
  rintro e w1 ⟨u1, rfl, k1, c1⟩
  have HB1 := Lib.hid c1
  have HK1 := Lib.hid k1
  obtain ⟨a1, e1, rfl, -⟩ := id k1
  clear c1 k1
  go_wp2_with fail
  refine (M2 _ HB1.out).mono ?_
  rintro e w2 ⟨u2, rfl, k2, c2⟩
  have CR := cross_any x y _ _ w2.heap.size w2.heap.size w2 ((HK1.out.keep c2 (Nat.le_refl _)).read.upto c2.size) k2.read L1.out L2.out N1 N2
  have HB2 := Lib.hid (below_then HB1.out HB1.out.size c2)
  obtain ⟨a2, e2, rfl, -⟩ := id k2
  clear c2 k2
  go_wp2_with fail
  refine CR.mono ?_
  rintro e w3 ⟨rfl, d, rfl⟩
  go_wp2
  go_ret
  exact ⟨rfl, HB2.out.trans (below_draws _ _ _)⟩
end Go.Proofs.YtehhoplenloocaaGreat

/- IsPolygon: the program's walk. -/
namespace Go.Proofs.YtehhoplenloocaaGreat
open Go.RowKit
set_option linter.unusedVariables false
set_option linter.unusedSimpArgs false

def pf (ls : List (List Int)) (k : Nat) : Pt := ptOf (ls.getD k [])
def flatB (ls : List (List Int)) (m : Int) : Bool := ls.all fun r => ptB r m
def isPolyB (ls : List (List Int)) : Bool := inB ls.length 3 12 && (flatB ls 50 && locB ls.length (pf ls))
def flatK (ls : List (List Int)) (m : Int) (k : Nat) : Bool := (ls.take k).all fun r => ptB r m
theorem flatK_step (ls : List (List Int)) (m : Int) (k : Nat) (h : k < ls.length) : flatK ls m (k + 1) = (flatK ls m k && ptB (ls.getD k []) m) := by
  unfold flatK
  rw [List.take_succ_eq_append_getElem h, List.all_append, List.getD_eq_getElem?_getD, List.getElem?_eq_getElem h]; simp
theorem flatK_full (ls : List (List Int)) (m : Int) : flatK ls m ls.length = flatB ls m := by unfold flatK flatB; rw [List.take_length]
theorem flatB_no {ls : List (List Int)} {m : Int} {k : Nat} (h : k < ls.length) (hf : ptB (ls.getD k []) m = false) : flatB ls m = false := by
  unfold flatB
  rw [List.all_eq_false]
  refine ⟨ls.getD k [], ?_, by rw [hf]; simp⟩
  rw [List.getD_eq_getElem?_getD, List.getElem?_eq_getElem h]; exact List.getElem_mem h
theorem flatB_at {ls : List (List Int)} {m : Int} (h : flatB ls m = true) : ∀ k, k < ls.length → ptB (ls.getD k []) m = true := fun k hk => by
  refine List.all_eq_true.1 h _ ?_
  rw [List.getD_eq_getElem?_getD, List.getElem?_eq_getElem hk]; exact List.getElem_mem hk
theorem locB_no {n : Nat} {p : Nat → Pt} {k : Nat} (hk : k < n) (h : locAt n p k = false) : locB n p = false := by
  unfold locB; rw [List.all_eq_false]; exact ⟨k, List.mem_range.2 hk, by rw [h]; simp⟩
theorem locB_yes {n : Nat} {p : Nat → Pt} (h : ∀ k, k < n → locAt n p k = true) : locB n p = true := by
  unfold locB; rw [List.all_eq_true]; exact fun k hk => h k (List.mem_range.1 hk)
theorem isPolyB_no2 {ls : List (List Int)} (h : flatB ls 50 = false) : isPolyB ls = false := by unfold isPolyB; rw [h]; simp
theorem isPolyB_no3 {ls : List (List Int)} (h : locB ls.length (pf ls) = false) : isPolyB ls = false := by unfold isPolyB; rw [h]; simp
theorem cmp2_lt {a b : Pt} : cmp2 a b < 0 ↔ ltP a b := by
  unfold cmp2
  by_cases h : ltP a b
  · rw [if_pos h]; exact ⟨fun _ => h, fun _ => by omega⟩
  · rw [if_neg h]
    constructor
    · intro k; split at k <;> omega
    · intro k; exact absurd k h
theorem pt_ok {r : List Int} (h : ptB r 50 = true) : r.length = 2 ∧ allIn r (-1000000) 1000000 = true := ⟨(ptB_len h).1, allIn_wide (ptB_len h).2 (by omega)⟩

set_option maxRecDepth 100000 in
set_option maxHeartbeats 16000000 in
theorem implIsPolygon_any (ls : List (List Int)) (v : Value) (hb : Nat) (w : World) (h : ISSr w hb v ls) (hhb : hb ≤ w.heap.size) :
    Calls Tryz.prog 28 #[v] w fun e w' => e = .returned (.bool (isPolyB ls)) ∧ Below w.heap.size w w' := by
  obtain ⟨a, cap, rfl, hcap, hm, hcell⟩ := id h
  unfold maxLen at hm
  have W1 := fun w => within_any ls.length 3 12 w
  cases h1 : inB ls.length 3 12
  · have hr : isPolyB ls = false := by unfold isPolyB; rw [h1]; rfl
    rw [hr]
    simp only [h1] at W1
    clear hr h1 hcell h hcap
    generalize ls.length = n at *
    go_enter Tryz.func28, Tryz.ntmps28
    go_wp2_with (go_at_call 58; (with_reducible refine (W1 _).mono ?_); rintro e w' ⟨rfl, rfl⟩)
    go_ret
    exact ⟨rfl, Below.refl _ _⟩
  have hlen := inB_iff.1 h1
  simp only [h1] at W1
  have HF := Lib.hid (show isPolyB ls = (flatB ls 50 && locB ls.length (pf ls)) by unfold isPolyB; rw [h1]; rfl)
  have HN2 := Lib.hid (isPolyB_no2 (ls := ls))
  have HN3 := Lib.hid (isPolyB_no3 (ls := ls))
  generalize isPolyB ls = RES at *
  obtain ⟨n, hn⟩ : ∃ n, n = ls.length := ⟨_, rfl⟩
  obtain ⟨b, off, V, rfl, hbb, hrow⟩ := hcell (by intro e; rw [e] at hlen; simp at hlen)
  rw [← hn] at hlen hcap hrow W1 HF HN3 ⊢
  have HN := Lib.hid hn
  have HCW := Lib.hid (show ∀ i, i < n → ∀ W, Below w.heap.size w W → W.cell? ⟨b, off + i, none⟩ = some (V i) ∧ ISr W hb (V i) (ls.getD i []) from fun i hi W B => ⟨(B.cell (p := ⟨b, off + i, none⟩) (Nat.lt_of_lt_of_le hbb hhb)).trans (hrow i hi).1, (hrow i hi).2.keep B hhb⟩)
  clear hn hrow h h1
  have HB0 := Lib.hid (Below.refl w.heap.size w)
  have HC0 := Lib.hid (HCW.out · · w HB0.out)
  go_enter Tryz.func28, Tryz.ntmps28
  go_wp2_with (go_at_call 58; (with_reducible refine (W1 _).mono ?_); rintro e w' ⟨rfl, rfl⟩)
  go_loop [4, 14] (fun _ i => ∃ k : Nat, k ≤ n ∧ i = .int .i64 k ∧ flatK ls 50 k = true) (fun _ i => n - (intOf i).toNat)
  case atStart => exact ⟨0, by omega, rfl, rfl⟩
  case round =>
    obtain ⟨k, hk, rfl, hall⟩ := hrel
    have HALL := Lib.hid hall
    clear hall
    by_cases hlt : k < n
    · have hc := (HC0.out k hlt).1
      have HS := Lib.hid (flatK_step ls 50 k (by rw [← HN.out]; exact hlt))
      have HNO := Lib.hid (fun h => HN2.out (flatB_no (ls := ls) (m := 50) (k := k) (by rw [← HN.out]; exact hlt) h))
      have CP := isPoint_any (ls.getD k []) (V k) 50 hb w (HC0.out k hlt).2 (by omega) (by omega)
      generalize V k = xk at *
      cases hp : ptB (ls.getD k []) 50
      · rw [hp] at CP
        have HR := Lib.hid (HNO.out hp)
        clear hp
        go_wp2_with (go_at_call 48; (with_reducible refine CP.mono ?_); rintro e w' ⟨rfl, rfl⟩)
        go_ret
        exact ⟨ret_bool HR.out.symm, HB0.out⟩
      · rw [hp] at CP
        have HK := Lib.hid (show flatK ls 50 (k + 1) = true by rw [HS.out, HALL.out, hp]; rfl)
        clear hp
        go_wp2_with (go_at_call 48; (with_reducible refine CP.mono ?_); rintro e w' ⟨rfl, rfl⟩)
        go_round
        case rel => exact ⟨k + 1, by omega, by go_num, HK.out⟩
        case measure => simp [intOf]; omega
    · obtain rfl : k = n := by omega
      have hfl : flatB ls 50 = true := by rw [← flatK_full, ← HN.out]; exact HALL.out
      have HFL := Lib.hid (flatB_at hfl)
      have HRES := Lib.hid (show RES = locB k (pf ls) by rw [HF.out, hfl]; rfl)
      clear hfl hlt
      go_wp2
      generalize hk' : k = n at *
      clear hk'
      go_loopw [6, 7, 26] (fun _ _ i wr => ∃ k : Nat, k ≤ n ∧ i = .int .i64 k ∧ Hid (∀ j, j < k → locAt n (pf ls) j = true) ∧ Hid (Below w.heap.size w wr)) (fun _ _ i _ => n - (intOf i).toNat)
      case atStart => exact ⟨0, by omega, rfl, Lib.hid (fun j hj => absurd hj (Nat.not_lt_zero _)), HB0⟩
      case round =>
        obtain ⟨k, hk, rfl, hloc, hbe⟩ := hrel
        by_cases hlt : k < n
        · have hbs := hbe.out.size
          have hck := (HCW.out k hlt wr hbe.out).1
          obtain ⟨i1, hi1⟩ : ∃ i1, i1 = (k + 1) % n := ⟨_, rfl⟩
          obtain ⟨i2, hi2⟩ : ∃ i2, i2 = (k + 2) % n := ⟨_, rfl⟩
          have l1 : i1 < n := by rw [hi1]; exact Nat.mod_lt _ (by omega)
          have l2 : i2 < n := by rw [hi2]; exact Nat.mod_lt _ (by omega)
          have m1 : ((k : Int) + 1).tmod (n : Int) = (i1 : Int) := by
            rw [Int.tmod_eq_emod_of_nonneg (by omega), hi1]; simp
          have m2 : ((k : Int) + 2).tmod (n : Int) = (i2 : Int) := by
            rw [Int.tmod_eq_emod_of_nonneg (by omega), hi2]; simp
          have HLA := Lib.hid (locAt_iff (n := n) (p := pf ls) (k := k))
          rw [← hi1, ← hi2] at HLA
          have HNO := Lib.hid (fun h => HRES.out.trans (locB_no (p := pf ls) hlt h))
          have HYS := Lib.hid (show locAt n (pf ls) k = true → ∀ j, j < k + 1 → locAt n (pf ls) j = true from fun h0 j hj => by
            by_cases e : j = k
            · subst e; exact h0
            · exact hloc.out j (by omega))
          have HPT := Lib.hid (fun i (hi : i < n) => pt_ok (HFL.out i (by rw [← HN.out]; exact hi)))
          have hw1 := wr64 ((k : Int) + 1) (by omega)
          have hw2 := wr64 ((k : Int) + 2) (by omega)
          have hw3 := wr64 ((n : Int) - 1) (by omega)
          have hn0 : ((n : Int) == 0) = false := by rw [beq_eq_false_iff_ne]; omega
          have hn0' : ¬ (n : Int) = 0 := by omega
          have q1 : (0 : Int) ≤ (i1 : Int) := by omega
          have q2 : (i1 : Int) < (n : Int) := by omega
          have q3 : (0 : Int) ≤ (i2 : Int) := by omega
          have q4 : (i2 : Int) < (n : Int) := by omega
          have q5 : (0 : Int) < (n : Int) := by omega
          have q6 : (k : Int) < (n : Int) := by omega
          have CT1 := fun W (B : Below w.heap.size w W) => turn_any _ _ _ (V k) (V i1) (V i2) hb W (HCW.out k hlt W B).2 (HCW.out i1 l1 W B).2 (HCW.out i2 l2 W B).2 (by have := B.size; omega) (HPT.out k hlt).1 (HPT.out i1 l1).1 (HPT.out i2 l2).1 (HPT.out k hlt).2 (HPT.out i1 l1).2 (HPT.out i2 l2).2
          have CC := fun W (B : Below w.heap.size w W) => compare_any _ _ (V 0) (V k) hb W (HCW.out 0 (by omega) W B).2 (HCW.out k hlt W B).2 (HPT.out 0 (by omega)).1 (HPT.out k hlt).1
          have hT1 : tn (ptOf (ls.getD k [])) (ptOf (ls.getD i1 [])) (ptOf (ls.getD i2 [])) = tn (pf ls k) (pf ls i1) (pf ls i2) := rfl
          have hCC : cmp2 (ptOf (ls.getD 0 [])) (ptOf (ls.getD k [])) = cmp2 (pf ls 0) (pf ls k) := rfl
          rw [hT1] at CT1
          rw [hCC] at CC
          clear hi1 hi2 hT1 hCC
          obtain ⟨T1, hT1⟩ : ∃ t, t = tn (pf ls k) (pf ls i1) (pf ls i2) := ⟨_, rfl⟩
          rw [← hT1] at CT1 HLA
          obtain ⟨D, hD⟩ : ∃ t, t = cmp2 (pf ls 0) (pf ls k) := ⟨_, rfl⟩
          rw [← hD] at CC
          have HD := Lib.hid (show D < 0 ↔ ltP (pf ls 0) (pf ls k) by rw [hD]; exact cmp2_lt)
          clear hT1 hD
          by_cases ht1 : T1 ≤ 0
          · have hg1 : decide (T1 ≤ 0) = true := by rw [decide_eq_true_eq]; omega
            have HR := Lib.hid (HNO.out (by rw [← Bool.not_eq_true, HLA.out]; intro hh; omega))
            go_wp2_with fail
            refine wp_region_class (fun w' => Below w.heap.size w w') (by kernel_rfl) (by kernel_rfl) (hbe.out.trans (below_draws _ wr 1)) (fun hne => ?_)
            generalize hC : (fun w' => Below w.heap.size w w') = C at *
            have ck : ∀ x : InC C, x.w.cell? ⟨b, off + k, none⟩ = some (V k) := by subst hC; exact fun x => (HCW.out k (by omega) _ x.h).1
            have c1 : ∀ x : InC C, x.w.cell? ⟨b, off + i1, none⟩ = some (V i1) := by subst hC; exact fun x => (HCW.out i1 (by omega) _ x.h).1
            have c2 : ∀ x : InC C, x.w.cell? ⟨b, off + i2, none⟩ = some (V i2) := by subst hC; exact fun x => (HCW.out i2 (by omega) _ x.h).1
            have R1 : ∀ x : InC C, Calls Tryz.prog 59 #[V k, V i1, V i2] x.w fun e w' => e = .returned (.int .i64 T1) ∧ ∃ m : InC C, w' = m.w := by subst hC; exact fun x => Calls.inC ((CT1 _ x.h).mono fun e w' ⟨he, c⟩ => ⟨he, below_then x.h x.h.size c⟩)
            have HCC := Lib.hid hC
            clear hC CT1 CC
            repeat (go_big_quiet_step (first | (go_at_call 59; with_reducible exact R1 _)))
            refine wpQuiet_nil ?_
            rintro _ ⟨x, rfl⟩
            have HBx := Lib.hid (show Below w.heap.size w x.w by have := HCC.out; subst this; exact x.h)
            generalize x.w = w2 at *
            clear ck c1 c2 R1
            go_wp2
            go_ret
            exact ⟨ret_bool HR.out.symm, HBx.out⟩
          have ht1' : 0 < T1 := by omega
          have hg1 : decide (T1 ≤ 0) = false := by rw [decide_eq_false_iff_not]; omega
          rcases Nat.eq_zero_or_pos k with rfl | hk0
          · have HR := Lib.hid (HYS.out (HLA.out.2 ⟨ht1', .inl rfl, .inl rfl⟩))
            have hck0 : wr.cell? ⟨b, off, none⟩ = some (V 0) := hck
            have m1b : (1 : Int).tmod (n : Int) = (i1 : Int) := m1
            have m2b : (2 : Int).tmod (n : Int) = (i2 : Int) := m2
            go_wp2_with fail
            refine wp_region_class (fun w' => Below w.heap.size w w') (by kernel_rfl) (by kernel_rfl) (hbe.out.trans (below_draws _ wr 1)) (fun hne => ?_)
            generalize hC : (fun w' => Below w.heap.size w w') = C at *
            have ck : ∀ x : InC C, x.w.cell? ⟨b, off, none⟩ = some (V 0) := by subst hC; exact fun x => (HCW.out 0 (by omega) _ x.h).1
            have c1 : ∀ x : InC C, x.w.cell? ⟨b, off + i1, none⟩ = some (V i1) := by subst hC; exact fun x => (HCW.out i1 (by omega) _ x.h).1
            have c2 : ∀ x : InC C, x.w.cell? ⟨b, off + i2, none⟩ = some (V i2) := by subst hC; exact fun x => (HCW.out i2 (by omega) _ x.h).1
            have R1 : ∀ x : InC C, Calls Tryz.prog 59 #[V 0, V i1, V i2] x.w fun e w' => e = .returned (.int .i64 T1) ∧ ∃ m : InC C, w' = m.w := by subst hC; exact fun x => Calls.inC ((CT1 _ x.h).mono fun e w' ⟨he, c⟩ => ⟨he, below_then x.h x.h.size c⟩)
            have HCC := Lib.hid hC
            clear hC CT1 CC
            repeat (go_big_quiet_step (first | (go_at_call 59; with_reducible exact R1 _)))
            refine wpQuiet_nil ?_
            rintro _ ⟨x, rfl⟩
            have HBx := Lib.hid (show Below w.heap.size w x.w by have := HCC.out; subst this; exact x.h)
            generalize x.w = w2 at *
            clear ck c1 c2 R1
            go_wp2
            go_roundw
            case rel => exact ⟨0 + 1, by omega, by go_num, HR, HBx⟩
            case measure => simp [intOf]; omega
          have hk0' : (0 : Int) < (k : Int) := by omega
          have hg2 : decide ((0 : Int) < (k : Int)) = true := by rw [decide_eq_true_eq]; omega
          by_cases hd : 0 ≤ D
          · have hg3 : decide (0 ≤ D) = true := by rw [decide_eq_true_eq]; omega
            have HR := Lib.hid (HNO.out (by
              rw [← Bool.not_eq_true, HLA.out]
              rintro ⟨-, h2 | h2, -⟩
              · omega
              · have := HD.out.2 h2; omega))
            go_wp2_with fail
            refine wp_region_class (fun w' => Below w.heap.size w w') (by kernel_rfl) (by kernel_rfl) (hbe.out.trans (below_draws _ wr 1)) (fun hne => ?_)
            generalize hC : (fun w' => Below w.heap.size w w') = C at *
            have ck : ∀ x : InC C, x.w.cell? ⟨b, off + k, none⟩ = some (V k) := by subst hC; exact fun x => (HCW.out k (by omega) _ x.h).1
            have c1 : ∀ x : InC C, x.w.cell? ⟨b, off + i1, none⟩ = some (V i1) := by subst hC; exact fun x => (HCW.out i1 (by omega) _ x.h).1
            have c2 : ∀ x : InC C, x.w.cell? ⟨b, off + i2, none⟩ = some (V i2) := by subst hC; exact fun x => (HCW.out i2 (by omega) _ x.h).1
            have c0 : ∀ x : InC C, x.w.cell? ⟨b, off, none⟩ = some (V 0) := by subst hC; exact fun x => (HCW.out 0 (by omega) _ x.h).1
            have R1 : ∀ x : InC C, Calls Tryz.prog 59 #[V k, V i1, V i2] x.w fun e w' => e = .returned (.int .i64 T1) ∧ ∃ m : InC C, w' = m.w := by subst hC; exact fun x => Calls.inC ((CT1 _ x.h).mono fun e w' ⟨he, c⟩ => ⟨he, below_then x.h x.h.size c⟩)
            have R2 : ∀ x : InC C, Calls Tryz.prog 40 #[V 0, V k] x.w fun e w' => e = .returned (.int .i64 D) ∧ ∃ m : InC C, w' = m.w := by subst hC; exact fun x => (CC _ x.h).mono fun e w' ⟨he, c⟩ => ⟨he, x, c.symm⟩
            have HCC := Lib.hid hC
            clear hC CT1 CC
            repeat (go_big_quiet_step (first | (go_at_call 59; with_reducible exact R1 _) | (go_at_call 40; with_reducible exact R2 _)))
            refine wpQuiet_nil ?_
            rintro _ ⟨x, rfl⟩
            have HBx := Lib.hid (show Below w.heap.size w x.w by have := HCC.out; subst this; exact x.h)
            generalize x.w = w2 at *
            clear ck c1 c2 c0 R1 R2
            go_wp2
            go_ret
            exact ⟨ret_bool HR.out.symm, HBx.out⟩
          have hd' : D < 0 := by omega
          have hg3 : decide (0 ≤ D) = false := by rw [decide_eq_false_iff_not]; omega
          by_cases hkn : n ≤ k + 1
          · have HR := Lib.hid (HYS.out (HLA.out.2 ⟨ht1', .inr (HD.out.1 hd'), .inr (.inl hkn)⟩))
            have hkn' : ¬ (k : Int) < (n : Int) - 1 := by omega
            have hg4 : decide ((k : Int) < (n : Int) - 1) = false := by rw [decide_eq_false_iff_not]; omega
            go_wp2_with fail
            refine wp_region_class (fun w' => Below w.heap.size w w') (by kernel_rfl) (by kernel_rfl) (hbe.out.trans (below_draws _ wr 1)) (fun hne => ?_)
            generalize hC : (fun w' => Below w.heap.size w w') = C at *
            have ck : ∀ x : InC C, x.w.cell? ⟨b, off + k, none⟩ = some (V k) := by subst hC; exact fun x => (HCW.out k (by omega) _ x.h).1
            have c1 : ∀ x : InC C, x.w.cell? ⟨b, off + i1, none⟩ = some (V i1) := by subst hC; exact fun x => (HCW.out i1 (by omega) _ x.h).1
            have c2 : ∀ x : InC C, x.w.cell? ⟨b, off + i2, none⟩ = some (V i2) := by subst hC; exact fun x => (HCW.out i2 (by omega) _ x.h).1
            have c0 : ∀ x : InC C, x.w.cell? ⟨b, off, none⟩ = some (V 0) := by subst hC; exact fun x => (HCW.out 0 (by omega) _ x.h).1
            have R1 : ∀ x : InC C, Calls Tryz.prog 59 #[V k, V i1, V i2] x.w fun e w' => e = .returned (.int .i64 T1) ∧ ∃ m : InC C, w' = m.w := by subst hC; exact fun x => Calls.inC ((CT1 _ x.h).mono fun e w' ⟨he, c⟩ => ⟨he, below_then x.h x.h.size c⟩)
            have R2 : ∀ x : InC C, Calls Tryz.prog 40 #[V 0, V k] x.w fun e w' => e = .returned (.int .i64 D) ∧ ∃ m : InC C, w' = m.w := by subst hC; exact fun x => (CC _ x.h).mono fun e w' ⟨he, c⟩ => ⟨he, x, c.symm⟩
            have HCC := Lib.hid hC
            clear hC CT1 CC
            repeat (go_big_quiet_step (first | (go_at_call 59; with_reducible exact R1 _) | (go_at_call 40; with_reducible exact R2 _)))
            refine wpQuiet_nil ?_
            rintro _ ⟨x, rfl⟩
            have HBx := Lib.hid (show Below w.heap.size w x.w by have := HCC.out; subst this; exact x.h)
            generalize x.w = w2 at *
            clear ck c1 c2 c0 R1 R2
            go_wp2
            go_roundw
            case rel => exact ⟨k + 1, by omega, by go_num, HR, HBx⟩
            case measure => simp [intOf]; omega
          have hkn' : (k : Int) < (n : Int) - 1 := by omega
          have hg4 : decide ((k : Int) < (n : Int) - 1) = true := by rw [decide_eq_true_eq]; omega
          have q7 : (k : Int) + 1 < (n : Int) := by omega
          have q8 : (0 : Int) ≤ (k : Int) + 1 := by omega
          have hto1 : ((k : Int) + 1).toNat = k + 1 := by omega
          have CT3 := fun W (B : Below w.heap.size w W) => turn_any _ _ _ (V 0) (V k) (V (k + 1)) hb W (HCW.out 0 (by omega) W B).2 (HCW.out k hlt W B).2 (HCW.out (k + 1) (by omega) W B).2 (by have := B.size; omega) (HPT.out 0 (by omega)).1 (HPT.out k hlt).1 (HPT.out (k + 1) (by omega)).1 (HPT.out 0 (by omega)).2 (HPT.out k hlt).2 (HPT.out (k + 1) (by omega)).2
          have hT3 : tn (ptOf (ls.getD 0 [])) (ptOf (ls.getD k [])) (ptOf (ls.getD (k + 1) [])) = tn (pf ls 0) (pf ls k) (pf ls (k + 1)) := rfl
          rw [hT3] at CT3
          clear hT3
          obtain ⟨T3, hT3⟩ : ∃ t, t = tn (pf ls 0) (pf ls k) (pf ls (k + 1)) := ⟨_, rfl⟩
          rw [← hT3] at CT3 HLA
          clear hT3
          by_cases ht3 : T3 ≤ 0
          · have hg5 : decide (T3 ≤ 0) = true := by rw [decide_eq_true_eq]; omega
            have HR := Lib.hid (HNO.out (by rw [← Bool.not_eq_true, HLA.out]; rintro ⟨-, -, h3 | h3 | h3⟩ <;> omega))
            go_wp2_with fail
            refine wp_region_class (fun w' => Below w.heap.size w w') (by kernel_rfl) (by kernel_rfl) (hbe.out.trans (below_draws _ wr 1)) (fun hne => ?_)
            generalize hC : (fun w' => Below w.heap.size w w') = C at *
            have ck : ∀ x : InC C, x.w.cell? ⟨b, off + k, none⟩ = some (V k) := by subst hC; exact fun x => (HCW.out k (by omega) _ x.h).1
            have c1 : ∀ x : InC C, x.w.cell? ⟨b, off + i1, none⟩ = some (V i1) := by subst hC; exact fun x => (HCW.out i1 (by omega) _ x.h).1
            have c2 : ∀ x : InC C, x.w.cell? ⟨b, off + i2, none⟩ = some (V i2) := by subst hC; exact fun x => (HCW.out i2 (by omega) _ x.h).1
            have c0 : ∀ x : InC C, x.w.cell? ⟨b, off, none⟩ = some (V 0) := by subst hC; exact fun x => (HCW.out 0 (by omega) _ x.h).1
            have c3 : ∀ x : InC C, x.w.cell? ⟨b, off + (k + 1), none⟩ = some (V (k + 1)) := by subst hC; exact fun x => (HCW.out (k + 1) (by omega) _ x.h).1
            have R1 : ∀ x : InC C, Calls Tryz.prog 59 #[V k, V i1, V i2] x.w fun e w' => e = .returned (.int .i64 T1) ∧ ∃ m : InC C, w' = m.w := by subst hC; exact fun x => Calls.inC ((CT1 _ x.h).mono fun e w' ⟨he, c⟩ => ⟨he, below_then x.h x.h.size c⟩)
            have R2 : ∀ x : InC C, Calls Tryz.prog 40 #[V 0, V k] x.w fun e w' => e = .returned (.int .i64 D) ∧ ∃ m : InC C, w' = m.w := by subst hC; exact fun x => (CC _ x.h).mono fun e w' ⟨he, c⟩ => ⟨he, x, c.symm⟩
            have R3 : ∀ x : InC C, Calls Tryz.prog 59 #[V 0, V k, V (k + 1)] x.w fun e w' => e = .returned (.int .i64 T3) ∧ ∃ m : InC C, w' = m.w := by subst hC; exact fun x => Calls.inC ((CT3 _ x.h).mono fun e w' ⟨he, c⟩ => ⟨he, below_then x.h x.h.size c⟩)
            have HCC := Lib.hid hC
            clear hC CT1 CC CT3
            repeat (go_big_quiet_step (first | (go_at_call 59; with_reducible exact R1 _) | (go_at_call 40; with_reducible exact R2 _) | (go_at_call 59; with_reducible exact R3 _)))
            refine wpQuiet_nil ?_
            rintro _ ⟨x, rfl⟩
            have HBx := Lib.hid (show Below w.heap.size w x.w by have := HCC.out; subst this; exact x.h)
            generalize x.w = w2 at *
            clear ck c1 c2 c0 c3 R1 R2 R3
            go_wp2
            go_ret
            exact ⟨ret_bool HR.out.symm, HBx.out⟩
          · have hg5 : decide (T3 ≤ 0) = false := by rw [decide_eq_false_iff_not]; omega
            have HR := Lib.hid (HYS.out (HLA.out.2 ⟨ht1', .inr (HD.out.1 hd'), .inr (.inr (by omega))⟩))
            go_wp2_with fail
            refine wp_region_class (fun w' => Below w.heap.size w w') (by kernel_rfl) (by kernel_rfl) (hbe.out.trans (below_draws _ wr 1)) (fun hne => ?_)
            generalize hC : (fun w' => Below w.heap.size w w') = C at *
            have ck : ∀ x : InC C, x.w.cell? ⟨b, off + k, none⟩ = some (V k) := by subst hC; exact fun x => (HCW.out k (by omega) _ x.h).1
            have c1 : ∀ x : InC C, x.w.cell? ⟨b, off + i1, none⟩ = some (V i1) := by subst hC; exact fun x => (HCW.out i1 (by omega) _ x.h).1
            have c2 : ∀ x : InC C, x.w.cell? ⟨b, off + i2, none⟩ = some (V i2) := by subst hC; exact fun x => (HCW.out i2 (by omega) _ x.h).1
            have c0 : ∀ x : InC C, x.w.cell? ⟨b, off, none⟩ = some (V 0) := by subst hC; exact fun x => (HCW.out 0 (by omega) _ x.h).1
            have c3 : ∀ x : InC C, x.w.cell? ⟨b, off + (k + 1), none⟩ = some (V (k + 1)) := by subst hC; exact fun x => (HCW.out (k + 1) (by omega) _ x.h).1
            have R1 : ∀ x : InC C, Calls Tryz.prog 59 #[V k, V i1, V i2] x.w fun e w' => e = .returned (.int .i64 T1) ∧ ∃ m : InC C, w' = m.w := by subst hC; exact fun x => Calls.inC ((CT1 _ x.h).mono fun e w' ⟨he, c⟩ => ⟨he, below_then x.h x.h.size c⟩)
            have R2 : ∀ x : InC C, Calls Tryz.prog 40 #[V 0, V k] x.w fun e w' => e = .returned (.int .i64 D) ∧ ∃ m : InC C, w' = m.w := by subst hC; exact fun x => (CC _ x.h).mono fun e w' ⟨he, c⟩ => ⟨he, x, c.symm⟩
            have R3 : ∀ x : InC C, Calls Tryz.prog 59 #[V 0, V k, V (k + 1)] x.w fun e w' => e = .returned (.int .i64 T3) ∧ ∃ m : InC C, w' = m.w := by subst hC; exact fun x => Calls.inC ((CT3 _ x.h).mono fun e w' ⟨he, c⟩ => ⟨he, below_then x.h x.h.size c⟩)
            have HCC := Lib.hid hC
            clear hC CT1 CC CT3
            repeat (go_big_quiet_step (first | (go_at_call 59; with_reducible exact R1 _) | (go_at_call 40; with_reducible exact R2 _) | (go_at_call 59; with_reducible exact R3 _)))
            refine wpQuiet_nil ?_
            rintro _ ⟨x, rfl⟩
            have HBx := Lib.hid (show Below w.heap.size w x.w by have := HCC.out; subst this; exact x.h)
            generalize x.w = w2 at *
            clear ck c1 c2 c0 c3 R1 R2 R3
            go_wp2
            go_roundw
            case rel => exact ⟨k + 1, by omega, by go_num, HR, HBx⟩
            case measure => simp [intOf]; omega
        · obtain rfl : k = n := by omega
          have HR := Lib.hid (HRES.out.trans (locB_yes hloc.out))
          go_wp2
          go_ret
          exact ⟨ret_bool HR.out.symm, hbe.out⟩
end Go.Proofs.YtehhoplenloocaaGreat

/- The model's tests of lists of points: l7Flat, l2Before, l7Turn, l7SameList. -/
namespace Go.Proofs.YtehhoplenloocaaGreat
open Go.RowKit
set_option linter.unusedVariables false
set_option linter.unusedSimpArgs false

theorem zip_minus {a b : List Int} (la : a.length = 2) (lb : b.length = 2) : List.zipWith (· - ·) a b = minusI a b := by
  match a, b with
  | [_, _], [_, _] => rfl
theorem tn_rows2 (a b c : List Int) : crossI (minusI b a) (minusI c b) = tn (ptOf a) (ptOf b) (ptOf c) := by
  unfold crossI minusI tn crossP subP ptOf; simp; grind

set_option maxRecDepth 100000 in
set_option maxHeartbeats 4000000 in
theorem l7Flat_any (ls : List (List Int)) (v : Value) (hb : Nat) (w : World) (h : ISSr w hb v ls) :
    Calls Tryz.prog 65 #[v] w fun e w' => e = .returned (.bool (flatB ls 50)) ∧ ∃ d, w' = w.drewN d := by
  rcases h.cases with ⟨rfl, a, cap, rfl⟩ | ⟨hpos, hlen, b, off, cap, V, rfl, hbb, hcell⟩
  · go_enter Tryz.func65, Tryz.ntmps65
    go_wp2
    refine wp_loop_rounds 1 ?_
    rw [rounds_succ]
    go_wp2
    go_ret
    exact ⟨rfl, 0, rfl⟩
  · obtain ⟨n, hn⟩ : ∃ n, n = ls.length := ⟨_, rfl⟩
    rw [← hn] at hlen hpos ⊢
    have HN := Lib.hid hn; clear hn
    have HC := Lib.hid hcell; clear hcell hbb h
    go_enter Tryz.func65, Tryz.ntmps65
    go_wp2
    go_loopw [3] (fun i wr => ∃ (d k : Nat), k ≤ n ∧ i = .int .i64 k ∧ Hid (wr = w.drewN d) ∧ Hid (flatK ls 50 k = true)) (fun i _ => n - (intOf i).toNat)
    case atStart => exact ⟨0, 0, by omega, rfl, Lib.hid rfl, Lib.hid rfl⟩
    case round =>
      obtain ⟨d, k, hk, rfl, HW, HALL⟩ := hrel
      by_cases hlt : k < n
      · have hkl : k < ls.length := by rw [← HN.out]; exact hlt
        have hc : wr.cell? ⟨b, off + k, none⟩ = some (V k) := by rw [HW.out]; exact (HC.out k hkl).1
        have hrow : ISr wr hb (V k) (ls.getD k []) := by rw [HW.out]; exact (HC.out k hkl).2
        have HS := Lib.hid (flatK_step ls 50 k hkl)
        have HNO := Lib.hid (fun h => flatB_no (ls := ls) (m := 50) (k := k) hkl h)
        have Q := l2Small_any _ _ 50 hb wr hrow (by omega) (by omega)
        have HPT := Lib.hid (show ptB (ls.getD k []) 50 = (decide ((ls.getD k []).length = 2) && allIn (ls.getD k []) (-50) 50) from rfl)
        obtain ⟨a1, cp, hxk, -⟩ := id hrow
        rw [hxk] at hc Q
        clear hrow hkl
        generalize ls.getD k [] = row at *
        by_cases h2 : row.length = 2
        · rw [h2] at hc Q
          cases hs : allIn row (-50) 50
          · rw [hs] at Q
            have HR := Lib.hid (HNO.out (by rw [HPT.out, hs]; simp))
            clear hs h2
            go_wp2_with (go_at_call 96; (with_reducible refine Q.mono ?_); rintro e w' ⟨rfl, d2, rfl⟩)
            go_ret
            exact ⟨ret_bool HR.out.symm, d + d2, by rw [HW.out, World.drewN_drewN]⟩
          · rw [hs] at Q
            have HK := Lib.hid (show flatK ls 50 (k + 1) = true by rw [HS.out, HALL.out, HPT.out, hs, h2]; rfl)
            clear hs h2
            go_wp2_with (go_at_call 96; (with_reducible refine Q.mono ?_); rintro e w' ⟨rfl, d2, rfl⟩)
            go_roundw
            case rel => exact ⟨d + d2, k + 1, by omega, by go_num, Lib.hid (by rw [HW.out, World.drewN_drewN]), HK⟩
            case measure => simp [intOf]; omega
        · have hne : ((row.length : Int) != 2) = true := by rw [bne_iff_ne]; omega
          have HR := Lib.hid (HNO.out (by rw [HPT.out, decide_eq_false h2]; rfl))
          clear h2 Q
          generalize row.length = rl at *
          go_wp2
          go_ret
          exact ⟨ret_bool HR.out.symm, _, HW.out⟩
      · obtain rfl : k = n := by omega
        have HR := Lib.hid (show flatB ls 50 = true by rw [← flatK_full, ← HN.out]; exact HALL.out)
        go_wp2
        go_ret
        exact ⟨ret_bool HR.out.symm, _, HW.out⟩
set_option maxRecDepth 100000 in
set_option maxHeartbeats 4000000 in
theorem l2Before_any (a b : List Int) (va vb : Value) (ha hb : Nat) (w : World) (ia : ISr w ha va a) (ib : ISr w hb vb b) (la : a.length = 2) (lb : b.length = 2) :
    Calls Tryz.prog 89 #[va, vb] w fun e w' => e = .returned (.bool (decide (ltP (ptOf a) (ptOf b)))) ∧ ∃ d, w' = w.drewN d := by
  unfold ptOf ltP
  obtain ⟨b1, o1, c1, rfl, -, x0, x1⟩ := ia.two la
  obtain ⟨b2, o2, c2, rfl, -, y0, y1⟩ := ib.two lb
  dsimp only
  have HX := Lib.hid (fun d => (show (w.drewN d).cell? _ = _ from x0))
  have HX1 := Lib.hid (fun d => (show (w.drewN d).cell? _ = _ from x1))
  have HY := Lib.hid (fun d => (show (w.drewN d).cell? _ = _ from y0))
  have HY1 := Lib.hid (fun d => (show (w.drewN d).cell? _ = _ from y1))
  generalize a.getD 0 0 = p0 at *
  generalize a.getD 1 0 = p1 at *
  generalize b.getD 0 0 = q0 at *
  generalize b.getD 1 0 = q1 at *
  clear ia ib la lb
  by_cases h0 : p0 = q0
  · subst h0
    have hxx : (p0 != p0) = false := by simp
    by_cases h1 : p1 = q1
    · subst h1
      have hyy : (p1 != p1) = false := by simp
      have HR := Lib.hid (show decide (p0 < p0 ∨ p0 = p0 ∧ p1 < p1) = false by rw [decide_eq_false_iff_not]; omega)
      go_enter Tryz.func89, Tryz.ntmps89
      go_wp2
      refine wp_loop_rounds 3 ?_
      rw [rounds_succ]
      go_wp2
      go_quiet (fail)
      have x0' := HX.out nq
      have x1' := HX1.out nq
      have y0' := HY.out nq
      have y1' := HY1.out nq
      go_wp2
      rw [rounds_succ]
      go_wp2
      go_quiet (fail)
      go_wp2
      rw [rounds_succ]
      go_wp2
      go_ret
      first | exact ⟨ret_bool HR.out.symm, _, rfl⟩ | exact ⟨ret_bool HR.out.symm, _, World.drewN_drewN ..⟩ | exact ⟨ret_bool HR.out.symm, _, (World.drewN_drewN ..).trans (World.drewN_drewN ..)⟩
    · have hne : (p1 != q1) = true := by simpa using h1
      have HR := Lib.hid (show decide (p0 < p0 ∨ p0 = p0 ∧ p1 < q1) = decide (p1 < q1) by rw [decide_eq_decide]; omega)
      clear h1
      go_enter Tryz.func89, Tryz.ntmps89
      go_wp2
      refine wp_loop_rounds 3 ?_
      rw [rounds_succ]
      go_wp2
      go_quiet (fail)
      go_wp2
      rw [rounds_succ]
      go_wp2
      go_quiet (fail)
      go_wp2
      go_quiet (fail)
      go_wp2
      go_ret
      first | exact ⟨ret_bool (by rw [HR.out]), _, rfl⟩ | exact ⟨ret_bool (by rw [HR.out]), _, World.drewN_drewN ..⟩ | exact ⟨ret_bool (by rw [HR.out]), _, (World.drewN_drewN ..).trans (World.drewN_drewN ..)⟩
  · have hne : (p0 != q0) = true := by simpa using h0
    have HR := Lib.hid (show decide (p0 < q0 ∨ p0 = q0 ∧ p1 < q1) = decide (p0 < q0) by rw [decide_eq_decide]; omega)
    clear h0
    go_enter Tryz.func89, Tryz.ntmps89
    go_wp2
    refine wp_loop_rounds 3 ?_
    rw [rounds_succ]
    go_wp2
    go_quiet (fail)
    go_wp2
    go_quiet (fail)
    go_wp2
    go_ret
    first | exact ⟨ret_bool (by rw [HR.out]), _, rfl⟩ | exact ⟨ret_bool (by rw [HR.out]), _, World.drewN_drewN ..⟩ | exact ⟨ret_bool (by rw [HR.out]), _, (World.drewN_drewN ..).trans (World.drewN_drewN ..)⟩
set_option maxHeartbeats 2000000 in
theorem l7Turn_any (a b c : List Int) (va vb vc : Value) (hb : Nat) (w : World) (ia : ISr w hb va a) (ib : ISr w hb vb b) (ic : ISr w hb vc c) (hhb : hb ≤ w.heap.size) (la : a.length = 2) (lb : b.length = 2) (lc : c.length = 2)
    (ba : allIn a (-1000000) 1000000 = true) (bb : allIn b (-1000000) 1000000 = true) (bc : allIn c (-1000000) 1000000 = true) :
    Calls Tryz.prog 104 #[va, vb, vc] w fun e w' => e = .returned (.int .i64 (tn (ptOf a) (ptOf b) (ptOf c))) ∧ Below w.heap.size w w' := by
  rw [← tn_rows2]
  have M1 := l2Less_any b a vb va hb w ib ia hhb (by omega) (by omega) (fun k hk => by
    have a0 := allIn_at ba k (by omega)
    have b0 := allIn_at bb k (by omega)
    omega)
  have M2 := fun W (B : Below w.heap.size w W) => l2Less_any c b vc vb hb W (ic.keep B hhb) (ib.keep B hhb) (by have := B.size; omega) (by omega) (by omega) (fun k hk => by
    have a0 := allIn_at bb k (by omega)
    have b0 := allIn_at bc k (by omega)
    omega)
  rw [zip_minus lb la] at M1
  have e2 := zip_minus lc lb
  simp only [e2] at M2
  have N1 := allIn_wide (minusI_in bb ba lb la) (k := 1000000000) (by omega)
  have N2 := allIn_wide (minusI_in bc bb lc lb) (k := 1000000000) (by omega)
  have L1 := Lib.hid (show (minusI b a).length = 2 from rfl)
  have L2 := Lib.hid (show (minusI c b).length = 2 from rfl)
  clear e2
  generalize minusI b a = x at *
  generalize minusI c b = y at *
  clear ia ib ic ba bb bc la lb lc
  go_enter Tryz.func104, Tryz.ntmps104
  go_wp2_with fail
  refine M1.mono ?_
  rintro e w1 ⟨u1, rfl, k1, c1⟩
  have HB1 := Lib.hid c1
  have HK1 := Lib.hid k1
  obtain ⟨a1, e1, rfl, -⟩ := id k1
  clear c1 k1
  go_wp2_with fail
  refine (M2 _ HB1.out).mono ?_
  rintro e w2 ⟨u2, rfl, k2, c2⟩
  have CR := l7Cross_any x y _ _ w2.heap.size w2.heap.size w2 ((HK1.out.keep c2 (Nat.le_refl _)).read.upto c2.size) k2.read L1.out L2.out N1 N2
  have HB2 := Lib.hid (below_then HB1.out HB1.out.size c2)
  obtain ⟨a2, e2, rfl, -⟩ := id k2
  clear c2 k2
  go_wp2_with fail
  refine CR.mono ?_
  rintro e w3 ⟨rfl, d, rfl⟩
  go_wp2
  go_ret
  exact ⟨rfl, HB2.out.trans (below_draws _ _ _)⟩
set_option maxHeartbeats 1000000 in
theorem l7SameList_any (l1 l2 : List (List Int)) (v1 v2 : Value) (h1 h2 : Nat) (w : World) (i1 : ISSr w h1 v1 l1) (i2 : ISSr w h2 v2 l2) :
    Calls Tryz.prog 46 #[v1, v2] w fun e w' => e = .returned (.bool (decide (l1 = l2))) ∧ ∃ d, w' = w.drewN d := by
  by_cases hle : l1.length = l2.length
  · rcases i1.cases with ⟨rfl, a1, cap1, rfl⟩ | ⟨hpos, hlen, b1, off1, cap1, V1, rfl, hbb1, hcell1⟩
    · have : l2 = [] := List.length_eq_zero_iff.1 hle.symm
      subst this
      obtain ⟨a2, cap2, rfl, -, -, -⟩ := i2
      go_enter Tryz.func46, Tryz.ntmps46
      go_wp2
      refine wp_loop_rounds 1 ?_
      rw [rounds_succ]
      go_wp2
      go_ret
      exact ⟨rfl, 0, rfl⟩
    · rcases i2.cases with ⟨rfl, a2, cap2, rfl⟩ | ⟨hpos2, hlen2, b2, off2, cap2, V2, rfl, hbb2, hcell2⟩
      · simp at hle; subst hle; simp at hpos
      · rw [← hle]
        obtain ⟨n, hn⟩ : ∃ n, n = l1.length := ⟨_, rfl⟩
        have HN2 := Lib.hid (hn.trans hle)
        rw [← hn] at hlen hpos ⊢
        have HN := Lib.hid hn; clear hn hle hpos2 hlen2
        have HC1 := Lib.hid hcell1; clear hcell1
        have HC2 := Lib.hid hcell2; clear hcell2
        clear hbb1 hbb2 i1 i2
        go_enter Tryz.func46, Tryz.ntmps46
        go_wp2
        go_loopw [5] (fun i wr => ∃ (d k : Nat), wr = w.drewN d ∧ k ≤ n ∧ i = .int .i64 k ∧ l1.take k = l2.take k) (fun i _ => n - (intOf i).toNat)
        case atStart => exact ⟨0, 0, rfl, by omega, rfl, rfl⟩
        case round =>
          obtain ⟨d, k, hw, hk, rfl, heq⟩ := hrel
          have HW := Lib.hid hw; clear hw
          have HE := Lib.hid heq; clear heq
          by_cases hlt : k < n
          · have hk1 : k < l1.length := by rw [← HN.out]; exact hlt
            have hk2 : k < l2.length := by rw [← HN2.out]; exact hlt
            have hc1 : wr.cell? ⟨b1, off1 + k, none⟩ = some (V1 k) := by rw [HW.out]; exact (HC1.out k hk1).1
            have hc2 : wr.cell? ⟨b2, off2 + k, none⟩ = some (V2 k) := by rw [HW.out]; exact (HC2.out k hk2).1
            have HQ := fun n' => l2Same_any (l1.getD k []) (l2.getD k []) (V1 k) (V2 k) h1 h2 (wr.drewN n') (by rw [HW.out]; exact (HC1.out k hk1).2) (by rw [HW.out]; exact (HC2.out k hk2).2)
            generalize V1 k = x1 at *
            generalize V2 k = x2 at *
            by_cases he : l1.getD k [] = l2.getD k []
            · have HS := Lib.hid (take_eq_stepL hk1 hk2 HE.out he)
              clear hk1 hk2
              rw [decide_eq_true he] at HQ
              clear he
              have HQ' := Lib.hid HQ; clear HQ
              go_wp2
              go_quiet ((go_at_call 88; exact Calls.quiet_of (HQ'.out _)))
              go_wp2
              go_roundw
              case rel => exact ⟨d + nq, k + 1, by rw [HW.out, World.drewN_drewN], by omega, by go_num, HS.out⟩
              case measure => simp [intOf]; omega
            · have hfin := ne_of_getDL he
              have HF := Lib.hid hfin; clear hfin hk1 hk2
              rw [decide_eq_false he] at HQ
              clear he
              have HQ' := Lib.hid HQ; clear HQ
              go_wp2
              go_quiet ((go_at_call 88; exact Calls.quiet_of (HQ'.out _)))
              go_wp2
              go_ret
              exact ⟨ret_bool HF.out.symm, d + nq, by rw [HW.out, World.drewN_drewN]⟩
          · obtain rfl : k = n := by omega
            go_wp2
            go_ret
            refine ⟨ret_bool ?_, _, HW.out⟩
            have e1 := HE.out
            rw [HN.out, List.take_length, ← HN.out, HN2.out, List.take_length] at e1
            simp [e1]
  · have hf : decide (l1 = l2) = false := by rw [decide_eq_false_iff_not]; intro h; exact hle (by rw [h])
    rw [hf]
    obtain ⟨a1, cap1, rfl, -, -, -⟩ := i1
    obtain ⟨a2, cap2, rfl, -, -, -⟩ := i2
    have hb : ((l1.length : Int) != (l2.length : Int)) = true := by rw [bne_iff_ne]; omega
    generalize l1.length = n1 at *
    generalize l2.length = n2 at *
    clear hf
    go_enter Tryz.func46, Tryz.ntmps46
    go_wp2
    go_ret
    exact ⟨rfl, 0, rfl⟩
end Go.Proofs.YtehhoplenloocaaGreat

/- Putting a row into an ordered list: l2Put. -/
namespace Go.Proofs.YtehhoplenloocaaGreat
open Go.RowKit
set_option linter.unusedVariables false
set_option linter.unusedSimpArgs false

/-- v is a slice of the call's own, from block B on, of the rows vs -/
def OwnQ (w : World) (B : Nat) (v : Value) (vs : List Value) (ls : List (List Int)) : Prop :=
  w.ownsRow B 25 1 v ls.length vs ∧ (∃ g cap, v = .slice (some ⟨g, 0, none⟩) ls.length cap) ∧ ∀ i, i < ls.length → IS w 0 w.heap.size (vs.getD i (.slice none 0 0)) (ls.getD i [])
theorem OwnQ.len {w : World} {B : Nat} {v : Value} {vs : List Value} {ls : List (List Int)} (h : OwnQ w B v vs ls) : vs.length = ls.length := by have := h.1.1; omega
theorem OwnQ.lit0 (w : World) (B : Nat) (h : B ≤ w.heap.size) : OwnQ (w.alloc (.cells #[] 25)) B (.slice (some ⟨w.heap.size, 0, none⟩) 0 0) [] [] :=
  ⟨World.ownsRow_lit w #[] 0 h (by simp [maxLen]) rfl, ⟨_, _, rfl⟩, fun i hi => absurd hi (Nat.not_lt_zero _)⟩
theorem OwnQ.kept {w w' : World} {B : Nat} {v : Value} {vs : List Value} {ls : List (List Int)} (h : OwnQ w B v vs ls) (hb : Below w.heap.size w w') : OwnQ w' B v vs ls :=
  ⟨World.ownsRow.kept h.1 (row := none) ⟨hb.os, hb.tape, hb.output, hb.size, fun k hk _ => hb.block k hk⟩ (by cases v.ownBlock <;> simp), h.2.1, fun i hi => ((h.2.2 i hi).keep hb (Nat.le_refl _)).mono (Nat.le_refl _) hb.size⟩
theorem addr_add0 (b off j : Nat) : (⟨b, off, none⟩ : Addr).add j = ⟨b, off + j, none⟩ := by simp only [Addr.add]; split <;> simp_all
theorem own_cells {w : World} {B g cap n : Nat} {t : TypeId} {vs : List Value} (h : w.ownsRow B t 1 (.slice (some ⟨g, 0, none⟩) n cap) n vs) {i : Nat} (hi : i < n) : w.cell? ⟨g, i, none⟩ = some (vs.getD i (.slice none 0 0)) := by
  have hl := h.1
  have := World.ownsRow.cells h (g := g) rfl i (vs.getD i (.slice none 0 0)) (by rw [List.getD_eq_getElem?_getD, List.getElem?_eq_getElem (by omega)]; rfl)
  rw [addr_add0, Nat.zero_add] at this; exact this
theorem own_take {w : World} {B g cap n k : Nat} {t : TypeId} {vs : List Value} (h : w.ownsRow B t 1 (.slice (some ⟨g, 0, none⟩) n cap) n vs) (hk : k ≤ n) : w.ownsRow B t 1 (.slice (some ⟨g, 0, none⟩) k cap) k (vs.take k) := by
  obtain ⟨hl, h2⟩ := h
  refine ⟨by rw [List.length_take]; omega, ?_⟩
  rcases h2 with ⟨e, -⟩ | ⟨g', cap', cur, e, hb, hg, hn, hc, hs, ht⟩
  · simp at e
  · injection e with e1 e2 e3
    injection e1 with e1
    injection e1 with e1
    subst e1 e3
    refine .inr ⟨g, cap, cur, rfl, hb, hg, by omega, hc, hs, ?_⟩
    rw [← ht, List.take_take]; congr 1; omega
theorem own_drop {w : World} {B g cap n k : Nat} {t : TypeId} {vs : List Value} (h : w.ownsRow B t 1 (.slice (some ⟨g, 0, none⟩) n cap) n vs) : ∀ j u, (vs.drop k)[j]? = some u → w.cell? ((⟨g, k, none⟩ : Addr).add j) = some u := by
  intro j u hj
  rw [List.getElem?_drop] at hj
  have := World.ownsRow.cells h (g := g) rfl (k + j) u hj
  rw [addr_add0, Nat.zero_add] at this
  rw [addr_add0]; exact this
theorem own_form {w : World} {B n : Nat} {t : TypeId} {v : Value} {xs : List Value} (h : w.ownsRow B t 1 v n xs) (hv : v ≠ .slice none 0 0) : ∃ g cap, v = .slice (some ⟨g, 0, none⟩) n cap ∧ B ≤ g ∧ g < w.heap.size := by
  rcases h.2 with ⟨e, -⟩ | ⟨g, cap, cur, e, hb, hg, -⟩
  · exact absurd e hv
  · exact ⟨g, cap, e, hb, (Array.getElem?_eq_some_iff.1 hg).1⟩
def RowsQ (w : World) (vs : List Value) (ls : List (List Int)) : Prop := vs.length = ls.length ∧ ∀ i, i < ls.length → IS w 0 w.heap.size (vs.getD i (.slice none 0 0)) (ls.getD i [])
theorem RowsQ.below {w w' : World} {vs : List Value} {ls : List (List Int)} (h : RowsQ w vs ls) (hb : Below w.heap.size w w') : RowsQ w' vs ls := ⟨h.1, fun i hi => ((h.2 i hi).keep hb (Nat.le_refl _)).mono (Nat.le_refl _) hb.size⟩
theorem RowsQ.grown {w w' : World} {vs : List Value} {ls : List (List Int)} {ob : Option Nat} (h : RowsQ w vs ls) (hg : w.grownBy w' ob) (hne : ∀ g, ob = some g → ∃ c e fr, w.heap[g]? = some (.cells c e fr) ∧ e ≠ 3) : RowsQ w' vs ls := ⟨h.1, fun i hi => ((h.2 i hi).grown_type hg hne).mono (Nat.le_refl _) hg.size⟩
theorem RowsQ.take {w : World} {vs : List Value} {ls : List (List Int)} (h : RowsQ w vs ls) (k : Nat) : RowsQ w (vs.take k) (ls.take k) := by
  refine ⟨by rw [List.length_take, List.length_take, h.1], fun i hi => ?_⟩
  rw [List.length_take] at hi
  have e1 : (vs.take k).getD i (.slice none 0 0) = vs.getD i (.slice none 0 0) := by rw [List.getD_eq_getElem?_getD, List.getElem?_take_of_lt (by omega), ← List.getD_eq_getElem?_getD]
  have e2 : (ls.take k).getD i [] = ls.getD i [] := by rw [List.getD_eq_getElem?_getD, List.getElem?_take_of_lt (by omega), ← List.getD_eq_getElem?_getD]
  rw [e1, e2]; exact h.2 i (by omega)
theorem RowsQ.drop {w : World} {vs : List Value} {ls : List (List Int)} (h : RowsQ w vs ls) (k : Nat) : RowsQ w (vs.drop k) (ls.drop k) := by
  refine ⟨by rw [List.length_drop, List.length_drop, h.1], fun i hi => ?_⟩
  rw [List.length_drop] at hi
  have e1 : (vs.drop k).getD i (.slice none 0 0) = vs.getD (k + i) (.slice none 0 0) := by rw [List.getD_eq_getElem?_getD, List.getElem?_drop, ← List.getD_eq_getElem?_getD]
  have e2 : (ls.drop k).getD i [] = ls.getD (k + i) [] := by rw [List.getD_eq_getElem?_getD, List.getElem?_drop, ← List.getD_eq_getElem?_getD]
  rw [e1, e2]; exact h.2 (k + i) (by omega)
theorem RowsQ.append {w : World} {vs vs' : List Value} {ls ls' : List (List Int)} (h : RowsQ w vs ls) (h' : RowsQ w vs' ls') : RowsQ w (vs ++ vs') (ls ++ ls') := by
  refine ⟨by rw [List.length_append, List.length_append, h.1, h'.1], fun i hi => ?_⟩
  rw [List.length_append] at hi
  by_cases e : i < ls.length
  · have e1 : (vs ++ vs').getD i (.slice none 0 0) = vs.getD i (.slice none 0 0) := by rw [List.getD_eq_getElem?_getD, List.getElem?_append_left (by rw [h.1]; exact e), ← List.getD_eq_getElem?_getD]
    have e2 : (ls ++ ls').getD i [] = ls.getD i [] := by rw [List.getD_eq_getElem?_getD, List.getElem?_append_left e, ← List.getD_eq_getElem?_getD]
    rw [e1, e2]; exact h.2 i e
  · have e1 : (vs ++ vs').getD i (.slice none 0 0) = vs'.getD (i - ls.length) (.slice none 0 0) := by rw [List.getD_eq_getElem?_getD, List.getElem?_append_right (by rw [h.1]; omega), h.1, ← List.getD_eq_getElem?_getD]
    have e2 : (ls ++ ls').getD i [] = ls'.getD (i - ls.length) [] := by rw [List.getD_eq_getElem?_getD, List.getElem?_append_right (by omega), ← List.getD_eq_getElem?_getD]
    rw [e1, e2]; exact h'.2 _ (by omega)
theorem RowsQ.one {w : World} {v : Value} {r : List Int} {lo hi : Nat} (h : IS w lo hi v r) (hh : hi ≤ w.heap.size) : RowsQ w [v] [r] :=
  ⟨rfl, fun i hi' => by obtain rfl : i = 0 := by simpa using hi'
                        exact h.mono (Nat.zero_le _) hh⟩
theorem OwnQ.rows {w : World} {B : Nat} {v : Value} {vs : List Value} {ls : List (List Int)} (h : OwnQ w B v vs ls) : RowsQ w vs ls := ⟨h.len, h.2.2⟩
theorem OwnQ.of {w : World} {B n : Nat} {v : Value} {vs : List Value} {ls : List (List Int)} (h : w.ownsRow B 25 1 v n vs) (hn : n = ls.length) (hv : v ≠ .slice none 0 0) (hr : RowsQ w vs ls) : OwnQ w B v vs ls := by
  subst hn
  obtain ⟨g, cap, e, -⟩ := own_form h hv
  exact ⟨h, ⟨g, cap, e⟩, hr.2⟩
theorem undrew1 {w w' : World} (h : Below w.drew.heap.size w.drew w') : Below w.heap.size w w' := ⟨h.os, h.tape, h.output, h.size, h.block⟩
/-- append at a step of a region that draws; what is appended may be nothing -/
theorem step_append_own' {P : Program} {w : World} {ops : Array Oper} {o : Oper} {a : Act} {K : Act → World → Prop} {Q : Exit → Act → World → Prop} {E : Prop} (hgd : o.guard = none) (s x : Operand) (t : TypeId)
    (ho : o.op = .call { callee := .builtin .append, args := #[s, x], argTypes := #[t, t] })
    (base : Nat) (e : TypeId) (i : TypeInfo) (z : Value) (size bytes : Nat) (ht : P.underlying t = some (.slice e)) (hi : P.info? e = some i) (hz : i.zero = some z)
    (hsize : i.size = size) (hby : i.bytes = bytes) (hzs : z.cells.size = size) (hsz : 0 < size)
    (v : Value) (n : Nat) (xs : List Value) (hs : a.eval s = v) (hown : w.ownsRow base e size v n xs)
    (ad : Addr) (m c : Nat) (news : List Value) (hx : a.eval x = .slice (some ad) m c) (hl : news.length = m * size) (hnews : ∀ j u, news[j]? = some u → w.cell? (ad.add j) = some u) (h1 : ∀ u ∈ news, u.oneCell' = true)
    (h63 : n + m ≤ maxLen) (hbytes : (n + m) * bytes ≤ 140737488355328) (hbase : base ≤ w.heap.size)
    (h : ∀ v' w', w'.ownsRow base e size v' (n + m) (xs ++ news) → w.grownBy w' v.ownBlock → (v' = .slice none 0 0 ↔ v = .slice none 0 0 ∧ m = 0) → K (a.put o.dst v') w') :
    if Region.wanted o (yielded ops a.tmps) = true then Oper.wp P o a w K Q else E := by
  have hw : Region.wanted o (yielded ops a.tmps) = true := by simp [Region.wanted, hgd]
  rw [if_pos hw]
  exact wp_append_own w s x t ho base e i z size bytes ht hi hz hsize hby hzs hsz v n xs hs hown ad m c news hx hl hnews h1 h63 hbytes hbase h
/-- what l2Put gives -/
def PutOf (ls : List (List Int)) (r : List Int) (ls' : List (List Int)) : Prop :=
  (ls' = ls ∧ ∃ k, k < ls.length ∧ ls.getD k [] = r) ∨ ∃ k, k ≤ ls.length ∧ ls' = ls.take k ++ r :: ls.drop k ∧ (∀ j, k ≤ j → j < ls.length → ltP (ptOf r) (pf ls j)) ∧ (0 < k → ¬ ltP (ptOf r) (pf ls (k - 1)) ∧ ls.getD (k - 1) [] ≠ r)
theorem put_fin {w w3 w5 w7 : World} {B k m lo hi : Nat} {v v5 v7 vr : Value} {vs : List Value} {ls : List (List Int)} {r : List Int} {o : Obj} (hO : RowsQ w vs ls) (hB : B ≤ w.heap.size) (b3 : Below w.heap.size w w3) (hr : IS w3 lo hi vr r) (hhi : hi ≤ w3.heap.size)
    (own3 : w3.ownsRow B 25 1 v k (vs.take k)) (hg5 : (w3.alloc o).grownBy w5 v.ownBlock) (ho5 : w5.ownsRow B 25 1 v5 (k + 1) (vs.take k ++ [vr])) (hg7 : w5.grownBy w7 v5.ownBlock) (ho7 : w7.ownsRow B 25 1 v7 (k + 1 + m) (vs.take k ++ [vr] ++ vs.drop k)) (hm : (vs.drop k).length = m) (hk : k ≤ vs.length) (hv7 : v7 ≠ .slice none 0 0) :
    OwnQ w7 B v7 (vs.take k ++ [vr] ++ vs.drop k) (ls.take k ++ r :: ls.drop k) ∧ Below B w w7 := by
  have h3 := hO.below b3
  have e : ls.take k ++ r :: ls.drop k = ls.take k ++ [r] ++ ls.drop k := by simp
  have r3 : RowsQ w3 (vs.take k ++ [vr] ++ vs.drop k) (ls.take k ++ [r] ++ ls.drop k) := ((h3.take k).append (RowsQ.one hr hhi)).append (h3.drop k)
  have r7 := ((r3.below (below1 w3 o)).grown hg5 (own_type (World.ownsRow.alloc own3 o))).grown hg7 (own_type ho5)
  rw [e]
  refine ⟨OwnQ.of ho7 ?_ hv7 r7, ?_⟩
  · rw [List.length_append, List.length_append, List.length_take, List.length_drop]
    rw [List.length_drop] at hm
    have := hO.1
    simp; omega
  · have c3 : Below B w w3 := b3.mono hB
    have c5 : Below B w w5 := (c3.alloc (Nat.le_trans hB b3.size) o).grown hg5 (by have := b3.size; simp; omega) fun q hq => (World.ownsRow.lt own3 q hq).1
    exact c5.grown hg7 (by have := c5.size; omega) fun q hq => (World.ownsRow.lt ho5 q hq).1
set_option maxRecDepth 100000 in
set_option maxHeartbeats 8000000 in
theorem l2Put_any (ls : List (List Int)) (r : List Int) (v vr : Value) (vs : List Value) (B hb : Nat) (w : World) (ho : OwnQ w B v vs ls) (hr : ISr w hb vr r) (hhb : hb ≤ w.heap.size) (hr2 : r.length = 2) (hl2 : ∀ i, i < ls.length → (ls.getD i []).length = 2) (hl : ls.length ≤ 1000) :
    Calls Tryz.prog 67 #[v, vr] w fun e w' => ∃ u vs' ls', e = .returned u ∧ OwnQ w' B u vs' ls' ∧ PutOf ls r ls' ∧ Below B w w' := by
  obtain ⟨i0, hi0, hz0, hz1, hz2⟩ := info_parts info_ints
  have HI0 := Lib.hid hi0; clear hi0
  have HZ0 := Lib.hid hz0; clear hz0
  have HZ1 := Lib.hid hz1; clear hz1
  have HZ2 := Lib.hid hz2; clear hz2
  have HO := Lib.hid ho
  have HVL := Lib.hid ho.len
  obtain ⟨hown, ⟨g, cap, rfl⟩, hrow⟩ := id ho
  have hlt := World.ownsRow.lt hown g rfl
  have hcap : ls.length ≤ cap ∧ cap ≤ maxLen := by
    rcases hown.2 with ⟨e, -⟩ | ⟨g', cap', cur, e, hb', hg, hn, hc, hs, ht⟩
    · simp at e
    · injection e with e1 e2 e3
      subst e3
      exact ⟨hn, hc⟩
  unfold maxLen at hcap
  have HC := Lib.hid (fun i (hi : i < ls.length) => own_cells hown hi)
  have HD := Lib.hid (fun k => own_drop (k := k) hown)
  have HT := Lib.hid (fun k (hk : k ≤ ls.length) => own_take hown hk)
  have HROW := Lib.hid hrow
  have HL2 := Lib.hid hl2
  have HR := Lib.hid hr
  have HONE0 := Lib.hid (show ∀ u ∈ vs, u.oneCell' = true from fun u hu => by
    obtain ⟨i, hi, rfl⟩ := List.getElem_of_mem hu
    obtain ⟨a, c, e, -⟩ := hrow i (by rw [← HVL.out]; exact hi)
    rw [List.getD_eq_getElem?_getD, List.getElem?_eq_getElem hi] at e
    simp at e
    rw [e]; rfl)
  clear hrow hl2 ho hown
  obtain ⟨ar, cr, hvr, -⟩ := id hr
  rw [hr2] at hvr
  subst hvr
  have HR2 := Lib.hid hr2
  clear hr hr2
  obtain ⟨n, hn⟩ : ∃ n, n = ls.length := ⟨_, rfl⟩
  rw [← hn] at hl hcap HC HT HROW HL2 ⊢
  have HN := Lib.hid hn
  clear hn
  go_enter Tryz.func67, Tryz.ntmps67
  go_wp2
  go_loopw [5] (fun i wr => ∃ (d k : Nat), k ≤ n ∧ i = .int .i64 k ∧ Hid (wr = w.drewN d) ∧ Hid (∀ j, k ≤ j → j < n → ltP (ptOf r) (pf ls j))) (fun i _ => (intOf i).toNat)
  case atStart => exact ⟨0, n, Nat.le_refl _, by go_num, Lib.hid rfl, Lib.hid (fun j h1 h2 => by omega)⟩
  case round =>
    obtain ⟨d, k, hk, rfl, HW, HB⟩ := hrel
    have HKT := Lib.hid (HT.out k hk)
    by_cases hk0 : k = 0
    case' pos =>
      have HEX := Lib.hid (show 0 < k → ¬ ltP (ptOf r) (pf ls (k - 1)) ∧ ls.getD (k - 1) [] ≠ r from fun h => by omega)
      have hkf : decide (0 < k) = false := by rw [decide_eq_false_iff_not]; omega
      clear hk0
      obtain ⟨w1, hw1⟩ : ∃ w1, w1 = wr := ⟨_, rfl⟩
      subst hw1
      have HW1 := HW
      clear HW
      have HBW := Lib.hid (show Below w.heap.size w w1 from by rw [HW1.out]; exact below_draws _ _ _)
      have HS1 := Lib.hid (show w1.heap.size = w.heap.size by rw [HW1.out]; rfl)
      have HVD := Lib.hid (show (vs.drop (k)).length = n - (k) by rw [List.length_drop, HVL.out, HN.out])
      have HONE := Lib.hid (show ∀ u ∈ vs.drop (k), u.oneCell' = true from fun u hu => HONE0.out u (List.mem_of_mem_drop hu))
      by_cases hck : cap = k
      case pos =>
        have hnk : n = k := by omega
        have HV0 := Lib.hid (show (vs.drop (k)).length = 0 * 1 by rw [HVD.out]; omega)
        have HNW := Lib.hid (show ∀ (ad : Addr) (W : World), ∀ jj u, (vs.drop (k))[jj]? = some u → W.cell? (ad.add jj) = some u from fun _ _ jj u h => by
          rw [List.drop_of_length_le (by rw [HVL.out, ← HN.out]; omega)] at h; simp at h)
        clear hnk
        go_wp2_with (at_builtin; refine wpList_append_own _ rfl _ _ 24 rfl w1.heap.size 25 i0 (.slice none 0 0) 1 24 Tryz.underlying24 HI0.out HZ0.out HZ1.out HZ2.out rfl (by decide) _ 0 [] rfl (World.ownsRow_lit w1 #[] 0 (Nat.le_refl _) (by simp [maxLen]) rfl) _ _ _ (vs.drop (k)) rfl (HVD.out.trans (Nat.mul_one _).symm) (by first | exact HNW.out | exact HNW.out _ _) HONE.out (by unfold maxLen; omega) (by omega) (by simp) ?_)
        intro v6 w2 ho2 hg2 hn2
        obtain ⟨g2, cap2, rfl, hg2l, hg2u⟩ := own_form ho2 (fun e => by first | exact hn2 e | (have := hn2.1 e; simp at this))
        have c2 := (below1 w1 (.cells #[] 25)).grown hg2 (by simp) (fun k hk => by simp [Value.ownBlock] at hk; omega)
        have HB2 := Lib.hid (below_then HBW.out HBW.out.size c2)
        have hs2 := HB2.out.size
        have HO2 := Lib.hid (HO.out.kept HB2.out)
        have HC2 := Lib.hid (fun j u h => World.ownsRow.cells ho2 (g := g2) rfl j u h)
        have hne : some g2 ≠ some g := fun e => by injection e with e; have := HS1.out; omega
        have HRW := Lib.hid (fun W (B : Below w2.heap.size w2 W) => (HR.out.keep HB2.out hhb).keep B (by omega))
        clear c2 ho2 hg2 hn2 HNW
        have q1 : (0 : Int) ≤ (k : Int) := by omega
        have q2 : (k : Int) ≤ (cap : Int) := by omega
        have q3 : ((k : Int)).toNat = k := by omega
        subst cap
        go_wp2_with fail
        have A1 : ISr (w2.drew.alloc (.cells #[] 3)) hb (.slice ar 2 cr) r := HRW.out _ (Below.trans (below_draws _ w2 1) (below1 w2.drew _))
        have A2 : OwnI (w2.drew.alloc (.cells #[] 3)) w2.heap.size (.slice (some ⟨w2.heap.size, 0, none⟩) 0 0) [] := OwnI.lit0 w2.drew w2.heap.size (Nat.le_refl _)
        go_region_held3 (fun _ => True) (trivial) (first
          | (refine step_append_own' (by rfl) _ _ _ (by with_reducible rfl) B 25 i0 _ 1 24 Tryz.underlying24 HI0.out HZ0.out HZ1.out HZ2.out rfl (by omega) (.slice (some ⟨g5, 0, none⟩) (k + 1) cap5) (k + 1) (vs.take (k) ++ [.slice au nu cu]) (by rfl) ho5 ⟨g2, 0, none⟩ 0 _ (vs.drop (k)) (by rfl) HV0.out CELLS5 HONE.out (by unfold maxLen; omega) (by omega) (by omega) ?_; intro v7 w7 ho7 hg7 hn7)
          | (refine step_append_lies _ (by rfl) _ _ _ (by with_reducible rfl) B 25 i0 _ 1 24 Tryz.underlying24 HI0.out HZ0.out HZ1.out HZ2.out rfl (by omega) (.slice (some ⟨g, 0, none⟩) (k) (k)) (k) (vs.take (k)) (by rfl) (by first | exact OWN3.alloc _ | exact (OWN3.alloc _).drew) ⟨w3.heap.size, 0, none⟩ 1 1 [.slice au nu cu] (by rfl) (by rfl) (World.news_of_block (cs := #[.slice au nu cu]) (t := 25) (fr := (0, 0)) (heap_alloc_new w3 _)) (by simp [Value.oneCell']) (by omega) (by unfold maxLen; omega) (by omega) (by simp; omega) (w3.heap.size + 1) (by simp) ?_; intro g5 cap5 w5 ho5 hg5 hat5 hlt5; have hz5 : w3.heap.size + 1 ≤ w5.heap.size := (by have hq := hg5.size; simp at hq; omega); have CELLS5 : ∀ i u, (vs.drop (k))[i]? = some u → w5.cell? ((⟨g2, 0, none⟩ : Addr).add i) = some u := fun i u h => hg5.cell (((below1 w3 (.cells #[.slice au nu cu] 25)).cell (p := (⟨g2, 0, none⟩ : Addr).add i) (by rw [addr_add0]; exact Nat.lt_of_lt_of_le hg2u hs3)).trans (CELLS3 i u h)) (by rw [addr_add0]; exact hne))
          | (refine step_append_I (by rfl) _ _ (by with_reducible rfl) (by rfl) (by rfl) A2 A1 (by have := HR2.out; simp; omega) (by simp) ?_; intro au nu cu w3 hnu ko3 hg3; have B3 := undrew1 (Below.grown (below1 w2.drew (.cells #[] 3)) hg3 (by simp) (fun k hk => (World.ownsRow.lt A2 k hk).1)); have hs3 := B3.size; have OWN3 := own_take (k := k) (HO2.out.kept B3).1 (by rw [← HN.out]; omega); have CELLS3 : ∀ i u, (vs.drop (k))[i]? = some u → w3.cell? ((⟨g2, 0, none⟩ : Addr).add i) = some u := fun i u h => (B3.cell (p := (⟨g2, 0, none⟩ : Addr).add i) (by rw [addr_add0]; exact hg2u)).trans (HC2.out i u h)))
        have PF := put_fin HO.out.rows (by omega) (below_then HB2.out hs2 B3) ko3.is (Nat.le_refl _) OWN3 hg5 ho5 hg7 ho7 HV0.out (by rw [HVL.out, ← HN.out]; omega) (fun e => by have := hn7.1 e; simp at this)
        have PF1 := Lib.hid PF.1
        have PF2 := Lib.hid PF.2
        have PT := Lib.hid (show PutOf ls r (ls.take (k) ++ r :: ls.drop (k)) from .inr ⟨k, by rw [← HN.out]; omega, rfl, fun i h1 h2 => HB.out i h1 (by rw [HN.out]; exact h2), HEX.out⟩)
        clear PF ho7 hg7 hn7 ho5 hg5 hat5 hlt5 OWN3 CELLS3 CELLS5 B3 ko3 hg3 hnu A1 A2
        go_wp2
        go_ret
        exact ⟨_, _, _, rfl, PF1.out, PT.out, PF2.out⟩
      case neg =>
        have HNW := Lib.hid (show ∀ jj u, (vs.drop (k))[jj]? = some u → (w1.alloc (.cells #[] 25)).cell? ((⟨g, k, none⟩ : Addr).add jj) = some u from fun jj u h => by
          have h0 := HD.out (k) jj u h
          rw [addr_add0] at h0 ⊢
          exact ((HBW.out.trans ((below1 w1 (.cells #[] 25)).mono (by rw [HS1.out]; exact Nat.le_refl _))).cell (p := ⟨g, k + jj, none⟩) hlt.2).trans h0)
        go_wp2_with (at_builtin; refine wpList_append_own _ rfl _ _ 24 rfl w1.heap.size 25 i0 (.slice none 0 0) 1 24 Tryz.underlying24 HI0.out HZ0.out HZ1.out HZ2.out rfl (by decide) _ 0 [] rfl (World.ownsRow_lit w1 #[] 0 (Nat.le_refl _) (by simp [maxLen]) rfl) _ _ _ (vs.drop (k)) rfl (HVD.out.trans (Nat.mul_one _).symm) (by first | exact HNW.out | exact HNW.out _ _) HONE.out (by unfold maxLen; omega) (by omega) (by simp) ?_)
        intro v6 w2 ho2 hg2 hn2
        obtain ⟨g2, cap2, rfl, hg2l, hg2u⟩ := own_form ho2 (fun e => by first | exact hn2 e | (have := hn2.1 e; simp at this))
        have c2 := (below1 w1 (.cells #[] 25)).grown hg2 (by simp) (fun k hk => by simp [Value.ownBlock] at hk; omega)
        have HB2 := Lib.hid (below_then HBW.out HBW.out.size c2)
        have hs2 := HB2.out.size
        have HO2 := Lib.hid (HO.out.kept HB2.out)
        have HC2 := Lib.hid (fun j u h => World.ownsRow.cells ho2 (g := g2) rfl j u h)
        have hne : some g2 ≠ some g := fun e => by injection e with e; have := HS1.out; omega
        have HRW := Lib.hid (fun W (B : Below w2.heap.size w2 W) => (HR.out.keep HB2.out hhb).keep B (by omega))
        clear c2 ho2 hg2 hn2 HNW
        have q1 : (0 : Int) ≤ (k : Int) := by omega
        have q2 : (k : Int) ≤ (cap : Int) := by omega
        have q3 : ((k : Int)).toNat = k := by omega
        clear hck
        go_wp2_with fail
        have A1 : ISr (w2.drew.alloc (.cells #[] 3)) hb (.slice ar 2 cr) r := HRW.out _ (Below.trans (below_draws _ w2 1) (below1 w2.drew _))
        have A2 : OwnI (w2.drew.alloc (.cells #[] 3)) w2.heap.size (.slice (some ⟨w2.heap.size, 0, none⟩) 0 0) [] := OwnI.lit0 w2.drew w2.heap.size (Nat.le_refl _)
        go_region_held3 (fun _ => True) (trivial) (first
          | (refine step_append_own' (by rfl) _ _ _ (by with_reducible rfl) B 25 i0 _ 1 24 Tryz.underlying24 HI0.out HZ0.out HZ1.out HZ2.out rfl (by omega) (.slice (some ⟨g5, 0, none⟩) (k + 1) cap5) (k + 1) (vs.take (k) ++ [.slice au nu cu]) (by rfl) ho5 ⟨g2, 0, none⟩ _ _ (vs.drop (k)) (by rfl) (HVD.out.trans (Nat.mul_one _).symm) CELLS5 HONE.out (by unfold maxLen; omega) (by omega) (by omega) ?_; intro v7 w7 ho7 hg7 hn7)
          | (refine step_append_lies _ (by rfl) _ _ _ (by with_reducible rfl) B 25 i0 _ 1 24 Tryz.underlying24 HI0.out HZ0.out HZ1.out HZ2.out rfl (by omega) (.slice (some ⟨g, 0, none⟩) (k) (cap)) (k) (vs.take (k)) (by rfl) (by first | exact OWN3.alloc _ | exact (OWN3.alloc _).drew) ⟨w3.heap.size, 0, none⟩ 1 1 [.slice au nu cu] (by rfl) (by rfl) (World.news_of_block (cs := #[.slice au nu cu]) (t := 25) (fr := (0, 0)) (heap_alloc_new w3 _)) (by simp [Value.oneCell']) (by omega) (by unfold maxLen; omega) (by omega) (by simp; omega) (w3.heap.size + 1) (by simp) ?_; intro g5 cap5 w5 ho5 hg5 hat5 hlt5; have hz5 : w3.heap.size + 1 ≤ w5.heap.size := (by have hq := hg5.size; simp at hq; omega); have CELLS5 : ∀ i u, (vs.drop (k))[i]? = some u → w5.cell? ((⟨g2, 0, none⟩ : Addr).add i) = some u := fun i u h => hg5.cell (((below1 w3 (.cells #[.slice au nu cu] 25)).cell (p := (⟨g2, 0, none⟩ : Addr).add i) (by rw [addr_add0]; exact Nat.lt_of_lt_of_le hg2u hs3)).trans (CELLS3 i u h)) (by rw [addr_add0]; exact hne))
          | (refine step_append_I (by rfl) _ _ (by with_reducible rfl) (by rfl) (by rfl) A2 A1 (by have := HR2.out; simp; omega) (by simp) ?_; intro au nu cu w3 hnu ko3 hg3; have B3 := undrew1 (Below.grown (below1 w2.drew (.cells #[] 3)) hg3 (by simp) (fun k hk => (World.ownsRow.lt A2 k hk).1)); have hs3 := B3.size; have OWN3 := own_take (k := k) (HO2.out.kept B3).1 (by rw [← HN.out]; omega); have CELLS3 : ∀ i u, (vs.drop (k))[i]? = some u → w3.cell? ((⟨g2, 0, none⟩ : Addr).add i) = some u := fun i u h => (B3.cell (p := (⟨g2, 0, none⟩ : Addr).add i) (by rw [addr_add0]; exact hg2u)).trans (HC2.out i u h)))
        have PF := put_fin HO.out.rows (by omega) (below_then HB2.out hs2 B3) ko3.is (Nat.le_refl _) OWN3 hg5 ho5 hg7 ho7 HVD.out (by rw [HVL.out, ← HN.out]; omega) (fun e => by have := hn7.1 e; simp at this)
        have PF1 := Lib.hid PF.1
        have PF2 := Lib.hid PF.2
        have PT := Lib.hid (show PutOf ls r (ls.take (k) ++ r :: ls.drop (k)) from .inr ⟨k, by rw [← HN.out]; omega, rfl, fun i h1 h2 => HB.out i h1 (by rw [HN.out]; exact h2), HEX.out⟩)
        clear PF ho7 hg7 hn7 ho5 hg5 hat5 hlt5 OWN3 CELLS3 CELLS5 B3 ko3 hg3 hnu A1 A2
        go_wp2
        go_ret
        exact ⟨_, _, _, rfl, PF1.out, PT.out, PF2.out⟩
    case' neg =>
      obtain ⟨j, rfl⟩ : ∃ j, k = j + 1 := ⟨k - 1, by omega⟩
      have hc : wr.cell? ⟨g, j, none⟩ = some (vs.getD j (.slice none 0 0)) := by rw [HW.out]; exact HC.out j (by omega)
      have hrj := (HROW.out j (by omega)).read
      have Q1 := l2Before_any r (ls.getD j []) (.slice ar 2 cr) _ hb w.heap.size wr (by rw [HW.out]; exact HR.out) (by rw [HW.out]; exact hrj) HR2.out (HL2.out j (by omega))
      have Q2 := fun d => l2Same_any (ls.getD j []) r _ (.slice ar 2 cr) w.heap.size hb (wr.drewN d) (by rw [HW.out]; exact hrj) (by rw [HW.out]; exact HR.out)
      obtain ⟨aj, cj, hvj, -⟩ := id hrj
      rw [HL2.out j (by omega)] at hvj
      rw [hvj] at hc Q1 Q2
      have HCD := Lib.hid (fun d => (show (wr.drewN d).cell? _ = _ from hc))
      have hpf : ptOf (ls.getD j []) = pf ls j := rfl
      rw [hpf] at Q1
      by_cases hlt' : ltP (ptOf r) (pf ls j)
      case pos =>
        rw [decide_eq_true hlt'] at Q1
        have HB' := Lib.hid (show ∀ i, j ≤ i → i < n → ltP (ptOf r) (pf ls i) from fun i h1 h2 => by
          by_cases e : i = j
          · rw [e]; exact hlt'
          · exact HB.out i (by omega) h2)
        clear hlt' hpf hvj hrj Q2
        go_wp2_with (go_at_call 89; (with_reducible refine Q1.mono ?_); rintro e w' ⟨rfl, d1, rfl⟩)
        go_roundw
        case rel => exact ⟨d + d1, j, by omega, by go_num, Lib.hid (by rw [HW.out, World.drewN_drewN]), HB'⟩
        case measure => simp [intOf]
      rw [decide_eq_false hlt'] at Q1
      by_cases he : ls.getD j [] = r
      case pos =>
        rw [decide_eq_true he] at Q2
        have HP := Lib.hid (show PutOf ls r ls from .inl ⟨rfl, j, by rw [← HN.out]; omega, he⟩)
        clear hlt' hpf hvj hrj he
        go_wp2_with (first | (go_at_call 89; (with_reducible refine Q1.mono ?_); rintro e w' ⟨rfl, d1, rfl⟩; have hc1 := HCD.out d1) | (go_at_call 88; (with_reducible refine (Q2 _).mono ?_); rintro e w' ⟨rfl, d2, rfl⟩))
        go_ret
        exact ⟨_, vs, ls, rfl, by rw [HW.out, HN.out]; exact HO.out, HP.out, by rw [HW.out]; simp only [World.drewN_drewN]; exact below_draws _ _ _⟩
      rw [decide_eq_false he] at Q2
      have HEX := Lib.hid (show 0 < j + 1 → ¬ ltP (ptOf r) (pf ls (j + 1 - 1)) ∧ ls.getD (j + 1 - 1) [] ≠ r from fun h => ⟨hlt', he⟩)
      clear hlt' hpf hvj hrj he hk0
      go_wp2_with (go_at_call 89; (with_reducible refine Q1.mono ?_); rintro e w' ⟨rfl, d1, rfl⟩; have hc1 := HCD.out d1)
      refine (Q2 _).mono ?_
      rintro e w1 ⟨rfl, d2, hw1⟩
      have HW1 := Lib.hid (show w1 = w.drewN (d + d1 + d2) by rw [hw1, HW.out]; simp only [World.drewN_drewN])
      clear hw1 Q1 Q2 hc HCD hc1 HW
      have HBW := Lib.hid (show Below w.heap.size w w1 from by rw [HW1.out]; exact below_draws _ _ _)
      have HS1 := Lib.hid (show w1.heap.size = w.heap.size by rw [HW1.out]; rfl)
      have HVD := Lib.hid (show (vs.drop (j + 1)).length = n - (j + 1) by rw [List.length_drop, HVL.out, HN.out])
      have HONE := Lib.hid (show ∀ u ∈ vs.drop (j + 1), u.oneCell' = true from fun u hu => HONE0.out u (List.mem_of_mem_drop hu))
      by_cases hck : cap = j + 1
      case pos =>
        have hnk : n = j + 1 := by omega
        have HV0 := Lib.hid (show (vs.drop (j + 1)).length = 0 * 1 by rw [HVD.out]; omega)
        have HNW := Lib.hid (show ∀ (ad : Addr) (W : World), ∀ jj u, (vs.drop (j + 1))[jj]? = some u → W.cell? (ad.add jj) = some u from fun _ _ jj u h => by
          rw [List.drop_of_length_le (by rw [HVL.out, ← HN.out]; omega)] at h; simp at h)
        clear hnk
        go_wp2_with (at_builtin; refine wpList_append_own _ rfl _ _ 24 rfl w1.heap.size 25 i0 (.slice none 0 0) 1 24 Tryz.underlying24 HI0.out HZ0.out HZ1.out HZ2.out rfl (by decide) _ 0 [] rfl (World.ownsRow_lit w1 #[] 0 (Nat.le_refl _) (by simp [maxLen]) rfl) _ _ _ (vs.drop (j + 1)) rfl (HVD.out.trans (Nat.mul_one _).symm) (by first | exact HNW.out | exact HNW.out _ _) HONE.out (by unfold maxLen; omega) (by omega) (by simp) ?_)
        intro v6 w2 ho2 hg2 hn2
        obtain ⟨g2, cap2, rfl, hg2l, hg2u⟩ := own_form ho2 (fun e => by first | exact hn2 e | (have := hn2.1 e; simp at this))
        have c2 := (below1 w1 (.cells #[] 25)).grown hg2 (by simp) (fun k hk => by simp [Value.ownBlock] at hk; omega)
        have HB2 := Lib.hid (below_then HBW.out HBW.out.size c2)
        have hs2 := HB2.out.size
        have HO2 := Lib.hid (HO.out.kept HB2.out)
        have HC2 := Lib.hid (fun j u h => World.ownsRow.cells ho2 (g := g2) rfl j u h)
        have hne : some g2 ≠ some g := fun e => by injection e with e; have := HS1.out; omega
        have HRW := Lib.hid (fun W (B : Below w2.heap.size w2 W) => (HR.out.keep HB2.out hhb).keep B (by omega))
        clear c2 ho2 hg2 hn2 HNW
        have q1 : (0 : Int) ≤ (j : Int) + 1 := by omega
        have q2 : (j : Int) + 1 ≤ (cap : Int) := by omega
        have q3 : ((j : Int) + 1).toNat = j + 1 := by omega
        subst cap
        go_wp2_with fail
        have A1 : ISr (w2.drew.alloc (.cells #[] 3)) hb (.slice ar 2 cr) r := HRW.out _ (Below.trans (below_draws _ w2 1) (below1 w2.drew _))
        have A2 : OwnI (w2.drew.alloc (.cells #[] 3)) w2.heap.size (.slice (some ⟨w2.heap.size, 0, none⟩) 0 0) [] := OwnI.lit0 w2.drew w2.heap.size (Nat.le_refl _)
        go_region_held3 (fun _ => True) (trivial) (first
          | (refine step_append_own' (by rfl) _ _ _ (by with_reducible rfl) B 25 i0 _ 1 24 Tryz.underlying24 HI0.out HZ0.out HZ1.out HZ2.out rfl (by omega) (.slice (some ⟨g5, 0, none⟩) (j + 1 + 1) cap5) (j + 1 + 1) (vs.take (j + 1) ++ [.slice au nu cu]) (by rfl) ho5 ⟨g2, 0, none⟩ 0 _ (vs.drop (j + 1)) (by rfl) HV0.out CELLS5 HONE.out (by unfold maxLen; omega) (by omega) (by omega) ?_; intro v7 w7 ho7 hg7 hn7)
          | (refine step_append_lies _ (by rfl) _ _ _ (by with_reducible rfl) B 25 i0 _ 1 24 Tryz.underlying24 HI0.out HZ0.out HZ1.out HZ2.out rfl (by omega) (.slice (some ⟨g, 0, none⟩) (j + 1) (j + 1)) (j + 1) (vs.take (j + 1)) (by rfl) (by first | exact OWN3.alloc _ | exact (OWN3.alloc _).drew) ⟨w3.heap.size, 0, none⟩ 1 1 [.slice au nu cu] (by rfl) (by rfl) (World.news_of_block (cs := #[.slice au nu cu]) (t := 25) (fr := (0, 0)) (heap_alloc_new w3 _)) (by simp [Value.oneCell']) (by omega) (by unfold maxLen; omega) (by omega) (by simp; omega) (w3.heap.size + 1) (by simp) ?_; intro g5 cap5 w5 ho5 hg5 hat5 hlt5; have hz5 : w3.heap.size + 1 ≤ w5.heap.size := (by have hq := hg5.size; simp at hq; omega); have CELLS5 : ∀ i u, (vs.drop (j + 1))[i]? = some u → w5.cell? ((⟨g2, 0, none⟩ : Addr).add i) = some u := fun i u h => hg5.cell (((below1 w3 (.cells #[.slice au nu cu] 25)).cell (p := (⟨g2, 0, none⟩ : Addr).add i) (by rw [addr_add0]; exact Nat.lt_of_lt_of_le hg2u hs3)).trans (CELLS3 i u h)) (by rw [addr_add0]; exact hne))
          | (refine step_append_I (by rfl) _ _ (by with_reducible rfl) (by rfl) (by rfl) A2 A1 (by have := HR2.out; simp; omega) (by simp) ?_; intro au nu cu w3 hnu ko3 hg3; have B3 := undrew1 (Below.grown (below1 w2.drew (.cells #[] 3)) hg3 (by simp) (fun k hk => (World.ownsRow.lt A2 k hk).1)); have hs3 := B3.size; have OWN3 := own_take (k := j + 1) (HO2.out.kept B3).1 (by rw [← HN.out]; omega); have CELLS3 : ∀ i u, (vs.drop (j + 1))[i]? = some u → w3.cell? ((⟨g2, 0, none⟩ : Addr).add i) = some u := fun i u h => (B3.cell (p := (⟨g2, 0, none⟩ : Addr).add i) (by rw [addr_add0]; exact hg2u)).trans (HC2.out i u h)))
        have PF := put_fin HO.out.rows (by omega) (below_then HB2.out hs2 B3) ko3.is (Nat.le_refl _) OWN3 hg5 ho5 hg7 ho7 HV0.out (by rw [HVL.out, ← HN.out]; omega) (fun e => by have := hn7.1 e; simp at this)
        have PF1 := Lib.hid PF.1
        have PF2 := Lib.hid PF.2
        have PT := Lib.hid (show PutOf ls r (ls.take (j + 1) ++ r :: ls.drop (j + 1)) from .inr ⟨j + 1, by rw [← HN.out]; omega, rfl, fun i h1 h2 => HB.out i h1 (by rw [HN.out]; exact h2), HEX.out⟩)
        clear PF ho7 hg7 hn7 ho5 hg5 hat5 hlt5 OWN3 CELLS3 CELLS5 B3 ko3 hg3 hnu A1 A2
        go_wp2
        go_ret
        exact ⟨_, _, _, rfl, PF1.out, PT.out, PF2.out⟩
      case neg =>
        have HNW := Lib.hid (show ∀ jj u, (vs.drop (j + 1))[jj]? = some u → (w1.alloc (.cells #[] 25)).cell? ((⟨g, j + 1, none⟩ : Addr).add jj) = some u from fun jj u h => by
          have h0 := HD.out (j + 1) jj u h
          rw [addr_add0] at h0 ⊢
          exact ((HBW.out.trans ((below1 w1 (.cells #[] 25)).mono (by rw [HS1.out]; exact Nat.le_refl _))).cell (p := ⟨g, j + 1 + jj, none⟩) hlt.2).trans h0)
        go_wp2_with (at_builtin; refine wpList_append_own _ rfl _ _ 24 rfl w1.heap.size 25 i0 (.slice none 0 0) 1 24 Tryz.underlying24 HI0.out HZ0.out HZ1.out HZ2.out rfl (by decide) _ 0 [] rfl (World.ownsRow_lit w1 #[] 0 (Nat.le_refl _) (by simp [maxLen]) rfl) _ _ _ (vs.drop (j + 1)) rfl (HVD.out.trans (Nat.mul_one _).symm) (by first | exact HNW.out | exact HNW.out _ _) HONE.out (by unfold maxLen; omega) (by omega) (by simp) ?_)
        intro v6 w2 ho2 hg2 hn2
        obtain ⟨g2, cap2, rfl, hg2l, hg2u⟩ := own_form ho2 (fun e => by first | exact hn2 e | (have := hn2.1 e; simp at this))
        have c2 := (below1 w1 (.cells #[] 25)).grown hg2 (by simp) (fun k hk => by simp [Value.ownBlock] at hk; omega)
        have HB2 := Lib.hid (below_then HBW.out HBW.out.size c2)
        have hs2 := HB2.out.size
        have HO2 := Lib.hid (HO.out.kept HB2.out)
        have HC2 := Lib.hid (fun j u h => World.ownsRow.cells ho2 (g := g2) rfl j u h)
        have hne : some g2 ≠ some g := fun e => by injection e with e; have := HS1.out; omega
        have HRW := Lib.hid (fun W (B : Below w2.heap.size w2 W) => (HR.out.keep HB2.out hhb).keep B (by omega))
        clear c2 ho2 hg2 hn2 HNW
        have q1 : (0 : Int) ≤ (j : Int) + 1 := by omega
        have q2 : (j : Int) + 1 ≤ (cap : Int) := by omega
        have q3 : ((j : Int) + 1).toNat = j + 1 := by omega
        clear hck
        go_wp2_with fail
        have A1 : ISr (w2.drew.alloc (.cells #[] 3)) hb (.slice ar 2 cr) r := HRW.out _ (Below.trans (below_draws _ w2 1) (below1 w2.drew _))
        have A2 : OwnI (w2.drew.alloc (.cells #[] 3)) w2.heap.size (.slice (some ⟨w2.heap.size, 0, none⟩) 0 0) [] := OwnI.lit0 w2.drew w2.heap.size (Nat.le_refl _)
        go_region_held3 (fun _ => True) (trivial) (first
          | (refine step_append_own' (by rfl) _ _ _ (by with_reducible rfl) B 25 i0 _ 1 24 Tryz.underlying24 HI0.out HZ0.out HZ1.out HZ2.out rfl (by omega) (.slice (some ⟨g5, 0, none⟩) (j + 1 + 1) cap5) (j + 1 + 1) (vs.take (j + 1) ++ [.slice au nu cu]) (by rfl) ho5 ⟨g2, 0, none⟩ _ _ (vs.drop (j + 1)) (by rfl) (HVD.out.trans (Nat.mul_one _).symm) CELLS5 HONE.out (by unfold maxLen; omega) (by omega) (by omega) ?_; intro v7 w7 ho7 hg7 hn7)
          | (refine step_append_lies _ (by rfl) _ _ _ (by with_reducible rfl) B 25 i0 _ 1 24 Tryz.underlying24 HI0.out HZ0.out HZ1.out HZ2.out rfl (by omega) (.slice (some ⟨g, 0, none⟩) (j + 1) (cap)) (j + 1) (vs.take (j + 1)) (by rfl) (by first | exact OWN3.alloc _ | exact (OWN3.alloc _).drew) ⟨w3.heap.size, 0, none⟩ 1 1 [.slice au nu cu] (by rfl) (by rfl) (World.news_of_block (cs := #[.slice au nu cu]) (t := 25) (fr := (0, 0)) (heap_alloc_new w3 _)) (by simp [Value.oneCell']) (by omega) (by unfold maxLen; omega) (by omega) (by simp; omega) (w3.heap.size + 1) (by simp) ?_; intro g5 cap5 w5 ho5 hg5 hat5 hlt5; have hz5 : w3.heap.size + 1 ≤ w5.heap.size := (by have hq := hg5.size; simp at hq; omega); have CELLS5 : ∀ i u, (vs.drop (j + 1))[i]? = some u → w5.cell? ((⟨g2, 0, none⟩ : Addr).add i) = some u := fun i u h => hg5.cell (((below1 w3 (.cells #[.slice au nu cu] 25)).cell (p := (⟨g2, 0, none⟩ : Addr).add i) (by rw [addr_add0]; exact Nat.lt_of_lt_of_le hg2u hs3)).trans (CELLS3 i u h)) (by rw [addr_add0]; exact hne))
          | (refine step_append_I (by rfl) _ _ (by with_reducible rfl) (by rfl) (by rfl) A2 A1 (by have := HR2.out; simp; omega) (by simp) ?_; intro au nu cu w3 hnu ko3 hg3; have B3 := undrew1 (Below.grown (below1 w2.drew (.cells #[] 3)) hg3 (by simp) (fun k hk => (World.ownsRow.lt A2 k hk).1)); have hs3 := B3.size; have OWN3 := own_take (k := j + 1) (HO2.out.kept B3).1 (by rw [← HN.out]; omega); have CELLS3 : ∀ i u, (vs.drop (j + 1))[i]? = some u → w3.cell? ((⟨g2, 0, none⟩ : Addr).add i) = some u := fun i u h => (B3.cell (p := (⟨g2, 0, none⟩ : Addr).add i) (by rw [addr_add0]; exact hg2u)).trans (HC2.out i u h)))
        have PF := put_fin HO.out.rows (by omega) (below_then HB2.out hs2 B3) ko3.is (Nat.le_refl _) OWN3 hg5 ho5 hg7 ho7 HVD.out (by rw [HVL.out, ← HN.out]; omega) (fun e => by have := hn7.1 e; simp at this)
        have PF1 := Lib.hid PF.1
        have PF2 := Lib.hid PF.2
        have PT := Lib.hid (show PutOf ls r (ls.take (j + 1) ++ r :: ls.drop (j + 1)) from .inr ⟨j + 1, by rw [← HN.out]; omega, rfl, fun i h1 h2 => HB.out i h1 (by rw [HN.out]; exact h2), HEX.out⟩)
        clear PF ho7 hg7 hn7 ho5 hg5 hat5 hlt5 OWN3 CELLS3 CELLS5 B3 ko3 hg3 hnu A1 A2
        go_wp2
        go_ret
        exact ⟨_, _, _, rfl, PF1.out, PT.out, PF2.out⟩
end Go.Proofs.YtehhoplenloocaaGreat

/- The hull of points in order: l7Hull. -/
namespace Go.Proofs.YtehhoplenloocaaGreat
open Go.RowKit
set_option linter.unusedVariables false
set_option linter.unusedSimpArgs false

def Rk (r : List Int) : Prop := r.length = 2 ∧ allIn r (-1000000) 1000000 = true
abbrev VR := Value × List Int
def pv (L : List VR) : List Pt := L.map fun q => ptOf q.2
/-- v is a slice of the call's own, from block B on, of rows that lie below hi -/
def OwnP (w : World) (B hi : Nat) (v : Value) (L : List VR) : Prop :=
  w.ownsRow B 25 1 v L.length (L.map (·.1)) ∧ (∃ g cap, v = .slice (some ⟨g, 0, none⟩) L.length cap) ∧ ∀ q ∈ L, ISr w hi q.1 q.2 ∧ Rk q.2
theorem OwnP.lit0 (w : World) (B hi : Nat) (h : B ≤ w.heap.size) : OwnP (w.alloc (.cells #[] 25)) B hi (.slice (some ⟨w.heap.size, 0, none⟩) 0 0) [] :=
  ⟨World.ownsRow_lit w #[] 0 h (by simp [maxLen]) rfl, ⟨_, _, rfl⟩, fun q hq => by simp at hq⟩
theorem OwnP.kept {w w' : World} {B hi : Nat} {v : Value} {L : List VR} (h : OwnP w B hi v L) (hb : Below w.heap.size w w') (hh : hi ≤ w.heap.size) : OwnP w' B hi v L :=
  ⟨World.ownsRow.kept h.1 (row := none) ⟨hb.os, hb.tape, hb.output, hb.size, fun k hk _ => hb.block k hk⟩ (by cases v.ownBlock <;> simp), h.2.1, fun q hq => ⟨(h.2.2 q hq).1.keep hb hh, (h.2.2 q hq).2⟩⟩
theorem OwnP.lt {w : World} {B hi g cap n : Nat} {L : List VR} (h : OwnP w B hi (.slice (some ⟨g, 0, none⟩) n cap) L) : B ≤ g ∧ g < w.heap.size := World.ownsRow.lt h.1 g rfl
theorem OwnP.cell {w : World} {B hi g cap : Nat} {L : List VR} (h : OwnP w B hi (.slice (some ⟨g, 0, none⟩) L.length cap) L) {i : Nat} {q : VR} (hi' : L[i]? = some q) : w.cell? ⟨g, i, none⟩ = some q.1 := by
  have hl := (List.getElem?_eq_some_iff.1 hi').1
  rw [own_cells h.1 hl, List.getD_eq_getElem?_getD, List.getElem?_map, hi']; rfl
theorem OwnP.take {w : World} {B hi g cap : Nat} {L : List VR} (h : OwnP w B hi (.slice (some ⟨g, 0, none⟩) L.length cap) L) {k : Nat} (hk : k ≤ L.length) : OwnP w B hi (.slice (some ⟨g, 0, none⟩) k cap) (L.take k) := by
  have hl : (L.take k).length = k := by rw [List.length_take]; omega
  refine ⟨?_, ⟨g, cap, by rw [hl]⟩, fun q hq => h.2.2 q (List.mem_of_mem_take hq)⟩
  rw [hl, List.map_take]
  exact own_take h.1 hk
theorem OwnP.push {w w4 : World} {B hi g cap : Nat} {v xv : Value} {x : List Int} {L : List VR} {o : Obj} (h : OwnP w B hi v L) (hx : ISr w hi xv x) (hk : Rk x) (hB : hi ≤ B) (hBw : B ≤ w.heap.size) (hg : (w.alloc o).grownBy w4 v.ownBlock)
    (ho : w4.ownsRow B 25 1 (.slice (some ⟨g, 0, none⟩) (L.length + 1) cap) (L.length + 1) (L.map (·.1) ++ [xv])) : OwnP w4 B hi (.slice (some ⟨g, 0, none⟩) (L.length + 1) cap) (L ++ [(xv, x)]) ∧ Below B w w4 := by
  have hb : Below B w w4 := ((Below.refl B w).alloc hBw o).grown hg (by simp; omega) fun q hq => (World.ownsRow.lt h.1 q hq).1
  refine ⟨⟨by rw [List.length_append, List.map_append]; exact ho, ⟨g, cap, by rw [List.length_append]; rfl⟩, fun q hq => ?_⟩, hb⟩
  rcases List.mem_append.1 hq with hq | hq
  · exact ⟨(h.2.2 q hq).1.keep hb hB, (h.2.2 q hq).2⟩
  · simp at hq; subst hq; exact ⟨hx.keep hb hB, hk⟩
theorem pv_append (a b : List VR) : pv (a ++ b) = pv a ++ pv b := by unfold pv; rw [List.map_append]
theorem pv_reverse (a : List VR) : pv a.reverse = (pv a).reverse := by unfold pv; rw [List.map_reverse]
theorem pv_len (a : List VR) : (pv a).length = a.length := by unfold pv; simp
/-- the points of a pass -/
def passP (ls : List (List Int)) (p : Nat) : List Pt := if p = 0 then ptsOf ls else (ptsOf ls).reverse
def outP (ls : List (List Int)) : Nat → List Pt
  | 0 => []
  | p + 1 => outP ls p ++ (chain (passP ls p)).tail.reverse
theorem outP_two (ls : List (List Int)) : outP ls 2 = hullP (ptsOf ls) := by
  simp [outP, passP, hullP]
theorem chain_step {S : List Pt} {k : Nat} (h : k < S.length) : (S.take (k + 1)).foldl chStep [] = chStep ((S.take k).foldl chStep []) (S.getD k o0) := by
  rw [List.take_succ_eq_append_getElem h, List.foldl_append, List.getD_eq_getElem?_getD, List.getElem?_eq_getElem h]; rfl
theorem passP_len (ls : List (List Int)) (p : Nat) : (passP ls p).length = ls.length := by unfold passP ptsOf; split <;> simp
theorem passP_at0 (ls : List (List Int)) (k : Nat) : (passP ls 0).getD k o0 = ptOf (ls.getD k []) := ptOf_getD ls k
theorem passP_at1 (ls : List (List Int)) (k : Nat) (h : k < ls.length) : (passP ls 1).getD k o0 = ptOf (ls.getD (ls.length - 1 - k) []) := by
  have hl : (ptsOf ls).length = ls.length := by unfold ptsOf; simp
  rw [← ptOf_getD]
  show (ptsOf ls).reverse.getD k o0 = _
  rw [List.getD_eq_getElem?_getD, List.getD_eq_getElem?_getD, List.getElem?_reverse (by rw [hl]; exact h), hl]
def vlen : Value → Nat
  | .slice _ n _ => n
  | _ => 0
theorem take_last {ps : List VR} {st : List VR} {q : Nat} (hq : q = (ps ++ st.reverse).length) (hne : st ≠ []) : (ps ++ st.reverse).take (q - 1) = ps ++ st.tail.reverse := by
  subst hq
  cases st with
  | nil => exact absurd rfl hne
  | cons a st =>
    rw [List.reverse_cons, ← List.append_assoc, List.length_append, List.length_singleton, Nat.add_sub_cancel, List.take_left, List.tail_cons]
theorem at_last {ps st : List VR} {a b : VR} {q : Nat} (hq : q = (ps ++ (b :: a :: st).reverse).length) : (ps ++ (b :: a :: st).reverse)[q - 1]? = some b ∧ (ps ++ (b :: a :: st).reverse)[q - 2]? = some a := by
  subst hq
  have e : ps ++ (b :: a :: st).reverse = (ps ++ st.reverse) ++ [a, b] := by simp
  rw [e, List.length_append]
  constructor
  · rw [List.getElem?_append_right (by simp)]
    simp [Nat.add_sub_cancel_left]
  · rw [List.getElem?_append_right (by simp)]
    simp
theorem pv_cons (a : VR) (st : List VR) : pv (a :: st) = ptOf a.2 :: pv st := rfl
theorem pv_tail (st : List VR) : pv st.tail = (pv st).tail := by cases st <;> rfl
/-- the test of the innermost loop -/
def contB (x : List Int) : List VR → Bool
  | b :: a :: _ => decide (tn (ptOf a.2) (ptOf b.2) (ptOf x) ≤ 0)
  | _ => false
theorem pop_cont {x : List Int} {st : List VR} (h : contB x st = true) : 2 ≤ st.length ∧ st ≠ [] ∧ pop (ptOf x) (pv st.tail) = pop (ptOf x) (pv st) ∧ st.tail ≠ [] := by
  match st, h with
  | b :: a :: r, h =>
    have h' : tn (ptOf a.2) (ptOf b.2) (ptOf x) ≤ 0 := by simpa [contB] using h
    refine ⟨by simp, by simp, ?_, by simp⟩
    rw [List.tail_cons, pv_cons b, pv_cons a, pop_cons2, if_pos h']
theorem pop_stop {x : List Int} {st : List VR} (h : contB x st = false) : pop (ptOf x) (pv st) = pv st := by
  match st, h with
  | b :: a :: r, h =>
    have h' : ¬ tn (ptOf a.2) (ptOf b.2) (ptOf x) ≤ 0 := by simpa [contB] using h
    rw [pv_cons b, pv_cons a, pop_cons2, if_neg h']
  | [b], _ => exact pop_one _ _
  | [], _ => rfl
set_option maxRecDepth 100000 in
set_option maxHeartbeats 16000000 in
theorem l7Hull_any (ls : List (List Int)) (v : Value) (hb : Nat) (w : World) (h : ISSr w hb v ls) (hhb : hb ≤ w.heap.size) (hR : ∀ i, i < ls.length → Rk (ls.getD i [])) (h1 : 1 ≤ ls.length) (hl : ls.length ≤ 1000) :
    Calls Tryz.prog 68 #[v] w fun e w' => ∃ u L, e = .returned u ∧ OwnP w' w.heap.size hb u L ∧ pv L = hullP (ptsOf ls) ∧ Below w.heap.size w w' := by
  obtain ⟨i0, hi0, hz0, hz1, hz2⟩ := info_parts info_ints
  have HI0 := Lib.hid hi0; clear hi0
  have HZ0 := Lib.hid hz0; clear hz0
  have HZ1 := Lib.hid hz1; clear hz1
  have HZ2 := Lib.hid hz2; clear hz2
  rcases h.cases with ⟨rfl, a, cap, rfl⟩ | ⟨hpos, hlen, b, off, cap, V, rfl, hbb, hcell⟩
  · simp at h1
  obtain ⟨n, hn⟩ : ∃ n, n = ls.length := ⟨_, rfl⟩
  rw [← hn] at hlen hpos h1 hl ⊢
  have HN := Lib.hid hn; clear hn
  have HC := Lib.hid hcell; clear hcell h
  have HR := Lib.hid hR; clear hR
  have HO0 := Lib.hid (OwnP.lit0 w w.heap.size hb (Nat.le_refl _))
  have HB0 := Lib.hid (below1 w (.cells #[] 25))
  go_enter Tryz.func68, Tryz.ntmps68
  go_wp2
  go_loopw [3, 4] (fun ov i wr => ∃ (p : Nat) (ps : List VR), p ≤ 2 ∧ i = .int .i64 p ∧ ps.length ≤ 1000 * p ∧ Hid (pv ps = outP ls p) ∧ Hid (OwnP wr w.heap.size hb ov ps) ∧ Hid (Below w.heap.size w wr)) (fun _ i _ => 2 - (intOf i).toNat)
  case atStart => exact ⟨0, [], by omega, rfl, by simp, Lib.hid rfl, HO0, HB0⟩
  case round =>
    obtain ⟨p, ps, hp, rfl, hpl, hps, hown, hbe⟩ := hrel
    by_cases hlt : p < 2
    case neg =>
      obtain rfl : p = 2 := by omega
      have HF := Lib.hid (hps.out.trans (outP_two ls))
      go_wp2
      go_ret
      exact ⟨_, ps, rfl, hown.out, HF.out, hbe.out⟩
    case pos =>
      obtain ⟨g0, cap0, e0, -⟩ : ∃ g cap, u3 = .slice (some ⟨g, 0, none⟩) ps.length cap ∧ True := by obtain ⟨g, c, e⟩ := hown.out.2.1; exact ⟨g, c, e, trivial⟩
      subst e0
      obtain ⟨m, hm⟩ : ∃ m, m = ps.length := ⟨_, rfl⟩
      have HM := Lib.hid hm
      rw [← hm] at hpl
      have hown' := hown.out
      rw [← hm]
      rw [← hm] at hown'
      have HOWN := Lib.hid hown'
      clear hm hown hown'
      have hdec : decide ((p : Int) < 2) = true := by rw [decide_eq_true_eq]; omega
      obtain ⟨wy, hwy⟩ : ∃ wy, wy = wr := ⟨_, rfl⟩
      subst hwy
      go_wp2_with fail
      go_loopw [3, 6] (fun ov i wr => ∃ (k : Nat) (st : List VR), k ≤ n ∧ i = .int .i64 k ∧ st.length ≤ k ∧ Hid (0 < k → st ≠ []) ∧ Hid (pv st = ((passP ls p).take k).foldl chStep []) ∧ Hid (OwnP wr w.heap.size hb ov (ps ++ st.reverse)) ∧ Hid (Below w.heap.size w wr)) (fun _ i _ => n - (intOf i).toNat)
      case atStart => exact ⟨0, [], by omega, rfl, Nat.le_refl _, Lib.hid (fun h => by omega), Lib.hid rfl, Lib.hid (by simpa using HOWN.out), hbe⟩
      case round =>
        obtain ⟨k, st, hk, rfl, hst, HNE, HST, HO, HB⟩ := hrel
        clear HOWN
        by_cases hkn : k < n
        case neg =>
          obtain rfl : k = n := by omega
          have hne := HNE.out (by omega)
          obtain ⟨g, cp, hu⟩ := HO.out.2.1
          obtain ⟨q, hq⟩ : ∃ q, q = (ps ++ st.reverse).length := ⟨_, rfl⟩
          have hqv : q = m + st.length := by rw [hq, HM.out]; simp
          have hsp := List.length_pos_iff.2 hne
          subst hu
          have ho := HO.out
          have TK := ho.take (k := q - 1) (by omega)
          rw [take_last hq hne] at TK
          have hcp : q ≤ cp ∧ cp ≤ 9223372036854775807 := by
            rcases ho.1.2 with ⟨e, -⟩ | ⟨g', cap', cur, e, hb', hg, hn', hc', hs, ht⟩
            · simp at e
            · injection e with e1 e2 e3
              subst e3
              unfold maxLen at hc'
              exact ⟨by rw [hq]; exact hn', by omega⟩
          rw [← hq]
          have HTK := Lib.hid TK
          have HPV := Lib.hid (show pv (ps ++ st.tail.reverse) = outP ls (p + 1) by
            rw [pv_append, pv_reverse, pv_tail, hps.out, HST.out]
            have hl := passP_len ls p
            rw [List.take_of_length_le (by rw [hl, HN.out]; exact Nat.le_refl _)]; rfl)
          have HLN := Lib.hid (show (ps ++ st.tail.reverse).length ≤ 1000 * (p + 1) by
            have := HM.out
            simp; omega)
          obtain ⟨q1, hq1⟩ : ∃ q1 : Nat, (q : Int) - 1 = q1 := ⟨q - 1, by omega⟩
          have hq2 : q - 1 = q1 := by omega
          rw [hq2] at HTK
          have i1 : (0 : Int) ≤ (q1 : Int) := by omega
          have i2 : q1 ≤ cp := by omega
          have i3 : ¬ cp = 0 := by omega
          have i4 : ((q1 : Int)).toNat = q1 := by omega
          clear TK ho hq hqv hsp hne HNE HST HO hq2
          go_wp2
          go_roundw
          case rel => exact ⟨p + 1, ps ++ st.tail.reverse, by omega, by go_num, HLN.out, HPV, HTK, HB⟩
          case measure => simp [intOf]; omega
        case pos =>
          obtain ⟨ix, hix⟩ : ∃ ix, ix = if p = 0 then k else n - 1 - k := ⟨_, rfl⟩
          have hixn : ix < n := by rw [hix]; split <;> omega
          have hixl : ix < ls.length := by rw [← HN.out]; exact hixn
          have HPT := Lib.hid (show (passP ls p).getD k o0 = ptOf (ls.getD ix []) by
            rw [hix]
            rcases (show p = 0 ∨ p = 1 by omega) with rfl | rfl
            · rw [if_pos rfl]; exact passP_at0 ls k
            · rw [if_neg (by omega), HN.out]; exact passP_at1 ls k (by rw [← HN.out]; exact hkn))
          have ck := (HB.out.cell (p := ⟨b, off + k, none⟩) (Nat.lt_of_lt_of_le hbb hhb)).trans (HC.out k (by rw [← HN.out]; exact hkn)).1
          have cx := (HB.out.cell (p := ⟨b, off + ix, none⟩) (Nat.lt_of_lt_of_le hbb hhb)).trans (HC.out ix hixl).1
          have ir := (HC.out ix hixl).2
          have HRX := Lib.hid (HR.out ix hixl)
          obtain ⟨ax, cxx, hvx, -⟩ := id ir
          have HIR := Lib.hid ir
          rw [hvx] at cx
          rw [hvx] at HIR
          have hR2 := HRX.out.1
          rw [hR2] at cx HIR
          clear ir hvx hR2 hixl
          generalize ls.getD ix [] = x at *
          have hdk : decide ((k : Int) < (n : Int)) = true := by rw [decide_eq_true_eq]; omega
          generalize hVk : V k = vk at *
          go_upto_if 26 with fail
          go_cut [7] (fun s wx => s = .slice ax 2 cxx ∧ wr = wx)
          case first =>
            as_aux_lemma =>
              rcases (show p = 0 ∨ p = 1 by omega) with h0 | h0
              · subst h0
                rw [if_pos rfl] at hix
                subst hix
                rw [cx] at ck
                injection ck with ck
                subst ck
                go_wp2_with fail
                go_meet
                exact ⟨rfl, rfl⟩
              · subst h0
                rw [if_neg (by omega)] at hix
                have e1 : (n : Int) - 1 - (k : Int) = (ix : Int) := by omega
                have e2 : (0 : Int) ≤ (ix : Int) := by omega
                have e3 : (ix : Int) < (n : Int) := by omega
                have e4 : (((1 : Nat) : Int) == 1) = true := rfl
                clear hix
                go_wp2_with fail
                go_meet
                exact ⟨rfl, rfl⟩
          case rest =>
            obtain ⟨rfl, rfl⟩ := hcut
            clear ck cx hVk hix hixn
            go_wp2_with fail
            go_loopw [3] (fun ov wr => ∃ (sv : List VR), sv.length ≤ k ∧ Hid (0 < k → sv ≠ []) ∧ Hid (pop (ptOf x) (pv sv) = pop (ptOf x) (pv st)) ∧ Hid (OwnP wr w.heap.size hb ov (ps ++ sv.reverse)) ∧ Hid (Below w.heap.size w wr)) (fun ov _ => vlen ov)
            case atStart => exact ⟨st, hst, HNE, Lib.hid rfl, HO, HB⟩
            case round =>
              clear HO HB
              obtain ⟨sv, hsv, HNV, HPO, HOV, HBV⟩ := hrel
              obtain ⟨g, cp, hu⟩ := HOV.out.2.1
              obtain ⟨q, hq⟩ : ∃ q, q = (ps ++ sv.reverse).length := ⟨_, rfl⟩
              have hqv : q = m + sv.length := by rw [hq, HM.out]; simp
              subst hu
              have hcp : q ≤ cp ∧ cp ≤ 9223372036854775807 := by
                rcases HOV.out.1.2 with ⟨e, -⟩ | ⟨g', cap', cur, e, hb', hg, hn', hc', hs, ht⟩
                · simp at e
                · injection e with e1 e2 e3
                  subst e3
                  unfold maxLen at hc'
                  exact ⟨by rw [hq]; exact hn', by omega⟩
              have HQ := Lib.hid hq
              have hov := HOV.out
              have hlg := hov.lt
              rw [← hq] at hov
              rw [← hq]
              have HOQ := Lib.hid hov
              clear hov HOV hq
              have hwz := HBV.out.size
              go_upto_region 12 with fail
              go_cut [56] (fun s wx => s = .bool (contB x sv) ∧ Hid (Below wr.heap.size wr wx))
              case first =>
                as_aux_lemma =>
                  by_cases h2 : 2 ≤ sv.length
                  · obtain ⟨bq, aq, rs, rfl⟩ : ∃ bq aq rs, sv = bq :: aq :: rs := by
                      match sv, h2 with
                      | bq :: aq :: rs, _ => exact ⟨bq, aq, rs, rfl⟩
                    have hov := HOQ.out
                    have al := at_last HQ.out
                    rw [HQ.out] at hov
                    have k1 := hov.cell al.1
                    have k2 := hov.cell al.2
                    have ra := hov.2.2 aq (by simp)
                    have rb := hov.2.2 bq (by simp)
                    obtain ⟨a1, q1, e1, -⟩ := id ra.1
                    obtain ⟨a2, q2, e2, -⟩ := id rb.1
                    rw [ra.2.1] at e1
                    rw [rb.2.1] at e2
                    rw [e1] at k2
                    rw [e2] at k1
                    have TT := fun W (B : Below wr.heap.size wr W) => l7Turn_any aq.2 bq.2 x _ _ (.slice ax 2 cxx) hb W (ra.1.keep B (by omega)) (rb.1.keep B (by omega)) ((HIR.out.keep HBV.out hhb).keep B (by omega)) (by have := B.size; omega) ra.2.1 rb.2.1 HRX.out.1 ra.2.2 rb.2.2 HRX.out.2
                    rw [e1, e2] at TT
                    have HCN := Lib.hid (show contB x (bq :: aq :: rs) = decide (tn (ptOf aq.2) (ptOf bq.2) (ptOf x) ≤ 0) from rfl)
                    generalize tn (ptOf aq.2) (ptOf bq.2) (ptOf x) = t at *
                    have hql : (m : Int) + 2 ≤ (q : Int) := by simp at hqv; omega
                    obtain ⟨y1, hy1⟩ : ∃ y1 : Nat, (q : Int) - 1 = y1 := ⟨q - 1, by omega⟩
                    obtain ⟨y2, hy2⟩ : ∃ y2 : Nat, (q : Int) - 2 = y2 := ⟨q - 2, by omega⟩
                    rw [show q - 1 = y1 by omega] at k1
                    rw [show q - 2 = y2 by omega] at k2
                    have i1 : (y1 : Int) < (q : Int) := by omega
                    have i2 : (y2 : Int) < (q : Int) := by omega
                    have i3 : (0 : Int) ≤ (y1 : Int) := by omega
                    have i4 : (0 : Int) ≤ (y2 : Int) := by omega
                    have i5 : decide ((m : Int) + 2 ≤ (q : Int)) = true := by rw [decide_eq_true_eq]; exact hql
                    have v1 := wr64 ((m : Int) + 2) (by omega)
                    have v2 := wr64 (y1 : Int) (by omega)
                    have v3 := wr64 (y2 : Int) (by omega)
                    have v4 : IntKind.i64.wrap ((q : Int) - 1) = y1 := by rw [hy1]; exact v2
                    have v5 : IntKind.i64.wrap ((q : Int) - 2) = y2 := by rw [hy2]; exact v3
                    have v6 : ((y1 : Int)).toNat = y1 := by omega
                    have v7 : ((y2 : Int)).toNat = y2 := by omega
                    have hBd : Below wr.heap.size wr wr.drew := below_draws wr.heap.size wr 1
                    have TT1 := TT wr.drew hBd
                    have lg := hlg.2
                    have K1 := Lib.hid k1
                    have K2 := Lib.hid k2
                    clear hov al ra rb e1 e2 hqv HOQ HQ HNV HPO hsv
                    go_region_held3 (fun w' => w'.cell? ⟨g, y1, none⟩ = some (.slice a2 2 q2) ∧ w'.cell? ⟨g, y2, none⟩ = some (.slice a1 2 q1))
                      (first | exact ⟨k1, k2⟩ | exact ⟨z1, z2⟩ | go_keep)
                      ((go_at_call 104; (with_reducible refine TT1.mono ?_); rintro e w8 ⟨rfl, c8⟩; have BB := below_then (below_draws wr.heap.size wr 1) (Nat.le_refl _) c8; have z1 := (BB.cell (p := ⟨g, y1, none⟩) lg).trans K1.out; have z2 := (BB.cell (p := ⟨g, y2, none⟩) lg).trans K2.out))
                    go_wp2_with fail
                    go_meet
                    exact ⟨congrArg Value.bool HCN.out.symm, Lib.hid BB⟩
                  · have hcf : contB x sv = false := by
                      match sv, h2 with
                      | [], _ => rfl
                      | [b], _ => rfl
                      | a :: b :: r, h2 => exact absurd (by simp) h2
                    have HCF := Lib.hid hcf
                    have i5 : decide ((m : Int) + 2 ≤ (q : Int)) = false := by rw [decide_eq_false_iff_not]; omega
                    have i6 : ¬ ((m : Int) + 2 ≤ (q : Int)) := by omega
                    have v1 := wr64 ((m : Int) + 2) (by omega)
                    clear hcf h2 hqv
                    go_quiet (fail)
                    go_wp2_with fail
                    go_meet
                    exact ⟨congrArg Value.bool HCF.out.symm, Lib.hid (below_draws wr.heap.size wr nq)⟩
              case rest =>
                obtain ⟨rfl, HC5⟩ := hcut
                have HB5 := Lib.hid (below_then HBV.out HBV.out.size HC5.out)
                have HO5 := Lib.hid (HOQ.out.kept HC5.out (by omega))
                have hws := HC5.out.size
                have hls : w.heap.size ≤ wc.heap.size := by omega
                cases hcb : contB x sv
                case true =>
                  obtain ⟨p1, p2, p3, p4⟩ := pop_cont hcb
                  have ho := HO5.out
                  have hq' := HQ.out
                  rw [hq'] at ho
                  have TK := ho.take (k := q - 1) (by omega)
                  rw [take_last hq' p2] at TK
                  have HTK := Lib.hid TK
                  have HPO2 := Lib.hid (p3.trans HPO.out)
                  have HNV2 := Lib.hid (show 0 < k → sv.tail ≠ [] from fun _ => p4)
                  have hln : sv.tail.length ≤ k := by simp; omega
                  obtain ⟨y1, hy1⟩ : ∃ y1 : Nat, (q : Int) - 1 = y1 := ⟨q - 1, by omega⟩
                  rw [show q - 1 = y1 by omega] at HTK
                  have i1 : (0 : Int) ≤ (y1 : Int) := by omega
                  have i2 : y1 ≤ cp := by omega
                  have i3 : ¬ cp = 0 := by omega
                  have i4 : ((y1 : Int)).toNat = y1 := by omega
                  have i5 : y1 < q := by omega
                  clear TK ho hq' p1 p2 p3 p4 hcb HPO HNV HOQ HO5 HQ hqv
                  go_wp2
                  go_roundw
                  case rel => exact ⟨sv.tail, hln, HNV2, HPO2, HTK, HB5⟩
                  case measure => simp [vlen]; omega
                case false =>
                  have hst2 := pop_stop hcb
                  have HST2 := Lib.hid (show pv ((Value.slice ax 2 cxx, x) :: sv) = ((passP ls p).take (k + 1)).foldl chStep [] by
                    rw [chain_step (by rw [passP_len, ← HN.out]; exact hkn), ← HST.out, HPT.out]
                    show ptOf x :: pv sv = ptOf x :: pop (ptOf x) (pv st)
                    rw [← HPO.out, hst2])
                  have ho := HO5.out
                  have how := ho.1
                  rw [← HQ.out] at how
                  have HOW := Lib.hid how
                  clear how
                  have hqb : q ≤ 100000 := by omega
                  have HQV := Lib.hid hqv
                  clear hst2 hcb hqv
                  go_wp2_with (at_builtin; refine wpList_append_lies _ rfl _ _ _ rfl w.heap.size 25 i0 _ 1 24 Tryz.underlying24 HI0.out HZ0.out HZ1.out HZ2.out rfl (by omega) (.slice (some ⟨g, 0, none⟩) q cp) q ((ps ++ sv.reverse).map (·.1)) rfl (World.ownsRow.alloc HOW.out _) ⟨wc.heap.size, 0, none⟩ 1 1 [.slice ax 2 cxx] rfl rfl (World.news_of_block (cs := #[.slice ax 2 cxx]) (t := 25) (fr := (0, 0)) (heap_alloc_new wc _)) (by simp [Value.oneCell']) (by omega) (by unfold maxLen; omega) (by omega) (by simp; omega) (wc.heap.size + 1) (by simp) ?_)
                  intro gg cap4 w4 hown4 hgrow hat hlt4
                  have hown5 : w4.ownsRow w.heap.size 25 1 (.slice (some ⟨gg, 0, none⟩) ((ps ++ sv.reverse).length + 1) cap4) ((ps ++ sv.reverse).length + 1) ((ps ++ sv.reverse).map (·.1) ++ [.slice ax 2 cxx]) := by
                    have g := hown4
                    rw [HQ.out] at g
                    have e : List.map (fun x => x.fst) (ps ++ sv.reverse) ++ [Value.slice ax 2 cxx] = List.map (fun x => x.fst) ps ++ ((List.map (fun x => x.fst) sv).reverse ++ [Value.slice ax 2 cxx]) := by simp
                    rw [e]; exact g
                  have PSH := ho.push (HIR.out.keep HB5.out hhb) HRX.out hhb hls hgrow hown5
                  rw [← HQ.out] at PSH
                  have HO6 := Lib.hid (show OwnP w4 w.heap.size hb (.slice (some ⟨gg, 0, none⟩) (q + 1) cap4) (ps ++ ((Value.slice ax 2 cxx, x) :: sv).reverse) by rw [List.reverse_cons, ← List.append_assoc]; exact PSH.1)
                  have HB6 := Lib.hid (HB5.out.trans PSH.2)
                  clear PSH hown5 hown4 hgrow hat hlt4 ho HOW HOQ HO5 HQ HQV HPO HNV HST HNE
                  go_wp2
                  go_roundw
                  case rel => exact ⟨k + 1, (Value.slice ax 2 cxx, x) :: sv, by omega, by go_num, by simp; omega, Lib.hid (fun _ => by simp), HST2, HO6, HB6⟩
                  case measure => simp [intOf]; omega
end Go.Proofs.YtehhoplenloocaaGreat

/- Sorted rows and what HullOf gives: the plain law. -/
namespace Go.Proofs.YtehhoplenloocaaGreat
set_option linter.unusedVariables false
set_option linter.unusedSimpArgs false

def insP (x : Pt) : List Pt → List Pt
  | [] => [x]
  | y :: r => if ltP x y then x :: y :: r else if x = y then y :: r else y :: insP x r
theorem insP_mem (x : Pt) : ∀ (S : List Pt) (z : Pt), z ∈ insP x S ↔ z = x ∨ z ∈ S
  | [], z => by simp [insP]
  | y :: r, z => by
    rw [insP]
    split
    · simp
    · split
      · rename_i h; subst h; simp
      · have := insP_mem x r z
        simp only [List.mem_cons, this]
        constructor <;> (intro h; rcases h with h | h | h <;> simp [h])
theorem insP_pair (x : Pt) : ∀ (S : List Pt), S.Pairwise ltP → (insP x S).Pairwise ltP
  | [], _ => by simp [insP]
  | y :: r, h => by
    have p := List.pairwise_cons.1 h
    rw [insP]
    split
    · rename_i hx
      refine List.pairwise_cons.2 ⟨fun z hz => ?_, h⟩
      rcases List.mem_cons.1 hz with e | hz
      · rw [e]; exact hx
      · exact ltP_trans hx (p.1 z hz)
    · split
      · exact h
      · rename_i h1 h2
        refine List.pairwise_cons.2 ⟨fun z hz => ?_, insP_pair x r p.2⟩
        rcases (insP_mem x r z).1 hz with e | hz
        · rw [e]
          rcases ltP_total x y with g | g | g
          · exact absurd g h1
          · exact absurd g h2
          · exact g
        · exact p.1 z hz
/-- sorted, each once -/
def srtP (L : List Pt) : List Pt := L.foldl (fun S x => insP x S) []
theorem srtP_fold : ∀ (L S : List Pt), S.Pairwise ltP → (L.foldl (fun S x => insP x S) S).Pairwise ltP ∧ ∀ z, z ∈ L.foldl (fun S x => insP x S) S ↔ z ∈ S ∨ z ∈ L
  | [], S, h => ⟨h, fun z => by simp⟩
  | x :: L, S, h => by
    have ih := srtP_fold L (insP x S) (insP_pair x S h)
    refine ⟨ih.1, fun z => ?_⟩
    rw [List.foldl_cons, ih.2 z, insP_mem, List.mem_cons]
    constructor
    · rintro ((g | g) | g)
      · exact .inr (.inl g)
      · exact .inl g
      · exact .inr (.inr g)
    · rintro (g | g | g)
      · exact .inl (.inr g)
      · exact .inl (.inl g)
      · exact .inr g
theorem srtP_pair (L : List Pt) : (srtP L).Pairwise ltP := (srtP_fold L [] List.Pairwise.nil).1
theorem srtP_mem (L : List Pt) (z : Pt) : z ∈ srtP L ↔ z ∈ L := by
  have := (srtP_fold L [] List.Pairwise.nil).2 z
  unfold srtP; rw [this]; simp
theorem srtP_eq {L S : List Pt} (h : S.Pairwise ltP) (hm : ∀ z, z ∈ S ↔ z ∈ L) : S = srtP L :=
  sorted_unique (fun _ _ => ltP_asymm) h (srtP_pair L) fun z => by rw [hm z, srtP_mem]
/-- a row of two numbers is its point -/
theorem row_pt {r : List Int} (h : r.length = 2) : rowP (ptOf r) = r := by
  match r, h with
  | [a, b], _ => rfl
theorem pt_inj {a b : List Int} (ha : a.length = 2) (hb : b.length = 2) (h : ptOf a = ptOf b) : a = b := by
  rw [← row_pt ha, ← row_pt hb, h]
theorem ptsOf_append (a b : List (List Int)) : ptsOf (a ++ b) = ptsOf a ++ ptsOf b := by unfold ptsOf; rw [List.map_append]
theorem put_sorted {ls ls' : List (List Int)} {r : List Int} (h : PutOf ls r ls') (hs : (ptsOf ls).Pairwise ltP) (h2 : ∀ i, i < ls.length → (ls.getD i []).length = 2) (hr : r.length = 2) :
    (ptsOf ls').Pairwise ltP ∧ (∀ z, z ∈ ptsOf ls' ↔ z = ptOf r ∨ z ∈ ptsOf ls) ∧ (∀ q, q ∈ ls' → q = r ∨ q ∈ ls) ∧ ls'.length ≤ ls.length + 1 := by
  rcases h with ⟨rfl, k, hk, e⟩ | ⟨k, hk, rfl, hgt, hlt⟩
  · refine ⟨hs, fun z => ⟨fun hz => .inr hz, fun hz => ?_⟩, fun q hq => .inr hq, by omega⟩
    rcases hz with rfl | hz
    · rw [← e]
      unfold ptsOf
      refine List.mem_map.2 ⟨_, ?_, rfl⟩
      rw [List.getD_eq_getElem?_getD, List.getElem?_eq_getElem hk]; exact List.getElem_mem hk
    · exact hz
  · have hpf : ∀ j, pf ls j = (ptsOf ls).getD j o0 := fun j => (ptOf_getD ls j).symm
    have hl : (ptsOf ls).length = ls.length := by unfold ptsOf; simp
    have e : ptsOf (ls.take k ++ r :: ls.drop k) = (ptsOf ls).take k ++ ptOf r :: (ptsOf ls).drop k := by
      rw [ptsOf_append]; unfold ptsOf; rw [List.map_take, List.map_cons, List.map_drop]
    have hS := hs
    rw [← List.take_append_drop k (ptsOf ls)] at hS
    obtain ⟨s1, s2, s3⟩ := List.pairwise_append.1 hS
    have hdrop : ∀ z, z ∈ (ptsOf ls).drop k → ltP (ptOf r) z := by
      intro z hz
      obtain ⟨i, hi, rfl⟩ := List.getElem_of_mem hz
      rw [List.length_drop] at hi
      have := hgt (k + i) (by omega) (by omega)
      rw [hpf, List.getD_eq_getElem?_getD, List.getElem?_eq_getElem (by omega)] at this
      rw [List.getElem_drop]; exact this
    have htake : ∀ z, z ∈ (ptsOf ls).take k → ltP z (ptOf r) := by
      intro z hz
      obtain ⟨i, hi, rfl⟩ := List.getElem_of_mem hz
      rw [List.length_take] at hi
      rw [List.getElem_take]
      have hk0 : 0 < k := by omega
      obtain ⟨g1, g2⟩ := hlt hk0
      have hlast : ltP (pf ls (k - 1)) (ptOf r) := by
        rcases ltP_total (ptOf r) (pf ls (k - 1)) with g | g | g
        · exact absurd g g1
        · exact absurd (pt_inj (h2 (k - 1) (by omega)) hr g.symm) g2
        · exact g
      by_cases e : i = k - 1
      · subst e
        rw [hpf, List.getD_eq_getElem?_getD, List.getElem?_eq_getElem (by omega)] at hlast
        exact hlast
      · have hij := List.pairwise_iff_getElem.1 hs i (k - 1) (by omega) (by omega) (by omega)
        rw [hpf, List.getD_eq_getElem?_getD, List.getElem?_eq_getElem (by omega)] at hlast
        exact ltP_trans hij hlast
    refine ⟨?_, fun z => ?_, fun q hq => ?_, by simp; omega⟩
    · rw [e]
      refine List.pairwise_append.2 ⟨s1, List.pairwise_cons.2 ⟨hdrop, s2⟩, fun a ha b hb => ?_⟩
      rcases List.mem_cons.1 hb with rfl | hb
      · exact htake a ha
      · exact s3 a ha b hb
    · rw [e, List.mem_append, List.mem_cons]
      constructor
      · rintro (h | h | h)
        · exact .inr (List.mem_of_mem_take h)
        · exact .inl h
        · exact .inr (List.mem_of_mem_drop h)
      · rintro (h | h)
        · exact .inr (.inl h)
        · rw [← List.take_append_drop k (ptsOf ls), List.mem_append] at h
          rcases h with h | h
          · exact .inl h
          · exact .inr (.inr h)
    · rcases List.mem_append.1 hq with h | h
      · exact .inr (List.mem_of_mem_take h)
      · rcases List.mem_cons.1 h with h | h
        · exact .inl h
        · exact .inr (List.mem_of_mem_drop h)
/-! ### what HullOf gives -/
def hullR (ls : List (List Int)) : List (List Int) := (hullP (srtP (ptsOf ls))).map rowP
def hullOk (ls : List (List Int)) : Bool := decide (ls.length ≤ 200) && (flatB ls 50 && inB (hullR ls).length 3 12)
def hullV (ls : List (List Int)) : List (List Int) × Bool := if hullOk ls then (hullR ls, true) else ([], false)
theorem hullR_short {ls : List (List Int)} (h : (srtP (ptsOf ls)).length < 3) : (hullR ls).length < 3 := by
  unfold hullR; rw [List.length_map]; exact hullP_short h
theorem ptsOf_hullR (ls : List (List Int)) : ptsOf (hullR ls) = hullP (srtP (ptsOf ls)) := by
  unfold hullR ptsOf; rw [List.map_map]
  conv => rhs; rw [← List.map_id (hullP _)]
  exact List.map_congr_left fun a _ => rfl
/-- a polygon is its own hull -/
theorem poly_hull {ls : List (List Int)} (h3 : 3 ≤ ls.length) (h12 : ls.length ≤ 12) (hf : flatB ls 50 = true) : isPolyB ls = (hullOk ls && decide (hullR ls = ls)) := by
  have h2 : ∀ i, i < ls.length → (ls.getD i []).length = 2 := fun i hi => (ptB_len (flatB_at hf i hi)).1
  have hl : (ptsOf ls).length = ls.length := by unfold ptsOf; simp
  have e1 : isPolyB ls = locB ls.length (pf ls) := by
    unfold isPolyB; rw [inB_iff.2 ⟨by omega, by omega⟩, hf]; rfl
  rw [e1]
  have hpf : ∀ j, pf ls j = (ptsOf ls).getD j o0 := fun j => (ptOf_getD ls j).symm
  by_cases hL : Loc ls.length (pf ls)
  · rw [(locB_iff h3).2 hL]
    have hp := hull_poly hL (srtP_pair (ptsOf ls)) (fun s hs => by
      rw [srtP_mem] at hs
      obtain ⟨i, hi, rfl⟩ := List.getElem_of_mem hs
      refine ⟨i, by omega, ?_⟩
      rw [hpf, List.getD_eq_getElem?_getD, List.getElem?_eq_getElem hi]; rfl) (fun k hk => by
      rw [srtP_mem, hpf, List.getD_eq_getElem?_getD, List.getElem?_eq_getElem (by omega)]; exact List.getElem_mem _)
    have hR : hullR ls = ls := by
      unfold hullR
      rw [hp, List.map_map]
      apply List.ext_getElem?
      intro i
      rw [List.getElem?_map]
      by_cases hi : i < ls.length
      · rw [List.getElem?_range hi, List.getElem?_eq_getElem hi]
        show some (rowP (pf ls i)) = _
        unfold pf
        rw [row_pt (h2 i hi), List.getD_eq_getElem?_getD, List.getElem?_eq_getElem hi]; rfl
      · rw [List.getElem?_eq_none (show ls.length ≤ i by omega), List.getElem?_eq_none (show (List.range ls.length).length ≤ i by rw [List.length_range]; omega)]; rfl
    have hok : hullOk ls = true := by
      unfold hullOk
      rw [hf, hR, inB_iff.2 ⟨by omega, by omega⟩, decide_eq_true (show ls.length ≤ 200 by omega)]; rfl
    rw [hok, decide_eq_true hR]; rfl
  · have hb : locB ls.length (pf ls) = false := by
      rw [← Bool.not_eq_true]; intro e; exact hL ((locB_iff h3).1 e)
    rw [hb]
    symm
    rw [Bool.and_eq_false_iff]
    right
    rw [decide_eq_false_iff_not]
    intro hR
    apply hL
    have hp := ptsOf_hullR ls
    rw [hR] at hp
    have := hullP_loc (srtP_pair (ptsOf ls)) (by rw [← hp, hl]; exact h3)
    rw [← hp, hl] at this
    have hfe : (fun i => (ptsOf ls).getD i o0) = pf ls := by funext j; exact (hpf j).symm
    rwa [hfe] at this
end Go.Proofs.YtehhoplenloocaaGreat

/- HullOf and IsPolygon of the model: the walks. -/
namespace Go.Proofs.YtehhoplenloocaaGreat
open Go.RowKit
set_option linter.unusedVariables false
set_option linter.unusedSimpArgs false

theorem OwnQ.iss {w : World} {B : Nat} {v : Value} {vs : List Value} {ls : List (List Int)} (h : OwnQ w B v vs ls) : ISSr w w.heap.size v ls := by
  obtain ⟨h1, ⟨g, cap, rfl⟩, h3⟩ := h
  have hc : ls.length ≤ cap ∧ cap ≤ maxLen := by
    rcases h1.2 with ⟨e, -⟩ | ⟨g', cap', cur, e, hb', hg, hn', hc', hs, ht⟩
    · simp at e
    · injection e with e1 e2 e3
      subst e3
      exact ⟨hn', hc'⟩
  exact ⟨_, _, rfl, hc.1, hc.2, fun hl => ⟨g, 0, fun i => vs.getD i (.slice none 0 0), rfl, (World.ownsRow.lt h1 g rfl).2, fun i hi => ⟨by rw [Nat.zero_add]; exact own_cells h1 hi, (h3 i hi).read⟩⟩⟩
theorem OwnP.iss {w : World} {B hi : Nat} {v : Value} {L : List VR} (h : OwnP w B hi v L) (hh : hi ≤ w.heap.size) : ISSr w w.heap.size v (L.map (·.2)) := by
  obtain ⟨h1, ⟨g, cap, rfl⟩, h3⟩ := h
  have hc : L.length ≤ cap ∧ cap ≤ maxLen := by
    rcases h1.2 with ⟨e, -⟩ | ⟨g', cap', cur, e, hb', hg, hn', hc', hs, ht⟩
    · simp at e
    · injection e with e1 e2 e3
      subst e3
      exact ⟨hn', hc'⟩
  refine ⟨_, _, by rw [List.length_map], by rw [List.length_map]; exact hc.1, hc.2, fun hl => ⟨g, 0, fun i => (L.map (·.1)).getD i (.slice none 0 0), rfl, (World.ownsRow.lt h1 g rfl).2, fun i hi => ?_⟩⟩
  rw [List.length_map] at hi
  refine ⟨by rw [Nat.zero_add]; exact own_cells h1 hi, ?_⟩
  dsimp only
  rw [List.getD_eq_getElem?_getD, List.getD_eq_getElem?_getD, List.getElem?_map, List.getElem?_map, List.getElem?_eq_getElem hi]
  exact ((h3 _ (List.getElem_mem hi)).1).upto hh
theorem OwnL.down {w : World} {B B' : Nat} {v : Value} {ls : List (List Int)} (h : OwnL w B v ls) (hb : B' ≤ B) : OwnL w B' v ls := by
  obtain ⟨V, p, h1, h2, h3⟩ := h
  exact ⟨V, p, h1.mono hb, by omega, h3⟩
theorem rows_of_pv {w : World} {B hi : Nat} {v : Value} {L : List VR} (h : OwnP w B hi v L) : L.map (·.2) = (pv L).map rowP := by
  unfold pv
  rw [List.map_map]
  exact List.map_congr_left fun q hq => (row_pt (h.2.2 q hq).2.1).symm
theorem flat_rk {ls : List (List Int)} (hf : flatB ls 50 = true) {q : List Int} (hq : q ∈ ls) : Rk q := by
  have := List.all_eq_true.1 hf q hq
  exact pt_ok this
set_option maxRecDepth 100000 in
set_option maxHeartbeats 16000000 in
theorem specHullOf_any (ls : List (List Int)) (v : Value) (hb : Nat) (w : World) (h : ISSr w hb v ls) (hhb : hb ≤ w.heap.size) :
    Calls Tryz.prog 33 #[v] w fun e w' => ∃ u, e = .returned (.tuple #[u, .bool (hullV ls).2]) ∧ OwnL w' w.heap.size u (hullV ls).1 ∧ Below w.heap.size w w' := by
  have FL := l7Flat_any ls v hb w h
  obtain ⟨a, cap, rfl, hcap, hm, hcell⟩ := id h
  unfold maxLen at hm
  have hno : hullOk ls = false → hullV ls = ([], false) := fun e => by unfold hullV; rw [e]; rfl
  have E0 := fun (W : World) (B : Below w.heap.size w W) => (show OwnL (W.alloc (.cells #[] 25)) w.heap.size (.slice (some ⟨W.heap.size, 0, none⟩) 0 0) [] from OwnL.lit0 W w.heap.size B.size)
  by_cases h200 : ls.length ≤ 200
  case neg =>
    have hv := hno (by unfold hullOk; rw [decide_eq_false h200]; rfl)
    rw [hv]
    have HE := Lib.hid (E0 w (Below.refl _ _))
    clear FL hno hv hcell h hcap E0
    generalize ls.length = n at *
    have hg : 200 < n := by omega
    go_enter Tryz.func33, Tryz.ntmps33
    go_wp2
    go_ret2
    exact ⟨_, rfl, HE.out, below1 _ _⟩
  cases hf : flatB ls 50
  case false =>
    have hv := hno (by unfold hullOk; rw [hf]; simp)
    rw [hv]
    rw [hf] at FL
    have HE := Lib.hid E0
    clear hno hv hcell h hcap E0 hf
    generalize ls.length = n at *
    go_enter Tryz.func33, Tryz.ntmps33
    go_wp2_with (go_at_call 65; (with_reducible refine FL.mono ?_); rintro e w' ⟨rfl, d, rfl⟩)
    go_ret2
    exact ⟨_, rfl, HE.out _ (below_draws _ _ _), below_then (below_draws w.heap.size w _) (Nat.le_refl _) (below1 _ _)⟩
  rw [hf] at FL
  have hok : hullOk ls = inB (hullR ls).length 3 12 := by unfold hullOk; rw [hf, decide_eq_true h200]; rfl
  have HOK := Lib.hid hok
  have HF := Lib.hid (fun q hq => flat_rk hf (q := q) hq)
  have H := Lib.hid h
  obtain ⟨n, hn⟩ : ∃ n, n = ls.length := ⟨_, rfl⟩
  rw [← hn] at h200 hcap FL ⊢
  have HN := Lib.hid hn
  have HC := Lib.hid hcell
  have HE := Lib.hid E0
  have HNO := Lib.hid hno
  clear hn hcell h hf hok E0 hno
  go_enter Tryz.func33, Tryz.ntmps33
  go_wp2_with (go_at_call 65; (with_reducible refine FL.mono ?_); rintro e w' ⟨rfl, d, rfl⟩)
  have HB0 := Lib.hid (below_then (below_draws w.heap.size w d) (Nat.le_refl _) (below1 (w.drewN d) (.cells #[] 25)))
  have HO0 := Lib.hid (OwnQ.lit0 (w.drewN d) w.heap.size (Nat.le_refl _))
  clear FL
  go_loopw [4, 5] (fun ov i wr => ∃ (k : Nat) (vs : List Value) (qs : List (List Int)), k ≤ n ∧ i = .int .i64 k ∧ qs.length ≤ k ∧ Hid (OwnQ wr w.heap.size ov vs qs) ∧ Hid ((ptsOf qs).Pairwise ltP) ∧ Hid (∀ z, z ∈ ptsOf qs ↔ z ∈ ptsOf (ls.take k)) ∧ Hid (∀ q, q ∈ qs → q ∈ ls) ∧ Hid (Below w.heap.size w wr)) (fun _ i _ => n - (intOf i).toNat)
  case atStart => exact ⟨0, [], [], by omega, rfl, Nat.le_refl _, HO0, Lib.hid List.Pairwise.nil, Lib.hid (fun z => by simp [ptsOf]), Lib.hid (fun q hq => by simp at hq), HB0⟩
  case round =>
    obtain ⟨k, vs, qs, hk, rfl, hql, HO, HP, HM, HS, HB⟩ := hrel
    have hwz := HB.out.size
    by_cases hlt : k < n
    case pos =>
      have hkl : k < ls.length := by rw [← HN.out]; exact hlt
      obtain ⟨b, off, V, ea, hbb, hcc⟩ := HC.out (by intro e; rw [e] at hkl; exact absurd hkl (Nat.not_lt_zero _))
      subst ea
      have ck := (HB.out.cell (p := ⟨b, off + k, none⟩) (Nat.lt_of_lt_of_le hbb hhb)).trans (hcc k hkl).1
      have ir := (hcc k hkl).2.keep HB.out hhb
      have hmem : ls.getD k [] ∈ ls := by rw [List.getD_eq_getElem?_getD, List.getElem?_eq_getElem hkl]; exact List.getElem_mem hkl
      have hrk := HF.out _ hmem
      have hrows : ∀ i, i < qs.length → (qs.getD i []).length = 2 := fun i hi => by
        have : qs.getD i [] ∈ qs := by rw [List.getD_eq_getElem?_getD, List.getElem?_eq_getElem hi]; exact List.getElem_mem hi
        exact (HF.out _ (HS.out _ this)).1
      obtain ⟨g0, c0, hu4⟩ := HO.out.2.1
      subst hu4
      have PT := l2Put_any qs (ls.getD k []) _ (V k) vs w.heap.size hb wr HO.out ir (by omega) hrk.1 hrows (by omega)
      have HTK := Lib.hid (show ∀ z, z ∈ ptsOf (ls.take (k + 1)) ↔ z = ptOf (ls.getD k []) ∨ z ∈ ptsOf (ls.take k) from fun z => by
        rw [List.take_succ_eq_append_getElem hkl, ptsOf_append, List.mem_append, List.getD_eq_getElem?_getD, List.getElem?_eq_getElem hkl]
        simp [ptsOf, or_comm])
      have HMEM := Lib.hid hmem
      have HRK := Lib.hid hrk.1
      have HRO := Lib.hid hrows
      obtain ⟨ax, cx, hvx, -⟩ := id ir
      rw [hrk.1] at hvx
      rw [hvx] at ck PT
      clear hcc hkl ir hmem hrk hrows hvx
      generalize ls.getD k [] = r at *
      go_wp2_with fail
      with_reducible refine PT.mono ?_
      rintro e w3 ⟨u, vs', qs', rfl, ho', hp', hb'⟩
      have PS := put_sorted hp' HP.out HRO.out HRK.out
      have HO' := Lib.hid ho'
      have HP' := Lib.hid PS.1
      have HM' := Lib.hid (show ∀ z, z ∈ ptsOf qs' ↔ z ∈ ptsOf (ls.take (k + 1)) from fun z => by rw [PS.2.1 z, HTK.out z, HM.out z])
      have HS' := Lib.hid (show ∀ q, q ∈ qs' → q ∈ ls from fun q hq => by
        rcases PS.2.2.1 q hq with e | e
        · rw [e]; exact HMEM.out
        · exact HS.out q e)
      have HB' := Lib.hid (HB.out.trans hb')
      have hln := PS.2.2.2
      clear PT PS ho' hp' hb' HO HP HM HS HB HTK
      go_wp2
      go_roundw
      case rel => exact ⟨k + 1, vs', qs', by omega, by go_num, by omega, HO', HP', HM', HS', HB'⟩
      case measure => simp [intOf]; omega
    case neg =>
      obtain rfl : k = n := by omega
      have HSRT := Lib.hid (show ptsOf qs = srtP (ptsOf ls) from srtP_eq HP.out fun z => by rw [HM.out z, HN.out, List.take_length])
      obtain ⟨g0, c0, hu4⟩ := HO.out.2.1
      subst hu4
      have hln : (ptsOf qs).length = qs.length := by unfold ptsOf; simp
      obtain ⟨m, hm0⟩ : ∃ m, m = qs.length := ⟨_, rfl⟩
      rw [← hm0] at hql
      have hHO := HO.out
      rw [← hm0] at hHO ⊢
      by_cases h3 : m < 3
      · have hv := HNO.out (by
          have hs := hullR_short (ls := ls) (by rw [← HSRT.out, hln, ← hm0]; exact h3)
          rw [HOK.out, inB_not]; omega)
        have HV := Lib.hid hv
        clear hv hHO hm0 hln HOK
        go_wp2
        go_ret2
        rw [HV.out]
        exact ⟨_, rfl, HE.out wr HB.out, below_then HB.out HB.out.size (below1 _ _)⟩
      · have HU := l7Hull_any qs _ wr.heap.size wr HO.out.iss (Nat.le_refl _) (fun i hi => HF.out _ (HS.out _ (by rw [List.getD_eq_getElem?_getD, List.getElem?_eq_getElem hi]; exact List.getElem_mem hi))) (by omega) (by omega)
        rw [← hm0] at HU
        rw [HSRT.out] at HU
        clear hHO HO HM HS HP hln hm0
        go_wp2_with fail
        with_reducible refine HU.mono ?_
        rintro e w3 ⟨u, L, rfl, ho, hpv, c3⟩
        have hrow : L.map (·.2) = hullR ls := by rw [rows_of_pv ho, hpv]; rfl
        have hll : L.length = (hullR ls).length := by rw [← hrow, List.length_map]
        have HI3 := Lib.hid (ho.iss c3.size)
        have HO3 := Lib.hid ho
        have HB3 := Lib.hid (below_then HB.out HB.out.size c3)
        obtain ⟨g3, cp3, hu⟩ := ho.2.1
        subst hu
        have hcp3 : L.length ≤ cp3 ∧ cp3 ≤ maxLen := by
          rcases ho.1.2 with ⟨e, -⟩ | ⟨g', cap', cur, e, hb', hg, hn', hc', hs, ht⟩
          · simp at e
          · injection e with e1 e2 e3
            subst e3
            exact ⟨hn', hc'⟩
        unfold maxLen at hcp3
        rw [hrow] at HI3
        have HROW := Lib.hid hrow
        have HLL := Lib.hid hll
        obtain ⟨q, hq⟩ : ∃ q, q = L.length := ⟨_, rfl⟩
        rw [← hq] at hcp3 HI3 hll ⊢
        rw [← hll] at HOK
        clear HU c3 ho hpv hrow hll
        cases hin : inB (q : Int) 3 12
        · have hv := HNO.out (HOK.out.trans hin)
          have HV := Lib.hid hv
          have hno := inB_not.1 hin
          clear hin hv hq
          by_cases hq3 : q < 3
          · go_wp2
            go_ret2
            rw [HV.out]
            exact ⟨_, rfl, HE.out w3 HB3.out, below_then HB3.out HB3.out.size (below1 _ _)⟩
          · have hq12 : 12 < q := by omega
            go_wp2
            go_ret2
            rw [HV.out]
            exact ⟨_, rfl, HE.out w3 HB3.out, below_then HB3.out HB3.out.size (below1 _ _)⟩
        · have hv : hullV ls = (hullR ls, true) := by unfold hullV; rw [HOK.out.trans hin]; rfl
          have HV := Lib.hid hv
          have hyes := inB_iff.1 hin
          have CP := l7Copy_any (hullR ls) _ w3.heap.size w3 HI3.out (Nat.le_refl _) (by rw [← HLL.out, ← hq]; omega) (fun i hi => by
            have : (hullR ls).getD i [] ∈ hullR ls := by rw [List.getD_eq_getElem?_getD, List.getElem?_eq_getElem hi]; exact List.getElem_mem hi
            rw [← HROW.out] at this
            obtain ⟨z, hz, e⟩ := List.mem_map.1 this
            rw [HROW.out] at e
            rw [← e, (HO3.out.2.2 z hz).2.1]; omega)
          have hq3 : ¬ q < 3 := by omega
          have hq12 : ¬ 12 < q := by omega
          clear hin hv hq hyes
          go_wp2_with fail
          with_reducible refine CP.mono ?_
          rintro e w5 ⟨u5, rfl, k5, c5⟩
          have HK5 := Lib.hid (k5.down HB3.out.size)
          have HB5 := Lib.hid (below_then HB3.out HB3.out.size c5)
          clear CP c5 k5
          go_wp2
          go_ret2
          rw [HV.out]
          exact ⟨_, rfl, HK5.out, HB5.out⟩
set_option maxRecDepth 100000 in
set_option maxHeartbeats 4000000 in
theorem specIsPolygon_any (ls : List (List Int)) (v : Value) (hb : Nat) (w : World) (h : ISSr w hb v ls) (hhb : hb ≤ w.heap.size) :
    Calls Tryz.prog 31 #[v] w fun e w' => e = .returned (.bool (isPolyB ls)) ∧ Below w.heap.size w w' := by
  have FL := fun d => l7Flat_any ls v hb (w.drewN d) h
  have HU := fun d => specHullOf_any ls v hb (w.drewN d) h hhb
  have W1 := fun W => l1In_any ls.length 3 12 W
  obtain ⟨a, cap, rfl, hcap, hm, hcell⟩ := id h
  have H := Lib.hid h
  clear hcell h hm
  cases h1 : inB ls.length 3 12
  case false =>
    have hr : isPolyB ls = false := by unfold isPolyB; rw [h1]; rfl
    rw [hr]
    rw [h1] at W1
    clear hr h1 FL HU hcap
    generalize ls.length = n at *
    go_enter Tryz.func31, Tryz.ntmps31
    go_wp2_with (go_at_call 64; (with_reducible refine (W1 _).mono ?_); rintro e w' ⟨rfl, rfl⟩)
    go_ret
    exact ⟨rfl, Below.refl _ _⟩
  have hlen := inB_iff.1 h1
  rw [h1] at W1
  cases hf : flatB ls 50
  case false =>
    have hr : isPolyB ls = false := isPolyB_no2 hf
    rw [hr]
    rw [hf] at FL
    have FL0 := FL 0
    clear hr h1 HU hcap FL
    generalize ls.length = n at *
    go_enter Tryz.func31, Tryz.ntmps31
    go_wp2_with (first | (go_at_call 64; (with_reducible refine (W1 _).mono ?_); rintro e w' ⟨rfl, rfl⟩) | (go_at_call 65; (refine FL0.mono ?_); rintro e w' ⟨rfl, d, rfl⟩))
    go_ret
    exact ⟨rfl, below_draws _ _ _⟩
  have hr : isPolyB ls = (hullOk ls && decide (hullR ls = ls)) := poly_hull (by omega) (by omega) hf
  rw [hr]
  rw [hf] at FL
  have FL0 := FL 0
  have HV2 := Lib.hid (show (hullV ls).2 = hullOk ls by unfold hullV; cases hullOk ls <;> rfl)
  have HV1 := Lib.hid (fun (h : hullOk ls = true) => (show (hullV ls).1 = hullR ls by unfold hullV; rw [h]; rfl))
  clear hr h1 FL hf hlen hcap
  generalize hn : ls.length = n at W1 FL0 HU ⊢
  have HN := Lib.hid hn.symm
  clear hn
  go_enter Tryz.func31, Tryz.ntmps31
  go_wp2_with (first | (go_at_call 64; (with_reducible refine (W1 _).mono ?_); rintro e w' ⟨rfl, rfl⟩) | (go_at_call 65; (refine FL0.mono ?_); rintro e w' ⟨rfl, d, rfl⟩))
  have HUd := HU d
  rw [HV2.out] at HUd
  with_reducible refine HUd.mono ?_
  rintro e w3 ⟨u, rfl, ho, c3⟩
  have HB3 := Lib.hid (below_then (below_draws w.heap.size w d) (Nat.le_refl _) c3)
  clear HU HUd c3 FL0
  cases hok : hullOk ls
  case false =>
    have HOK := Lib.hid hok
    go_wp2
    go_ret
    exact ⟨ret_bool (by rw [HOK.out]; rfl), HB3.out⟩
  case true =>
    rw [HV1.out hok] at ho
    have HOK := Lib.hid hok
    have SL := l7SameList_any (hullR ls) ls _ _ w3.heap.size hb w3 ho.is.read (H.out.keep HB3.out hhb)
    clear ho
    obtain ⟨b, hb⟩ : ∃ b, decide (hullR ls = ls) = b := ⟨_, rfl⟩
    rw [hb] at SL
    have HBB := Lib.hid hb
    clear hb hok
    go_wp2_with fail
    rw [← HN.out] at SL
    with_reducible refine SL.mono ?_
    rintro e w4 ⟨rfl, d4, rfl⟩
    go_wp2
    go_ret
    exact ⟨ret_bool (by rw [HOK.out, HBB.out]; simp), HB3.out.trans (below_draws _ _ _)⟩
end Go.Proofs.YtehhoplenloocaaGreat
