/- Turns and the order of points: the program's walks. -/
import Derived.Test.YtehhoplenloocaaB2
import Derived.Test.YtehhoplenloocaaHulF
namespace Go.Proofs.Ytehhoplenloocaa
open Go.RowKit
set_option linter.unusedVariables false
set_option linter.unusedSimpArgs false

def cmpI (a b : Int) : Int := if a < b then -1 else if b < a then 1 else 0
def cmp2 (a b : Pt) : Int := if ltP a b then -1 else if ltP b a then 1 else 0
theorem cmp2_rows (a b : Pt) : cmp2 a b = if cmpI a.1 b.1 = 0 then cmpI a.2 b.2 else cmpI a.1 b.1 := by
  unfold cmp2 cmpI ltP
  rcases Int.lt_trichotomy a.1 b.1 with h | h | h <;> rcases Int.lt_trichotomy a.2 b.2 with k | k | k <;> simp [h, k] <;> first | omega | (split <;> (try split) <;> omega) | skip
set_option maxHeartbeats 1000000 in
theorem cmpI_any (a b : Int) (w : World) : Calls Try.prog 145 #[.int .i64 a, .int .i64 b] w fun e w' => e = .returned (.int .i64 (cmpI a b)) ∧ w = w' := by
  have ha : (a != a) = false := by simp
  have hb : (b != b) = false := by simp
  unfold cmpI
  by_cases h1 : a < b
  · rw [if_pos h1]
    go_enter Try.func145, Try.ntmps145
    go_wp2
    go_ret
    exact ⟨rfl, rfl⟩
  · rw [if_neg h1]
    by_cases h2 : b < a
    · rw [if_pos h2]
      go_enter Try.func145, Try.ntmps145
      go_wp2
      go_ret
      exact ⟨rfl, rfl⟩
    · rw [if_neg h2]
      go_enter Try.func145, Try.ntmps145
      go_wp2
      go_ret
      exact ⟨rfl, rfl⟩
set_option maxRecDepth 100000 in
set_option maxHeartbeats 2000000 in
theorem compare_any (a b : List Int) (va vb : Value) (hb : Nat) (w : World) (ia : ISr w hb va a) (ib : ISr w hb vb b) (la : a.length = 2) (lb : b.length = 2) :
    Calls Try.prog 87 #[va, vb] w fun e w' => e = .returned (.int .i64 (cmp2 (ptOf a) (ptOf b))) ∧ w = w' := by
  rw [cmp2_rows]
  unfold ptOf
  obtain ⟨b1, o1, c1, rfl, -, x0, x1⟩ := ia.two la
  obtain ⟨b2, o2, c2, rfl, -, y0, y1⟩ := ib.two lb
  have C0 := cmpI_any (a.getD 0 0) (b.getD 0 0) w
  have C1 := cmpI_any (a.getD 1 0) (b.getD 1 0) w
  dsimp only
  generalize a.getD 0 0 = p0 at *
  generalize a.getD 1 0 = p1 at *
  generalize b.getD 0 0 = q0 at *
  generalize b.getD 1 0 = q1 at *
  clear ia ib la lb
  generalize cmpI p0 q0 = k0 at *
  generalize cmpI p1 q1 = k1 at *
  by_cases h0 : k0 = 0
  · rw [if_pos h0]
    subst h0
    by_cases h1 : k1 = 0
    · subst h1
      go_enter Try.func87, Try.ntmps87
      go_wp2
      refine wp_loop_rounds 3 ?_
      rw [rounds_succ]
      go_wp2_with (go_at_call 145; (first | with_reducible refine C0.mono ?_ | with_reducible refine C1.mono ?_); rintro e w' ⟨rfl, rfl⟩)
      rw [rounds_succ]
      go_wp2_with (go_at_call 145; (first | with_reducible refine C0.mono ?_ | with_reducible refine C1.mono ?_); rintro e w' ⟨rfl, rfl⟩)
      rw [rounds_succ]
      go_wp2_with (go_at_call 145; (first | with_reducible refine C0.mono ?_ | with_reducible refine C1.mono ?_); rintro e w' ⟨rfl, rfl⟩)
      go_ret
      exact ⟨rfl, rfl⟩
    · have hne : (k1 != 0) = true := by simpa using h1
      go_enter Try.func87, Try.ntmps87
      go_wp2
      refine wp_loop_rounds 3 ?_
      rw [rounds_succ]
      go_wp2_with (go_at_call 145; (first | with_reducible refine C0.mono ?_ | with_reducible refine C1.mono ?_); rintro e w' ⟨rfl, rfl⟩)
      rw [rounds_succ]
      go_wp2_with (go_at_call 145; (first | with_reducible refine C0.mono ?_ | with_reducible refine C1.mono ?_); rintro e w' ⟨rfl, rfl⟩)
      go_ret
      exact ⟨rfl, rfl⟩
  · rw [if_neg h0]
    have hne : (k0 != 0) = true := by simpa using h0
    go_enter Try.func87, Try.ntmps87
    go_wp2
    refine wp_loop_rounds 3 ?_
    rw [rounds_succ]
    go_wp2_with (go_at_call 145; (first | with_reducible refine C0.mono ?_ | with_reducible refine C1.mono ?_); rintro e w' ⟨rfl, rfl⟩)
    go_ret
    exact ⟨rfl, rfl⟩
theorem tn_rows (a b c : List Int) : crossI (minusI b a) (minusI c a) = tn (ptOf a) (ptOf b) (ptOf c) := by
  unfold crossI minusI tn crossP subP ptOf; simp
theorem minusI_in {a b : List Int} {m : Int} (ha : allIn a (-m) m = true) (hb : allIn b (-m) m = true) (la : a.length = 2) (lb : b.length = 2) : allIn (minusI a b) (-(2 * m)) (2 * m) = true := by
  have a0 := allIn_at ha 0 (by omega)
  have a1 := allIn_at ha 1 (by omega)
  have b0 := allIn_at hb 0 (by omega)
  have b1 := allIn_at hb 1 (by omega)
  unfold minusI
  generalize a.getD 0 0 = x0 at *
  generalize a.getD 1 0 = x1 at *
  generalize b.getD 0 0 = y0 at *
  generalize b.getD 1 0 = y1 at *
  simp [allIn, inB]
  omega
theorem allIn_wide {l : List Int} {m k : Int} (h : allIn l (-m) m = true) (hk : m ≤ k) : allIn l (-k) k = true := by
  unfold allIn at *
  rw [List.all_eq_true] at *
  intro x hx
  have := inB_iff.1 (h x hx)
  exact inB_iff.2 (by omega)
set_option maxHeartbeats 2000000 in
theorem turn_any (a b c : List Int) (va vb vc : Value) (hb : Nat) (w : World) (ia : ISr w hb va a) (ib : ISr w hb vb b) (ic : ISr w hb vc c) (hhb : hb ≤ w.heap.size) (la : a.length = 2) (lb : b.length = 2) (lc : c.length = 2)
    (ba : allIn a (-1000000) 1000000 = true) (bb : allIn b (-1000000) 1000000 = true) (bc : allIn c (-1000000) 1000000 = true) :
    Calls Try.prog 128 #[va, vb, vc] w fun e w' => e = .returned (.int .i64 (tn (ptOf a) (ptOf b) (ptOf c))) ∧ Below w.heap.size w w' := by
  rw [← tn_rows]
  have a0 := allIn_at ba 0 (by omega)
  have a1 := allIn_at ba 1 (by omega)
  have b0 := allIn_at bb 0 (by omega)
  have b1 := allIn_at bb 1 (by omega)
  have c0 := allIn_at bc 0 (by omega)
  have c1 := allIn_at bc 1 (by omega)
  have M1 := minus_any b a vb va hb w ib ia hhb lb la (by omega) (by omega)
  have M2 := fun W (B : Below w.heap.size w W) => minus_any c a vc va hb W (ic.keep B hhb) (ia.keep B hhb) (by have := B.size; omega) lc la (by omega) (by omega)
  have N1 := allIn_wide (minusI_in bb ba lb la) (k := 1000000000) (by omega)
  have N2 := allIn_wide (minusI_in bc ba lc la) (k := 1000000000) (by omega)
  have L1 := Lib.hid (show (minusI b a).length = 2 from rfl)
  have L2 := Lib.hid (show (minusI c a).length = 2 from rfl)
  generalize minusI b a = x at *
  generalize minusI c a = y at *
  clear a0 a1 b0 b1 c0 c1 ia ib ic ba bb bc la lb lc
  go_enter Try.func128, Try.ntmps128
  go_wp2_with fail
  refine M1.mono ?_
  rintro e w1 ⟨u1, rfl, k1, c1⟩
  have HB1 := Lib.hid c1
  have HK1 := Lib.hid k1
  obtain ⟨a1, e1, rfl, -⟩ := id k1
  clear c1 k1
  go_wp2_with fail
  refine (M2 _ HB1.out).mono ?_
  rintro e w2 ⟨u2, rfl, k2, c2⟩
  have CR := cross_any x y _ _ w2.heap.size w2.heap.size w2 ((HK1.out.keep c2 (Nat.le_refl _)).read.upto c2.size) k2.read L1.out L2.out N1 N2
  have HB2 := Lib.hid (below_then HB1.out HB1.out.size c2)
  obtain ⟨a2, e2, rfl, -⟩ := id k2
  clear c2 k2
  go_wp2_with fail
  refine CR.mono ?_
  rintro e w3 ⟨rfl, d, rfl⟩
  go_wp2
  go_ret
  exact ⟨rfl, HB2.out.trans (below_draws _ _ _)⟩
end Go.Proofs.Ytehhoplenloocaa
