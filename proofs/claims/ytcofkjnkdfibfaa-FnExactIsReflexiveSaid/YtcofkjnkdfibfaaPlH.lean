/- PlaceOf and IsReflexive: the walks. -/
import Derived.Test.YtcofkjnkdfibfaaPlG
import Derived.Test.YtcofkjnkdfibfaaPlD
namespace Go.Proofs.Ytcofkjnkdfibfaa
open Go.RowKit
set_option linter.unusedVariables false
set_option linter.unusedSimpArgs false

def reV (ls : List (List Int)) : Bool := isPolyB ls && (decide (inV ls = 1) && decide (plV ls [0, 0] = 1))
theorem inV_one {ls : List (List Int)} (h : inV ls = 1) : isPolyB ls = true := by
  cases hp : isPolyB ls
  · unfold inV at h; rw [hp] at h; exact absurd h (by simp)
  · rfl
theorem reV_in {ls : List (List Int)} (h : ¬ inV ls = 1) : reV ls = false := by unfold reV; rw [decide_eq_false h]; simp
theorem reV_pl {ls : List (List Int)} (h : inV ls = 1) : reV ls = decide (plV ls [0, 0] = 1) := by unfold reV; rw [inV_one h, decide_eq_true h]; rfl
theorem plV_bd (ls : List (List Int)) (c : List Int) : -1 ≤ plV ls c ∧ plV ls c ≤ 1 := by
  unfold plV
  split
  · omega
  · generalize ls.length = n
    induction n with
    | zero => simp [plS]
    | succ k ih => unfold plS; split <;> omega

set_option maxHeartbeats 4000000 in
theorem implPlaceOf_any (ls : List (List Int)) (c : List Int) (v vc : Value) (hb : Nat) (w : World) (h : ISSr w hb v ls) (ic : ISr w hb vc c) (hhb : hb ≤ w.heap.size) (hp : isPolyB ls = true) (lc : c.length = 2) (bc : allIn c (-1000) 1000 = true) :
    Calls Try.prog 63 #[v, vc] w fun e w' => e = .returned (.int .i64 (plV ls c)) ∧ Below w.heap.size w w' := by
  have IP := implIsPolygon_any ls v hb w h hhb
  rw [hp] at IP
  obtain ⟨h3, h12, hf⟩ := isPoly_parts hp
  have IV := fun W (HB : Below w.heap.size w W) => toBelow (implIsVector_any c vc hb W (ic.keep HB hhb))
  have hv : vecB c = true := by unfold vecB; rw [lc, bc]; decide
  rw [hv] at IV
  have PO := fun W (HB : Below w.heap.size w W) => placeOf_any ls c v vc hb W (h.keep HB hhb) (ic.keep HB hhb) (Nat.le_trans hhb HB.size) hf lc (allIn_wide bc (by omega)) h12
  obtain ⟨a, cap, rfl, -⟩ := id ic
  rw [lc] at IV PO ⊢
  clear h ic hf h3 h12 hp hv bc
  go_enter Try.func63, Try.ntmps63
  go_wp2_with (first | (go_at_call 49; (with_reducible refine IP.mono ?_); rintro e w1 ⟨rfl, c1⟩) | (go_at_call 84; (with_reducible refine (IV _ c1).mono ?_); rintro e w2 ⟨rfl, c2⟩; have C2 := below_then c1 c1.size c2) | (go_at_call 85; (with_reducible refine (PO _ C2).mono ?_); rintro e w3 ⟨rfl, c3⟩))
  go_ret
  exact ⟨rfl, below_then C2 C2.size c3⟩
set_option maxHeartbeats 4000000 in
theorem implIsReflexive_any (ls : List (List Int)) (v : Value) (hb : Nat) (w : World) (h : ISSr w hb v ls) (hhb : hb ≤ w.heap.size) :
    Calls Try.prog 31 #[v] w fun e w' => e = .returned (.bool (reV ls)) ∧ Below w.heap.size w w' := by
  have IC := implInner_any ls v hb w h hhb
  by_cases h1 : inV ls = 1
  case neg =>
    rw [reV_in h1]
    generalize inV ls = q at *
    clear h
    go_enter Try.func31, Try.ntmps31
    go_wp2_with (go_at_call 62; (with_reducible refine IC.mono ?_); rintro e w1 ⟨rfl, c1⟩)
    go_ret
    exact ⟨rfl, c1⟩
  have hp := inV_one h1
  rw [reV_pl h1]
  rw [h1] at IC
  have PO := fun W (HB : Below w.heap.size w W) => implPlaceOf_any ls [0, 0] v (.slice (some ⟨W.heap.size, 0, none⟩) 2 2) (W.heap.size + 1) (W.alloc (.cells #[.int .i64 0, .int .i64 0] 3)) ((h.keep (HB.alloc HB.size _) hhb).upto (Nat.le_trans hhb (Nat.le_succ_of_le HB.size))) (IS.lit2 W w.heap.size HB.size 0 0).read (by simp) hp rfl (by decide)
  clear h h1 hp
  generalize plV ls [0, 0] = q at *
  go_enter Try.func31, Try.ntmps31
  go_wp2_with fail
  with_reducible refine IC.mono ?_
  rintro e w1 ⟨rfl, c1⟩
  have P := PO w1 c1
  have C1 := Lib.hid (c1.alloc c1.size (.cells #[.int .i64 0, .int .i64 0] 3))
  clear PO IC
  go_wp2_with (go_at_call 63; (with_reducible refine P.mono ?_); rintro e w3 ⟨rfl, c3⟩)
  all_goals go_ret
  all_goals refine ⟨ret_bool ?_, below_then C1.out C1.out.size c3⟩
  all_goals first | (simp [*]; done) | (rw [Bool.eq_iff_iff]; simp [*]; done) | (rw [Bool.eq_iff_iff]; simp [*]; omega)
set_option maxHeartbeats 4000000 in
theorem specIsReflexive_any (ls : List (List Int)) (v : Value) (hb : Nat) (w : World) (h : ISSr w hb v ls) (hhb : hb ≤ w.heap.size) :
    Calls Try.prog 30 #[v] w fun e w' => e = .returned (.bool (reV ls)) ∧ Below w.heap.size w w' := by
  have IP := specIsPolygon_any ls v hb w h hhb
  cases hp : isPolyB ls
  case false =>
    have hr : reV ls = false := by unfold reV; rw [hp]; rfl
    rw [hr]
    rw [hp] at IP
    clear h hr hp
    go_enter Try.func30, Try.ntmps30
    go_wp2_with (go_at_call 45; (with_reducible refine IP.mono ?_); rintro e w1 ⟨rfl, c1⟩)
    go_ret
    exact ⟨rfl, c1⟩
  rw [hp] at IP
  have IC := fun W (HB : Below w.heap.size w W) => specInner_any ls v hb W (h.keep HB hhb) (Nat.le_trans hhb HB.size)
  by_cases h1 : inV ls = 1
  case neg =>
    rw [reV_in h1]
    generalize inV ls = q at *
    clear h hp
    go_enter Try.func30, Try.ntmps30
    go_wp2_with (first | (go_at_call 45; (with_reducible refine IP.mono ?_); rintro e w1 ⟨rfl, c1⟩) | (go_at_call 60; (with_reducible refine (IC _ c1).mono ?_); rintro e w2 ⟨rfl, c2⟩))
    go_ret
    exact ⟨rfl, below_then c1 c1.size c2⟩
  rw [reV_pl h1]
  rw [h1] at IC
  obtain ⟨h3, h12, hf⟩ := isPoly_parts hp
  have PO := fun W (HB : Below w.heap.size w W) => l7Place_any ls [0, 0] v (.slice (some ⟨W.heap.size, 0, none⟩) 2 2) (W.heap.size + 1) (W.alloc (.cells #[.int .i64 0, .int .i64 0] 3)) ((h.keep (HB.alloc HB.size _) hhb).upto (Nat.le_trans hhb (Nat.le_succ_of_le HB.size))) (IS.lit2 W w.heap.size HB.size 0 0).read (by simp) hf rfl (by decide) h12
  clear h h1 hp hf h3 h12
  generalize plV ls [0, 0] = q at *
  go_enter Try.func30, Try.ntmps30
  go_wp2_with fail
  with_reducible refine IP.mono ?_
  rintro e w1 ⟨rfl, c1⟩
  have I := IC w1 c1
  go_wp2_with fail
  with_reducible refine I.mono ?_
  rintro e w2 ⟨rfl, c2⟩
  have C2 := below_then c1 c1.size c2
  have P := PO w2 C2
  have C1 := Lib.hid (C2.alloc C2.size (.cells #[.int .i64 0, .int .i64 0] 3))
  clear PO IC IP I c2
  go_wp2_with (go_at_call 61; (with_reducible refine P.mono ?_); rintro e w3 ⟨rfl, c3⟩)
  all_goals go_ret
  all_goals refine ⟨ret_bool ?_, below_then C1.out C1.out.size c3⟩
  all_goals first | (simp [*]; done) | (rw [Bool.eq_iff_iff]; simp [*]; done) | (rw [Bool.eq_iff_iff]; simp [*]; omega)
end Go.Proofs.Ytcofkjnkdfibfaa
