/- The walks of the smallest functions on whole numbers. -/
import Derived.Test.YtchkcjpahlimjaaChecked
import Derived.Test.YtchkcjpahlimjaaMath
import Derived.WalkKit
import Derived.WalkSpells
import Derived.WalkLawsBesides
import Derived.Lib.Hide
namespace Go.Proofs.Ytchkcjpahlimjaa
open Go.RowKit

theorem below1 (w : World) (o : Obj) : Below w.heap.size w (w.alloc o) := (Below.refl _ _).alloc (Nat.le_refl _) o
theorem below2 (w : World) (o o' : Obj) : Below w.heap.size w ((w.alloc o).alloc o') := (below1 w o).alloc (by simp) o'
theorem below3 (w : World) (o o' o'' : Obj) : Below w.heap.size w (((w.alloc o).alloc o').alloc o'') := (below2 w o o').alloc (by simp; omega) o''
theorem below_le {B B' : Nat} {w w' : World} (h : Below B w w') (hb : B' ≤ B) : Below B' w w' := h.mono hb
/-- a step behind a step, the second one from a world that is no smaller -/
theorem below_then {w w1 w2 : World} {B : Nat} (h : Below B w w1) (hB : B ≤ w1.heap.size) (h2 : Below w1.heap.size w1 w2) : Below B w w2 := h.trans (h2.mono hB)
theorem bcell {W w1 : World} (hb : Below W.heap.size W w1) : (∀ b o, b < W.heap.size → w1.cell? ⟨b, o, none⟩ = W.cell? ⟨b, o, none⟩) ∧ (∀ b o, b < W.heap.size → w1.frozen? ⟨b, o, none⟩ = W.frozen? ⟨b, o, none⟩) :=
  ⟨fun b o h => hb.cell (p := ⟨b, o, none⟩) h, fun b o h => hb.frozen (p := ⟨b, o, none⟩) h⟩
theorem below_draws (B : Nat) (w : World) (n : Nat) : Below B w (w.drewN n) := ⟨rfl, rfl, rfl, Nat.le_refl _, fun _ _ => rfl⟩
/-- a box of four cells -/
structure Box4 (w : World) (n : Nat) (v0 v1 v2 v3 : Value) : Prop where
  lt : n < w.heap.size
  c0 : w.cell? ⟨n, 0, none⟩ = some v0
  c1 : w.cell? ⟨n, 1, none⟩ = some v1
  c2 : w.cell? ⟨n, 2, none⟩ = some v2
  c3 : w.cell? ⟨n, 3, none⟩ = some v3
theorem box4_new (w : World) (v0 v1 v2 v3 : Value) (t : TypeId) : Box4 (w.alloc (.cells #[v0, v1, v2, v3] t)) w.heap.size v0 v1 v2 v3 :=
  ⟨by simp, by rw [World.cell?_alloc_at _ _ _ _ rfl]; rfl, by rw [World.cell?_alloc_at _ _ _ _ rfl]; rfl, by rw [World.cell?_alloc_at _ _ _ _ rfl]; rfl, by rw [World.cell?_alloc_at _ _ _ _ rfl]; rfl⟩
theorem Box4.keep {w w1 : World} {n : Nat} {v0 v1 v2 v3 : Value} (h : Box4 w n v0 v1 v2 v3) (hb : Below w.heap.size w w1) : Box4 w1 n v0 v1 v2 v3 :=
  ⟨Nat.lt_of_lt_of_le h.lt hb.size, (hb.cell h.lt).trans h.c0, (hb.cell h.lt).trans h.c1, (hb.cell h.lt).trans h.c2, (hb.cell h.lt).trans h.c3⟩
theorem ret_int {a b : Int} (h : a = b) : Ending.returned (.int .i64 a) = .returned (.int .i64 b) := by rw [h]
theorem ret_bool {a b : Bool} (h : a = b) : Ending.returned (.bool a) = .returned (.bool b) := by rw [h]

set_option maxHeartbeats 400000 in
theorem down_any (a b : Int) (w : World) (ha : -9223372036854775808 < a) (ha' : a ≤ 9223372036854775807) (hb : 1 ≤ b) (hb' : b ≤ 9223372036854775807) :
    Calls Try.prog 63 #[.int .i64 a, .int .i64 b] w fun e w' => e = .returned (.int .i64 (a / b)) ∧ w = w' := by
  have hlo := tdiv_low a b ha ha' hb
  go_enter Try.func63, Try.ntmps63
  go_wp2
  · have h : a.tmod b < 0 := by assumption
    go_ret
    exact ⟨ret_int (quo_neg hb h), rfl⟩
  · have h : 0 ≤ a.tmod b := by assumption
    go_ret
    exact ⟨ret_int (quo_pos hb h), rfl⟩

set_option maxHeartbeats 400000 in
theorem l3Floor_any (a b : Int) (w : World) (ha : -9223372036854775808 < a) (ha' : a ≤ 9223372036854775807) (hb : 1 ≤ b) (hb' : b ≤ 9223372036854775807) :
    Calls Try.prog 96 #[.int .i64 a, .int .i64 b] w fun e w' => e = .returned (.int .i64 (a / b)) ∧ w = w' := by
  have hlo := tdiv_low a b ha ha' hb
  go_enter Try.func96, Try.ntmps96
  go_wp2
  · have h : a.tmod b < 0 := by assumption
    go_ret
    exact ⟨ret_int (quo_neg hb h), rfl⟩
  · have h : 0 ≤ a.tmod b := by assumption
    go_ret
    exact ⟨ret_int (quo_pos hb h), rfl⟩


set_option maxHeartbeats 400000 in
theorem within_any (n lo hi : Int) (w : World) :
    Calls Try.prog 87 #[.int .i64 n, .int .i64 lo, .int .i64 hi] w fun e w' => e = .returned (.bool (inB n lo hi)) ∧ w = w' := by
  go_enter Try.func87, Try.ntmps87
  go_wp2
  all_goals go_ret
  all_goals exact ⟨ret_bool (by simp [inB]; try omega), rfl⟩

set_option maxHeartbeats 400000 in
theorem l1In_any (n lo hi : Int) (w : World) :
    Calls Try.prog 78 #[.int .i64 n, .int .i64 lo, .int .i64 hi] w fun e w' => e = .returned (.bool (inB n lo hi)) ∧ w = w' := by
  go_enter Try.func78, Try.ntmps78
  go_wp2
  all_goals go_ret
  all_goals exact ⟨ret_bool (by simp [inB]; try omega), rfl⟩

set_option maxHeartbeats 400000 in
theorem l1Max_any (a b : Int) (w : World) :
    Calls Try.prog 109 #[.int .i64 a, .int .i64 b] w fun e w' => e = .returned (.int .i64 (max a b)) ∧ w = w' := by
  go_enter Try.func109, Try.ntmps109
  go_wp2
  all_goals go_ret
  all_goals exact ⟨ret_int (by omega), rfl⟩

set_option maxHeartbeats 400000 in
theorem l1Abs_any (a : Int) (w : World) (ha : -9223372036854775808 < a) (ha' : a ≤ 9223372036854775807) :
    Calls Try.prog 84 #[.int .i64 a] w fun e w' => e = .returned (.int .i64 (max a (-a))) ∧ w = w' := by
  go_enter Try.func84, Try.ntmps84
  go_wp2_with (go_at_call 109; (with_reducible refine (l1Max_any _ _ _).mono ?_); rintro e w' ⟨rfl, rfl⟩)
  go_ret
  exact ⟨rfl, rfl⟩

set_option maxHeartbeats 400000 in
theorem magnitude_any (a : Int) (w : World) (ha : -9223372036854775808 < a) (ha' : a ≤ 9223372036854775807) :
    Calls Try.prog 85 #[.int .i64 a] w fun e w' => e = .returned (.int .i64 (max a (-a))) ∧ w = w' := by
  rcases Int.lt_or_le a (-a) with h | h
  all_goals
    go_enter Try.func85, Try.ntmps85
    go_wp2
    all_goals go_ret
    all_goals exact ⟨ret_int (by omega), rfl⟩

set_option maxHeartbeats 400000 in
theorem divisor_any (a b : Int) (w : World) (ha : -9223372036854775808 < a) (ha' : a ≤ 9223372036854775807) (hb : -9223372036854775808 < b) (hb' : b ≤ 9223372036854775807) :
    Calls Try.prog 115 #[.int .i64 a, .int .i64 b] w fun e w' => e = .returned (.int .i64 (gcdI a b)) ∧ ∃ n, w' = w.drewN n := by
  go_enter Try.func115, Try.ntmps115
  go_wp2
  go_loopw [0, 1] (fun x y wr => ∃ (n : Nat) (p q : Int), wr = w.drewN n ∧ x = .int .i64 p ∧ y = .int .i64 q ∧ gcdI p q = gcdI a b ∧ -9223372036854775808 < p ∧ p ≤ 9223372036854775807 ∧ -9223372036854775808 < q ∧ q ≤ 9223372036854775807)
    (fun _ y _ => (intOf y).natAbs)
  case atStart => exact ⟨0, a, b, rfl, rfl, rfl, rfl, ha, ha', hb, hb'⟩
  case round =>
    obtain ⟨n, p, q, rfl, rfl, rfl, hg, h1, h2, h3, h4⟩ := hrel
    have HG := Lib.hid hg; clear hg
    by_cases hq : q = 0
    · subst hq
      go_wp2_with (go_at_call 85; (with_reducible refine (magnitude_any _ _ (by omega) (by omega)).mono ?_); rintro e w' ⟨rfl, rfl⟩)
      go_ret
      exact ⟨ret_int (by rw [← HG.out, gcdI_zero]), _, rfl⟩
    · have HLT := Lib.hid (tmod_natAbs p q hq)
      have hr := tmod_bd p q hq
      have h0 : (q == 0) = false := by simpa using hq
      go_wp2
      go_region
      all_goals
        go_wp2
        go_roundw
        case rel => exact ⟨n + 1, _, _, rfl, rfl, rfl, by rw [gcdI_step]; exact HG.out, by omega, by omega, by omega, by omega⟩
        case measure => exact HLT.out

set_option maxHeartbeats 400000 in
theorem l2Gcd_any (a b : Int) (w : World) (ha : -9223372036854775808 < a) (ha' : a ≤ 9223372036854775807) (hb : -9223372036854775808 < b) (hb' : b ≤ 9223372036854775807) :
    Calls Try.prog 119 #[.int .i64 a, .int .i64 b] w fun e w' => e = .returned (.int .i64 (gcdI a b)) ∧ w = w' := by
  have HM := Lib.hid (gcdI_max a b)
  have hp := max_bd a ha ha'
  have hq := max_bd b hb hb'
  go_enter Try.func119, Try.ntmps119
  go_wp2_with fail
  refine (l1Abs_any a _ ha ha').mono ?_
  rintro e w' ⟨rfl, rfl⟩
  go_wp2_with fail
  refine (l1Abs_any b _ hb hb').mono ?_
  rintro e w' ⟨rfl, rfl⟩
  generalize max a (-a) = p0 at *
  generalize max b (-b) = q0 at *
  go_wp2
  go_loop [0, 1, 5] (fun x y _ => ∃ (p q : Int), x = .int .i64 p ∧ y = .int .i64 q ∧ gcdI p q = gcdI a b ∧ 0 ≤ p ∧ p ≤ 9223372036854775807 ∧ 0 ≤ q ∧ q ≤ 9223372036854775807)
    (fun _ y _ => (intOf y).toNat)
  case atStart => exact ⟨p0, q0, rfl, rfl, HM.out, hp.1, hp.2, hq.1, hq.2⟩
  case round =>
    obtain ⟨p, q, rfl, rfl, hg, h1, h2, h3, h4⟩ := hrel
    have HG := Lib.hid hg; clear hg
    by_cases hq : q = 0
    · subst hq
      go_wp2
      go_ret
      exact ⟨ret_int (by rw [← HG.out, gcdI_zero]; omega), rfl⟩
    · have h0 : (q == 0) = false := by simpa using hq
      have hlt := Int.emod_lt_of_pos p (show 0 < q by omega)
      have hge := Int.emod_nonneg p hq
      go_wp2
      go_round
      case rel => exact ⟨_, _, rfl, rfl, by rw [gcdI_stepE p q h1]; exact HG.out, by omega, by omega, by omega, by omega⟩
      case measure => simp [intOf]; omega
end Go.Proofs.Ytchkcjpahlimjaa
