/- B1: texts in one: Math Num IS IS2 Mk ISS Gap Few GcdL Pt Gen Only Open OpenS MkS. -/
import Derived.Test.YtehhoplenloocaaGreatChecked
import Derived.WalkKit
import Derived.WalkSpells
import Derived.WalkLawsBesides
import Derived.Lib.Hide
import Derived.Deep.QuietTactic
import Derived.BigQuiet
import Derived.Deep.OwnRows
import Derived.Deep.Quiet
import Derived.ProofKit
import Derived.OpenShut
import Derived.ShutString
import Derived.ChangeOld
import Derived.Lib.SmallJoins
import Derived.Deep.Matrix
/- Plain facts on whole numbers: quotients rounded down, common divisors. No program in sight. -/
namespace Go.Proofs.YtehhoplenloocaaGreat

theorem quo_floor (a b : Int) (hb : 1 ≤ b) : (if a.tmod b < 0 then a.tdiv b - 1 else a.tdiv b) = a / b := by
  have h1 := Int.tdiv_eq_ediv (a := a) (b := b)
  have h2 := Int.tmod_eq_emod (a := a) (b := b)
  have h3 := Int.emod_nonneg a (show b ≠ 0 by omega)
  have h4 := Int.emod_lt_of_pos a (show 0 < b by omega)
  have hs : b.sign = 1 := Int.sign_eq_one_of_pos (by omega)
  by_cases hc : 0 ≤ a ∨ b ∣ a
  · rw [if_pos hc] at h1 h2; rw [h1, h2]; split <;> omega
  · rw [if_neg hc] at h1 h2; rw [h1, h2, hs]; split <;> omega

theorem quo_neg {a b : Int} (hb : 1 ≤ b) (h : a.tmod b < 0) : a.tdiv b - 1 = a / b := by
  have := quo_floor a b hb; rw [if_pos h] at this; exact this
theorem quo_pos {a b : Int} (hb : 1 ≤ b) (h : 0 ≤ a.tmod b) : a.tdiv b = a / b := by
  have := quo_floor a b hb; rw [if_neg (by omega)] at this; exact this

theorem tdiv_low (a b : Int) (ha : -9223372036854775808 < a) (ha' : a ≤ 9223372036854775807) (hb : 1 ≤ b) : -9223372036854775807 ≤ a.tdiv b ∧ a.tdiv b ≤ 9223372036854775807 := by
  rcases Int.le_total 0 a with h | h
  · rw [Int.tdiv_eq_ediv_of_nonneg h]
    have h1 := Int.ediv_nonneg h (show 0 ≤ b by omega)
    have h2 := Int.ediv_le_self b h
    omega
  · have e : a.tdiv b = -((-a).tdiv b) := by rw [Int.neg_tdiv]; omega
    rw [e, Int.tdiv_eq_ediv_of_nonneg (show 0 ≤ -a by omega)]
    have h1 := Int.ediv_nonneg (show 0 ≤ -a by omega) (show 0 ≤ b by omega)
    have h2 := Int.ediv_le_self b (show 0 ≤ -a by omega)
    omega

theorem ediv_low (a b : Int) (ha : -9223372036854775808 < a) (ha' : a ≤ 9223372036854775807) (hb : 1 ≤ b) : -9223372036854775807 ≤ a / b ∧ a / b ≤ 9223372036854775807 := by
  have h2 : a / b ≤ 9223372036854775807 := Int.le_trans (Int.ediv_le_ediv (by omega) ha') (Int.ediv_le_self b (by omega))
  have h1 : -9223372036854775807 ≤ a / b := by
    rw [Int.le_ediv_iff_mul_le (by omega)]
    have : 9223372036854775807 * 1 ≤ 9223372036854775807 * b := Int.mul_le_mul_of_nonneg_left hb (by omega)
    omega
  exact ⟨h1, h2⟩

/-- n lies between lo and hi -/
def inB (n lo hi : Int) : Bool := decide (lo ≤ n) && decide (n ≤ hi)
theorem inB_iff {n lo hi : Int} : inB n lo hi = true ↔ lo ≤ n ∧ n ≤ hi := by simp [inB]
theorem inB_not {n lo hi : Int} : inB n lo hi = false ↔ n < lo ∨ hi < n := by
  rw [← Bool.not_eq_true, inB_iff]; omega

theorem and2_false {p q : Bool} (h : ¬(p = true ∧ q = true)) : p = false ∨ (p = true ∧ q = false) := by
  cases p <;> cases q <;> simp_all
theorem and3_false {p q r : Bool} (h : ¬(p = true ∧ q = true ∧ r = true)) : p = false ∨ (p = true ∧ q = false) ∨ (p = true ∧ q = true ∧ r = false) := by
  cases p <;> cases q <;> cases r <;> simp_all
theorem and4_false {p q r s : Bool} (h : ¬(p = true ∧ q = true ∧ r = true ∧ s = true)) : p = false ∨ (p = true ∧ q = false) ∨ (p = true ∧ q = true ∧ r = false) ∨ (p = true ∧ q = true ∧ r = true ∧ s = false) := by
  cases p <;> cases q <;> cases r <;> cases s <;> simp_all

def gcdI (a b : Int) : Int := (Int.gcd a b : Int)
theorem gcdI_nonneg (a b : Int) : 0 ≤ gcdI a b := by unfold gcdI; omega
theorem gcdI_zero (a : Int) : gcdI a 0 = max a (-a) := by
  unfold gcdI; rw [Int.gcd_zero_right]; omega
theorem gcdI_step (a b : Int) : gcdI b (a.tmod b) = gcdI a b := by
  unfold gcdI
  have h : Int.gcd b (a.tmod b) = Int.gcd a b := by
    unfold Int.gcd
    rw [Int.natAbs_tmod, Nat.gcd_comm a.natAbs, Nat.gcd_rec b.natAbs a.natAbs, Nat.gcd_comm]
  rw [h]
theorem gcdI_stepE (a b : Int) (ha : 0 ≤ a) : gcdI b (a % b) = gcdI a b := by
  rw [← Int.tmod_eq_emod_of_nonneg ha]; exact gcdI_step a b
theorem gcdI_max (a b : Int) : gcdI (max a (-a)) (max b (-b)) = gcdI a b := by
  unfold gcdI
  have h : ∀ x : Int, (max x (-x)).natAbs = x.natAbs := by intro x; omega
  unfold Int.gcd; rw [h, h]
theorem gcdI_comm (a b : Int) : gcdI a b = gcdI b a := by unfold gcdI; rw [Int.gcd_comm]
theorem gcdI_le_right (a b : Int) (hb : 1 ≤ b) : gcdI a b ≤ b := by
  unfold gcdI
  have := Nat.le_of_dvd (show 0 < b.natAbs by omega) (Nat.gcd_dvd_right a.natAbs b.natAbs)
  have e : Int.gcd a b = Nat.gcd a.natAbs b.natAbs := rfl
  rw [e]; omega
theorem gcdI_pos_right (a b : Int) (hb : 1 ≤ b) : 1 ≤ gcdI a b := by
  unfold gcdI
  have := Nat.gcd_pos_of_pos_right a.natAbs (show 0 < b.natAbs by omega)
  have e : Int.gcd a b = Nat.gcd a.natAbs b.natAbs := rfl
  rw [e]; omega
theorem tmod_natAbs (a b : Int) (hb : b ≠ 0) : (a.tmod b).natAbs < b.natAbs := by
  rw [Int.natAbs_tmod]; exact Nat.mod_lt _ (by omega)
theorem tmod_bd (a b : Int) (hb : b ≠ 0) : -(b.natAbs : Int) < a.tmod b ∧ a.tmod b < (b.natAbs : Int) := by
  have := tmod_natAbs a b hb
  generalize a.tmod b = r at *
  omega
theorem max_bd (a : Int) (ha : -9223372036854775808 < a) (ha' : a ≤ 9223372036854775807) : 0 ≤ max a (-a) ∧ max a (-a) ≤ 9223372036854775807 := by omega
theorem div_bd2 {x d : Int} (M : Int) (hx : -M ≤ x) (hx' : x ≤ M) (hd : 1 ≤ d) : -M ≤ x / d ∧ x / d ≤ M := by
  have h2 : x / d ≤ M := by
    rcases Int.lt_or_le x 0 with h | h
    · have := Int.ediv_neg_of_neg_of_pos h (show 0 < d by omega); omega
    · exact Int.le_trans (Int.ediv_le_self d h) hx'
  have h1 : -M ≤ x / d := by
    rw [Int.le_ediv_iff_mul_le (by omega)]
    have : M * 1 ≤ M * d := Int.mul_le_mul_of_nonneg_left hd (by omega)
    have e : -M * d = -(M * d) := Int.neg_mul _ _
    omega
  exact ⟨h1, h2⟩
theorem mul_bd2 {a b M N : Int} (ha : -M ≤ a) (ha' : a ≤ M) (hb : 0 ≤ b) (hb' : b ≤ N) (hM : 0 ≤ M) : -(M * N) ≤ a * b ∧ a * b ≤ M * N := by
  have h1 : a * b ≤ M * b := Int.mul_le_mul_of_nonneg_right ha' hb
  have h2 : M * b ≤ M * N := Int.mul_le_mul_of_nonneg_left hb' hM
  have h3 : (-M) * b ≤ a * b := Int.mul_le_mul_of_nonneg_right ha hb
  have h4 : (-M) * b = -(M * b) := Int.neg_mul _ _
  omega
theorem abs_max (n : Int) : max n (-n) = (n.natAbs : Int) := by omega
end Go.Proofs.YtehhoplenloocaaGreat

/- The walks of the smallest functions on whole numbers. -/
namespace Go.Proofs.YtehhoplenloocaaGreat
open Go.RowKit

theorem below1 (w : World) (o : Obj) : Below w.heap.size w (w.alloc o) := (Below.refl _ _).alloc (Nat.le_refl _) o
theorem below2 (w : World) (o o' : Obj) : Below w.heap.size w ((w.alloc o).alloc o') := (below1 w o).alloc (by simp) o'
theorem below3 (w : World) (o o' o'' : Obj) : Below w.heap.size w (((w.alloc o).alloc o').alloc o'') := (below2 w o o').alloc (by simp; omega) o''
theorem below_le {B B' : Nat} {w w' : World} (h : Below B w w') (hb : B' ≤ B) : Below B' w w' := h.mono hb
/-- a step behind a step, the second one from a world that is no smaller -/
theorem below_then {w w1 w2 : World} {B : Nat} (h : Below B w w1) (hB : B ≤ w1.heap.size) (h2 : Below w1.heap.size w1 w2) : Below B w w2 := h.trans (h2.mono hB)
theorem bcell {W w1 : World} (hb : Below W.heap.size W w1) : (∀ b o, b < W.heap.size → w1.cell? ⟨b, o, none⟩ = W.cell? ⟨b, o, none⟩) ∧ (∀ b o, b < W.heap.size → w1.frozen? ⟨b, o, none⟩ = W.frozen? ⟨b, o, none⟩) :=
  ⟨fun b o h => hb.cell (p := ⟨b, o, none⟩) h, fun b o h => hb.frozen (p := ⟨b, o, none⟩) h⟩
theorem below_draws (B : Nat) (w : World) (n : Nat) : Below B w (w.drewN n) := ⟨rfl, rfl, rfl, Nat.le_refl _, fun _ _ => rfl⟩
/-- a box of four cells -/
structure Box4 (w : World) (n : Nat) (v0 v1 v2 v3 : Value) : Prop where
  lt : n < w.heap.size
  c0 : w.cell? ⟨n, 0, none⟩ = some v0
  c1 : w.cell? ⟨n, 1, none⟩ = some v1
  c2 : w.cell? ⟨n, 2, none⟩ = some v2
  c3 : w.cell? ⟨n, 3, none⟩ = some v3
theorem box4_new (w : World) (v0 v1 v2 v3 : Value) (t : TypeId) : Box4 (w.alloc (.cells #[v0, v1, v2, v3] t)) w.heap.size v0 v1 v2 v3 :=
  ⟨by simp, by rw [World.cell?_alloc_at _ _ _ _ rfl]; rfl, by rw [World.cell?_alloc_at _ _ _ _ rfl]; rfl, by rw [World.cell?_alloc_at _ _ _ _ rfl]; rfl, by rw [World.cell?_alloc_at _ _ _ _ rfl]; rfl⟩
theorem Box4.keep {w w1 : World} {n : Nat} {v0 v1 v2 v3 : Value} (h : Box4 w n v0 v1 v2 v3) (hb : Below w.heap.size w w1) : Box4 w1 n v0 v1 v2 v3 :=
  ⟨Nat.lt_of_lt_of_le h.lt hb.size, (hb.cell h.lt).trans h.c0, (hb.cell h.lt).trans h.c1, (hb.cell h.lt).trans h.c2, (hb.cell h.lt).trans h.c3⟩
theorem wr64 (n : Int) (h : -9223372036854775808 ≤ n ∧ n ≤ 9223372036854775807) : IntKind.i64.wrap n = n := IntWalk.i64_in n h
theorem ret_int {a b : Int} (h : a = b) : Ending.returned (.int .i64 a) = .returned (.int .i64 b) := by rw [h]
theorem ret_bool {a b : Bool} (h : a = b) : Ending.returned (.bool a) = .returned (.bool b) := by rw [h]

set_option maxHeartbeats 400000 in
theorem down_any (a b : Int) (w : World) (ha : -9223372036854775808 < a) (ha' : a ≤ 9223372036854775807) (hb : 1 ≤ b) (hb' : b ≤ 9223372036854775807) :
    Calls Tryz.prog 82 #[.int .i64 a, .int .i64 b] w fun e w' => e = .returned (.int .i64 (a / b)) ∧ w = w' := by
  have hlo := tdiv_low a b ha ha' hb
  go_enter Tryz.func82, Tryz.ntmps82
  go_wp2
  · have h : a.tmod b < 0 := by assumption
    go_ret
    exact ⟨ret_int (quo_neg hb h), rfl⟩
  · have h : 0 ≤ a.tmod b := by assumption
    go_ret
    exact ⟨ret_int (quo_pos hb h), rfl⟩

set_option maxHeartbeats 400000 in
theorem l3Floor_any (a b : Int) (w : World) (ha : -9223372036854775808 < a) (ha' : a ≤ 9223372036854775807) (hb : 1 ≤ b) (hb' : b ≤ 9223372036854775807) :
    Calls Tryz.prog 87 #[.int .i64 a, .int .i64 b] w fun e w' => e = .returned (.int .i64 (a / b)) ∧ w = w' := by
  have hlo := tdiv_low a b ha ha' hb
  go_enter Tryz.func87, Tryz.ntmps87
  go_wp2
  · have h : a.tmod b < 0 := by assumption
    go_ret
    exact ⟨ret_int (quo_neg hb h), rfl⟩
  · have h : 0 ≤ a.tmod b := by assumption
    go_ret
    exact ⟨ret_int (quo_pos hb h), rfl⟩


set_option maxHeartbeats 400000 in
theorem within_any (n lo hi : Int) (w : World) :
    Calls Tryz.prog 58 #[.int .i64 n, .int .i64 lo, .int .i64 hi] w fun e w' => e = .returned (.bool (inB n lo hi)) ∧ w = w' := by
  go_enter Tryz.func58, Tryz.ntmps58
  go_wp2
  all_goals go_ret
  all_goals exact ⟨ret_bool (by simp [inB]; try omega), rfl⟩

set_option maxHeartbeats 400000 in
theorem l1In_any (n lo hi : Int) (w : World) :
    Calls Tryz.prog 64 #[.int .i64 n, .int .i64 lo, .int .i64 hi] w fun e w' => e = .returned (.bool (inB n lo hi)) ∧ w = w' := by
  go_enter Tryz.func64, Tryz.ntmps64
  go_wp2
  all_goals go_ret
  all_goals exact ⟨ret_bool (by simp [inB]; try omega), rfl⟩

set_option maxHeartbeats 400000 in
theorem l1Max_any (a b : Int) (w : World) :
    Calls Tryz.prog 110 #[.int .i64 a, .int .i64 b] w fun e w' => e = .returned (.int .i64 (max a b)) ∧ w = w' := by
  go_enter Tryz.func110, Tryz.ntmps110
  go_wp2
  all_goals go_ret
  all_goals exact ⟨ret_int (by omega), rfl⟩

set_option maxHeartbeats 400000 in
theorem l1Abs_any (a : Int) (w : World) (ha : -9223372036854775808 < a) (ha' : a ≤ 9223372036854775807) :
    Calls Tryz.prog 94 #[.int .i64 a] w fun e w' => e = .returned (.int .i64 (max a (-a))) ∧ w = w' := by
  go_enter Tryz.func94, Tryz.ntmps94
  go_wp2_with (go_at_call 110; (with_reducible refine (l1Max_any _ _ _).mono ?_); rintro e w' ⟨rfl, rfl⟩)
  go_ret
  exact ⟨rfl, rfl⟩

set_option maxHeartbeats 400000 in
theorem magnitude_any (a : Int) (w : World) (ha : -9223372036854775808 < a) (ha' : a ≤ 9223372036854775807) :
    Calls Tryz.prog 92 #[.int .i64 a] w fun e w' => e = .returned (.int .i64 (max a (-a))) ∧ w = w' := by
  rcases Int.lt_or_le a (-a) with h | h
  all_goals
    go_enter Tryz.func92, Tryz.ntmps92
    go_wp2
    all_goals go_ret
    all_goals exact ⟨ret_int (by omega), rfl⟩

set_option maxHeartbeats 400000 in
theorem divisor_any (a b : Int) (w : World) (ha : -9223372036854775808 < a) (ha' : a ≤ 9223372036854775807) (hb : -9223372036854775808 < b) (hb' : b ≤ 9223372036854775807) :
    Calls Tryz.prog 129 #[.int .i64 a, .int .i64 b] w fun e w' => e = .returned (.int .i64 (gcdI a b)) ∧ ∃ n, w' = w.drewN n := by
  go_enter Tryz.func129, Tryz.ntmps129
  go_wp2
  go_loopw [0, 1] (fun x y wr => ∃ (n : Nat) (p q : Int), wr = w.drewN n ∧ x = .int .i64 p ∧ y = .int .i64 q ∧ gcdI p q = gcdI a b ∧ -9223372036854775808 < p ∧ p ≤ 9223372036854775807 ∧ -9223372036854775808 < q ∧ q ≤ 9223372036854775807)
    (fun _ y _ => (intOf y).natAbs)
  case atStart => exact ⟨0, a, b, rfl, rfl, rfl, rfl, ha, ha', hb, hb'⟩
  case round =>
    obtain ⟨n, p, q, rfl, rfl, rfl, hg, h1, h2, h3, h4⟩ := hrel
    have HG := Lib.hid hg; clear hg
    by_cases hq : q = 0
    · subst hq
      go_wp2_with (go_at_call 92; (with_reducible refine (magnitude_any _ _ (by omega) (by omega)).mono ?_); rintro e w' ⟨rfl, rfl⟩)
      go_ret
      exact ⟨ret_int (by rw [← HG.out, gcdI_zero]), _, rfl⟩
    · have HLT := Lib.hid (tmod_natAbs p q hq)
      have hr := tmod_bd p q hq
      have h0 : (q == 0) = false := by simpa using hq
      go_wp2
      go_region
      all_goals
        go_wp2
        go_roundw
        case rel => exact ⟨n + 1, _, _, rfl, rfl, rfl, by rw [gcdI_step]; exact HG.out, by omega, by omega, by omega, by omega⟩
        case measure => exact HLT.out

set_option maxHeartbeats 400000 in
theorem l2Gcd_any (a b : Int) (w : World) (ha : -9223372036854775808 < a) (ha' : a ≤ 9223372036854775807) (hb : -9223372036854775808 < b) (hb' : b ≤ 9223372036854775807) :
    Calls Tryz.prog 111 #[.int .i64 a, .int .i64 b] w fun e w' => e = .returned (.int .i64 (gcdI a b)) ∧ w = w' := by
  have HM := Lib.hid (gcdI_max a b)
  have hp := max_bd a ha ha'
  have hq := max_bd b hb hb'
  go_enter Tryz.func111, Tryz.ntmps111
  go_wp2_with fail
  refine (l1Abs_any a _ ha ha').mono ?_
  rintro e w' ⟨rfl, rfl⟩
  go_wp2_with fail
  refine (l1Abs_any b _ hb hb').mono ?_
  rintro e w' ⟨rfl, rfl⟩
  generalize max a (-a) = p0 at *
  generalize max b (-b) = q0 at *
  go_wp2
  go_loop [0, 1, 5] (fun x y _ => ∃ (p q : Int), x = .int .i64 p ∧ y = .int .i64 q ∧ gcdI p q = gcdI a b ∧ 0 ≤ p ∧ p ≤ 9223372036854775807 ∧ 0 ≤ q ∧ q ≤ 9223372036854775807)
    (fun _ y _ => (intOf y).toNat)
  case atStart => exact ⟨p0, q0, rfl, rfl, HM.out, hp.1, hp.2, hq.1, hq.2⟩
  case round =>
    obtain ⟨p, q, rfl, rfl, hg, h1, h2, h3, h4⟩ := hrel
    have HG := Lib.hid hg; clear hg
    by_cases hq : q = 0
    · subst hq
      go_wp2
      go_ret
      exact ⟨ret_int (by rw [← HG.out, gcdI_zero]; omega), rfl⟩
    · have h0 : (q == 0) = false := by simpa using hq
      have hlt := Int.emod_lt_of_pos p (show 0 < q by omega)
      have hge := Int.emod_nonneg p hq
      go_wp2
      go_round
      case rel => exact ⟨_, _, rfl, rfl, by rw [gcdI_stepE p q h1]; exact HG.out, by omega, by omega, by omega, by omega⟩
      case measure => simp [intOf]; omega
end Go.Proofs.YtehhoplenloocaaGreat

/- Slices of whole numbers that read as lists: what is known of a value in a world, and the smallest functions on them. -/
namespace Go.Proofs.YtehhoplenloocaaGreat
open Go.RowKit
set_option linter.unusedVariables false
set_option linter.unusedSimpArgs false

theorem quiet_eq {P : Program} {f : FuncId} {args : Array Value} {w : World} {n : Nat} {v : Value}
    (h : Calls P f args (w.drewN n) fun e w' => e = .returned v ∧ w.drewN n = w') : Calls P f args (w.drewN n) fun e w'' => e = .returned v ∧ ∃ m, w'' = w.drewN m :=
  h.mono fun _ _ ⟨he, hm⟩ => ⟨he, n, hm.symm⟩
/-- read only: v reads as l in w, through a block below hi -/
def ISr (w : World) (hi : Nat) (v : Value) (l : List Int) : Prop :=
  ∃ a cap, v = .slice a l.length cap ∧ l.length ≤ cap ∧ cap ≤ maxLen ∧
    (l ≠ [] → ∃ b off, a = some ⟨b, off, none⟩ ∧ b < hi ∧ ∀ i, i < l.length → w.cell? ⟨b, off + i, none⟩ = some (.int .i64 (l.getD i 0)))
/-- a block of cells of type t, not frozen, n of them from off on known by their index -/
def BK (w : World) (b off n : Nat) (t : TypeId) (f : Nat → Value) : Prop := ∃ cs : Array Value, w.heap[b]? = some (.cells cs t (0, 0)) ∧ ∀ i, i < n → cs[off + i]? = some (f i)
theorem BK.cell {w : World} {b off n : Nat} {t : TypeId} {f : Nat → Value} (h : BK w b off n t f) {i : Nat} (hi : i < n) : w.cell? ⟨b, off + i, none⟩ = some (f i) := by
  obtain ⟨cs, h1, h2⟩ := h; simp [World.cell?, h1, h2 i hi]
theorem BK.frozen {w : World} {b off n : Nat} {t : TypeId} {f : Nat → Value} (h : BK w b off n t f) (i : Nat) : w.frozen? ⟨b, i, none⟩ = false := by
  obtain ⟨cs, h1, h2⟩ := h; simp [World.frozen?, h1]
theorem BK.lt {w : World} {b off n : Nat} {t : TypeId} {f : Nat → Value} (h : BK w b off n t f) : b < w.heap.size := by
  obtain ⟨cs, h1, h2⟩ := h
  rcases Nat.lt_or_ge b w.heap.size with h' | h'
  · exact h'
  · rw [Array.getElem?_eq_none h'] at h1; cases h1
theorem BK.congr {w : World} {b off n : Nat} {t : TypeId} {f g : Nat → Value} (h : BK w b off n t f) (e : ∀ i, i < n → f i = g i) : BK w b off n t g := by
  obtain ⟨cs, h1, h2⟩ := h; exact ⟨cs, h1, fun i hi => by rw [← e i hi]; exact h2 i hi⟩
theorem BK.of_block {w w' : World} {b off n : Nat} {t : TypeId} {f : Nat → Value} (h : BK w b off n t f) (e : w'.heap[b]? = w.heap[b]?) : BK w' b off n t f := by
  obtain ⟨cs, h1, h2⟩ := h; exact ⟨cs, e.trans h1, h2⟩
theorem BK.set {w : World} {b off n : Nat} {t : TypeId} {f : Nat → Value} (h : BK w b off n t f) {k : Nat} (hk : k < n) (x : Value) : BK (w.setCell ⟨b, off + k, none⟩ x) b off n t (fun i => if i = k then x else f i) := by
  obtain ⟨cs, h1, h2⟩ := h
  refine ⟨cs.setIfInBounds (off + k) x, by simp [World.setCell, Array.getElem?_modify, h1], fun i hi => ?_⟩
  rw [Array.getElem?_setIfInBounds]
  by_cases e : i = k
  · subst e
    have hlt : off + i < cs.size := by
      rcases Nat.lt_or_ge (off + i) cs.size with h' | h'
      · exact h'
      · have := h2 i hi; rw [Array.getElem?_eq_none h'] at this; cases this
    simp [hlt]
  · rw [if_neg (fun h => e (by omega))]
    show cs[off + i]? = some (if i = k then x else f i)
    rw [if_neg e]; exact h2 i hi
theorem BK.keep {w w' : World} {b off n B : Nat} {t : TypeId} {f : Nat → Value} (h : BK w b off n t f) (hb : Below B w w') (hB : b < B) : BK w' b off n t f := h.of_block (hb.block b hB)
theorem BK.of_rowIs {w : World} {b n : Nat} {t : TypeId} {f : Nat → Value} (h : w.rowIs b t n f) : BK w b 0 n t f := by
  obtain ⟨cs, h1, _, h2⟩ := h; exact ⟨cs, h1, fun i hi => by rw [Nat.zero_add]; exact h2 i hi⟩

/-- v reads as l in w, through a block from lo on and below hi, and may be written -/
def IS (w : World) (lo hi : Nat) (v : Value) (l : List Int) : Prop :=
  ∃ a cap, v = .slice a l.length cap ∧ l.length ≤ cap ∧ cap ≤ maxLen ∧
    (l ≠ [] → ∃ b off, a = some ⟨b, off, none⟩ ∧ lo ≤ b ∧ b < hi ∧ BK w b off l.length 3 (fun i => .int .i64 (l.getD i 0)))

theorem IS.read {w : World} {lo hi : Nat} {v : Value} {l : List Int} (h : IS w lo hi v l) : ISr w hi v l := by
  obtain ⟨a, cap, hv, h1, h2, h3⟩ := h
  exact ⟨a, cap, hv, h1, h2, fun hl => let ⟨b, off, ha, _, hb', hc⟩ := h3 hl; ⟨b, off, ha, hb', fun i hi => hc.cell hi⟩⟩
theorem ISr.cases {w : World} {hi : Nat} {v : Value} {l : List Int} (h : ISr w hi v l) :
    (l = [] ∧ ∃ a cap, v = .slice a 0 cap) ∨ (0 < l.length ∧ l.length ≤ 9223372036854775807 ∧ ∃ b off cap, v = .slice (some ⟨b, off, none⟩) l.length cap ∧ b < hi ∧ ∀ i, i < l.length → w.cell? ⟨b, off + i, none⟩ = some (.int .i64 (l.getD i 0))) := by
  obtain ⟨a, cap, hv, h1, h2, h3⟩ := h
  unfold maxLen at h2
  by_cases hl : l = []
  · subst hl; exact .inl ⟨rfl, a, cap, hv⟩
  · obtain ⟨b, off, rfl, hb, hc⟩ := h3 hl
    exact .inr ⟨List.length_pos_iff.2 hl, by omega, b, off, cap, hv, hb, hc⟩
theorem IS.cases {w : World} {lo hi : Nat} {v : Value} {l : List Int} (h : IS w lo hi v l) :
    (l = [] ∧ ∃ a cap, v = .slice a 0 cap) ∨ (0 < l.length ∧ l.length ≤ 9223372036854775807 ∧ ∃ b off cap, v = .slice (some ⟨b, off, none⟩) l.length cap ∧ l.length ≤ cap ∧ cap ≤ maxLen ∧ lo ≤ b ∧ b < hi ∧ BK w b off l.length 3 (fun i => .int .i64 (l.getD i 0))) := by
  obtain ⟨a, cap, hv, h1, h2, h3⟩ := h
  by_cases hl : l = []
  · subst hl; exact .inl ⟨rfl, a, cap, hv⟩
  · obtain ⟨b, off, rfl, hb, hb', hc⟩ := h3 hl
    exact .inr ⟨List.length_pos_iff.2 hl, by unfold maxLen at h2; omega, b, off, cap, hv, h1, h2, hb, hb', hc⟩
theorem ISr.keep {w w' : World} {hi B : Nat} {v : Value} {l : List Int} (h : ISr w hi v l) (hb : Below B w w') (hB : hi ≤ B) : ISr w' hi v l := by
  obtain ⟨a, cap, hv, h1, h2, h3⟩ := h
  exact ⟨a, cap, hv, h1, h2, fun hl => let ⟨b, off, ha, hb', hc⟩ := h3 hl; ⟨b, off, ha, hb', fun i hi => (hb.cell (p := ⟨b, off + i, none⟩) (Nat.lt_of_lt_of_le hb' hB)).trans (hc i hi)⟩⟩
theorem IS.of_blocks {w w' : World} {lo hi : Nat} {v : Value} {l : List Int} (h : IS w lo hi v l) (hb : ∀ b, lo ≤ b → b < hi → b < w.heap.size → w'.heap[b]? = w.heap[b]?) : IS w' lo hi v l := by
  obtain ⟨a, cap, hv, h1, h2, h3⟩ := h
  exact ⟨a, cap, hv, h1, h2, fun hl => let ⟨b, off, ha, hb1, hb', hc⟩ := h3 hl; ⟨b, off, ha, hb1, hb', hc.of_block (hb b hb1 hb' hc.lt)⟩⟩
theorem IS.keep {w w' : World} {lo hi B : Nat} {v : Value} {l : List Int} (h : IS w lo hi v l) (hb : Below B w w') (hB : hi ≤ B) : IS w' lo hi v l :=
  h.of_blocks fun b _ h2 _ => hb.block b (by omega)
theorem IS.mono {w : World} {lo hi lo' hi' : Nat} {v : Value} {l : List Int} (h : IS w lo hi v l) (h1 : lo' ≤ lo) (h2 : hi ≤ hi') : IS w lo' hi' v l := by
  obtain ⟨a, cap, hv, g1, g2, g3⟩ := h
  exact ⟨a, cap, hv, g1, g2, fun hl => let ⟨b, off, ha, hb1, hb', hc⟩ := g3 hl; ⟨b, off, ha, by omega, by omega, hc⟩⟩
theorem IS.draws {w : World} {lo hi : Nat} {v : Value} {l : List Int} (h : IS w lo hi v l) (n : Nat) : IS (w.drewN n) lo hi v l := h
theorem ISr.draws {w : World} {hi : Nat} {v : Value} {ls : List Int} (h : ISr w hi v ls) (n : Nat) : ISr (w.drewN n) hi v ls := h
theorem IS.nil (w : World) (lo hi : Nat) : IS w lo hi (.slice none 0 0) [] := ⟨none, 0, rfl, Nat.le_refl _, Nat.zero_le _, fun h => absurd rfl h⟩
theorem IS.of_BK {w : World} {lo hi b off cap : Nat} {l : List Int} (h : BK w b off l.length 3 (fun i => .int .i64 (l.getD i 0))) (hc : l.length ≤ cap) (hm : cap ≤ maxLen) (hlo : lo ≤ b) (hhi : b < hi) : IS w lo hi (.slice (some ⟨b, off, none⟩) l.length cap) l :=
  ⟨_, _, rfl, hc, hm, fun _ => ⟨b, off, rfl, hlo, hhi, h⟩⟩
/-- what the call itself has made -/
theorem IS.of_owned {w : World} {B : Nat} {v : Value} {l : List Int} (h : w.ownsRow B 3 1 v l.length (l.map (Value.int .i64))) : IS w B w.heap.size v l := by
  obtain ⟨h1, h2⟩ := h
  rcases h2 with ⟨rfl, h0⟩ | ⟨g, cap, cur, rfl, hg, hh, hn, hc, hs, ht⟩
  · have : l = [] := List.length_eq_zero_iff.1 h0
    subst this; exact IS.nil _ _ _
  · have hbk : BK w g 0 l.length 3 (fun i => .int .i64 (l.getD i 0)) := ⟨cur, hh, fun i hi => by
      rw [Nat.zero_add, ← Array.getElem?_toList]
      have e1 : (cur.toList.take (l.length * 1))[i]? = (l.map (Value.int .i64))[i]? := by rw [ht]
      rw [List.getElem?_take_of_lt (by omega)] at e1
      rw [e1, List.getElem?_map, List.getElem?_eq_getElem hi]
      show _ = some (Value.int .i64 (l.getD i 0))
      rw [List.getD_eq_getElem?_getD, List.getElem?_eq_getElem hi]; rfl⟩
    exact IS.of_BK hbk hn hc hg hbk.lt

def allIn (l : List Int) (lo hi : Int) : Bool := l.all fun x => inB x lo hi
theorem allIn_step (l : List Int) (lo hi : Int) (k : Nat) (h : k < l.length) : allIn (l.take (k + 1)) lo hi = (allIn (l.take k) lo hi && inB (l.getD k 0) lo hi) := by
  unfold allIn
  rw [List.take_succ_eq_append_getElem h, List.all_append, List.getD_eq_getElem?_getD, List.getElem?_eq_getElem h]; simp
theorem allIn_false (l : List Int) (lo hi : Int) (k : Nat) (h : k < l.length) (hf : inB (l.getD k 0) lo hi = false) : allIn l lo hi = false := by
  unfold allIn
  rw [List.all_eq_false]
  refine ⟨l.getD k 0, ?_, by rw [hf]; simp⟩
  rw [List.getD_eq_getElem?_getD, List.getElem?_eq_getElem h]; exact List.getElem_mem h

set_option maxHeartbeats 1000000 in
theorem allWithin_any (l : List Int) (v : Value) (lo hi : Int) (hb : Nat) (w : World) (h : ISr w hb v l) :
    Calls Tryz.prog 93 #[v, .int .i64 lo, .int .i64 hi] w fun e w' => e = .returned (.bool (allIn l lo hi)) ∧ w = w' := by
  rcases h.cases with ⟨rfl, a, cap, rfl⟩ | ⟨hpos, hlen, b, off, cap, rfl, hbb, hcell⟩
  · go_enter Tryz.func93, Tryz.ntmps93
    go_wp2
    refine wp_loop_rounds 1 ?_
    rw [rounds_succ]
    go_wp2
    go_ret
    exact ⟨rfl, rfl⟩
  · obtain ⟨n, hn⟩ : ∃ n, n = l.length := ⟨_, rfl⟩
    rw [← hn] at hlen hpos ⊢
    have HN := Lib.hid hn; clear hn
    have HC := Lib.hid hcell; clear hcell
    go_enter Tryz.func93, Tryz.ntmps93
    go_wp2
    go_loop [8, 11] (fun x i => ∃ k : Nat, k ≤ n ∧ i = .int .i64 k ∧ allIn (l.take k) lo hi = true) (fun _ i => n - (intOf i).toNat)
    case atStart => exact ⟨0, by omega, rfl, rfl⟩
    case round =>
      obtain ⟨k, hk, rfl, hall⟩ := hrel
      have HA := Lib.hid hall; clear hall
      by_cases hlt : k < n
      · have hl : k < l.length := by rw [← HN.out]; exact hlt
        have hck := HC.out k hl
        have hst := allIn_step l lo hi k hl
        have hfl := allIn_false l lo hi k hl
        have HS := Lib.hid hst; clear hst
        have HF := Lib.hid hfl; clear hfl hl
        generalize l.getD k 0 = x at *
        cases hx : inB x lo hi
        · have HX := Lib.hid hx
          go_wp2_with (go_at_call 58; (with_reducible refine (within_any _ _ _ _).mono ?_); rintro e w' ⟨rfl, rfl⟩)
          go_ret
          exact ⟨ret_bool (HF.out HX.out).symm, rfl⟩
        · have HX := Lib.hid hx
          go_wp2_with (go_at_call 58; (with_reducible refine (within_any _ _ _ _).mono ?_); rintro e w' ⟨rfl, rfl⟩)
          go_round
          case rel => exact ⟨k + 1, by omega, by go_num, by rw [HS.out, HA.out, HX.out]; rfl⟩
          case measure => simp [intOf]; omega
      · obtain rfl : k = n := by omega
        go_wp2
        go_ret
        refine ⟨ret_bool ?_, rfl⟩
        have := HA.out
        rw [HN.out, List.take_length] at this
        exact this.symm
end Go.Proofs.YtehhoplenloocaaGreat

/- Copies of slices and comparing slices: the laws' own helpers. -/
namespace Go.Proofs.YtehhoplenloocaaGreat
open Go.RowKit
set_option linter.unusedVariables false
set_option linter.unusedSimpArgs false

theorem info_int : (Tryz.prog.info? 3).map (fun i => (i.zero, i.size, i.bytes)) = some (some (.int .i64 0), 1, 8) := by kernel_rfl

theorem IS.of_row {w : World} {b n lo hi : Nat} {f : Nat → Value} {l : List Int} (h : w.rowIs b 3 n f) (hn : n = l.length) (hm : n ≤ maxLen) (hf : ∀ i, i < n → f i = .int .i64 (l.getD i 0)) (hlo : lo ≤ b) (hhi : b < hi) :
    IS w lo hi (.slice (some ⟨b, 0, none⟩) n n) l := by
  subst hn
  exact IS.of_BK ((BK.of_rowIs h).congr hf) (Nat.le_refl _) hm hlo hhi

def copyF (l : List Int) (k : Nat) : Nat → Value := fun j => if j < k then .int .i64 (l.getD j 0) else .int .i64 0
theorem copyF_set (w : World) (b t n : Nat) (l : List Int) (k : Nat) (h : w.rowIs b t n (copyF l k)) : (w.setCell ⟨b, k, none⟩ (.int .i64 (l.getD k 0))).rowIs b t n (copyF l (k + 1)) := by
  refine (h.set k _).congr fun j _ => ?_
  unfold copyF
  by_cases e : j = k
  · subst e; simp
  · rw [if_neg e]
    by_cases e2 : j < k
    · rw [if_pos e2, if_pos (by omega)]
    · rw [if_neg e2, if_neg (by omega)]

theorem take_eq_step {l1 l2 : List Int} {k : Nat} (h1 : k < l1.length) (h2 : k < l2.length) (h : l1.take k = l2.take k) (he : l1.getD k 0 = l2.getD k 0) : l1.take (k + 1) = l2.take (k + 1) := by
  rw [List.take_succ_eq_append_getElem h1, List.take_succ_eq_append_getElem h2, h]
  rw [List.getD_eq_getElem?_getD, List.getD_eq_getElem?_getD, List.getElem?_eq_getElem h1, List.getElem?_eq_getElem h2] at he
  simp at he; rw [he]
theorem ne_of_getD {l1 l2 : List Int} {k : Nat} (he : l1.getD k 0 ≠ l2.getD k 0) : decide (l1 = l2) = false := by
  rw [decide_eq_false_iff_not]; intro h; exact he (by rw [h])

end Go.Proofs.YtehhoplenloocaaGreat

/- Marking the cells of a slice with numbers that go up, and asking for the marks. -/
namespace Go.Proofs.YtehhoplenloocaaGreat
open Go.RowKit
set_option linter.unusedVariables false
set_option linter.unusedSimpArgs false

/-- the block of a slice that holds something -/
def blkOf : Value → Option Nat
  | .slice (some a) (_ + 1) _ => some a.block
  | _ => none
theorem blkOf_some (b off n cap : Nat) (h : 0 < n) : blkOf (.slice (some ⟨b, off, none⟩) n cap) = some b := by
  cases n with
  | zero => omega
  | succ n => rfl
theorem IS.blk {w : World} {lo hi : Nat} {v : Value} {l : List Int} (h : IS w lo hi v l) : blkOf v = none ∨ ∃ b, blkOf v = some b ∧ lo ≤ b ∧ b < hi ∧ ∃ cs, w.heap[b]? = some (.cells cs 3 (0, 0)) := by
  rcases h.cases with ⟨rfl, a, cap, rfl⟩ | ⟨hpos, hlen, b, off, cap, rfl, g1, g2, h1, h2, h3⟩
  · left; cases a <;> rfl
  · right; obtain ⟨cs, hcs, _⟩ := h3; exact ⟨b, blkOf_some _ _ _ _ hpos, h1, h2, cs, hcs⟩
theorem IS.grown {w w' : World} {lo hi : Nat} {v : Value} {l : List Int} {ob : Option Nat} (h : IS w lo hi v l) (hg : w.grownBy w' ob) (hne : blkOf v = none ∨ blkOf v ≠ ob) : IS w' lo hi v l := by
  rcases h.cases with ⟨rfl, a, cap, rfl⟩ | ⟨hpos, hlen, b, off, cap, rfl, g1, g2, h1, h2, h3⟩
  · exact h.imp fun _ ⟨_, hv, g1, g2, _⟩ => ⟨_, hv, g1, g2, fun hn => absurd rfl hn⟩
  · rw [blkOf_some _ _ _ _ hpos] at hne
    exact IS.of_BK (h3.of_block (hg.block b h3.lt (by rcases hne with h | h <;> simp_all))) g1 g2 h1 h2
/-- .. where the row that is written is one of another type -/
theorem IS.grown_type {w w' : World} {lo hi : Nat} {v : Value} {l : List Int} {ob : Option Nat} (h : IS w lo hi v l) (hg : w.grownBy w' ob) (hne : ∀ g, ob = some g → ∃ c e fr, w.heap[g]? = some (.cells c e fr) ∧ e ≠ 3) : IS w' lo hi v l := by
  refine h.grown hg ?_
  rcases h.blk with hb | ⟨b, hb, _, _, cs, hcs⟩
  · exact .inl hb
  · right
    rw [hb]
    intro e
    obtain ⟨c, t, fr, h1, h2⟩ := hne b e.symm
    rw [hcs] at h1
    injection h1 with h1; injection h1 with _ h1 _
    exact h2 h1.symm

/-- n numbers from k on -/
def markL (n : Nat) (k : Int) : List Int := (List.range n).map fun (i : Nat) => k + (i : Int)
theorem markL_len (n : Nat) (k : Int) : (markL n k).length = n := by simp [markL]
theorem markL_getD (n : Nat) (k : Int) (i : Nat) (h : i < n) : (markL n k).getD i 0 = k + i := by
  rw [List.getD_eq_getElem?_getD]; simp [markL, h]
def markF (l : List Int) (k : Int) (j : Nat) : Nat → Value := fun i => if i < j then .int .i64 (k + i) else .int .i64 (l.getD i 0)

end Go.Proofs.YtehhoplenloocaaGreat

/- Slices of slices of whole numbers that read as lists of lists. -/
namespace Go.Proofs.YtehhoplenloocaaGreat
open Go.RowKit
set_option linter.unusedVariables false
set_option linter.unusedSimpArgs false

/-- read only -/
def ISSr (w : World) (hi : Nat) (v : Value) (ls : List (List Int)) : Prop :=
  ∃ a cap, v = .slice a ls.length cap ∧ ls.length ≤ cap ∧ cap ≤ maxLen ∧
    (ls ≠ [] → ∃ b off, ∃ V : Nat → Value, a = some ⟨b, off, none⟩ ∧ b < hi ∧ ∀ i, i < ls.length → w.cell? ⟨b, off + i, none⟩ = some (V i) ∧ ISr w hi (V i) (ls.getD i []))
/-- to be written: the rows lie in blocks of their own -/
def ISS (w : World) (lo hi : Nat) (v : Value) (ls : List (List Int)) : Prop :=
  ∃ a cap, v = .slice a ls.length cap ∧ ls.length ≤ cap ∧ cap ≤ maxLen ∧
    (ls ≠ [] → ∃ b off, ∃ V : Nat → Value, a = some ⟨b, off, none⟩ ∧ lo ≤ b ∧ b < hi ∧ BK w b off ls.length 25 V ∧ (∀ i, i < ls.length → IS w lo hi (V i) (ls.getD i [])) ∧
      (∀ i j, i < j → j < ls.length → blkOf (V j) = none ∨ blkOf (V j) ≠ blkOf (V i)))

theorem ISS.read {w : World} {lo hi : Nat} {v : Value} {ls : List (List Int)} (h : ISS w lo hi v ls) : ISSr w hi v ls := by
  obtain ⟨a, cap, hv, h1, h2, h3⟩ := h
  exact ⟨a, cap, hv, h1, h2, fun hl => let ⟨b, off, V, ha, _, hb', hc, hr, _⟩ := h3 hl; ⟨b, off, V, ha, hb', fun i hi => ⟨hc.cell hi, (hr i hi).read⟩⟩⟩
theorem ISSr.cases {w : World} {hi : Nat} {v : Value} {ls : List (List Int)} (h : ISSr w hi v ls) :
    (ls = [] ∧ ∃ a cap, v = .slice a 0 cap) ∨ (0 < ls.length ∧ ls.length ≤ 9223372036854775807 ∧ ∃ b off cap, ∃ V : Nat → Value, v = .slice (some ⟨b, off, none⟩) ls.length cap ∧ b < hi ∧ ∀ i, i < ls.length → w.cell? ⟨b, off + i, none⟩ = some (V i) ∧ ISr w hi (V i) (ls.getD i [])) := by
  obtain ⟨a, cap, hv, h1, h2, h3⟩ := h
  unfold maxLen at h2
  by_cases hl : ls = []
  · subst hl; exact .inl ⟨rfl, a, cap, hv⟩
  · obtain ⟨b, off, V, rfl, hb, hc⟩ := h3 hl
    exact .inr ⟨List.length_pos_iff.2 hl, by omega, b, off, cap, V, hv, hb, hc⟩
theorem ISS.cases {w : World} {lo hi : Nat} {v : Value} {ls : List (List Int)} (h : ISS w lo hi v ls) :
    (ls = [] ∧ ∃ a cap, v = .slice a 0 cap) ∨ (0 < ls.length ∧ ls.length ≤ 9223372036854775807 ∧ ∃ b off cap, ∃ V : Nat → Value, v = .slice (some ⟨b, off, none⟩) ls.length cap ∧ lo ≤ b ∧ b < hi ∧ BK w b off ls.length 25 V ∧ (∀ i, i < ls.length → IS w lo hi (V i) (ls.getD i [])) ∧
      (∀ i j, i < j → j < ls.length → blkOf (V j) = none ∨ blkOf (V j) ≠ blkOf (V i))) := by
  obtain ⟨a, cap, hv, h1, h2, h3⟩ := h
  unfold maxLen at h2
  by_cases hl : ls = []
  · subst hl; exact .inl ⟨rfl, a, cap, hv⟩
  · obtain ⟨b, off, V, rfl, hb⟩ := h3 hl
    exact .inr ⟨List.length_pos_iff.2 hl, by omega, b, off, cap, V, hv, hb⟩
theorem ISS.of_blocks {w w' : World} {lo hi : Nat} {v : Value} {ls : List (List Int)} (h : ISS w lo hi v ls) (hb : ∀ b, lo ≤ b → b < hi → b < w.heap.size → w'.heap[b]? = w.heap[b]?) : ISS w' lo hi v ls := by
  obtain ⟨a, cap, hv, h1, h2, h3⟩ := h
  exact ⟨a, cap, hv, h1, h2, fun hl => let ⟨b, off, V, ha, hb1, hb', hc, hr, hd⟩ := h3 hl; ⟨b, off, V, ha, hb1, hb', hc.of_block (hb b hb1 hb' hc.lt), fun i hi => (hr i hi).of_blocks hb, hd⟩⟩
theorem ISSr.keep {w w' : World} {hi B : Nat} {v : Value} {ls : List (List Int)} (h : ISSr w hi v ls) (hb : Below B w w') (hB : hi ≤ B) : ISSr w' hi v ls := by
  obtain ⟨a, cap, hv, h1, h2, h3⟩ := h
  exact ⟨a, cap, hv, h1, h2, fun hl => let ⟨b, off, V, ha, hb', hc⟩ := h3 hl; ⟨b, off, V, ha, hb', fun i hi => ⟨(hb.cell (p := ⟨b, off + i, none⟩) (Nat.lt_of_lt_of_le hb' hB)).trans (hc i hi).1, (hc i hi).2.keep hb hB⟩⟩⟩
theorem ISS.keep {w w' : World} {lo hi B : Nat} {v : Value} {ls : List (List Int)} (h : ISS w lo hi v ls) (hb : Below B w w') (hB : hi ≤ B) : ISS w' lo hi v ls :=
  h.of_blocks fun b _ h2 _ => hb.block b (by omega)
theorem ISS.mono {w : World} {lo hi lo' hi' : Nat} {v : Value} {ls : List (List Int)} (h : ISS w lo hi v ls) (h1 : lo' ≤ lo) (h2 : hi ≤ hi') : ISS w lo' hi' v ls := by
  obtain ⟨a, cap, hv, g1, g2, g3⟩ := h
  exact ⟨a, cap, hv, g1, g2, fun hl => let ⟨b, off, V, ha, hb1, hb', hc, hr, hd⟩ := g3 hl; ⟨b, off, V, ha, by omega, by omega, hc, fun i hi => (hr i hi).mono h1 h2, hd⟩⟩
theorem ISS.draws {w : World} {lo hi : Nat} {v : Value} {ls : List (List Int)} (h : ISS w lo hi v ls) (n : Nat) : ISS (w.drewN n) lo hi v ls := h
theorem ISSr.draws {w : World} {hi : Nat} {v : Value} {ls : List (List Int)} (h : ISSr w hi v ls) (n : Nat) : ISSr (w.drewN n) hi v ls := h
theorem ISS.nil (w : World) (lo hi : Nat) : ISS w lo hi (.slice none 0 0) [] := ⟨none, 0, rfl, Nat.le_refl _, Nat.zero_le _, fun h => absurd rfl h⟩

theorem take_eq_stepL {l1 l2 : List (List Int)} {k : Nat} (h1 : k < l1.length) (h2 : k < l2.length) (h : l1.take k = l2.take k) (he : l1.getD k [] = l2.getD k []) : l1.take (k + 1) = l2.take (k + 1) := by
  rw [List.take_succ_eq_append_getElem h1, List.take_succ_eq_append_getElem h2, h]
  rw [List.getD_eq_getElem?_getD, List.getD_eq_getElem?_getD, List.getElem?_eq_getElem h1, List.getElem?_eq_getElem h2] at he
  simp at he; rw [he]
theorem ne_of_getDL {l1 l2 : List (List Int)} {k : Nat} (he : l1.getD k [] ≠ l2.getD k []) : decide (l1 = l2) = false := by
  rw [decide_eq_false_iff_not]; intro h; exact he (by rw [h])

end Go.Proofs.YtehhoplenloocaaGreat

/- Coins without a common divisor reach every sum from 870 on. No program in sight. -/
namespace Go.Proofs.YtehhoplenloocaaGreat
set_option linter.unusedVariables false

/-- n is a sum of at most k coins -/
def rk (L : List Nat) : Nat → Nat → Prop
  | 0, n => n = 0
  | k + 1, n => rk L k n ∨ ∃ c, c ∈ L ∧ c ≤ n ∧ rk L k (n - c)
theorem rk_zero (L : List Nat) : ∀ k, rk L k 0
  | 0 => rfl
  | k + 1 => .inl (rk_zero L k)
theorem rk_add {L : List Nat} {c : Nat} (hc : c ∈ L) {k n : Nat} (h : rk L k n) : rk L (k + 1) (n + c) :=
  .inr ⟨c, hc, by omega, by rw [Nat.add_sub_cancel]; exact h⟩
theorem rk_le {L : List Nat} (hL : ∀ c ∈ L, c ≤ 30) : ∀ k n, rk L k n → n ≤ 30 * k
  | 0, n, h => by have : n = 0 := h; omega
  | k + 1, n, h => by
    rcases h with h | ⟨c, hc, hle, h⟩
    · have := rk_le hL k n h; omega
    · have := rk_le hL k _ h; have := hL c hc; omega
theorem rk_many {L : List Nat} {a : Nat} (ha : a ∈ L) : ∀ (q k n : Nat), rk L k n → ∃ k', rk L k' (n + q * a)
  | 0, k, n, h => ⟨k, by simpa using h⟩
  | q + 1, k, n, h => by
    obtain ⟨k', h'⟩ := rk_many ha q k n h
    exact ⟨k' + 1, by rw [Nat.succ_mul, ← Nat.add_assoc]; exact rk_add ha h'⟩

/-- the common divisor of a list -/
def gcdN (L : List Nat) : Nat := L.foldl Nat.gcd 0

section
variable (a : Nat) (S : Nat → Prop)
/-- a step that stays in S, modulo a -/
def Stay (d : Nat) : Prop := ∀ r, r < a → S r → S ((r + d) % a)
variable {a : Nat} {S : Nat → Prop}
theorem stay_cong (ha : 0 < a) {d e : Nat} (h : d % a = e % a) (hd : Stay a S d) : Stay a S e := by
  intro r hr hs
  have := hd r hr hs
  rwa [Nat.add_mod, h, ← Nat.add_mod] at this
theorem stay_add (ha : 0 < a) {d e : Nat} (hd : Stay a S d) (he : Stay a S e) : Stay a S (d + e) := by
  intro r hr hs
  have h1 := he _ (Nat.mod_lt _ ha) (hd r hr hs)
  rwa [Nat.add_mod, Nat.mod_mod, ← Nat.add_mod, Nat.add_assoc] at h1
theorem stay_zero (ha : 0 < a) : Stay a S 0 := by
  intro r hr hs; rw [Nat.add_zero, Nat.mod_eq_of_lt hr]; exact hs
theorem stay_mul (ha : 0 < a) {d : Nat} (hd : Stay a S d) : ∀ q, Stay a S (d * q)
  | 0 => stay_zero ha
  | q + 1 => by rw [Nat.mul_succ]; exact stay_add ha (stay_mul ha hd q) hd
theorem stay_mod (ha : 0 < a) {d e : Nat} (hd : Stay a S d) (he : Stay a S e) : Stay a S (e % d) := by
  have h := stay_add ha he (stay_mul ha hd (e / d * (a - 1)))
  refine stay_cong ha ?_ h
  have e1 : e + d * (e / d * (a - 1)) = e % d + a * (d * (e / d)) := by
    have h1 := Nat.mod_add_div e d
    have h2 : d * (e / d * (a - 1)) + d * (e / d) = a * (d * (e / d)) := by
      have : a = (a - 1) + 1 := by omega
      rw [← Nat.mul_assoc]
      conv => rhs; rw [this, Nat.add_mul, Nat.one_mul]
      rw [Nat.mul_comm (d * (e / d)) (a - 1)]
    omega
  rw [e1, Nat.add_mul_mod_self_left]
theorem stay_gcd (ha : 0 < a) : ∀ (d e : Nat), Stay a S d → Stay a S e → Stay a S (Nat.gcd d e) := by
  intro d
  induction d using Nat.strongRecOn with
  | _ d ih =>
    intro e hd he
    rcases Nat.eq_zero_or_pos d with h | h
    · subst h; rw [Nat.gcd_zero_left]; exact he
    · rw [Nat.gcd_rec]; exact ih (e % d) (Nat.mod_lt _ h) d (stay_mod ha hd he) hd
theorem stay_fold (ha : 0 < a) : ∀ (L : List Nat) (g : Nat), Stay a S g → (∀ c ∈ L, Stay a S c) → Stay a S (L.foldl Nat.gcd g)
  | [], g, hg, _ => hg
  | c :: L, g, hg, h => stay_fold ha L _ (stay_gcd ha g c hg (h c (by simp))) fun c' hc' => h c' (by simp [hc'])
theorem stay_all (ha : 0 < a) {L : List Nat} (hL : ∀ c ∈ L, Stay a S c) (hg : gcdN L = 1) (h0 : S 0) : ∀ r, r < a → S r := by
  have h1 : Stay a S 1 := by rw [← hg]; exact stay_fold ha L 0 (stay_zero ha) hL
  intro r
  induction r with
  | zero => intro _; exact h0
  | succ r ih =>
    intro hr
    have := h1 r (by omega) (ih (by omega))
    rwa [Nat.mod_eq_of_lt hr] at this
end

/-- how many of the first n have the property -/
noncomputable def cnt (S : Nat → Prop) (n : Nat) : Nat := by
  classical exact ((List.range n).filter fun r => decide (S r)).length
theorem cnt_succ (S : Nat → Prop) (n : Nat) : cnt S (n + 1) = cnt S n + (by classical exact if S n then 1 else 0) := by
  classical
  unfold cnt
  rw [List.range_succ, List.filter_append, List.length_append]
  congr 1
  by_cases h : S n <;> simp [h]
theorem cnt_le (S : Nat → Prop) : ∀ n, cnt S n ≤ n
  | 0 => by simp [cnt]
  | n + 1 => by classical
    rw [cnt_succ]; have := cnt_le S n; split <;> omega
theorem cnt_mono {S T : Nat → Prop} (h : ∀ r, S r → T r) : ∀ n, cnt S n ≤ cnt T n
  | 0 => by simp [cnt]
  | n + 1 => by classical
    rw [cnt_succ, cnt_succ]
    have := cnt_mono h n
    have h1 := h n
    split <;> split <;> first | omega | (exfalso; rename_i a b; exact b (h1 a))
theorem cnt_same {S T : Nat → Prop} (h : ∀ r, S r → T r) : ∀ n, cnt S n = cnt T n → ∀ r, r < n → T r → S r
  | 0, _, r, hr, _ => by omega
  | n + 1, he, r, hr, ht => by classical
    rw [cnt_succ, cnt_succ] at he
    have hm := cnt_mono h n
    have h1 := h n
    by_cases e : r = n
    · subst e
      by_cases hs : S r
      · exact hs
      · rw [if_neg hs, if_pos ht] at he; omega
    · refine cnt_same h n ?_ r (by omega) ht
      by_cases hs : S n
      · rw [if_pos hs, if_pos (h1 hs)] at he; omega
      · rw [if_neg hs] at he; split at he <;> omega
theorem cnt_full {S : Nat → Prop} : ∀ n, cnt S n = n → ∀ r, r < n → S r
  | 0, _, r, hr => by omega
  | n + 1, he, r, hr => by classical
    rw [cnt_succ] at he
    have hl := cnt_le S n
    by_cases hs : S n
    · rw [if_pos hs] at he
      by_cases e : r = n
      · subst e; exact hs
      · exact cnt_full n (by omega) r (by omega)
    · rw [if_neg hs] at he; omega

/-- the rests modulo a of the sums of at most k coins -/
def Rst (L : List Nat) (a k r : Nat) : Prop := ∃ m, m % a = r ∧ rk L k m
theorem rst_full {L : List Nat} {a : Nat} (ha : 0 < a) (hg : gcdN L = 1) : ∀ k, k + 1 ≤ cnt (Rst L a k) a ∨ ∀ r, r < a → Rst L a k r
  | 0 => by
    classical
    left
    have h0 : Rst L a 0 0 := ⟨0, by simp, rfl⟩
    have : ∀ n, 0 < n → 1 ≤ cnt (Rst L a 0) n := by
      intro n hn
      induction n with
      | zero => omega
      | succ n ih =>
        rw [cnt_succ]
        rcases Nat.eq_zero_or_pos n with e | e
        · subst e; rw [if_pos h0]; omega
        · have := ih e; omega
    exact this a ha
  | k + 1 => by
    have hsub : ∀ r, Rst L a k r → Rst L a (k + 1) r := fun r ⟨m, hm, h⟩ => ⟨m, hm, .inl h⟩
    rcases rst_full ha hg k with h | h
    · by_cases he : cnt (Rst L a k) a = cnt (Rst L a (k + 1)) a
      · right
        have hclosed : ∀ c ∈ L, Stay a (Rst L a k) c := by
          intro c hc r hr ⟨m, hm, hk⟩
          refine cnt_same hsub a he _ (Nat.mod_lt _ ha) ⟨m + c, ?_, rk_add hc hk⟩
          rw [Nat.add_mod, hm, ← Nat.mod_eq_of_lt hr, ← Nat.add_mod, Nat.mod_eq_of_lt hr]
        intro r hr
        exact hsub r (stay_all ha hclosed hg ⟨0, by simp, rk_zero L k⟩ r hr)
      · left
        have := cnt_mono hsub a
        omega
    · right; intro r hr; exact hsub r (h r hr)

/-- every number from 870 on is a sum of coins -/
theorem reach_all {L : List Nat} {a : Nat} (haL : a ∈ L) (hL : ∀ c ∈ L, 1 ≤ c ∧ c ≤ 30) (hg : gcdN L = 1) (n : Nat) (hn : 870 ≤ n) : ∃ k, rk L k n := by
  have ha := hL a haL
  have hall : ∀ r, r < a → Rst L a (a - 1) r := by
    rcases rst_full (L := L) (a := a) (by omega) hg (a - 1) with h | h
    · have := cnt_le (Rst L a (a - 1)) a
      exact cnt_full a (by omega)
    · exact h
  obtain ⟨m, hm, hk⟩ := hall (n % a) (Nat.mod_lt _ (by omega))
  have hle := rk_le (fun c hc => (hL c hc).2) _ _ hk
  have hmn : m ≤ n := by omega
  have e : n = m + (n - m) / a * a := by
    have h1 : (n - m) % a = 0 := by
      have := Nat.sub_mod_eq_zero_of_mod_eq hm.symm
      exact this
    have := Nat.div_add_mod (n - m) a
    rw [Nat.mul_comm] at this
    omega
  obtain ⟨k', h'⟩ := rk_many haL ((n - m) / a) _ _ hk
  exact ⟨k', by rw [e]; exact h'⟩
end Go.Proofs.YtehhoplenloocaaGreat

/- The least numbers of coins, and the greatest sum that cannot be paid. No program in sight. -/
namespace Go.Proofs.YtehhoplenloocaaGreat
set_option linter.unusedVariables false

/-- one coin more is looked at -/
def bstep (t : List Int) (n : Nat) (b c : Int) : Int :=
  if c ≤ n ∧ 0 ≤ t.getD ((n : Int) - c).toNat 0 ∧ (b < 0 ∨ t.getD ((n : Int) - c).toNat 0 + 1 < b) then t.getD ((n : Int) - c).toNat 0 + 1 else b
def fbest (l t : List Int) (n : Nat) : Int := l.foldl (bstep t n) (-1)
/-- the least numbers of coins up to n; -1 where there is no way -/
def fwT (l : List Int) : Nat → List Int
  | 0 => [0]
  | n + 1 => fwT l n ++ [fbest l (fwT l n) (n + 1)]
theorem fwT_len (l : List Int) : ∀ n, (fwT l n).length = n + 1
  | 0 => rfl
  | n + 1 => by unfold fwT; rw [List.length_append, fwT_len l n]; rfl
theorem fwT_getD (l : List Int) (n : Nat) : ∀ N, n ≤ N → (fwT l N).getD n 0 = (fwT l n).getD n 0
  | 0, h => by have : n = 0 := by omega
               subst this; rfl
  | N + 1, h => by
    by_cases e : n = N + 1
    · subst e; rfl
    · rw [← fwT_getD l n N (by omega)]
      show (fwT l N ++ _).getD n 0 = _
      rw [List.getD_eq_getElem?_getD, List.getD_eq_getElem?_getD, List.getElem?_append_left (by rw [fwT_len]; omega)]
theorem fwT_last (l : List Int) (n : Nat) : (fwT l (n + 1)).getD (n + 1) 0 = fbest l (fwT l n) (n + 1) := by
  show (fwT l n ++ _).getD (n + 1) 0 = _
  rw [List.getD_eq_getElem?_getD, List.getElem?_append_right (by rw [fwT_len]; omega), fwT_len]; simp
theorem bstep_bd {t : List Int} {n : Nat} {b c : Int} (hb : -1 ≤ b ∧ b ≤ n) (hc : 1 ≤ c) (ht : ∀ i : Nat, i < n → -1 ≤ t.getD i 0 ∧ t.getD i 0 ≤ i) : -1 ≤ bstep t n b c ∧ bstep t n b c ≤ n := by
  unfold bstep
  split
  · rename_i h
    have := ht ((n : Int) - c).toNat (by omega)
    omega
  · exact hb
theorem fold_bd {t : List Int} {n : Nat} (ht : ∀ i : Nat, i < n → -1 ≤ t.getD i 0 ∧ t.getD i 0 ≤ i) : ∀ (l : List Int) (b : Int), (∀ c ∈ l, 1 ≤ c) → -1 ≤ b ∧ b ≤ n → -1 ≤ l.foldl (bstep t n) b ∧ l.foldl (bstep t n) b ≤ n
  | [], b, _, hb => hb
  | c :: l, b, hl, hb => fold_bd ht l _ (fun c' h' => hl c' (by simp [h'])) (bstep_bd hb (hl c (by simp)) ht)
theorem fwT_bd {l : List Int} (hl : ∀ c ∈ l, 1 ≤ c) : ∀ N n : Nat, n ≤ N → -1 ≤ (fwT l N).getD n 0 ∧ (fwT l N).getD n 0 ≤ n
  | 0, n, h => by have : n = 0 := by omega
                  subst this; simp [fwT]
  | N + 1, n, h => by
    by_cases e : n = N + 1
    · subst e
      rw [fwT_last]
      exact fold_bd (fun i hi => fwT_bd hl N i (by omega)) l _ hl ⟨by omega, by omega⟩
    · rw [fwT_getD l n (N + 1) h, ← fwT_getD l n N (by omega)]
      exact fwT_bd hl N n (by omega)
theorem fold_keep {t : List Int} {n : Nat} : ∀ (l : List Int) (b : Int), 0 ≤ b → 0 ≤ l.foldl (bstep t n) b
  | [], b, hb => hb
  | c :: l, b, hb => by
    refine fold_keep l _ ?_
    unfold bstep; split <;> omega
theorem fold_some {t : List Int} {n : Nat} : ∀ (l : List Int) (b : Int), (∃ c, c ∈ l ∧ c ≤ n ∧ 0 ≤ t.getD ((n : Int) - c).toNat 0) → 0 ≤ l.foldl (bstep t n) b
  | [], b, h => by obtain ⟨c, hc, _⟩ := h; simp at hc
  | c :: l, b, h => by
    obtain ⟨d, hd, h1, h2⟩ := h
    rcases List.mem_cons.1 hd with e | hd
    · subst e
      refine fold_keep l _ ?_
      unfold bstep
      split
      · omega
      · omega
    · exact fold_some l _ ⟨d, hd, h1, h2⟩
theorem few_nonneg {l : List Int} (hl : ∀ c ∈ l, 1 ≤ c) : ∀ (k n : Nat), rk (l.map Int.toNat) k n → 0 ≤ (fwT l n).getD n 0
  | 0, n, h => by have : n = 0 := h
                  subst this; simp [fwT]
  | k + 1, n, h => by
    rcases h with h | ⟨c, hc, hle, h⟩
    · exact few_nonneg hl k n h
    · obtain ⟨d, hd, rfl⟩ := List.mem_map.1 hc
      have hd1 := hl d hd
      have ih := few_nonneg hl k _ h
      cases n with
      | zero => omega
      | succ n =>
        rw [fwT_last]
        refine fold_some l _ ⟨d, hd, by omega, ?_⟩
        have e : (((n + 1 : Nat) : Int) - d).toNat = n + 1 - d.toNat := by omega
        rw [e, fwT_getD l _ n (by omega)]
        exact ih

def gcdL (l : List Int) : Int := l.foldl gcdI 0
theorem gcdL_fold : ∀ (l : List Int) (g : Nat), (∀ c ∈ l, 1 ≤ c) → l.foldl gcdI (g : Int) = ((l.map Int.toNat).foldl Nat.gcd g : Nat)
  | [], g, _ => rfl
  | c :: l, g, hl => by
    have hc := hl c (by simp)
    have e : gcdI (g : Int) c = ((Nat.gcd g c.toNat : Nat) : Int) := by
      unfold gcdI Int.gcd
      rw [show c.natAbs = c.toNat from by omega]; rfl
    show l.foldl gcdI (gcdI g c) = _
    rw [e, gcdL_fold l _ (fun c' h' => hl c' (by simp [h']))]; rfl
theorem gcd_dvd_fold : ∀ (L : List Nat) (g : Nat), L.foldl Nat.gcd g ∣ g
  | [], g => Nat.dvd_refl _
  | c :: L, g => Nat.dvd_trans (gcd_dvd_fold L _) (Nat.gcd_dvd_left g c)
theorem gcdL_one {l : List Int} (hl : ∀ c ∈ l, 1 ≤ c) (hne : l ≠ []) (hg : gcdL l ≤ 1) : gcdN (l.map Int.toNat) = 1 := by
  have h := gcdL_fold l 0 hl
  unfold gcdL at hg
  have h' : l.foldl gcdI 0 = (gcdN (l.map Int.toNat) : Nat) := h
  rw [h'] at hg
  have hpos : gcdN (l.map Int.toNat) ≠ 0 := by
    cases l with
    | nil => exact absurd rfl hne
    | cons c l =>
      have hc := hl c (by simp)
      intro h0
      have hd : gcdN ((c :: l).map Int.toNat) ∣ c.toNat := by
        unfold gcdN
        simp only [List.map_cons, List.foldl_cons, Nat.gcd_zero_left]
        exact gcd_dvd_fold _ _
      rw [h0] at hd
      have := Nat.eq_zero_of_zero_dvd hd
      omega
  omega
theorem few_far {l : List Int} (hl : ∀ c ∈ l, 1 ≤ c ∧ c ≤ 30) (hne : l ≠ []) (hg : gcdL l ≤ 1) (n : Nat) (hn : 870 ≤ n) : 0 ≤ (fwT l n).getD n 0 := by
  cases l with
  | nil => exact absurd rfl hne
  | cons c l =>
    have hc := hl c (by simp)
    obtain ⟨k, hk⟩ := reach_all (L := (c :: l).map Int.toNat) (a := c.toNat) (by simp) (by
      intro d hd
      obtain ⟨x, hx, rfl⟩ := List.mem_map.1 hd
      have := hl x hx; omega) (gcdL_one (fun x hx => (hl x hx).1) hne hg) n hn
    exact few_nonneg (fun x hx => (hl x hx).1) k n hk

/-- the greatest number below n without a way, or -1 -/
def gapD (l : List Int) : Nat → Int
  | 0 => -1
  | n + 1 => if (fwT l n).getD n 0 < 0 then n else gapD l n
theorem gapD_far {l : List Int} (hl : ∀ c ∈ l, 1 ≤ c ∧ c ≤ 30) (hne : l ≠ []) (hg : gcdL l ≤ 1) : ∀ d, gapD l (870 + d) = gapD l 870
  | 0 => rfl
  | d + 1 => by
    show (if (fwT l (870 + d)).getD (870 + d) 0 < 0 then _ else gapD l (870 + d)) = _
    rw [if_neg (by have := few_far hl hne hg (870 + d) (by omega); omega), gapD_far hl hne hg d]
theorem gapD_bd (l : List Int) : ∀ n, -1 ≤ gapD l n ∧ gapD l n < n
  | 0 => by simp [gapD]
  | n + 1 => by have := gapD_bd l n; unfold gapD; split <;> omega
end Go.Proofs.YtehhoplenloocaaGreat

/- The common divisor of a list: the walks. -/
namespace Go.Proofs.YtehhoplenloocaaGreat
open Go.RowKit
set_option linter.unusedVariables false
set_option linter.unusedSimpArgs false

theorem gcdI_bd {a b M : Int} (ha : 0 ≤ a) (ha' : a ≤ M) (hb : -M ≤ b) (hb' : b ≤ M) : 0 ≤ gcdI a b ∧ gcdI a b ≤ M := by
  refine ⟨gcdI_nonneg _ _, ?_⟩
  by_cases h : b = 0
  · subst h; rw [gcdI_zero]; omega
  · unfold gcdI
    have := Nat.le_of_dvd (show 0 < b.natAbs by omega) (Nat.gcd_dvd_right a.natAbs b.natAbs)
    have e : Int.gcd a b = Nat.gcd a.natAbs b.natAbs := rfl
    rw [e]; omega
theorem fold_takeI (f : Int → Int → Int) (a : Int) (l : List Int) (k : Nat) (h : k < l.length) : (l.take (k + 1)).foldl f a = f ((l.take k).foldl f a) (l.getD k 0) := by
  rw [List.take_succ_eq_append_getElem h, List.foldl_append, List.getD_eq_getElem?_getD, List.getElem?_eq_getElem h]; rfl

set_option maxHeartbeats 1000000 in
theorem gcdAll_any (l : List Int) (v : Value) (hb : Nat) (w : World) (h : ISr w hb v l) (M : Int) (hM : M ≤ 9223372036854775807) (hl : ∀ k, k < l.length → -M ≤ l.getD k 0 ∧ l.getD k 0 ≤ M) :
    Calls Tryz.prog 123 #[v] w fun e w' => e = .returned (.int .i64 (gcdL l)) ∧ ∃ d, w' = w.drewN d := by
  rcases h.cases with ⟨rfl, a, cap, rfl⟩ | ⟨hpos, hlen, b, off, cap, rfl, hbb, hcell⟩
  · clear hl
    go_enter Tryz.func123, Tryz.ntmps123
    go_wp2
    refine wp_loop_rounds 1 ?_
    rw [rounds_succ]
    go_wp2
    go_ret
    exact ⟨rfl, 0, rfl⟩
  · have h0 := hl 0 hpos
    clear h
    have HC := Lib.hid hcell; clear hcell
    have HB := Lib.hid hl; clear hl
    obtain ⟨n, hn⟩ : ∃ n, n = l.length := ⟨_, rfl⟩
    rw [← hn] at hpos hlen ⊢
    have HN := Lib.hid hn; clear hn
    go_enter Tryz.func123, Tryz.ntmps123
    go_wp2
    go_loopw [3, 5, 8] (fun g _ i wr => ∃ (d k : Nat) (G : Int), wr = w.drewN d ∧ k ≤ n ∧ i = .int .i64 k ∧ g = .int .i64 G ∧ 0 ≤ G ∧ G ≤ M ∧ Hid (G = (l.take k).foldl gcdI 0)) (fun _ _ i _ => n - (intOf i).toNat)
    case atStart => exact ⟨0, 0, 0, rfl, by omega, rfl, rfl, by omega, by omega, rfl⟩
    case round =>
      obtain ⟨d, k, G, rfl, hk, rfl, rfl, hg1, hg2, hg⟩ := hrel
      by_cases hlt : k < n
      · have hkl : k < l.length := by rw [← HN.out]; exact hlt
        have hck := HC.out k hkl
        have hxb := HB.out k hkl
        have hst := Lib.hid (fold_takeI gcdI 0 l k hkl)
        rw [← hg.out] at hst
        clear hkl
        generalize l.getD k 0 = x at *
        have hbd := gcdI_bd hg1 hg2 hxb.1 hxb.2
        go_wp2_with (go_at_call 129; (with_reducible refine (divisor_any _ _ _ (by omega) (by omega) (by omega) (by omega)).mono ?_); rintro e w' ⟨rfl, d2, rfl⟩)
        go_roundw
        case rel => exact ⟨d + d2, k + 1, _, rfl, by omega, by go_num, rfl, hbd.1, hbd.2, hst.out.symm⟩
        case measure => simp [intOf]; omega
      · have hfin : G = gcdL l := by
          have := hg.out
          rw [show k = l.length from by rw [← HN.out]; omega, List.take_length] at this
          exact this
        have HF := Lib.hid hfin; clear hfin
        go_wp2
        go_ret
        exact ⟨ret_int HF.out, _, rfl⟩

set_option maxHeartbeats 1000000 in
theorem l2All_any (l : List Int) (v : Value) (hb : Nat) (w : World) (h : ISr w hb v l) (M : Int) (hM : M ≤ 9223372036854775807) (hl : ∀ k, k < l.length → -M ≤ l.getD k 0 ∧ l.getD k 0 ≤ M) :
    Calls Tryz.prog 98 #[v] w fun e w' => e = .returned (.int .i64 (gcdL l)) ∧ w = w' := by
  rcases h.cases with ⟨rfl, a, cap, rfl⟩ | ⟨hpos, hlen, b, off, cap, rfl, hbb, hcell⟩
  · clear hl
    go_enter Tryz.func98, Tryz.ntmps98
    go_wp2
    refine wp_loop_rounds 1 ?_
    rw [rounds_succ]
    go_wp2
    go_ret
    exact ⟨rfl, rfl⟩
  · have h0 := hl 0 hpos
    clear h
    have HC := Lib.hid hcell; clear hcell
    have HB := Lib.hid hl; clear hl
    obtain ⟨n, hn⟩ : ∃ n, n = l.length := ⟨_, rfl⟩
    rw [← hn] at hpos hlen ⊢
    have HN := Lib.hid hn; clear hn
    go_enter Tryz.func98, Tryz.ntmps98
    go_wp2
    go_loop [3, 4] (fun g i => ∃ (k : Nat) (G : Int), k ≤ n ∧ i = .int .i64 k ∧ g = .int .i64 G ∧ 0 ≤ G ∧ G ≤ M ∧ Hid (G = (l.take k).foldl gcdI 0)) (fun _ i => n - (intOf i).toNat)
    case atStart => exact ⟨0, 0, by omega, rfl, rfl, by omega, by omega, rfl⟩
    case round =>
      obtain ⟨k, G, hk, rfl, rfl, hg1, hg2, hg⟩ := hrel
      by_cases hlt : k < n
      · have hkl : k < l.length := by rw [← HN.out]; exact hlt
        have hck := HC.out k hkl
        have hxb := HB.out k hkl
        have hst := Lib.hid (fold_takeI gcdI 0 l k hkl)
        rw [← hg.out] at hst
        clear hkl
        generalize l.getD k 0 = x at *
        have hbd := gcdI_bd hg1 hg2 hxb.1 hxb.2
        go_wp2_with (go_at_call 111; (with_reducible refine (l2Gcd_any _ _ _ (by omega) (by omega) (by omega) (by omega)).mono ?_); rintro e w' ⟨rfl, rfl⟩)
        go_round
        case rel => exact ⟨k + 1, _, by omega, by go_num, rfl, hbd.1, hbd.2, hst.out.symm⟩
        case measure => simp [intOf]; omega
      · have hfin : G = gcdL l := by
          have := hg.out
          rw [show k = l.length from by rw [← HN.out]; omega, List.take_length] at this
          exact this
        have HF := Lib.hid hfin; clear hfin
        go_wp2
        go_ret
        exact ⟨ret_int HF.out, rfl⟩
end Go.Proofs.YtehhoplenloocaaGreat

/- Points, rays and determinants of the plane: the walks. -/
namespace Go.Proofs.YtehhoplenloocaaGreat
open Go.RowKit
set_option linter.unusedVariables false
set_option linter.unusedSimpArgs false

def crossI (a b : List Int) : Int := a.getD 0 0 * b.getD 1 0 - a.getD 1 0 * b.getD 0 0
theorem allIn_at {l : List Int} {lo hi : Int} (h : allIn l lo hi = true) : ∀ k, k < l.length → lo ≤ l.getD k 0 ∧ l.getD k 0 ≤ hi := by
  intro k hk
  have := List.all_eq_true.1 h (l.getD k 0) (by rw [List.getD_eq_getElem?_getD, List.getElem?_eq_getElem hk]; exact List.getElem_mem hk)
  exact inB_iff.1 this
theorem mul_bd4 {a b : Int} (ha : -1000000000 ≤ a) (ha' : a ≤ 1000000000) (hb : -1000000000 ≤ b) (hb' : b ≤ 1000000000) : -1000000000000000000 ≤ a * b ∧ a * b ≤ 1000000000000000000 := by
  rcases Int.le_total 0 b with h | h
  · have := mul_bd2 (a := a) (b := b) (M := 1000000000) (N := 1000000000) ha ha' h hb' (by omega); omega
  · have := mul_bd2 (a := a) (b := -b) (M := 1000000000) (N := 1000000000) ha ha' (by omega) (by omega) (by omega)
    rw [Int.mul_neg] at this; omega
/-- a slice of two -/
theorem ISr.two {w : World} {hi : Nat} {v : Value} {l : List Int} (h : ISr w hi v l) (hl : l.length = 2) :
    ∃ b off cap, v = .slice (some ⟨b, off, none⟩) 2 cap ∧ b < hi ∧ w.cell? ⟨b, off, none⟩ = some (.int .i64 (l.getD 0 0)) ∧ w.cell? ⟨b, off + 1, none⟩ = some (.int .i64 (l.getD 1 0)) := by
  rcases h.cases with ⟨rfl, -⟩ | ⟨-, -, b, off, cap, rfl, hb, hc⟩
  · simp at hl
  · rw [hl]
    exact ⟨b, off, cap, rfl, hb, by have := hc 0 (by omega); rwa [Nat.add_zero] at this, hc 1 (by omega)⟩
def ptB (l : List Int) (m : Int) : Bool := decide (l.length = 2) && allIn l (-m) m
theorem ptB_len {l : List Int} {m : Int} (h : ptB l m = true) : l.length = 2 ∧ allIn l (-m) m = true := by
  simpa [ptB] using h
def rayB (l : List Int) : Bool := ptB l 30 && decide (gcdL l = 1)
set_option maxHeartbeats 1000000 in
theorem cross_any (a b : List Int) (va vb : Value) (ha hb : Nat) (w : World) (ia : ISr w ha va a) (ib : ISr w hb vb b) (la : a.length = 2) (lb : b.length = 2)
    (ba : allIn a (-1000000000) 1000000000 = true) (bb : allIn b (-1000000000) 1000000000 = true) :
    Calls Tryz.prog 81 #[va, vb] w fun e w' => e = .returned (.int .i64 (crossI a b)) ∧ ∃ d, w' = w.drewN d := by
  obtain ⟨b1, o1, c1, rfl, -, x0, x1⟩ := ia.two la
  obtain ⟨b2, o2, c2, rfl, -, y0, y1⟩ := ib.two lb
  have p0 := allIn_at ba 0 (by omega)
  have p1 := allIn_at ba 1 (by omega)
  have q0 := allIn_at bb 0 (by omega)
  have q1 := allIn_at bb 1 (by omega)
  clear ia ib la lb ba bb
  unfold crossI
  generalize a.getD 0 0 = a0 at *
  generalize a.getD 1 0 = a1 at *
  generalize b.getD 0 0 = b0 at *
  generalize b.getD 1 0 = bq at *
  have m1 := mul_bd4 p0.1 p0.2 q1.1 q1.2
  have m2 := mul_bd4 p1.1 p1.2 q0.1 q0.2
  have e1 := wr64 (a0 * bq) (by omega)
  have e2 := wr64 (a1 * b0) (by omega)
  have e3 := wr64 (a0 * bq - a1 * b0) (by omega)
  go_enter Tryz.func81, Tryz.ntmps81
  go_wp2
  go_quiet (fail)
  go_wp2
  go_ret
  exact ⟨rfl, _, rfl⟩
set_option maxHeartbeats 1000000 in
theorem l7Cross_any (a b : List Int) (va vb : Value) (ha hb : Nat) (w : World) (ia : ISr w ha va a) (ib : ISr w hb vb b) (la : a.length = 2) (lb : b.length = 2)
    (ba : allIn a (-1000000000) 1000000000 = true) (bb : allIn b (-1000000000) 1000000000 = true) :
    Calls Tryz.prog 97 #[va, vb] w fun e w' => e = .returned (.int .i64 (crossI a b)) ∧ ∃ d, w' = w.drewN d := by
  obtain ⟨b1, o1, c1, rfl, -, x0, x1⟩ := ia.two la
  obtain ⟨b2, o2, c2, rfl, -, y0, y1⟩ := ib.two lb
  have p0 := allIn_at ba 0 (by omega)
  have p1 := allIn_at ba 1 (by omega)
  have q0 := allIn_at bb 0 (by omega)
  have q1 := allIn_at bb 1 (by omega)
  clear ia ib la lb ba bb
  unfold crossI
  generalize a.getD 0 0 = a0 at *
  generalize a.getD 1 0 = a1 at *
  generalize b.getD 0 0 = b0 at *
  generalize b.getD 1 0 = bq at *
  have m1 := mul_bd4 p0.1 p0.2 q1.1 q1.2
  have m2 := mul_bd4 p1.1 p1.2 q0.1 q0.2
  have e1 := wr64 (a0 * bq) (by omega)
  have e2 := wr64 (a1 * b0) (by omega)
  have e3 := wr64 (a0 * bq - a1 * b0) (by omega)
  go_enter Tryz.func97, Tryz.ntmps97
  go_wp2
  go_quiet (fail)
  go_wp2
  go_ret
  exact ⟨rfl, _, rfl⟩

set_option maxHeartbeats 1000000 in
theorem isPoint_any (l : List Int) (v : Value) (m : Int) (hb : Nat) (w : World) (h : ISr w hb v l) (hm : 0 ≤ m) (hm' : m ≤ 1000000000) :
    Calls Tryz.prog 48 #[v, .int .i64 m] w fun e w' => e = .returned (.bool (ptB l m)) ∧ w = w' := by
  have HA := fun w' (h' : ISr w' hb v l) => allWithin_any l v (-m) m hb w' h'
  have H1 := HA w h
  obtain ⟨a, cap, rfl, -, -, -⟩ := h
  by_cases hl : l.length = 2
  · have hv : ptB l m = allIn l (-m) m := by simp [ptB, hl]
    rw [hv]; clear hv HA
    rw [hl] at H1 ⊢
    clear hl
    go_enter Tryz.func48, Tryz.ntmps48
    go_wp2_with (go_at_call 93; (with_reducible refine H1.mono ?_); rintro e w' ⟨rfl, rfl⟩)
    go_ret
    exact ⟨rfl, rfl⟩
  · have hv : ptB l m = false := by simp [ptB, hl]
    rw [hv]; clear hv
    have hne : ((l.length : Int) == 2) = false := by rw [beq_eq_false_iff_ne]; omega
    generalize l.length = n at *
    clear H1 HA
    go_enter Tryz.func48, Tryz.ntmps48
    go_wp2
    go_ret
    exact ⟨rfl, rfl⟩

set_option maxHeartbeats 1000000 in
theorem l2Small_any (l : List Int) (v : Value) (m : Int) (hb : Nat) (w : World) (h : ISr w hb v l) (hm : 0 ≤ m) (hm' : m ≤ 1000000000) :
    Calls Tryz.prog 96 #[v, .int .i64 m] w fun e w' => e = .returned (.bool (allIn l (-m) m)) ∧ ∃ d, w' = w.drewN d := by
  rcases h.cases with ⟨rfl, a, cap, rfl⟩ | ⟨hpos, hlen, b, off, cap, rfl, hbb, hcell⟩
  · go_enter Tryz.func96, Tryz.ntmps96
    go_wp2
    refine wp_loop_rounds 1 ?_
    rw [rounds_succ]
    go_wp2
    go_ret
    exact ⟨rfl, 0, rfl⟩
  · clear h
    obtain ⟨n, hn⟩ : ∃ n, n = l.length := ⟨_, rfl⟩
    rw [← hn] at hlen hpos ⊢
    have HN := Lib.hid hn; clear hn
    have HC := Lib.hid hcell; clear hcell
    go_enter Tryz.func96, Tryz.ntmps96
    go_wp2
    go_loopw [5] (fun i wr => ∃ (d k : Nat), wr = w.drewN d ∧ k ≤ n ∧ i = .int .i64 k ∧ Hid (allIn (l.take k) (-m) m = true)) (fun i _ => n - (intOf i).toNat)
    case atStart => exact ⟨0, 0, rfl, by omega, rfl, rfl⟩
    case round =>
      obtain ⟨d, k, hw, hk, rfl, hall⟩ := hrel
      have HW := Lib.hid hw; clear hw
      by_cases hlt : k < n
      · have hl : k < l.length := by rw [← HN.out]; exact hlt
        have hck : wr.cell? ⟨b, off + k, none⟩ = some (.int .i64 (l.getD k 0)) := by rw [HW.out]; exact HC.out k hl
        have HS := Lib.hid (allIn_step l (-m) m k hl)
        have HF := Lib.hid (allIn_false l (-m) m k hl)
        clear hl
        generalize l.getD k 0 = x at *
        have HI := fun w => l1In_any x (-m) m w
        cases hx : inB x (-m) m
        · have HX := Lib.hid hx
          rw [hx] at HI
          clear hx
          go_wp2_with (go_at_call 64; (with_reducible refine (HI _).mono ?_); rintro e w' ⟨rfl, rfl⟩)
          all_goals try go_quiet ((go_at_call 64; exact quiet_eq (HI _)))
          all_goals try go_wp2
          go_ret
          exact ⟨ret_bool (HF.out HX.out).symm, by first | exact ⟨d, HW.out⟩ | exact ⟨d + nq, by rw [HW.out, World.drewN_drewN]⟩⟩
        · have HX := Lib.hid hx
          rw [hx] at HI
          clear hx
          go_wp2_with (go_at_call 64; (with_reducible refine (HI _).mono ?_); rintro e w' ⟨rfl, rfl⟩)
          all_goals try go_quiet ((go_at_call 64; exact quiet_eq (HI _)))
          all_goals try go_wp2
          go_roundw
          case rel => first | exact ⟨d, k + 1, HW.out, by omega, by go_num, by rw [HS.out, hall.out, HX.out]; rfl⟩ | exact ⟨d + nq, k + 1, by rw [HW.out, World.drewN_drewN], by omega, by go_num, by rw [HS.out, hall.out, HX.out]; rfl⟩
          case measure => simp [intOf]; omega
      · obtain rfl : k = n := by omega
        go_wp2
        go_ret
        refine ⟨ret_bool ?_, _, HW.out⟩
        have := hall.out
        rw [HN.out, List.take_length] at this
        exact this.symm
end Go.Proofs.YtehhoplenloocaaGreat

/- Small words that the laws' walks share. -/
namespace Go.Proofs.YtehhoplenloocaaGreat
open Go.RowKit

theorem toBelow {P : Program} {f : FuncId} {args : Array Value} {w : World} {r : Ending} (h : Calls P f args w fun e w' => e = r ∧ ∃ d, w' = w.drewN d) : Calls P f args w fun e w' => e = r ∧ Below w.heap.size w w' :=
  h.mono fun _ _ ⟨he, d, hd⟩ => ⟨he, by rw [hd]; exact below_draws _ _ _⟩
theorem toBelow0 {P : Program} {f : FuncId} {args : Array Value} {w : World} {r : Ending} (h : Calls P f args w fun e w' => e = r ∧ w = w') : Calls P f args w fun e w' => e = r ∧ Below w.heap.size w w' :=
  h.mono fun _ _ ⟨he, hd⟩ => ⟨he, by rw [← hd]; exact Below.refl _ _⟩
theorem ISr.upto {w : World} {a b : Nat} {v : Value} {l : List Int} (h : ISr w a v l) (hab : a ≤ b) : ISr w b v l := by
  obtain ⟨x, cap, h0, h1, h2, h3⟩ := h
  refine ⟨x, cap, h0, h1, h2, fun hne => ?_⟩
  obtain ⟨bb, off, e, hb, hc⟩ := h3 hne
  exact ⟨bb, off, e, Nat.lt_of_lt_of_le hb hab, hc⟩
theorem ISSr.upto {w : World} {a b : Nat} {v : Value} {l : List (List Int)} (h : ISSr w a v l) (hab : a ≤ b) : ISSr w b v l := by
  obtain ⟨x, cap, h0, h1, h2, h3⟩ := h
  refine ⟨x, cap, h0, h1, h2, fun hne => ?_⟩
  obtain ⟨bb, off, V, e, hb, hc⟩ := h3 hne
  exact ⟨bb, off, V, e, Nat.lt_of_lt_of_le hb hab, fun i hi => ⟨(hc i hi).1, (hc i hi).2.upto hab⟩⟩
theorem szL_in {n : Nat} {left : Int} (h : (n : Int) ≤ left) : (if left < (n : Int) then (-1 : Int) else left - n) = left - n := by rw [if_neg (by omega)]
/-- a world of a class (a word of its own, so that the walk does not look behind it) -/
structure InC (C : World → Prop) where
  w : World
  h : C w
/-- a region that draws its order and whose calls may make memory but hand back numbers and truths: one walk in the order of the text, in a class of worlds of one's own -/
theorem wp_region_class {P : Program} {id : Nat} {Q : Exit → Act → World → Prop} {a : Act} {w : World} {l : List Oper} (C : World → Prop) (hm : P.follows .mixedOrders = true) (hB : Region.lexB .any l.toArray = true) (hC : C w.drew)
    (h : Nonempty (InC C) → wpQuiet P l.toArray (fun w' => ∃ x : InC C, w' = x.w) (fun a' => ∀ w', (∃ x : InC C, w' = x.w) → Q .normal a' w') l a) : (Code.region id l.toArray true).wp P Q a w :=
  wp_region_quiet (C := fun w' => ∃ x : InC C, w' = x.w) hm hB ⟨⟨_, hC⟩, rfl⟩ (by simpa using h ⟨⟨_, hC⟩⟩)
/-- a contract of a function that hands back a value and keeps the class -/
theorem Calls.inC {P : Program} {f : FuncId} {args : Array Value} {C : World → Prop} {w : World} {v : Value} (h : Calls P f args w fun e w' => e = .returned v ∧ C w') : Calls P f args w fun e w'' => e = .returned v ∧ ∃ m : InC C, w'' = m.w :=
  h.mono fun _ w' ⟨he, hc⟩ => ⟨he, ⟨w', hc⟩, rfl⟩
end Go.Proofs.YtehhoplenloocaaGreat

/- What is written only between two block numbers. -/
namespace Go.Proofs.YtehhoplenloocaaGreat
open Go.RowKit
set_option linter.unusedVariables false
set_option linter.unusedSimpArgs false

/-- only blocks from lo on and below hi are written, others may be new -/
structure Only (lo hi : Nat) (w w' : World) : Prop where
  os : w'.os = w.os
  tape : w'.tape = w.tape
  output : w'.output = w.output
  size : w.heap.size ≤ w'.heap.size
  block : ∀ k, k < w.heap.size → k < lo ∨ hi ≤ k → w'.heap[k]? = w.heap[k]?
theorem Only.refl (lo hi : Nat) (w : World) : Only lo hi w w := ⟨rfl, rfl, rfl, Nat.le_refl _, fun _ _ _ => rfl⟩
theorem Only.trans {lo hi : Nat} {a b c : World} (h : Only lo hi a b) (k : Only lo hi b c) : Only lo hi a c :=
  ⟨k.os.trans h.os, k.tape.trans h.tape, k.output.trans h.output, Nat.le_trans h.size k.size, fun i hi hd => (k.block i (Nat.lt_of_lt_of_le hi h.size) hd).trans (h.block i hi hd)⟩
theorem Only.of_grown {lo hi : Nat} {w w' : World} {ob : Option Nat} {p : Nat → Prop} (h : w.grownBy w' ob) (ho : ob = none ∨ ∃ b, ob = some b ∧ lo ≤ b ∧ b < hi ∧ p b) : Only lo hi w w' := by
  refine ⟨h.os, h.tape, h.output, h.size, fun k hk hd => h.block k hk ?_⟩
  rcases ho with rfl | ⟨b, rfl, h1, h2, _⟩
  · simp
  · intro e; injection e with e; omega
theorem Only.below {lo hi : Nat} {w w' : World} (h : Only lo hi w w') (hlo : lo ≤ w.heap.size) : Below lo w w' := by
  refine ⟨h.os, h.tape, h.output, h.size, fun k hk => h.block k (by omega) (.inl hk)⟩
theorem Only.mono {lo hi lo' hi' : Nat} {w w' : World} (h : Only lo hi w w') (h1 : lo' ≤ lo) (h2 : hi ≤ hi') : Only lo' hi' w w' :=
  ⟨h.os, h.tape, h.output, h.size, fun k hk hd => h.block k hk (by omega)⟩
theorem IS.only {w w' : World} {lo hi lo2 hi2 : Nat} {v : Value} {l : List Int} (h : IS w lo2 hi2 v l) (ho : Only lo hi w w') (hd : hi2 ≤ lo ∨ hi ≤ lo2) : IS w' lo2 hi2 v l :=
  h.of_blocks fun b h1 h2 h3 => ho.block b h3 (by omega)
theorem ISS.only {w w' : World} {lo hi lo2 hi2 : Nat} {v : Value} {ls : List (List Int)} (h : ISS w lo2 hi2 v ls) (ho : Only lo hi w w') (hd : hi2 ≤ lo ∨ hi ≤ lo2) : ISS w' lo2 hi2 v ls :=
  h.of_blocks fun b h1 h2 h3 => ho.block b h3 (by omega)

theorem IS.blkIn {w : World} {lo hi : Nat} {v : Value} {l : List Int} (h : IS w lo hi v l) : blkOf v = none ∨ ∃ b, blkOf v = some b ∧ lo ≤ b ∧ b < hi ∧ True := by
  rcases h.blk with h | ⟨b, h1, h2, h3, _⟩
  · exact .inl h
  · exact .inr ⟨b, h1, h2, h3, trivial⟩
theorem Only.of_below {lo hi : Nat} {w w' : World} (h : Below w.heap.size w w') : Only lo hi w w' := ⟨h.os, h.tape, h.output, h.size, fun k hk _ => h.block k hk⟩
end Go.Proofs.YtehhoplenloocaaGreat

/- What comes in: slices of whole numbers, read off the statement's own form. -/
namespace Go.Proofs.YtehhoplenloocaaGreat
open Go.ChangeShapes Go.WideShapes Go.ChangeAt Go.RowKit Go.Joins
set_option linter.unusedVariables false
set_option linter.unusedSimpArgs false

set_option maxRecDepth 100000 in
theorem openInts {H : Type} {enc : TypeId × Value → H} {W : World} {base : Nat} {v : Value} {d : DataW H} {p : List MemPlace}
    (hv : Value.okWide Tryz.prog W .any base 25 v) (h : DataW.Trod enc Tryz.prog W 0 (fun _ => true) true 25 v d p) : ∃ l, ISr W W.heap.size v l := by
  obtain ⟨a0, len0, cap0, rfl⟩ := okWide_slice Tryz.underlying25 hv
  obtain ⟨fuel, hf⟩ := h
  rcases open_ints Tryz.underlying25 Tryz.underlying3 (by kernel_rfl) hf with ⟨hcs, _⟩ | ⟨x, l, c, zs, hcs, _, hl, hm, hz, _, hcell, hwz⟩
  · simp [Value.cells] at hcs
    obtain ⟨rfl, rfl, rfl⟩ := hcs
    exact ⟨[], none, 0, rfl, Nat.le_refl _, Nat.zero_le _, fun h => absurd rfl h⟩
  · simp [Value.cells] at hcs
    obtain ⟨rfl, rfl, rfl⟩ := hcs
    have hzl : zs.length = cap0 := by simpa using hz
    have hlen : (zs.take len0).length = len0 := by rw [List.length_take, hzl]; omega
    refine ⟨zs.take len0, some x, cap0, by rw [hlen], by rw [hlen]; exact hl, hm, fun hne => ?_⟩
    obtain ⟨b, off, spot⟩ := x
    have hpos : 0 < len0 := by
      rcases Nat.eq_zero_or_pos len0 with h0 | h0
      · subst h0; simp at hne
      · exact h0
    have hc0 := hcell 0 (by omega)
    have hspot : spot = none := by simpa [Addr.add] using World.cell?_spot hc0
    subst hspot
    refine ⟨b, off, rfl, by simpa [Addr.add] using World.block_lt_of_cell? _ _ hc0, fun i hi => ?_⟩
    rw [hlen] at hi
    have hci := hcell i (by omega)
    have e : (zs.take len0).getD i 0 = zs.getD i 0 := by
      rw [List.getD_eq_getElem?_getD, List.getD_eq_getElem?_getD, List.getElem?_take_of_lt hi]
    rw [e]
    have ha : (⟨b, off, none⟩ : Addr).add i = ⟨b, off + i, none⟩ := by
      simp only [Addr.add]; split <;> simp_all
    rw [ha] at hci; exact hci
end Go.Proofs.YtehhoplenloocaaGreat

/- What comes in: slices of slices of whole numbers. -/
namespace Go.Proofs.YtehhoplenloocaaGreat
open Go.ChangeShapes Go.WideShapes Go.ChangeAt Go.RowKit Go.Joins
set_option linter.unusedVariables false
set_option linter.unusedSimpArgs false

set_option maxRecDepth 100000 in
theorem openIntssCells {H : Type} {enc : TypeId × Value → H} {W : World} {v : Value} {n : Nat} {y : DataW H × List MemPlace}
    (hf : DataW.trod enc Tryz.prog W 0 (fun _ => true) true n 24 [v] = some y) : ∃ ls, ISSr W W.heap.size v ls := by
  rcases Go.Deep.open_int_rows Tryz.underlying24 Tryz.underlying25 Tryz.underlying3 (by kernel_rfl) (by kernel_rfl) hf with ⟨hcs, _⟩ | ⟨a, len, cap, AA, L, C, Z, hcs, _, hl, hm, _, hrow⟩
  · simp at hcs
    subst hcs
    exact ⟨[], none, 0, rfl, Nat.le_refl _, Nat.zero_le _, fun h => absurd rfl h⟩
  · simp at hcs
    subst hcs
    refine ⟨(List.range len).map fun r => (Z r).take (L r), some a, cap, by simp, by simpa using hl, hm, fun hne => ?_⟩
    have hpos : 0 < len := by
      rcases Nat.eq_zero_or_pos len with h0 | h0
      · subst h0; simp at hne
      · exact h0
    obtain ⟨b, off, spot⟩ := a
    have hc0 := (hrow 0 (by omega)).1
    have hspot : spot = none := by simpa [Addr.add] using World.cell?_spot hc0
    subst hspot
    refine ⟨b, off, fun r => .slice (AA r) (L r) (C r), rfl, by simpa [Addr.add] using World.block_lt_of_cell? _ _ hc0, fun i hi => ?_⟩
    have hi : i < len := by simpa using hi
    obtain ⟨h1, h2, h3, h4, h5, h6, h7⟩ := hrow i (by omega)
    have ha : ∀ (b off i : Nat), (⟨b, off, none⟩ : Addr).add i = ⟨b, off + i, none⟩ := by
      intro b off i; simp only [Addr.add]; split <;> simp_all
    rw [ha] at h1
    refine ⟨h1, ?_⟩
    have e0 : ((List.range len).map fun r => (Z r).take (L r)).getD i [] = (Z i).take (L i) := by
      rw [List.getD_eq_getElem?_getD]; simp [hi]
    rw [e0]
    have hlen : ((Z i).take (L i)).length = L i := by rw [List.length_take, h4]; omega
    refine ⟨AA i, C i, by rw [hlen], by rw [hlen]; exact h2, h3, fun hne => ?_⟩
    have hLp : 0 < L i := by
      rcases Nat.eq_zero_or_pos (L i) with h0 | h0
      · rw [h0] at hne; simp at hne
      · exact h0
    cases hA : AA i with
    | none => have := h6 hA; omega
    | some a' =>
      obtain ⟨b', off', spot'⟩ := a'
      have hcc := (h7 _ hA).2
      have hs0 := hcc 0 (by omega)
      have hspot' : spot' = none := by simpa [Addr.add] using World.cell?_spot hs0
      subst hspot'
      refine ⟨b', off', rfl, by simpa [Addr.add] using World.block_lt_of_cell? _ _ hs0, fun j hj => ?_⟩
      rw [hlen] at hj
      have := hcc j (by omega)
      rw [ha] at this
      rw [List.getD_eq_getElem?_getD, List.getElem?_take_of_lt hj, ← List.getD_eq_getElem?_getD]
      exact this

set_option maxRecDepth 100000 in
theorem openIntss {H : Type} {enc : TypeId × Value → H} {W : World} {base : Nat} {v : Value} {d : DataW H} {p : List MemPlace}
    (hv : Value.okWide Tryz.prog W .any base 24 v) (h : DataW.Trod enc Tryz.prog W 0 (fun _ => true) true 24 v d p) : ∃ ls, ISSr W W.heap.size v ls := by
  obtain ⟨a0, len0, cap0, rfl⟩ := okWide_slice Tryz.underlying24 hv
  obtain ⟨fuel, hf⟩ := h
  exact openIntssCells (by simpa [Value.cells] using hf)
end Go.Proofs.YtehhoplenloocaaGreat

/- Marking slices of slices; what is written only between two block numbers. -/
namespace Go.Proofs.YtehhoplenloocaaGreat
open Go.RowKit
set_option linter.unusedVariables false
set_option linter.unusedSimpArgs false

/-- the cells of the first i rows -/
def totL (ls : List (List Int)) : Nat → Nat
  | 0 => 0
  | i + 1 => totL ls i + (ls.getD i []).length
/-- the rows, marked from k on -/
def markLL (ls : List (List Int)) (k : Int) : List (List Int) := (List.range ls.length).map fun (i : Nat) => markL (ls.getD i []).length (k + totL ls i)
theorem markLL_len (ls : List (List Int)) (k : Int) : (markLL ls k).length = ls.length := by simp [markLL]
theorem markLL_getD (ls : List (List Int)) (k : Int) (i : Nat) (h : i < ls.length) : (markLL ls k).getD i [] = markL (ls.getD i []).length (k + totL ls i) := by
  rw [List.getD_eq_getElem?_getD]; simp [markLL, h]
theorem totL_mono (ls : List (List Int)) (i : Nat) : ∀ j, i ≤ j → totL ls i ≤ totL ls j
  | 0, h => by have : i = 0 := by omega
               subst this; exact Nat.le_refl _
  | j + 1, h => by
    by_cases e : i = j + 1
    · subst e; exact Nat.le_refl _
    · have := totL_mono ls i j (by omega)
      rw [show totL ls (j + 1) = totL ls j + (ls.getD j []).length from rfl]; omega

end Go.Proofs.YtehhoplenloocaaGreat
