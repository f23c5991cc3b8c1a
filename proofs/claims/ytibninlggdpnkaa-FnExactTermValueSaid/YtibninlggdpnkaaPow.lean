/- Powers modulo 10007: Fermat's theorem by calculation, exponents modulo 10006. No program in sight. -/
import Derived.Test.YtibninlggdpnkaaMath
namespace Go.Proofs.Ytibninlggdpnkaa

/-- a power of a whole number, modulo 10007 -/
def pmN (a n : Nat) : Nat := a ^ n % 10007
def chkP : Nat → Bool
  | 0 => true
  | n + 1 => Nat.beq (pmN (n + 1) 10006) 1 && chkP n
theorem chkP_all : chkP 10006 = true := by decide +kernel
theorem chkP_at (N : Nat) (hN : chkP N = true) (a : Nat) (h : 1 ≤ a) (h' : a ≤ N) : pmN a 10006 = 1 := by
  generalize he : 10006 = E at *
  induction N with
  | zero => omega
  | succ N ih =>
    unfold chkP at hN
    rw [he] at hN
    rw [Bool.and_eq_true] at hN
    by_cases e : a = N + 1
    · rw [e]; exact Nat.eq_of_beq_eq_true hN.1
    · exact ih hN.2 (by omega)
theorem fermatN (a : Nat) (h : 1 ≤ a) (h' : a ≤ 10006) : pmN a 10006 = 1 := chkP_at 10006 chkP_all a h h'
theorem pmN_add (a i j : Nat) : pmN a (i + j) = pmN a i * pmN a j % 10007 := by
  unfold pmN; rw [Nat.pow_add, Nat.mul_mod]
theorem pmN_mul (a i j : Nat) : pmN a (i * j) = pmN (pmN a i) j := by
  unfold pmN; rw [Nat.pow_mul, Nat.pow_mod]
theorem pmN_lt (a n : Nat) : pmN a n < 10007 := Nat.mod_lt _ (by omega)
theorem pmN_mod (a n : Nat) : pmN (a % 10007) n = pmN a n := by
  unfold pmN; rw [← Nat.pow_mod]
theorem pmN_period (a k r : Nat) (h : 1 ≤ a) (h' : a ≤ 10006) : pmN a (10006 * k + r) = pmN a r := by
  rw [pmN_add, pmN_mul]
  rw [fermatN a h h']
  have e : pmN 1 k = 1 := by unfold pmN; simp
  rw [e, Nat.one_mul]; exact Nat.mod_eq_of_lt (pmN_lt a r)
theorem pmN_cong (a i j : Nat) (h : 1 ≤ a) (h' : a ≤ 10006) (hij : i % 10006 = j % 10006) : pmN a i = pmN a j := by
  have e1 : i = 10006 * (i / 10006) + i % 10006 := by omega
  have e2 : j = 10006 * (j / 10006) + j % 10006 := by omega
  rw [e1, e2, pmN_period _ _ _ h h', pmN_period _ _ _ h h', hij]
theorem pmN_sq (a n : Nat) : pmN (a * a % 10007) n = pmN a (2 * n) := by
  rw [pmN_mod, pmN_mul]; show pmN (a * a) n = _
  have : pmN a 2 = a * a % 10007 := by unfold pmN; rw [Nat.pow_succ, Nat.pow_one]
  rw [this, pmN_mod]

/-- the power modulo 10007 of a number from 1 to 10006 with a whole exponent of either sign -/
def powP (a n : Int) : Int := if inB a 1 10006 && inB n (-1000000) 1000000 then (pmN a.toNat (n % 10006).toNat : Int) else 0
theorem powP_pos (a n : Int) (ha : 1 ≤ a) (ha' : a ≤ 10006) (hn : 0 ≤ n) : pmN a.toNat n.toNat = pmN a.toNat (n % 10006).toNat :=
  pmN_cong _ _ _ (by omega) (by omega) (by omega)
theorem powP_neg (a n : Int) (ha : 1 ≤ a) (ha' : a ≤ 10006) (hn : n < 0) : pmN (pmN a.toNat 10005) (-n).toNat = pmN a.toNat (n % 10006).toNat := by
  rw [← pmN_mul]
  refine pmN_cong _ _ _ (by omega) (by omega) ?_
  obtain ⟨m, rfl⟩ : ∃ m : Nat, n = -((m : Int) + 1) := ⟨(-n).toNat - 1, by omega⟩
  have e : (-(-((m : Int) + 1))).toNat = m + 1 := by omega
  rw [e]
  omega

theorem pm_odd (o x k : Nat) (hk : k % 2 = 1) : o * x % 10007 * pmN (x * x % 10007) (k / 2) % 10007 = o * pmN x k % 10007 := by
  have e : k = 1 + 2 * (k / 2) := by omega
  have h : pmN x k = pmN x 1 * pmN x (2 * (k / 2)) % 10007 := by
    rw [← pmN_add]; exact congrArg (pmN x) e
  rw [pmN_sq, h, Nat.mul_mod (o * x % 10007), Nat.mod_mod, ← Nat.mul_mod, Nat.mul_mod o, Nat.mod_mod, ← Nat.mul_mod]
  have h1 : pmN x 1 = x % 10007 := by unfold pmN; rw [Nat.pow_one]
  rw [h1, ← Nat.mul_assoc]
  rw [Nat.mul_mod (o * x), Nat.mul_mod (o * (x % 10007))]
  rw [Nat.mul_mod o x, Nat.mul_mod o (x % 10007), Nat.mod_mod]
theorem pm_even (o x k : Nat) (hk : k % 2 = 0) : o * pmN (x * x % 10007) (k / 2) % 10007 = o * pmN x k % 10007 := by
  have e : 2 * (k / 2) = k := by omega
  rw [pmN_sq, e]
end Go.Proofs.Ytibninlggdpnkaa
