/- Two coins: the walks. -/
import Derived.Test.YtfncikbmdaameaaB1
namespace Go.Proofs.Ytfncikbmdaameaa
open Go.RowKit
set_option linter.unusedVariables false
set_option linter.unusedSimpArgs false

def twoChk : Bool := (List.range 31).all fun a => (List.range 31).all fun b => a == 0 || b == 0 || Nat.gcd a b != 1 || (List.range b).all fun r => (List.range b).any fun x => a * x % b == r
theorem twoChk_all : twoChk = true := by decide +kernel
theorem two_exists (a b n : Nat) (ha : 1 ≤ a) (ha' : a ≤ 30) (hb : 1 ≤ b) (hb' : b ≤ 30) (hg : Nat.gcd a b = 1) : ∃ x, x < b ∧ a * x % b = n % b := by
  have h := twoChk_all
  simp only [twoChk, List.all_eq_true, List.mem_range, List.any_eq_true, Bool.or_eq_true, beq_iff_eq, bne_iff_ne] at h
  rcases h a (by omega) b (by omega) with ((h | h) | h) | h
  · omega
  · omega
  · exact absurd hg h
  · obtain ⟨x, hx, he⟩ := h (n % b) (Nat.mod_lt _ (by omega)); exact ⟨x, hx, he⟩

theorem least_of (P : Nat → Prop) [DecidablePred P] : ∀ N, P N → ∃ x, x ≤ N ∧ P x ∧ ∀ y, y < x → ¬ P y := by
  intro N
  induction N using Nat.strongRecOn with
  | _ N ih =>
    intro h
    by_cases hc : ∃ y, y < N ∧ P y
    · obtain ⟨y, hy, hp⟩ := hc
      obtain ⟨x, hx, hpx, hm⟩ := ih y hy hp
      exact ⟨x, by omega, hpx, hm⟩
    · exact ⟨N, Nat.le_refl _, h, fun y hy hp => hc ⟨y, hy, hp⟩⟩

/-- x is the first number with a whole rest -/
def First (a b n : Int) (x : Nat) : Prop := (n - a * x).tmod b = 0 ∧ ∀ y : Nat, y < x → (n - a * y).tmod b ≠ 0
theorem first_exists (a b n : Int) (ha : 1 ≤ a) (ha' : a ≤ 30) (hb : 1 ≤ b) (hb' : b ≤ 30) (hg : gcdI a b ≤ 1) (hn : 0 ≤ n) : ∃ x : Nat, x ≤ 30 ∧ First a b n x := by
  obtain ⟨A, rfl⟩ : ∃ A : Nat, a = A := ⟨a.toNat, by omega⟩
  obtain ⟨B, rfl⟩ : ∃ B : Nat, b = B := ⟨b.toNat, by omega⟩
  obtain ⟨N, rfl⟩ : ∃ N : Nat, n = N := ⟨n.toNat, by omega⟩
  have hg1 : Nat.gcd A B = 1 := by
    have h1 := gcdI_pos_right A B hb
    unfold gcdI Int.gcd at h1 hg
    simp at h1 hg
    omega
  obtain ⟨x, hx, he⟩ := two_exists A B N (by omega) (by omega) (by omega) (by omega) hg1
  have hz : ((N : Int) - A * (x : Nat)).tmod B = 0 := by
    have e1 : ((A * x % B : Nat) : Int) = ((N % B : Nat) : Int) := by rw [he]
    have e2 : ((N : Int) - A * x) % B = 0 := by
      rw [← Int.emod_eq_emod_iff_emod_sub_eq_zero]
      simpa using e1.symm
    exact Int.tmod_eq_zero_of_dvd (Int.dvd_of_emod_eq_zero e2)
  obtain ⟨y, hy, hp, hm⟩ := least_of (fun x : Nat => ((N : Int) - A * x).tmod B = 0) x hz
  exact ⟨y, by omega, hp, hm⟩

def twoB (a b n : Int) : Bool := inB a 1 30 && inB b 1 30 && decide (gcdI a b ≤ 1) && inB n 0 500
def twoV (a b n : Int) (x : Nat) : Int := if twoB a b n then (if n < a * x then 0 else (n - a * x) / (a * b) + 1) else -1
theorem two_cases (a b n : Int) : (inB a 1 30 = true ∧ inB b 1 30 = true ∧ (gcdI a b ≤ 1) ∧ inB n 0 500 = true) ∨
    (twoB a b n = false ∧ (inB a 1 30 = false ∨ (inB a 1 30 = true ∧ inB b 1 30 = false) ∨ (inB a 1 30 = true ∧ inB b 1 30 = true ∧ 1 < gcdI a b) ∨ (inB a 1 30 = true ∧ inB b 1 30 = true ∧ gcdI a b ≤ 1 ∧ inB n 0 500 = false))) := by
  unfold twoB
  cases inB a 1 30 <;> cases inB b 1 30 <;> cases inB n 0 500 <;> by_cases h : gcdI a b ≤ 1 <;> simp [h] <;> omega
theorem two_bd {a b n : Int} {x : Nat} (ha : 1 ≤ a) (ha' : a ≤ 30) (hb : 1 ≤ b) (hb' : b ≤ 30) (hn : 0 ≤ n) (hn' : n ≤ 500) (hx : x ≤ 30) : 0 ≤ a * x ∧ a * x ≤ 900 ∧ 1 ≤ a * b ∧ a * b ≤ 900 ∧ -900 ≤ n - a * x ∧ n - a * x ≤ 500 := by
  have h1 : 0 ≤ a * (x : Int) := Int.mul_nonneg (by omega) (by omega)
  have h2 : a * (x : Int) ≤ 30 * 30 := Int.mul_le_mul (by omega) (by omega) (by omega) (by omega)
  have h3 : 1 * 1 ≤ a * b := Int.mul_le_mul (by omega) (by omega) (by omega) (by omega)
  have h4 : a * b ≤ 30 * 30 := Int.mul_le_mul (by omega) (by omega) (by omega) (by omega)
  omega
end Go.Proofs.Ytfncikbmdaameaa
