/- Values of terms: the plain law. -/
import Derived.Test.YtibninlggdpnkaaPts
import Derived.Test.YtibninlggdpnkaaHit
namespace Go.Proofs.Ytibninlggdpnkaa
open Go.RowKit
set_option linter.unusedVariables false
set_option linter.unusedSimpArgs false

def tv0 (s : Int) (U : List Int) (a b : Int) : Int := if s < 0 then (10007 - monI U a b % 10007) % 10007 else monI U a b % 10007
def facI (g : List Int) (a b : Int) : Int := (10008 - monI g a b % 10007) % 10007
def tvK (s : Int) (U : List Int) (G : List (List Int)) (a b : Int) : Nat → Int
  | 0 => tv0 s U a b
  | k + 1 => tvK s U G a b k * powP (facI (G.getD k []) a b) (-1) % 10007
def termV (s : Int) (U : List Int) (G : List (List Int)) (a b : Int) : Int × Bool :=
  if termB s U G && inB a 1 10006 && inB b 1 10006 && G.all (fun g => decide (facI g a b ≠ 0)) then (tvK s U G a b G.length, true) else (0, false)
theorem facI_bd (g : List Int) (a b : Int) : 0 ≤ facI g a b ∧ facI g a b < 10007 := by unfold facI; omega
theorem tvK_bd (s : Int) (U : List Int) (G : List (List Int)) (a b : Int) : ∀ k, 0 ≤ tvK s U G a b k ∧ tvK s U G a b k < 10007
  | 0 => by rw [tvK]; unfold tv0; split <;> omega
  | k + 1 => by rw [tvK]; omega
theorem termV_no1 {s : Int} {U : List Int} {G : List (List Int)} {a b : Int} (h : termB s U G = false) : termV s U G a b = (0, false) := by unfold termV; rw [h]; rfl
theorem termV_no2 {s : Int} {U : List Int} {G : List (List Int)} {a b : Int} (h : inB a 1 10006 = false) : termV s U G a b = (0, false) := by unfold termV; rw [h, Bool.and_false]; rfl
theorem termV_no3 {s : Int} {U : List Int} {G : List (List Int)} {a b : Int} (h : inB b 1 10006 = false) : termV s U G a b = (0, false) := by unfold termV; rw [h, Bool.and_false]; rfl
theorem termV_no4 {s : Int} {U : List Int} {G : List (List Int)} {a b : Int} {k : Nat} (hk : k < G.length) (h : facI (G.getD k []) a b = 0) : termV s U G a b = (0, false) := by
  unfold termV; rw [all_getD_no (p := fun g => decide (facI g a b ≠ 0)) hk (by simp only [h]; simp), Bool.and_false]; rfl
theorem termV_yes {s : Int} {U : List Int} {G : List (List Int)} {a b : Int} (h1 : termB s U G = true) (h2 : inB a 1 10006 = true) (h3 : inB b 1 10006 = true) (h : ∀ k, k < G.length → facI (G.getD k []) a b ≠ 0) : termV s U G a b = (tvK s U G a b G.length, true) := by
  unfold termV
  rw [h1, h2, h3, all_getD (p := fun g => decide (facI g a b ≠ 0)) (fun k hk => by simp only [decide_eq_true_eq]; exact h k hk)]; rfl
/-- the program's first value -/
theorem tv0_prog {s : Int} (hs : s = 1 ∨ s = -1) (U : List Int) (a b : Int) :
    (((s + 10007).tmod 10007 * powP a (U.getD 0 0)).tmod 10007 * powP b (U.getD 1 0)).tmod 10007 = tv0 s U a b := by
  have h1 := powP_bd a (U.getD 0 0)
  have h2 := powP_bd b (U.getD 1 0)
  unfold tv0 monI
  generalize powP a (U.getD 0 0) = p at *
  generalize powP b (U.getD 1 0) = q at *
  rcases hs with rfl | rfl
  · have e1 : ((1 : Int) + 10007).tmod 10007 = 1 := by decide
    rw [e1, Int.one_mul, Int.tmod_eq_emod_of_nonneg h1.1, Int.emod_eq_of_lt h1.1 h1.2, Int.tmod_eq_emod_of_nonneg (Int.mul_nonneg h1.1 h2.1)]
    simp
  · have e1 : ((-1 : Int) + 10007).tmod 10007 = 10006 := by decide
    rw [e1, Int.tmod_eq_emod_of_nonneg (by omega : 0 ≤ 10006 * p)]
    have hm : 0 ≤ 10006 * p % 10007 := by omega
    rw [Int.tmod_eq_emod_of_nonneg (Int.mul_nonneg hm h2.1), if_pos (by omega)]
    have hk : 10006 * p % 10007 = 10006 * p - 10007 * (10006 * p / 10007) := by omega
    rw [hk]
    generalize 10006 * p / 10007 = k
    have e : (10006 * p - 10007 * k) * q = 10006 * (p * q) - 10007 * (k * q) := by grind
    rw [e]
    generalize p * q = r
    generalize k * q = z
    omega
end Go.Proofs.Ytibninlggdpnkaa
