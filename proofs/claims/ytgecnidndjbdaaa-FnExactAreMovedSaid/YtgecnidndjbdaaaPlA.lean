/- Areas and sides of polygons: the walks. -/
import Derived.Test.YtgecnidndjbdaaaHulW
import Derived.Test.YtgecnidndjbdaaaB1
import Derived.Deep.RegionHeld3
namespace Go.Proofs.Ytgecnidndjbdaaa
open Go.RowKit
set_option linter.unusedVariables false
set_option linter.unusedSimpArgs false

def rw' (ls : List (List Int)) (k : Nat) : List Int := ls.getD k []
def arT (ls : List (List Int)) (k : Nat) : Int := crossI (ls.getD k []) (ls.getD ((k + 1) % ls.length) [])
def arK (ls : List (List Int)) : Nat → Int
  | 0 => 0
  | k + 1 => arK ls k + arT ls k
def arL (ls : List (List Int)) : Int := arK ls ls.length
def sdI (ls : List (List Int)) (k : Nat) : Int := gcdL (minusI (ls.getD ((k + 1) % ls.length) []) (ls.getD k []))
def bdK (ls : List (List Int)) : Nat → Int
  | 0 => 0
  | k + 1 => bdK ls k + sdI ls k
def bdL (ls : List (List Int)) : Int := bdK ls ls.length
theorem flat_at {ls : List (List Int)} (hf : flatB ls 50 = true) {k : Nat} (hk : k < ls.length) : (ls.getD k []).length = 2 ∧ allIn (ls.getD k []) (-50) 50 = true := ptB_len (flatB_at hf k hk)
theorem mul_bd50 {a b : Int} (ha : -50 ≤ a) (ha' : a ≤ 50) (hb : -50 ≤ b) (hb' : b ≤ 50) : -2500 ≤ a * b ∧ a * b ≤ 2500 := by
  have h1 := Int.mul_nonneg (show 0 ≤ 50 - a by omega) (show 0 ≤ 50 - b by omega)
  have h2 := Int.mul_nonneg (show 0 ≤ 50 + a by omega) (show 0 ≤ 50 + b by omega)
  have h3 := Int.mul_nonneg (show 0 ≤ 50 - a by omega) (show 0 ≤ 50 + b by omega)
  have h4 := Int.mul_nonneg (show 0 ≤ 50 + a by omega) (show 0 ≤ 50 - b by omega)
  simp only [Int.sub_mul, Int.add_mul, Int.mul_sub, Int.mul_add] at h1 h2 h3 h4
  omega
theorem arT_bd {ls : List (List Int)} (hf : flatB ls 50 = true) {k : Nat} (hk : k < ls.length) : -5000 ≤ arT ls k ∧ arT ls k ≤ 5000 := by
  obtain ⟨a2, ab⟩ := flat_at hf hk
  have hy : (k + 1) % ls.length < ls.length := Nat.mod_lt _ (by omega)
  obtain ⟨b2, bb⟩ := flat_at hf hy
  have a0 := allIn_at ab 0 (by omega)
  have a1 := allIn_at ab 1 (by omega)
  have b0 := allIn_at bb 0 (by omega)
  have b1 := allIn_at bb 1 (by omega)
  unfold arT crossI
  generalize (ls.getD k []).getD 0 0 = x at *
  generalize (ls.getD k []).getD 1 0 = y at *
  generalize (ls.getD ((k + 1) % ls.length) []).getD 0 0 = z at *
  generalize (ls.getD ((k + 1) % ls.length) []).getD 1 0 = u at *
  have m1 := mul_bd50 a0.1 a0.2 b1.1 b1.2
  have m2 := mul_bd50 a1.1 a1.2 b0.1 b0.2
  omega
theorem gcdI_bdM {a b M : Int} (ha : -M ≤ a ∧ a ≤ M) (hb : -M ≤ b ∧ b ≤ M) : 0 ≤ gcdI a b ∧ gcdI a b ≤ M := by
  refine ⟨gcdI_nonneg _ _, ?_⟩
  by_cases h : b = 0
  · subst h; rw [gcdI_zero]; omega
  · unfold gcdI
    have := Nat.le_of_dvd (by omega) (Nat.gcd_dvd_right a.natAbs b.natAbs)
    have e : Int.gcd a b = Nat.gcd a.natAbs b.natAbs := rfl
    rw [e]; omega
theorem gcdL_pair (a b : Int) : gcdL [a, b] = gcdI a b := by
  unfold gcdL
  simp only [List.foldl_cons, List.foldl_nil]
  rw [gcdI_comm 0 a, gcdI_zero]
  have : gcdI (max a (-a)) b = gcdI a b := by
    unfold gcdI Int.gcd
    have h : (max a (-a)).natAbs = a.natAbs := by omega
    rw [h]
  exact this
theorem minus_bd {a b : List Int} (ha : a.length = 2 ∧ allIn a (-50) 50 = true) (hb : b.length = 2 ∧ allIn b (-50) 50 = true) : ∀ k, k < (minusI a b).length → -100 ≤ (minusI a b).getD k 0 ∧ (minusI a b).getD k 0 ≤ 100 := by
  have := minusI_in ha.2 hb.2 ha.1 hb.1
  exact fun k hk => allIn_at this k hk
theorem sdI_bd {ls : List (List Int)} (hf : flatB ls 50 = true) {k : Nat} (hk : k < ls.length) : 0 ≤ sdI ls k ∧ sdI ls k ≤ 100 := by
  have hy : (k + 1) % ls.length < ls.length := Nat.mod_lt _ (by omega)
  have m := minus_bd (flat_at hf hy) (flat_at hf hk)
  have m0 := m 0 (by simp [minusI])
  have m1 := m 1 (by simp [minusI])
  clear m
  unfold sdI
  generalize ls.getD ((k + 1) % ls.length) [] = a at *
  generalize ls.getD k [] = b at *
  simp only [minusI, List.getD_cons_zero, List.getD_cons_succ] at m0 m1 ⊢
  rw [gcdL_pair]
  exact gcdI_bdM (M := 100) m0 m1
theorem arK_bd {ls : List (List Int)} (hf : flatB ls 50 = true) : ∀ k : Nat, k ≤ ls.length → -(5000 * (k : Int)) ≤ arK ls k ∧ arK ls k ≤ 5000 * k
  | 0, _ => by simp [arK]
  | k + 1, h => by
    have a := arK_bd hf k (by omega)
    have b := arT_bd hf (k := k) (by omega)
    unfold arK; push_cast; omega
theorem bdK_bd {ls : List (List Int)} (hf : flatB ls 50 = true) : ∀ k : Nat, k ≤ ls.length → 0 ≤ bdK ls k ∧ bdK ls k ≤ 100 * k
  | 0, _ => by simp [bdK]
  | k + 1, h => by
    have a := bdK_bd hf k (by omega)
    have b := sdI_bd hf (k := k) (by omega)
    unfold bdK; push_cast; omega
theorem isPoly_parts {ls : List (List Int)} (h : isPolyB ls = true) : 3 ≤ ls.length ∧ ls.length ≤ 12 ∧ flatB ls 50 = true := by
  unfold isPolyB at h
  simp only [Bool.and_eq_true, inB_iff] at h
  exact ⟨by omega, by omega, h.2.1⟩

end Go.Proofs.Ytgecnidndjbdaaa
