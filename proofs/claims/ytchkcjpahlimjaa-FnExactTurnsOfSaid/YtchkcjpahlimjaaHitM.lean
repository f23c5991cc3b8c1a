/- Sums of generators: the plain law. No program in sight. -/
import Derived.Test.YtchkcjpahlimjaaVec2
namespace Go.Proofs.Ytchkcjpahlimjaa
set_option linter.unusedVariables false
set_option linter.unusedSimpArgs false

def hit1 (g x : List Int) : Bool :=
  let i := if g.getD 0 0 = 0 then 1 else 0
  decide (0 ≤ (x.getD i 0).tdiv (g.getD i 0)) && decide (g.map (· * (x.getD i 0).tdiv (g.getD i 0)) = x)
def hit2 (d a b : Int) : Bool := decide (a.tmod d = 0) && decide (b.tmod d = 0) && decide (0 ≤ a.tdiv d) && decide (0 ≤ b.tdiv d)
def hitsB (G : List (List Int)) (x : List Int) : Bool :=
  if G.length = 0 then decide (x.getD 0 0 = 0) && decide (x.getD 1 0 = 0)
  else if G.length = 1 then hit1 (G.getD 0 []) x
  else hit2 (crossI (G.getD 0 []) (G.getD 1 [])) (crossI x (G.getD 1 [])) (crossI (G.getD 0 []) x)

theorem gcdL_two {x : List Int} (h : x.length = 2) : gcdL x = (Int.gcd (x.getD 0 0) (x.getD 1 0) : Int) := by
  rw [two_list h]
  show gcdI (gcdI 0 _) _ = _
  unfold gcdI
  simp [Int.gcd]
theorem gcdL_zero {x : List Int} (h : x.length = 2) : gcdL x = 0 ↔ (x.getD 0 0 = 0 ∧ x.getD 1 0 = 0) := by
  rw [gcdL_two h]
  constructor
  · intro e
    have : Int.gcd (x.getD 0 0) (x.getD 1 0) = 0 := by omega
    exact Int.gcd_eq_zero_iff.1 this
  · rintro ⟨h1, h2⟩; rw [h1, h2]; rfl

theorem bezN (a b : Nat) : ∃ u v : Int, u * a + v * b = (Nat.gcd a b : Int) := by
  induction a, b using Nat.gcd.induction with
  | H0 n => exact ⟨0, 1, by simp⟩
  | H1 m n hm ih =>
    obtain ⟨u, v, h⟩ := ih
    refine ⟨v - u * ((n / m : Nat) : Int), u, ?_⟩
    rw [Nat.gcd_rec m n, ← h]
    have e : (n : Int) = (m : Int) * ((n / m : Nat) : Int) + ((n % m : Nat) : Int) := by
      have := Nat.div_add_mod n m
      rw [← Int.natCast_mul, ← Int.natCast_add, this]
    generalize ((n / m : Nat) : Int) = d at *
    generalize ((n % m : Nat) : Int) = r at *
    rw [e]; grind
theorem bez (p q : Int) : ∃ u v : Int, u * p + v * q = (Int.gcd p q : Int) := by
  obtain ⟨u, v, h⟩ := bezN p.natAbs q.natAbs
  rcases Int.natAbs_eq p with hp | hp <;> rcases Int.natAbs_eq q with hq | hq
  · exact ⟨u, v, by rw [← hp, ← hq] at h; exact h⟩
  · exact ⟨u, -v, by rw [← hp] at h; rw [show (q.natAbs : Int) = -q by omega] at h; rw [← Int.neg_mul_comm] at h; exact h⟩
  · exact ⟨-u, v, by rw [← hq] at h; rw [show (p.natAbs : Int) = -p by omega] at h; rw [← Int.neg_mul_comm] at h; exact h⟩
  · exact ⟨-u, -v, by rw [show (q.natAbs : Int) = -q by omega, show (p.natAbs : Int) = -p by omega] at h; rw [← Int.neg_mul_comm, ← Int.neg_mul_comm] at h; exact h⟩
theorem sq_nonneg (a : Int) : 0 ≤ a * a := by
  rcases Int.le_total 0 a with h | h
  · exact Int.mul_nonneg h h
  · exact Int.mul_nonneg_of_nonpos_of_nonpos h h
theorem sq_pos {a : Int} (h : a ≠ 0) : 0 < a * a := by
  rcases Int.lt_or_gt_of_ne h with g | g
  · exact Int.mul_pos_of_neg_of_neg g g
  · exact Int.mul_pos g g
/-- a multiple of a vector, by cross and dot -/
theorem multiple_iff (p q x y : Int) (h : p ≠ 0 ∨ q ≠ 0) :
    (∃ n : Int, 0 ≤ n ∧ x = p * n ∧ y = q * n) ↔ (p * y - q * x = 0 ∧ 0 ≤ p * x + q * y ∧ (Int.gcd p q : Int) ∣ (Int.gcd x y : Int)) := by
  have hpos : 0 < p * p + q * q := by
    have h1 := sq_nonneg p
    have h2 := sq_nonneg q
    rcases h with h | h
    · have := sq_pos h; omega
    · have := sq_pos h; omega
  constructor
  · rintro ⟨n, hn, rfl, rfl⟩
    refine ⟨by grind, ?_, ?_⟩
    · have : p * (p * n) + q * (q * n) = (p * p + q * q) * n := by grind
      rw [this]; exact Int.mul_nonneg (by omega) hn
    · exact Int.dvd_coe_gcd (Int.dvd_mul_of_dvd_left (Int.gcd_dvd_left ..)) (Int.dvd_mul_of_dvd_left (Int.gcd_dvd_right ..))
  · rintro ⟨hc, hd, hg⟩
    obtain ⟨u, v, hb⟩ := bez p q
    have hh : (Int.gcd p q : Int) ≠ 0 := by
      intro e
      have : Int.gcd p q = 0 := by omega
      have := Int.gcd_eq_zero_iff.1 this
      omega
    obtain ⟨x', hx⟩ := Int.dvd_trans hg (Int.gcd_dvd_left x y)
    obtain ⟨y', hy⟩ := Int.dvd_trans hg (Int.gcd_dvd_right x y)
    generalize (Int.gcd p q : Int) = d at *
    have e1 : p * (u * x' + v * y') = x := by
      have : d * (p * (u * x' + v * y')) = d * x := by grind
      exact Int.eq_of_mul_eq_mul_left hh this
    have e2 : q * (u * x' + v * y') = y := by
      have : d * (q * (u * x' + v * y')) = d * y := by grind
      exact Int.eq_of_mul_eq_mul_left hh this
    refine ⟨u * x' + v * y', ?_, e1.symm, e2.symm⟩
    generalize u * x' + v * y' = n at *
    rcases Int.le_total 0 n with g | g
    · exact g
    · have : (p * p + q * q) * n = p * x + q * y := by rw [← e1, ← e2]; grind
      by_cases hn : n = 0
      · omega
      · have := Int.mul_neg_of_pos_of_neg hpos (show n < 0 by omega); omega

theorem hit1_def (g x : List Int) : (g.getD 0 0 = 0 → hit1 g x = (decide (0 ≤ (x.getD 1 0).tdiv (g.getD 1 0)) && decide (g.map (· * (x.getD 1 0).tdiv (g.getD 1 0)) = x))) ∧
    (g.getD 0 0 ≠ 0 → hit1 g x = (decide (0 ≤ (x.getD 0 0).tdiv (g.getD 0 0)) && decide (g.map (· * (x.getD 0 0).tdiv (g.getD 0 0)) = x))) := by
  unfold hit1
  constructor
  · intro h; rw [if_pos h]
  · intro h; rw [if_neg h]
theorem hit1_iff {g x : List Int} (hg : g.length = 2) (hx : x.length = 2) (h : g.getD 0 0 ≠ 0 ∨ g.getD 1 0 ≠ 0) :
    hit1 g x = true ↔ ∃ n : Int, 0 ≤ n ∧ x.getD 0 0 = g.getD 0 0 * n ∧ x.getD 1 0 = g.getD 1 0 * n := by
  unfold hit1
  rw [two_list hg, two_list hx]
  generalize g.getD 0 0 = p at *
  generalize g.getD 1 0 = q at *
  generalize x.getD 0 0 = a at *
  generalize x.getD 1 0 = b at *
  by_cases hp : p = 0
  · subst hp
    have hq : q ≠ 0 := by omega
    simp
    constructor
    · rintro ⟨h1, h2, h3⟩; exact ⟨_, h1, h2.symm, h3.symm⟩
    · rintro ⟨n, hn, rfl, rfl⟩
      rw [Int.mul_tdiv_cancel_left _ hq]; exact ⟨hn, rfl, rfl⟩
  · simp [hp]
    constructor
    · rintro ⟨h1, h2, h3⟩; exact ⟨_, h1, h2.symm, h3.symm⟩
    · rintro ⟨n, hn, rfl, rfl⟩
      rw [Int.mul_tdiv_cancel_left _ hp]; exact ⟨hn, rfl, rfl⟩
/-- the program's test for one generator -/
theorem hit1_prog {g x : List Int} (hg : g.length = 2) (hx : x.length = 2) (h : gcdL g ≠ 0) :
    hit1 g x = (decide (crossI g x = 0) && decide (0 ≤ dotI g x) && decide ((gcdL x).tmod (gcdL g) = 0)) := by
  have h0 : g.getD 0 0 ≠ 0 ∨ g.getD 1 0 ≠ 0 := by
    rcases Classical.em (g.getD 0 0 = 0) with e | e
    · right; intro e2; exact h ((gcdL_zero hg).2 ⟨e, e2⟩)
    · exact .inl e
  rw [Bool.eq_iff_iff, hit1_iff hg hx h0, multiple_iff _ _ _ _ h0]
  rw [gcdL_two hg, gcdL_two hx]
  have hdot : dotI g x = g.getD 0 0 * x.getD 0 0 + g.getD 1 0 * x.getD 1 0 := by
    unfold dotI; rw [hg]; simp only [dotK]; omega
  rw [hdot]
  have hcr : crossI g x = g.getD 0 0 * x.getD 1 0 - g.getD 1 0 * x.getD 0 0 := rfl
  rw [hcr]
  generalize g.getD 0 0 * x.getD 1 0 - g.getD 1 0 * x.getD 0 0 = A
  generalize g.getD 0 0 * x.getD 0 0 + g.getD 1 0 * x.getD 1 0 = B
  simp [and_assoc, Int.dvd_iff_tmod_eq_zero]
end Go.Proofs.Ytchkcjpahlimjaa
