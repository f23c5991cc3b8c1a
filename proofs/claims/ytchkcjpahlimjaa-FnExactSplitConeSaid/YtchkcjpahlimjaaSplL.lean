/- Cones that are split: the plain law, second part. -/
import Derived.Test.YtchkcjpahlimjaaSplM
namespace Go.Proofs.Ytchkcjpahlimjaa
set_option linter.unusedVariables false
set_option linter.unusedSimpArgs false

theorem box_ok {x y : Int} (hx : -30 ≤ x ∧ x ≤ 30) (hy : -30 ≤ y ∧ y ≤ 30) (hg : Int.gcd x y = 1) : eAll 10 (eSt x y) = true := by
  have h1 := List.all_eq_true.1 all_ok (x + 30).toNat (List.mem_range.2 (by omega))
  rw [show (((x + 30).toNat : Nat) : Int) - 30 = x by omega] at h1
  have h2 := List.all_eq_true.1 h1 (y + 30).toNat (List.mem_range.2 (by omega))
  rw [show (((y + 30).toNat : Nat) : Int) - 30 = y by omega] at h2
  rw [Bool.or_eq_true, decide_eq_true_eq] at h2
  rcases h2 with h2 | h2
  · exact absurd hg h2
  · exact h2
theorem eIt_succ : ∀ (k : Nat) (e : ESt), eIt (k + 1) e = eNext (eIt k e)
  | 0, e => rfl
  | k + 1, e => by rw [show eIt (k + 1 + 1) e = eIt (k + 1) (eNext e) from rfl, eIt_succ k (eNext e)]; rfl
theorem eAll_ok : ∀ (n : Nat) (e : ESt), eAll n e = true → ∀ k, k ≤ n → eOk (eIt k e) = true
  | 0, e, h, k, hk => by
    obtain rfl : k = 0 := by omega
    simp only [eAll, Bool.and_eq_true] at h
    exact h.1.1.1.1
  | n + 1, e, h, 0, _ => by
    simp only [eAll, Bool.and_eq_true] at h
    exact h.1
  | n + 1, e, h, k + 1, hk => by
    simp only [eAll, Bool.and_eq_true] at h
    exact eAll_ok n (eNext e) h.2 k (by omega)
theorem eAll_end : ∀ (n : Nat) (e : ESt), eAll n e = true → (eIt n e).s = 0 ∧ smallB 30 ((eIt n e).a0 * (eIt n e).r) = true ∧ smallB 30 ((eIt n e).a1 * (eIt n e).r) = true ∧ (eIt n e).r * (eIt n e).r = 1
  | 0, e, h => by
    simp only [eAll, Bool.and_eq_true, decide_eq_true_eq] at h
    exact ⟨h.1.1.1.2, h.1.1.2, h.1.2, h.2⟩
  | n + 1, e, h => by
    simp only [eAll, Bool.and_eq_true] at h
    exact eAll_end n (eNext e) h.2
def eInv (x y : Int) (e : ESt) : Prop := e.a0 * x + e.a1 * y = e.r ∧ e.b0 * x + e.b1 * y = e.s
theorem eInv_next {x y : Int} {e : ESt} (h : eInv x y e) : eInv x y (eNext e) := by
  unfold eNext
  split
  · exact h
  · obtain ⟨h1, h2⟩ := h
    refine ⟨h2, ?_⟩
    show (e.a0 - Int.tdiv e.r e.s * e.b0) * x + (e.a1 - Int.tdiv e.r e.s * e.b1) * y = e.r - Int.tdiv e.r e.s * e.s
    generalize Int.tdiv e.r e.s = q
    grind
theorem eInv_it {x y : Int} : ∀ (k : Nat) (e : ESt), eInv x y e → eInv x y (eIt k e)
  | 0, e, h => h
  | k + 1, e, h => eInv_it k (eNext e) (eInv_next h)
def parE (x y : Int) : ESt := eIt 10 (eSt x y)
/-- the partner of a primitive vector -/
theorem par_cross {x y : Int} (hx : -30 ≤ x ∧ x ≤ 30) (hy : -30 ≤ y ∧ y ≤ 30) (hg : Int.gcd x y = 1) :
    x * ((parE x y).a0 * (parE x y).r) - y * (-(parE x y).a1 * (parE x y).r) = 1 := by
  have h := eAll_end 10 _ (box_ok hx hy hg)
  have hi := (eInv_it 10 (eSt x y) (show eInv x y (eSt x y) from ⟨by simp [eSt], by simp [eSt]⟩)).1
  unfold parE
  generalize eIt 10 (eSt x y) = e at *
  obtain ⟨-, -, -, h4⟩ := h
  grind
/-- the next vector, from any one with the determinant 1 -/
def nxQ (x y p q wx wy : Int) : Int := (wx * q - wy * p) / (x * q - y * p)
def nxX (x y p q wx wy : Int) : Int := wx - nxQ x y p q wx wy * x
def nxY (x y p q wx wy : Int) : Int := wy - nxQ x y p q wx wy * y
theorem two_partners {x y a b c d : Int} (h1 : x * b - y * a = 1) (h2 : x * d - y * c = 1) : c = a + ((c - a) * b - (d - b) * a) * x ∧ d = b + ((c - a) * b - (d - b) * a) * y := by
  constructor <;> grind
theorem nx_same {x y p q a b c d : Int} (hd : 0 < x * q - y * p) (h1 : x * b - y * a = 1) (h2 : x * d - y * c = 1) : nxX x y p q c d = nxX x y p q a b ∧ nxY x y p q c d = nxY x y p q a b := by
  obtain ⟨e1, e2⟩ := two_partners h1 h2
  generalize (c - a) * b - (d - b) * a = k at *
  have e : c * q - d * p = (a * q - b * p) + k * (x * q - y * p) := by rw [e1, e2]; grind
  have hq : nxQ x y p q c d = nxQ x y p q a b + k := by
    unfold nxQ
    rw [e, Int.add_mul_ediv_right _ _ (by omega)]
  unfold nxX nxY
  rw [hq]
  generalize nxQ x y p q a b = f
  constructor
  · rw [e1]; grind
  · rw [e2]; grind
theorem nx_cross {x y p q a b : Int} (hd : 0 < x * q - y * p) (h1 : x * b - y * a = 1) :
    x * nxY x y p q a b - y * nxX x y p q a b = 1 ∧ 0 ≤ nxX x y p q a b * q - nxY x y p q a b * p ∧ nxX x y p q a b * q - nxY x y p q a b * p < x * q - y * p := by
  have h2 : nxX x y p q a b * q - nxY x y p q a b * p = (a * q - b * p) % (x * q - y * p) := by
    rw [Int.emod_def]
    unfold nxX nxY nxQ
    generalize (a * q - b * p) / (x * q - y * p) = f
    grind
  refine ⟨?_, ?_, ?_⟩
  · unfold nxX nxY
    generalize nxQ x y p q a b = f
    grind
  · rw [h2]; exact Int.emod_nonneg _ (by omega)
  · rw [h2]; exact Int.emod_lt_of_pos _ hd
theorem bd_of_mul {d e z x p : Int} (h : d * z = e * x + p) (h0 : 0 ≤ e) (h1 : e < d) (hx : -30 ≤ x ∧ x ≤ 30) (hp : -30 ≤ p ∧ p ≤ 30) : -30 ≤ z ∧ z ≤ 30 := by
  have a1 : 0 ≤ e * (30 - x) := Int.mul_nonneg h0 (by omega)
  have a2 : 0 ≤ e * (30 + x) := Int.mul_nonneg h0 (by omega)
  have b1 : d * z ≤ 30 * d := by grind
  have b2 : -(30 * d) ≤ d * z := by grind
  constructor
  · rcases Int.lt_or_le z (-30) with g | g
    · have : 0 < d * (-30 - z) := Int.mul_pos (by omega) (by omega)
      grind
    · exact g
  · rcases Int.lt_or_le 30 z with g | g
    · have : 0 < d * (z - 30) := Int.mul_pos (by omega) (by omega)
      grind
    · exact g
/-- the next vector is small, too -/
theorem nx_small {x y p q a b : Int} (hd : 0 < x * q - y * p) (h1 : x * b - y * a = 1) (hx : -30 ≤ x ∧ x ≤ 30) (hy : -30 ≤ y ∧ y ≤ 30) (hp : -30 ≤ p ∧ p ≤ 30) (hq : -30 ≤ q ∧ q ≤ 30) :
    (-30 ≤ nxX x y p q a b ∧ nxX x y p q a b ≤ 30) ∧ (-30 ≤ nxY x y p q a b ∧ nxY x y p q a b ≤ 30) := by
  obtain ⟨c1, c2, c3⟩ := nx_cross hd h1
  generalize nxX x y p q a b = u at *
  generalize nxY x y p q a b = v at *
  refine ⟨bd_of_mul (d := x * q - y * p) (e := u * q - v * p) (x := x) (p := p) ?_ c2 c3 hx hp, bd_of_mul (d := x * q - y * p) (e := u * q - v * p) (x := y) (p := q) ?_ c2 c3 hy hq⟩
  · grind
  · grind
theorem gcd_of_cross {x y u v : Int} (h : x * v - y * u = 1) : Int.gcd u v = 1 := by
  have h1 : (Int.gcd u v : Int) ∣ 1 := by
    rw [← h]
    exact Int.dvd_sub (Int.dvd_mul_of_dvd_right (Int.gcd_dvd_right u v)) (Int.dvd_mul_of_dvd_right (Int.gcd_dvd_left u v))
  have := Int.natCast_dvd_natCast.1 h1
  exact Nat.dvd_one.1 this
/-- the split cone: from (x, y) on towards (p, q) -/
def splitP (p q : Int) : Nat → Int → Int → List (List Int)
  | 0, x, y => [[x, y]]
  | k + 1, x, y => if x * q - y * p = 0 then [[x, y]] else [x, y] :: splitP p q k (nxX x y p q (-(parE x y).a1 * (parE x y).r) ((parE x y).a0 * (parE x y).r)) (nxY x y p q (-(parE x y).a1 * (parE x y).r) ((parE x y).a0 * (parE x y).r))
end Go.Proofs.Ytchkcjpahlimjaa
