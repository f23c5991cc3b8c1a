/- Gram's identity for polygons, point by point: plain law. -/
import Derived.Test.YtehhoplenloocaaB12
namespace Go.Proofs.Ytehhoplenloocaa
set_option linter.unusedVariables false
set_option linter.unusedSimpArgs false

/-- one or nought -/
def i1 (x : Int) : Int := if 0 ≤ x then 1 else 0
theorem i1_cases (x : Int) : (0 ≤ x ∧ i1 x = 1) ∨ (x < 0 ∧ i1 x = 0) := by
  unfold i1; split
  · left; omega
  · right; omega
/-- three numbers in proportion: what their signs tell -/
theorem prop_signs {c1 c2 c3 f0 f1 f2 : Int} (h1 : 0 < c1) (h2 : 0 < c2) (h3 : 0 < c3) (h : c2 * f1 = c3 * f0 - c1 * f2) :
    (f1 < 0 → 0 ≤ f0 → 0 < f2) ∧ (f1 = 0 → (0 ≤ f0 ↔ 0 ≤ f2)) ∧ (0 < f1 → 0 ≤ f2 → 0 < f0) := by
  have s1 : 0 < f1 → 0 < c2 * f1 := fun h => Int.mul_pos h2 h
  have s2 : f1 < 0 → c2 * f1 < 0 := fun h => Int.mul_neg_of_pos_of_neg h2 h
  have s3 : f1 = 0 → c2 * f1 = 0 := fun h => by rw [h]; simp
  have t1 : 0 < f2 → 0 < c1 * f2 := fun h => Int.mul_pos h1 h
  have t2 : f2 < 0 → c1 * f2 < 0 := fun h => Int.mul_neg_of_pos_of_neg h1 h
  have t3 : f2 = 0 → c1 * f2 = 0 := fun h => by rw [h]; simp
  have u1 : 0 < f0 → 0 < c3 * f0 := fun h => Int.mul_pos h3 h
  have u2 : f0 < 0 → c3 * f0 < 0 := fun h => Int.mul_neg_of_pos_of_neg h3 h
  have u3 : f0 = 0 → c3 * f0 = 0 := fun h => by rw [h]; simp
  generalize c2 * f1 = X at *
  generalize c1 * f2 = Y at *
  generalize c3 * f0 = Z at *
  refine ⟨fun a b => ?_, fun a => ⟨fun b => ?_, fun b => ?_⟩, fun a b => ?_⟩ <;>
  · rcases Int.lt_trichotomy f2 0 with g | g | g <;> rcases Int.lt_trichotomy f0 0 with k | k | k <;> omega
/-- neighbours in the row of corners -/
def grC (H : Nat → Int) : Nat → Int
  | 0 => 0
  | k + 1 => grC H k + H k * H (k + 1)
def grS (H : Nat → Int) : Nat → Int
  | 0 => 0
  | k + 1 => grS H k + H k
section
variable {n : Nat} {p : Nat → Pt} (h : TP n p)
def eH (p : Nat → Pt) (z : Pt) (i : Nat) : Int := i1 (tn (p i) (p (i + 1)) z)
/-- Gram's sum for the first m + 1 corners -/
def grG (p : Nat → Pt) (z : Pt) (m : Nat) : Int :=
  grC (eH p z) (m - 1) + eH p z (m - 1) * i1 (tn (p m) (p 0) z) + i1 (tn (p m) (p 0) z) * eH p z 0 - grS (eH p z) m - i1 (tn (p m) (p 0) z) + 1
include h
open Classical in
theorem gram_step {m : Nat} (h2 : 2 ≤ m) (hm : m + 1 < n) (z : Pt) (ih : grG p z m = if inF p m z then 1 else 0) : grG p z (m + 1) = if inF p (m + 1) z then 1 else 0 := by
  obtain ⟨k, rfl⟩ : ∃ k, m = k + 1 := ⟨m - 1, by omega⟩
  have e1 : (if inF p (k + 1 + 1) z then (1 : Int) else 0) = (if inF p (k + 1) z then 1 else 0) + (if tn (p (k + 1)) (p 0) z ≤ 0 ∧ 0 ≤ tn (p (k + 1)) (p (k + 1 + 1)) z ∧ 0 ≤ tn (p (k + 1 + 1)) (p 0) z then 1 else 0) - (if tn (p (k + 1)) (p 0) z = 0 ∧ 0 ≤ tn (p (k + 1)) (p (k + 1 + 1)) z ∧ 0 ≤ tn (p (k + 1 + 1)) (p 0) z then 1 else 0) := by
    have a1 : inF p (k + 1) z → inF p (k + 1 + 1) z := fan_in h h2 hm
    have a2 : tn (p (k + 1)) (p 0) z ≤ 0 → 0 ≤ tn (p (k + 1)) (p (k + 1 + 1)) z → 0 ≤ tn (p (k + 1 + 1)) (p 0) z → inF p (k + 1 + 1) z := fun x y w => tri_in h (by omega) hm (by rw [ktn_rev]; omega) y w
    have a3 : inF p (k + 1 + 1) z → 0 ≤ tn (p (k + 1)) (p 0) z → inF p (k + 1) z := fun x y => ⟨fun i hi => x.1 i (by omega), y⟩
    have a4 : inF p (k + 1) z → 0 ≤ tn (p (k + 1)) (p 0) z := fun x => x.2
    have a5 : inF p (k + 1 + 1) z → 0 ≤ tn (p (k + 1)) (p (k + 1 + 1)) z ∧ 0 ≤ tn (p (k + 1 + 1)) (p 0) z := fun x => ⟨x.1 (k + 1) (by omega), x.2⟩
    generalize tn (p (k + 1)) (p 0) z = d at *
    generalize tn (p (k + 1)) (p (k + 1 + 1)) z = b at *
    generalize tn (p (k + 1 + 1)) (p 0) z = c at *
    generalize inF p (k + 1) z = P at *
    generalize inF p (k + 1 + 1) z = Q at *
    by_cases hP : P <;> by_cases hQ : Q <;> simp only [hP, hQ, if_true, if_false, true_implies, false_implies, imp_false] at * <;> split <;> split <;> first | omega | (exfalso; first | omega | (simp_all; done) | (simp_all; omega))
  have g1 : grG p z (k + 1 + 1) = grC (eH p z) k + eH p z k * eH p z (k + 1) + eH p z (k + 1) * i1 (tn (p (k + 1 + 1)) (p 0) z) + i1 (tn (p (k + 1 + 1)) (p 0) z) * eH p z 0 - (grS (eH p z) (k + 1) + eH p z (k + 1)) - i1 (tn (p (k + 1 + 1)) (p 0) z) + 1 := rfl
  have g0 : grG p z (k + 1) = grC (eH p z) k + eH p z k * i1 (tn (p (k + 1)) (p 0) z) + i1 (tn (p (k + 1)) (p 0) z) * eH p z 0 - grS (eH p z) (k + 1) - i1 (tn (p (k + 1)) (p 0) z) + 1 := rfl
  have r1 := prop_signs (c1 := tn (p 0) (p (k + 1)) (p (k + 1 + 1))) (c2 := tn (p k) (p (k + 1)) (p (k + 1 + 1))) (c3 := tn (p 0) (p k) (p (k + 1))) (f0 := tn (p (k + 1)) (p (k + 1 + 1)) z) (f1 := tn (p (k + 1)) (p 0) z) (f2 := tn (p k) (p (k + 1)) z)
    (h 0 (k + 1) (k + 1 + 1) (by omega) (by omega) hm) (h k (k + 1) (k + 1 + 1) (by omega) (by omega) hm) (h 0 k (k + 1) (by omega) (by omega) (by omega)) (by
      generalize p 0 = o
      generalize p k = a
      generalize p (k + 1) = b
      generalize p (k + 1 + 1) = c
      unfold tn crossP subP; dsimp only; grind)
  have r2 := prop_signs (c1 := tn (p 0) (p 1) (p (k + 1))) (c2 := tn (p 0) (p 1) (p (k + 1 + 1))) (c3 := tn (p 0) (p (k + 1)) (p (k + 1 + 1))) (f0 := tn (p 0) (p 1) z) (f1 := -tn (p (k + 1)) (p 0) z) (f2 := tn (p (k + 1 + 1)) (p 0) z)
    (h 0 1 (k + 1) (by omega) (by omega) (by omega)) (h 0 1 (k + 1 + 1) (by omega) (by omega) hm) (h 0 (k + 1) (k + 1 + 1) (by omega) (by omega) hm) (by
      generalize p 0 = o
      generalize p 1 = a
      generalize p (k + 1) = b
      generalize p (k + 1 + 1) = c
      unfold tn crossP subP; dsimp only; grind)
  have r3 : 0 < tn (p (k + 1)) (p (k + 1 + 1)) z + tn (p (k + 1 + 1)) (p 0) z - tn (p (k + 1)) (p 0) z := by
    have e : tn (p (k + 1)) (p (k + 1 + 1)) z + tn (p (k + 1 + 1)) (p 0) z - tn (p (k + 1)) (p 0) z = tn (p 0) (p (k + 1)) (p (k + 1 + 1)) := by
      generalize p 0 = o
      generalize p (k + 1) = b
      generalize p (k + 1 + 1) = c
      unfold tn crossP subP; dsimp only; grind
    rw [e]; exact h 0 (k + 1) (k + 1 + 1) (by omega) (by omega) hm
  rw [e1, ← ih, g1, g0]
  have ea : eH p z k = i1 (tn (p k) (p (k + 1)) z) := rfl
  have eb : eH p z (k + 1) = i1 (tn (p (k + 1)) (p (k + 1 + 1)) z) := rfl
  have ee : eH p z 0 = i1 (tn (p 0) (p 1) z) := rfl
  rw [ea, eb, ee]
  generalize grC (eH p z) k = C
  generalize grS (eH p z) (k + 1) = S
  clear e1 g1 g0 ih ea eb ee
  generalize tn (p k) (p (k + 1)) z = a at *
  generalize tn (p (k + 1)) (p (k + 1 + 1)) z = b at *
  generalize tn (p (k + 1 + 1)) (p 0) z = c at *
  generalize tn (p (k + 1)) (p 0) z = d at *
  generalize tn (p 0) (p 1) z = e at *
  have y1 := i1_cases a
  have y2 := i1_cases b
  have y3 := i1_cases c
  have y4 := i1_cases d
  have y5 := i1_cases e
  generalize i1 a = A at *
  generalize i1 b = B at *
  generalize i1 c = G at *
  generalize i1 d = D at *
  generalize i1 e = E at *
  rcases y1 with ⟨y1, rfl⟩ | ⟨y1, rfl⟩ <;> rcases y2 with ⟨y2, rfl⟩ | ⟨y2, rfl⟩ <;> rcases y3 with ⟨y3, rfl⟩ | ⟨y3, rfl⟩ <;> rcases y4 with ⟨y4, rfl⟩ | ⟨y4, rfl⟩ <;> rcases y5 with ⟨y5, rfl⟩ | ⟨y5, rfl⟩ <;> split <;> split <;> omega
open Classical in
/-- Gram's identity -/
theorem gram : ∀ m, 2 ≤ m → m < n → ∀ z, grG p z m = if inF p m z then 1 else 0
  | 0, h2, _, _ => by omega
  | 1, h2, _, _ => by omega
  | 2, _, hm, z => by
    have r3 : 0 < tn (p 0) (p 1) z + tn (p 1) (p 2) z + tn (p 2) (p 0) z := by
      have e : tn (p 0) (p 1) z + tn (p 1) (p 2) z + tn (p 2) (p 0) z = tn (p 0) (p 1) (p 2) := by
        generalize p 0 = o
        generalize p 1 = b
        generalize p 2 = c
        unfold tn crossP subP; dsimp only; grind
      rw [e]; exact h 0 1 2 (by omega) (by omega) hm
    have g : grG p z 2 = 0 + i1 (tn (p 0) (p 1) z) * i1 (tn (p 1) (p 2) z) + i1 (tn (p 1) (p 2) z) * i1 (tn (p 2) (p 0) z) + i1 (tn (p 2) (p 0) z) * i1 (tn (p 0) (p 1) z) - (0 + i1 (tn (p 0) (p 1) z) + i1 (tn (p 1) (p 2) z)) - i1 (tn (p 2) (p 0) z) + 1 := rfl
    have hi : inF p 2 z ↔ 0 ≤ tn (p 0) (p 1) z ∧ 0 ≤ tn (p 1) (p 2) z ∧ 0 ≤ tn (p 2) (p 0) z := by
      constructor
      · rintro ⟨a, b⟩; exact ⟨a 0 (by omega), a 1 (by omega), b⟩
      · rintro ⟨a, b, c⟩
        refine ⟨fun i hi => ?_, c⟩
        rcases (show i = 0 ∨ i = 1 by omega) with rfl | rfl
        · exact a
        · exact b
    rw [g]
    simp only [hi]
    generalize tn (p 0) (p 1) z = a at *
    generalize tn (p 1) (p 2) z = b at *
    generalize tn (p 2) (p 0) z = c at *
    have y1 := i1_cases a
    have y2 := i1_cases b
    have y3 := i1_cases c
    generalize i1 a = A at *
    generalize i1 b = B at *
    generalize i1 c = G at *
    rcases y1 with ⟨y1, rfl⟩ | ⟨y1, rfl⟩ <;> rcases y2 with ⟨y2, rfl⟩ | ⟨y2, rfl⟩ <;> rcases y3 with ⟨y3, rfl⟩ | ⟨y3, rfl⟩ <;> split <;> omega
  | m + 3, _, hm, z => gram_step h (by omega) hm z (gram (m + 2) (by omega) (by omega) z)
end
end Go.Proofs.Ytehhoplenloocaa
