/- l17Frame: plain law. -/
import Derived.Test.YtehhoplenloocaaGreatNrmW
import Derived.Test.YtehhoplenloocaaGreatBezH
namespace Go.Proofs.YtehhoplenloocaaGreat
open Go.RowKit
set_option linter.unusedVariables false
set_option linter.unusedSimpArgs false

theorem bez_small (x y : Int) (hx : -100 ≤ x ∧ x ≤ 100) (hy : -100 ≤ y ∧ y ≤ 100) (hg : Int.gcd x y = 1) : ∃ a b M : Int, x * b - y * a = 1 ∧ ((a = M ∨ a = -M ∨ b = M ∨ b = -M) ∧ (-M ≤ a ∧ a ≤ M) ∧ (-M ≤ b ∧ b ≤ M)) ∧ M ≤ 100 := by
  have fin : ∀ a b : Int, x * b - y * a = 1 → a.natAbs ≤ 100 → b.natAbs ≤ 100 → ∃ a b M : Int, x * b - y * a = 1 ∧ ((a = M ∨ a = -M ∨ b = M ∨ b = -M) ∧ (-M ≤ a ∧ a ≤ M) ∧ (-M ≤ b ∧ b ≤ M)) ∧ M ≤ 100 := fun a b h ha hb => by
    rcases Nat.le_total a.natAbs b.natAbs with hl | hl
    · exact ⟨a, b, b.natAbs, h, by omega, by omega⟩
    · exact ⟨a, b, a.natAbs, h, by omega, by omega⟩
  obtain ⟨a1, b1, huv⟩ : ∃ a1 b1 : Int, x * b1 - y * a1 = 1 := ⟨(ptnP (x, y)).1, (ptnP (x, y)).2, ptnP_one (u := (x, y)) hg⟩
  by_cases h0 : x = 0
  · rw [h0, Int.gcd_zero_left] at hg
    subst h0
    rcases (show y = 1 ∨ y = -1 by omega) with e | e
    · exact fin (-1) 0 (by rw [e]; omega) (by omega) (by omega)
    · exact fin 1 0 (by rw [e]; omega) (by omega) (by omega)
  · have hm := Int.mul_ediv_add_emod a1 x
    have h1 := Int.emod_nonneg a1 h0
    have h2 : a1 % x < x.natAbs := Int.emod_lt a1 h0
    generalize a1 % x = a at *
    generalize a1 / x = t at *
    have hdet : x * (b1 - t * y) - y * a = 1 := by
      have e : a = a1 - x * t := by omega
      rw [e]
      have : x * (b1 - t * y) - y * (a1 - x * t) = x * b1 - y * a1 := by grind
      rw [this]; exact huv
    generalize b1 - t * y = b at *
    refine fin a b hdet (by omega) ?_
    have hX : x.natAbs * b.natAbs = (x * b).natAbs := (Int.natAbs_mul x b).symm
    have hY : y.natAbs * a.natAbs = (y * a).natAbs := (Int.natAbs_mul y a).symm
    have h3 : x.natAbs * b.natAbs ≤ 1 + y.natAbs * a.natAbs := by rw [hX, hY]; omega
    have h4 : y.natAbs * a.natAbs ≤ y.natAbs * (x.natAbs - 1) := Nat.mul_le_mul_left _ (by omega)
    rcases Nat.eq_zero_or_pos y.natAbs with e | e
    · rw [e] at h3
      have : 1 * b.natAbs ≤ x.natAbs * b.natAbs := Nat.mul_le_mul_right _ (by omega)
      omega
    · have h5 : y.natAbs * (x.natAbs - 1) + y.natAbs = y.natAbs * x.natAbs := by
        rw [← Nat.mul_succ]
        congr 1
        omega
      have h6 : x.natAbs * b.natAbs ≤ x.natAbs * y.natAbs := by rw [Nat.mul_comm x.natAbs y.natAbs]; omega
      have := Nat.le_of_mul_le_mul_left h6 (by omega)
      omega
theorem less_minus {a b : List Int} (ha : a.length = 2) (hb : b.length = 2) : List.zipWith (· - ·) a b = minusI a b := by
  rw [two_form ha, two_form hb]; rfl
theorem lessW_minus {M : Int} {a b : List Int} (ha : Two M a) (hb : Two M b) (hM : M ≤ 1000000000) : List.zipWith (fun x y => wrap64 (x - y)) a b = minusI a b := by
  obtain ⟨a0, a1⟩ := ha.at
  obtain ⟨b0, b1⟩ := hb.at
  rw [two_form ha.1, two_form hb.1]
  unfold minusI
  simp only [List.zipWith_cons_cons, List.getD_cons_zero, List.getD_cons_succ, List.zipWith_nil_left]
  rw [← wrap_64, ← wrap_64, wr64 _ (by omega), wr64 _ (by omega)]
/-- the matrix of the frame -/
def frU (u w : List Int) (st sh : Int) : List (List Int) :=
  [[w.getD 1 0 - sh * (st * -u.getD 1 0), -w.getD 0 0 - sh * (st * u.getD 0 0)], [st * -u.getD 1 0, st * u.getD 0 0]]
def frV (U : List (List Int)) (a : List Int) : List Int := [-dotI (U.getD 0 []) a, -dotI (U.getD 1 []) a]
theorem frU_moves {u w a c x : List Int} (hu : u.length = 2) (hw : w.length = 2) (ha : a.length = 2) (hx : x.length = 2) (st : Int) :
    mvP (frU u w st (crossI (minusI c a) w / (st * crossI u (minusI c a)))) (frV (frU u w st (crossI (minusI c a) w / (st * crossI u (minusI c a)))) a) x = frR u w st a c x := by
  unfold frR mvP frV
  generalize crossI (minusI c a) w / (st * crossI u (minusI c a)) = sh
  rw [show ∀ p q : Int, [p, q].getD 0 0 = p from fun _ _ => rfl, show ∀ p q : Int, [p, q].getD 1 0 = q from fun _ _ => rfl]
  have e0 : ∀ y : List Int, y.length = 2 → dotI ((frU u w st sh).getD 0 []) y = (w.getD 1 0 - sh * (st * -u.getD 1 0)) * y.getD 0 0 + (-w.getD 0 0 - sh * (st * u.getD 0 0)) * y.getD 1 0 := fun y hy => by
    rw [dotI_two rfl hy]; rfl
  have e1 : ∀ y : List Int, y.length = 2 → dotI ((frU u w st sh).getD 1 []) y = (st * -u.getD 1 0) * y.getD 0 0 + (st * u.getD 0 0) * y.getD 1 0 := fun y hy => by
    rw [dotI_two rfl hy]; rfl
  rw [e0 x hx, e0 a ha, e1 x hx, e1 a ha]
  unfold crossI minusI
  simp only [List.getD_cons_zero, List.getD_cons_succ]
  generalize x.getD 0 0 = x0
  generalize x.getD 1 0 = x1
  generalize a.getD 0 0 = a0
  generalize a.getD 1 0 = a1
  generalize u.getD 0 0 = u0
  generalize u.getD 1 0 = u1
  generalize w.getD 0 0 = w0
  generalize w.getD 1 0 = w1
  congr 1
  · grind
  · congr 1
    grind
end Go.Proofs.YtehhoplenloocaaGreat
