/- Frames of a polygon's corner: plain law. -/
import Derived.Test.YtehhoplenloocaaGreatB9
import Derived.Test.YtehhoplenloocaaGreatB1
namespace Go.Proofs.YtehhoplenloocaaGreat
set_option linter.unusedVariables false
set_option linter.unusedSimpArgs false

/-- a point in the frame of the corner a, whose first axis goes along u, with the partner w and the side st; the corner c is the other neighbor -/
def nrmP (u w : Pt) (st : Int) (a c x : Pt) : Pt :=
  (crossP (subP x a) w - crossP (subP c a) w / (st * crossP u (subP c a)) * (st * crossP u (subP x a)), st * crossP u (subP x a))
theorem frame_id {u w : Pt} (h : crossP u w = 1) (v : Pt) : v = (crossP v w * u.1 + crossP u v * w.1, crossP v w * u.2 + crossP u v * w.2) := by
  obtain ⟨u0, u1⟩ := u
  obtain ⟨w0, w1⟩ := w
  obtain ⟨v0, v1⟩ := v
  unfold crossP at *
  simp only at *
  apply Prod.ext
  · show v0 = _
    have : (v0 * w1 - v1 * w0) * u0 + (u0 * v1 - u1 * v0) * w0 = v0 * (u0 * w1 - u1 * w0) := by grind
    simp only [this, h]; omega
  · show v1 = _
    have : (v0 * w1 - v1 * w0) * u1 + (u0 * v1 - u1 * v0) * w1 = v1 * (u0 * w1 - u1 * w0) := by grind
    simp only [this, h]; omega
/-- it does not hang on the partner -/
theorem nrmP_indep {u w w' : Pt} (h : crossP u w = 1) (h' : crossP u w' = 1) {st : Int} (hs : st = 1 ∨ st = -1) (a c x : Pt) (ht : 0 < st * crossP u (subP c a)) : nrmP u w st a c x = nrmP u w' st a c x := by
  have key : ∀ v : Pt, crossP v w' = crossP v w - crossP w' w * crossP u v := fun v => by
    have e := frame_id h w'
    rw [h'] at e
    obtain ⟨u0, u1⟩ := u
    obtain ⟨w0, w1⟩ := w
    obtain ⟨v0, v1⟩ := v
    obtain ⟨z0, z1⟩ := w'
    unfold crossP at *
    simp only [Prod.mk.injEq] at e
    simp only at *
    generalize z0 * w1 - z1 * w0 = t at *
    rw [e.1, e.2]; grind
  have hst : st * st = 1 := by rcases hs with e | e <;> rw [e] <;> rfl
  unfold nrmP
  rw [key (subP x a), key (subP c a)]
  generalize crossP w' w = t
  generalize crossP (subP x a) w = e0
  generalize crossP (subP c a) w = t0
  have ex : t * crossP u (subP x a) = (t * st) * (st * crossP u (subP x a)) := by
    have : (t * st) * (st * crossP u (subP x a)) = t * (st * st) * crossP u (subP x a) := by grind
    rw [this, hst, Int.mul_one]
  have ec : t * crossP u (subP c a) = (t * st) * (st * crossP u (subP c a)) := by
    have : (t * st) * (st * crossP u (subP c a)) = t * (st * st) * crossP u (subP c a) := by grind
    rw [this, hst, Int.mul_one]
  rw [ex, ec]
  generalize st * crossP u (subP x a) = e1
  generalize st * crossP u (subP c a) = t1 at *
  have hd : (t0 - t * st * t1) / t1 = t0 / t1 - t * st := by
    rw [Int.sub_ediv_of_dvd _ ⟨t * st, by rw [Int.mul_comm]⟩, Int.mul_ediv_cancel _ (by omega)]
  rw [hd]
  refine Prod.ext ?_ rfl
  show e0 - t0 / t1 * e1 = e0 - t * st * e1 - (t0 / t1 - t * st) * e1
  rw [Int.sub_mul]; omega
/-- factors that give one -/
def bzF : Nat → Int → Int → Int × Int
  | 0, x, _ => (x, 0)
  | f + 1, x, y => if y = 0 then (x, 0) else ((bzF f y (x.tmod y)).2, (bzF f y (x.tmod y)).1 - x.tdiv y * (bzF f y (x.tmod y)).2)
theorem bzF_one : ∀ (f : Nat) (x y : Int), Int.gcd x y = 1 → y.natAbs ≤ f → (bzF f x y).1 * x + (bzF f x y).2 * y = 1
  | 0, x, y, h, hf => by
    obtain rfl : y = 0 := by omega
    have : x.natAbs = 1 := by simpa using h
    rcases (show x = 1 ∨ x = -1 by omega) with e | e <;> rw [e] <;> rfl
  | f + 1, x, y, h, hf => by
    by_cases hy : y = 0
    · subst hy
      have : x.natAbs = 1 := by simpa using h
      unfold bzF
      rw [if_pos rfl]
      rcases (show x = 1 ∨ x = -1 by omega) with e | e <;> rw [e] <;> rfl
    · have hm := tmod_natAbs x y hy
      have hg : Int.gcd y (x.tmod y) = 1 := by
        have e : x.tmod y = x - y * x.tdiv y := by have := Int.mul_tdiv_add_tmod x y; omega
        have d : ∀ d : Int, d ∣ y → d ∣ x.tmod y → d ∣ x := fun d h1 h2 => by
          have : x = x.tmod y + y * x.tdiv y := by omega
          rw [this]; exact Int.dvd_add h2 (Int.dvd_mul_of_dvd_left h1)
        have h1 : ((Int.gcd y (x.tmod y) : Nat) : Int) ∣ y := Int.gcd_dvd_left _ _
        have h2 : ((Int.gcd y (x.tmod y) : Nat) : Int) ∣ x.tmod y := Int.gcd_dvd_right _ _
        have h3 := d _ h1 h2
        have h4 : Int.gcd y (x.tmod y) ∣ Int.gcd x y := Nat.dvd_gcd (by have := Int.natAbs_dvd_natAbs.2 h3; simpa using this) (by have := Int.natAbs_dvd_natAbs.2 h1; simpa using this)
        rw [h] at h4
        exact Nat.dvd_one.1 h4
      have ih := bzF_one f y (x.tmod y) hg (by omega)
      have e : x.tmod y = x - y * x.tdiv y := by have := Int.mul_tdiv_add_tmod x y; omega
      unfold bzF
      rw [if_neg hy]
      dsimp only
      rw [e] at ih ⊢
      generalize bzF f y (x - y * x.tdiv y) = pq at *
      obtain ⟨p, q⟩ := pq
      dsimp only at *
      rw [← ih]; grind
def ptnP (u : Pt) : Pt := (-(bzF u.2.natAbs u.1 u.2).2, (bzF u.2.natAbs u.1 u.2).1)
theorem ptnP_one {u : Pt} (h : Int.gcd u.1 u.2 = 1) : crossP u (ptnP u) = 1 := by
  have := bzF_one u.2.natAbs u.1 u.2 h (Nat.le_refl _)
  unfold crossP ptnP
  dsimp only
  rw [← this]; grind
end Go.Proofs.YtehhoplenloocaaGreat
