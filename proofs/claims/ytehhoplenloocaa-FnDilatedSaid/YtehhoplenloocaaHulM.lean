/- Convex polygons and the monotone chain: the plain law. -/
import Derived.Test.YtehhoplenloocaaB1
namespace Go.Proofs.Ytehhoplenloocaa
set_option linter.unusedVariables false
set_option linter.unusedSimpArgs false

/-- points of the plane -/
abbrev Pt := Int × Int
def crossP (u v : Pt) : Int := u.1 * v.2 - u.2 * v.1
def subP (a b : Pt) : Pt := (a.1 - b.1, a.2 - b.2)
/-- positive for a turn to the left -/
def tn (a b c : Pt) : Int := crossP (subP b a) (subP c a)
def ltP (a b : Pt) : Prop := a.1 < b.1 ∨ (a.1 = b.1 ∧ a.2 < b.2)
instance (a b : Pt) : Decidable (ltP a b) := by unfold ltP; infer_instance
def posP (u : Pt) : Prop := 0 < u.1 ∨ (u.1 = 0 ∧ 0 < u.2)
theorem ltP_iff {a b : Pt} : ltP a b ↔ posP (subP b a) := by
  unfold ltP posP subP; constructor <;> intro h <;> simp at * <;> omega
theorem ltP_irrefl (a : Pt) : ¬ ltP a a := by unfold ltP; omega
theorem ltP_trans {a b c : Pt} (h : ltP a b) (k : ltP b c) : ltP a c := by unfold ltP at *; omega
theorem ltP_asymm {a b : Pt} (h : ltP a b) : ¬ ltP b a := by unfold ltP at *; omega
theorem ltP_total (a b : Pt) : ltP a b ∨ a = b ∨ ltP b a := by
  unfold ltP
  rcases Int.lt_trichotomy a.1 b.1 with h | h | h
  · omega
  · rcases Int.lt_trichotomy a.2 b.2 with k | k | k
    · omega
    · right; left; exact Prod.ext h k
    · omega
  · omega
theorem posP_add {u v : Pt} (h : posP u) (k : posP v) : posP (u.1 + v.1, u.2 + v.2) := by unfold posP at *; simp; omega
/-- transitivity of the order by turns, among vectors that point to the right or straight up -/
theorem cross_trans {u v w : Pt} (hu : posP u) (hv : posP v) (hw : posP w) (h1 : 0 < crossP u v) (h2 : 0 < crossP v w) : 0 < crossP u w := by
  obtain ⟨u1, u2⟩ := u
  obtain ⟨v1, v2⟩ := v
  obtain ⟨w1, w2⟩ := w
  unfold crossP posP at *
  simp only at *
  have e1 : (u1 * w2 - u2 * w1) * v1 = (u1 * v2 - u2 * v1) * w1 + (v1 * w2 - v2 * w1) * u1 := by grind
  have e2 : (u1 * w2 - u2 * w1) * v2 = (u1 * v2 - u2 * v1) * w2 + (v1 * w2 - v2 * w1) * u2 := by grind
  generalize u1 * w2 - u2 * w1 = C at *
  generalize u1 * v2 - u2 * v1 = A at *
  generalize v1 * w2 - v2 * w1 = B at *
  have hu1 : 0 ≤ u1 := by omega
  have hw1 : 0 ≤ w1 := by omega
  have a1 : 0 ≤ A * w1 := Int.mul_nonneg (by omega) hw1
  have a2 : 0 ≤ B * u1 := Int.mul_nonneg (by omega) hu1
  rcases Int.lt_or_le 0 C with h | h
  · exact h
  · exfalso
    rcases hv with hv | ⟨hv, hv2⟩
    · have hc : C * v1 ≤ 0 := Int.mul_nonpos_of_nonpos_of_nonneg h (by omega)
      have z1 : A * w1 = 0 := by omega
      have z2 : B * u1 = 0 := by omega
      have z3 : w1 = 0 := by rcases Int.mul_eq_zero.1 z1 with h | h <;> omega
      have z4 : u1 = 0 := by rcases Int.mul_eq_zero.1 z2 with h | h <;> omega
      have hw2 : 0 < w2 := by omega
      have hu2 : 0 < u2 := by omega
      subst z3 z4
      have : C * v1 = 0 := by omega
      rcases Int.mul_eq_zero.1 this with h0 | h0
      · subst h0
        have p1 : 0 < A * w2 := Int.mul_pos h1 hw2
        have p2 : 0 < B * u2 := Int.mul_pos h2 hu2
        omega
      · omega
    · subst hv
      have z0 : A * w1 = 0 ∧ B * u1 = 0 := by simp at e1; omega
      have z3 : w1 = 0 := by rcases Int.mul_eq_zero.1 z0.1 with h | h <;> omega
      have z4 : u1 = 0 := by rcases Int.mul_eq_zero.1 z0.2 with h | h <;> omega
      have hw2 : 0 < w2 := by omega
      have hu2 : 0 < u2 := by omega
      have p1 : 0 < A * w2 := Int.mul_pos h1 hw2
      have p2 : 0 < B * u2 := Int.mul_pos h2 hu2
      have p3 : C * v2 ≤ 0 := Int.mul_nonpos_of_nonpos_of_nonneg h (by omega)
      omega
theorem tn_rot (a b c : Pt) : tn b c a = tn a b c := by unfold tn crossP subP; grind
theorem tn_swap (a b c : Pt) : tn b a c = -tn a b c := by unfold tn crossP subP; grind
theorem tn_swap2 (a b c : Pt) : tn a c b = -tn a b c := by unfold tn crossP subP; grind
theorem tn_self (a b : Pt) : tn a b b = 0 := by unfold tn crossP subP; grind
theorem tn_self1 (a b : Pt) : tn a a b = 0 := by unfold tn crossP subP; grind
theorem tn_self2 (a b : Pt) : tn a b a = 0 := by unfold tn crossP subP; grind

/-! ### what a polygon is -/
/-- every three of them turn to the left -/
def TP (n : Nat) (p : Nat → Pt) : Prop := ∀ i j k, i < j → j < k → k < n → 0 < tn (p i) (p j) (p k)
/-- the program's tests -/
structure Loc (n : Nat) (p : Nat → Pt) : Prop where
  n3 : 3 ≤ n
  turn : ∀ k, k + 2 < n → 0 < tn (p k) (p (k + 1)) (p (k + 2))
  least : ∀ k, 0 < k → k < n → ltP (p 0) (p k)
  fan : ∀ k, 0 < k → k + 1 < n → 0 < tn (p 0) (p k) (p (k + 1))
theorem tn_cross (o a b c : Pt) : tn a b c = crossP (subP a o) (subP b o) + crossP (subP b o) (subP c o) - crossP (subP a o) (subP c o) := by unfold tn crossP subP; grind
theorem gp (a b c d : Pt) : crossP a b * crossP c d - crossP a c * crossP b d + crossP a d * crossP b c = 0 := by unfold crossP; grind
theorem four1 {o a b c d : Pt} (hab : 0 < crossP (subP a o) (subP b o)) (hbc : 0 < crossP (subP b o) (subP c o)) (hbd : 0 < crossP (subP b o) (subP d o)) (h1 : 0 < tn a b c) (h2 : 0 < tn b c d) : 0 < tn a b d := by
  rw [tn_cross o] at *
  have g := gp (subP a o) (subP b o) (subP c o) (subP d o)
  generalize crossP (subP a o) (subP b o) = ab at *
  generalize crossP (subP b o) (subP c o) = bc at *
  generalize crossP (subP a o) (subP c o) = ac at *
  generalize crossP (subP c o) (subP d o) = cd at *
  generalize crossP (subP b o) (subP d o) = bd at *
  generalize crossP (subP a o) (subP d o) = ad at *
  have e : bc * (ab + bd - ad) = bd * (ab + bc - ac) + ab * (bc + cd - bd) := by grind
  have p1 : 0 < bd * (ab + bc - ac) := Int.mul_pos hbd h1
  have p2 : 0 < ab * (bc + cd - bd) := Int.mul_pos hab h2
  exact Int.pos_of_mul_pos_right (by rw [e]; omega) (by omega)
theorem four2 {o a b c d : Pt} (hbc : 0 < crossP (subP b o) (subP c o)) (hac : 0 < crossP (subP a o) (subP c o)) (hcd : 0 < crossP (subP c o) (subP d o)) (h1 : 0 < tn a b c) (h2 : 0 < tn b c d) : 0 < tn a c d := by
  rw [tn_cross o] at *
  have g := gp (subP a o) (subP b o) (subP c o) (subP d o)
  generalize crossP (subP a o) (subP b o) = ab at *
  generalize crossP (subP b o) (subP c o) = bc at *
  generalize crossP (subP a o) (subP c o) = ac at *
  generalize crossP (subP c o) (subP d o) = cd at *
  generalize crossP (subP b o) (subP d o) = bd at *
  generalize crossP (subP a o) (subP d o) = ad at *
  have e : bc * (ac + cd - ad) = ac * (bc + cd - bd) + cd * (ab + bc - ac) := by grind
  have p1 : 0 < ac * (bc + cd - bd) := Int.mul_pos hac h2
  have p2 : 0 < cd * (ab + bc - ac) := Int.mul_pos hcd h1
  exact Int.pos_of_mul_pos_right (by rw [e]; omega) (by omega)
/-- what is true of neighbors is true of all, for vectors in order -/
theorem trans_all {n : Nat} {v : Nat → Pt} {lo : Nat} (hp : ∀ k, lo ≤ k → k < n → posP (v k)) (h : ∀ k, lo ≤ k → k + 1 < n → 0 < crossP (v k) (v (k + 1))) : ∀ i j, lo ≤ i → i < j → j < n → 0 < crossP (v i) (v j)
  | i, 0, _, hij, _ => by omega
  | i, j + 1, hi, hij, hj => by
    by_cases e : i = j
    · subst e; exact h i hi hj
    · exact cross_trans (hp i hi (by omega)) (hp j (by omega) (by omega)) (hp (j + 1) (by omega) hj) (trans_all hp h i j hi (by omega) (by omega)) (h j (by omega) hj)
theorem Loc.fans {n : Nat} {p : Nat → Pt} (h : Loc n p) : ∀ i j, 0 < i → i < j → j < n → 0 < tn (p 0) (p i) (p j) := fun i j hi hij hj =>
  trans_all (v := fun k => subP (p k) (p 0)) (lo := 1) (fun k h1 h2 => ltP_iff.1 (h.least k (by omega) h2)) (fun k h1 h2 => h.fan k (by omega) h2) i j hi hij hj
theorem Loc.gap {n : Nat} {p : Nat → Pt} (h : Loc n p) : ∀ d i j k, k - i ≤ d → 0 < i → i < j → j < k → k < n → 0 < tn (p i) (p j) (p k)
  | 0, i, j, k, hd, hi, hij, hjk, hk => by omega
  | d + 1, i, j, k, hd, hi, hij, hjk, hk => by
    have f := h.fans
    by_cases e : i + 1 < j
    · exact four2 (o := p 0) (f (i + 1) j (by omega) e (by omega)) (f i j hi hij (by omega)) (f j k (by omega) hjk hk) (h.gap d i (i + 1) j (by omega) hi (by omega) e (by omega)) (h.gap d (i + 1) j k (by omega) (by omega) e hjk hk)
    · obtain rfl : j = i + 1 := by omega
      by_cases e2 : i + 2 < k
      · obtain ⟨c, rfl⟩ : ∃ c, k = c + 1 := ⟨k - 1, by omega⟩
        exact four1 (o := p 0) (f i (i + 1) hi (by omega) (by omega)) (f (i + 1) c (by omega) (by omega) (by omega)) (f (i + 1) (c + 1) (by omega) (by omega) hk) (h.gap d i (i + 1) c (by omega) hi (by omega) (by omega) (by omega)) (h.gap d (i + 1) c (c + 1) (by omega) (by omega) (by omega) (by omega) hk)
      · obtain rfl : k = i + 2 := by omega
        exact h.turn i hk
theorem Loc.tp {n : Nat} {p : Nat → Pt} (h : Loc n p) : TP n p := fun i j k hij hjk hk => by
  rcases Nat.eq_zero_or_pos i with rfl | hi
  · exact h.fans j k hij hjk hk
  · exact h.gap (k - i) i j k (Nat.le_refl _) hi hij hjk hk
theorem TP.loc {n : Nat} {p : Nat → Pt} (h : TP n p) (h3 : 3 ≤ n) (hl : ∀ k, 0 < k → k < n → ltP (p 0) (p k)) : Loc n p :=
  ⟨h3, fun k hk => h _ _ _ (by omega) (by omega) hk, hl, fun k h0 hk => h _ _ _ h0 (by omega) hk⟩
/-- the greatest corner -/
theorem exists_max {n : Nat} (p : Nat → Pt) : ∀ n, 0 < n → ∃ m, m < n ∧ ∀ k, k < n → ltP (p k) (p m) ∨ p k = p m
  | 0, h => by omega
  | n + 1, _ => by
    rcases Nat.eq_zero_or_pos n with rfl | hn
    · exact ⟨0, by omega, fun k hk => by obtain rfl : k = 0 := by omega
                                         exact .inr rfl⟩
    · obtain ⟨m, hm, hall⟩ := exists_max (n := n) p n hn
      rcases ltP_total (p n) (p m) with h | h | h
      · exact ⟨m, by omega, fun k hk => by
          by_cases e : k = n
          · subst e; exact .inl h
          · exact hall k (by omega)⟩
      · exact ⟨m, by omega, fun k hk => by
          by_cases e : k = n
          · subst e; exact .inr h
          · exact hall k (by omega)⟩
      · exact ⟨n, by omega, fun k hk => by
          by_cases e : k = n
          · subst e; exact .inr rfl
          · rcases hall k (by omega) with g | g
            · exact .inl (ltP_trans g h)
            · rw [g]; exact .inl h⟩
theorem TP.ne {n : Nat} {p : Nat → Pt} (h : TP n p) (h3 : 3 ≤ n) {i j : Nat} (hij : i < j) (hj : j < n) : p i ≠ p j := by
  intro e
  by_cases h1 : j + 1 < n
  · have := h i j (j + 1) hij (by omega) h1
    rw [e, tn_self1] at this; omega
  · by_cases h2 : i + 1 < j
    · have := h i (i + 1) j (by omega) h2 hj
      rw [e, tn_self2] at this; omega
    · have := h 0 i j (by omega) hij hj
      rw [e, tn_self] at this; omega
/-- up to the greatest corner and down again -/
theorem Loc.bitonic {n : Nat} {p : Nat → Pt} (h : Loc n p) : ∃ m, 0 < m ∧ m < n ∧ (∀ i, i < m → ltP (p i) (p (i + 1))) ∧ (∀ i, m ≤ i → i + 1 < n → ltP (p (i + 1)) (p i)) := by
  have tp := h.tp
  have h3 := h.n3
  obtain ⟨m, hm, hmax⟩ := exists_max (n := n) p n (by omega)
  have hm0 : 0 < m := by
    rcases Nat.eq_zero_or_pos m with rfl | g
    · have h1 := h.least 1 (by omega) (by omega)
      rcases hmax 1 (by omega) with k | k
      · exact absurd k (ltP_asymm h1)
      · rw [k] at h1; exact absurd h1 (ltP_irrefl _)
    · exact g
  have hlt : ∀ k, k < n → k ≠ m → ltP (p k) (p m) := fun k hk hkm => by
    rcases hmax k hk with g | g
    · exact g
    · exfalso
      rcases Nat.lt_or_ge k m with q | q
      · exact tp.ne h3 q hm g
      · exact tp.ne h3 (show m < k by omega) hk g.symm
  refine ⟨m, hm0, hm, fun i hi => ?_, fun i hi hn => ?_⟩
  · by_cases e : i + 1 = m
    · rw [e]; exact hlt i (by omega) (by omega)
    rcases Nat.eq_zero_or_pos i with rfl | hi0
    · exact h.least 1 (by omega) (by omega)
    rcases ltP_total (p i) (p (i + 1)) with g | g | g
    · exact g
    · exact absurd g (tp.ne h3 (by omega) (by omega))
    · exfalso
      -- u = p i - p 0, e = p i - p (i+1), w = p m - p i
      have hu := ltP_iff.1 (h.least i hi0 (by omega))
      have he := ltP_iff.1 g
      have hw := ltP_iff.1 (hlt i (by omega) (by omega))
      have t1 := tp 0 i (i + 1) hi0 (by omega) (by omega)
      have t2 := tp i (i + 1) m (by omega) (by omega) hm
      have t3 := tp 0 i m hi0 hi hm
      have c1 : 0 < crossP (subP (p m) (p i)) (subP (p i) (p (i + 1))) := by
        have : crossP (subP (p m) (p i)) (subP (p i) (p (i + 1))) = tn (p i) (p (i + 1)) (p m) := by unfold tn crossP subP; grind
        omega
      have c2 : 0 < crossP (subP (p i) (p (i + 1))) (subP (p i) (p 0)) := by
        have : crossP (subP (p i) (p (i + 1))) (subP (p i) (p 0)) = tn (p 0) (p i) (p (i + 1)) := by unfold tn crossP subP; grind
        omega
      have c3 := cross_trans hw he hu c1 c2
      have : crossP (subP (p m) (p i)) (subP (p i) (p 0)) = -tn (p 0) (p i) (p m) := by unfold tn crossP subP; grind
      omega
  · by_cases e : i = m
    · rw [e]; exact hlt (m + 1) (by omega) (by omega)
    rcases ltP_total (p (i + 1)) (p i) with g | g | g
    · exact g
    · exact absurd g.symm (tp.ne h3 (by omega) (by omega))
    · exfalso
      have hu := ltP_iff.1 (h.least i (by omega) (by omega))
      have he := ltP_iff.1 g
      have hw := ltP_iff.1 (hlt i (by omega) e)
      have t1 := tp 0 i (i + 1) (by omega) (by omega) hn
      have t2 := tp m i (i + 1) (by omega) (by omega) hn
      have t3 := tp 0 m i hm0 (by omega) (by omega)
      have c1 : 0 < crossP (subP (p i) (p 0)) (subP (p (i + 1)) (p i)) := by
        have : crossP (subP (p i) (p 0)) (subP (p (i + 1)) (p i)) = tn (p 0) (p i) (p (i + 1)) := by unfold tn crossP subP; grind
        omega
      have c2 : 0 < crossP (subP (p (i + 1)) (p i)) (subP (p m) (p i)) := by
        have : crossP (subP (p (i + 1)) (p i)) (subP (p m) (p i)) = tn (p m) (p i) (p (i + 1)) := by unfold tn crossP subP; grind
        omega
      have c3 := cross_trans hu he hw c1 c2
      have : crossP (subP (p i) (p 0)) (subP (p m) (p i)) = -tn (p 0) (p m) (p i) := by unfold tn crossP subP; grind
      omega
end Go.Proofs.Ytehhoplenloocaa
