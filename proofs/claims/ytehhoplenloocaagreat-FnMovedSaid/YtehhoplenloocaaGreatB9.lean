/- B9: texts in one: HulM HulC HulD HulE HulF. -/
import Derived.Test.YtehhoplenloocaaGreatB1
/- Convex polygons and the monotone chain: the plain law. -/
namespace Go.Proofs.YtehhoplenloocaaGreat
set_option linter.unusedVariables false
set_option linter.unusedSimpArgs false

/-- points of the plane -/
abbrev Pt := Int × Int
def crossP (u v : Pt) : Int := u.1 * v.2 - u.2 * v.1
def subP (a b : Pt) : Pt := (a.1 - b.1, a.2 - b.2)
/-- positive for a turn to the left -/
def tn (a b c : Pt) : Int := crossP (subP b a) (subP c a)
def ltP (a b : Pt) : Prop := a.1 < b.1 ∨ (a.1 = b.1 ∧ a.2 < b.2)
instance (a b : Pt) : Decidable (ltP a b) := by unfold ltP; infer_instance
def posP (u : Pt) : Prop := 0 < u.1 ∨ (u.1 = 0 ∧ 0 < u.2)
theorem ltP_iff {a b : Pt} : ltP a b ↔ posP (subP b a) := by
  unfold ltP posP subP; constructor <;> intro h <;> simp at * <;> omega
theorem ltP_irrefl (a : Pt) : ¬ ltP a a := by unfold ltP; omega
theorem ltP_trans {a b c : Pt} (h : ltP a b) (k : ltP b c) : ltP a c := by unfold ltP at *; omega
theorem ltP_asymm {a b : Pt} (h : ltP a b) : ¬ ltP b a := by unfold ltP at *; omega
theorem ltP_total (a b : Pt) : ltP a b ∨ a = b ∨ ltP b a := by
  unfold ltP
  rcases Int.lt_trichotomy a.1 b.1 with h | h | h
  · omega
  · rcases Int.lt_trichotomy a.2 b.2 with k | k | k
    · omega
    · right; left; exact Prod.ext h k
    · omega
  · omega
theorem posP_add {u v : Pt} (h : posP u) (k : posP v) : posP (u.1 + v.1, u.2 + v.2) := by unfold posP at *; simp; omega
/-- transitivity of the order by turns, among vectors that point to the right or straight up -/
theorem cross_trans {u v w : Pt} (hu : posP u) (hv : posP v) (hw : posP w) (h1 : 0 < crossP u v) (h2 : 0 < crossP v w) : 0 < crossP u w := by
  obtain ⟨u1, u2⟩ := u
  obtain ⟨v1, v2⟩ := v
  obtain ⟨w1, w2⟩ := w
  unfold crossP posP at *
  simp only at *
  have e1 : (u1 * w2 - u2 * w1) * v1 = (u1 * v2 - u2 * v1) * w1 + (v1 * w2 - v2 * w1) * u1 := by grind
  have e2 : (u1 * w2 - u2 * w1) * v2 = (u1 * v2 - u2 * v1) * w2 + (v1 * w2 - v2 * w1) * u2 := by grind
  generalize u1 * w2 - u2 * w1 = C at *
  generalize u1 * v2 - u2 * v1 = A at *
  generalize v1 * w2 - v2 * w1 = B at *
  have hu1 : 0 ≤ u1 := by omega
  have hw1 : 0 ≤ w1 := by omega
  have a1 : 0 ≤ A * w1 := Int.mul_nonneg (by omega) hw1
  have a2 : 0 ≤ B * u1 := Int.mul_nonneg (by omega) hu1
  rcases Int.lt_or_le 0 C with h | h
  · exact h
  · exfalso
    rcases hv with hv | ⟨hv, hv2⟩
    · have hc : C * v1 ≤ 0 := Int.mul_nonpos_of_nonpos_of_nonneg h (by omega)
      have z1 : A * w1 = 0 := by omega
      have z2 : B * u1 = 0 := by omega
      have z3 : w1 = 0 := by rcases Int.mul_eq_zero.1 z1 with h | h <;> omega
      have z4 : u1 = 0 := by rcases Int.mul_eq_zero.1 z2 with h | h <;> omega
      have hw2 : 0 < w2 := by omega
      have hu2 : 0 < u2 := by omega
      subst z3 z4
      have : C * v1 = 0 := by omega
      rcases Int.mul_eq_zero.1 this with h0 | h0
      · subst h0
        have p1 : 0 < A * w2 := Int.mul_pos h1 hw2
        have p2 : 0 < B * u2 := Int.mul_pos h2 hu2
        omega
      · omega
    · subst hv
      have z0 : A * w1 = 0 ∧ B * u1 = 0 := by simp at e1; omega
      have z3 : w1 = 0 := by rcases Int.mul_eq_zero.1 z0.1 with h | h <;> omega
      have z4 : u1 = 0 := by rcases Int.mul_eq_zero.1 z0.2 with h | h <;> omega
      have hw2 : 0 < w2 := by omega
      have hu2 : 0 < u2 := by omega
      have p1 : 0 < A * w2 := Int.mul_pos h1 hw2
      have p2 : 0 < B * u2 := Int.mul_pos h2 hu2
      have p3 : C * v2 ≤ 0 := Int.mul_nonpos_of_nonpos_of_nonneg h (by omega)
      omega
theorem tn_rot (a b c : Pt) : tn b c a = tn a b c := by unfold tn crossP subP; grind
theorem tn_swap (a b c : Pt) : tn b a c = -tn a b c := by unfold tn crossP subP; grind
theorem tn_swap2 (a b c : Pt) : tn a c b = -tn a b c := by unfold tn crossP subP; grind
theorem tn_self (a b : Pt) : tn a b b = 0 := by unfold tn crossP subP; grind
theorem tn_self1 (a b : Pt) : tn a a b = 0 := by unfold tn crossP subP; grind
theorem tn_self2 (a b : Pt) : tn a b a = 0 := by unfold tn crossP subP; grind

/-! ### what a polygon is -/
/-- every three of them turn to the left -/
def TP (n : Nat) (p : Nat → Pt) : Prop := ∀ i j k, i < j → j < k → k < n → 0 < tn (p i) (p j) (p k)
/-- the program's tests -/
structure Loc (n : Nat) (p : Nat → Pt) : Prop where
  n3 : 3 ≤ n
  turn : ∀ k, k + 2 < n → 0 < tn (p k) (p (k + 1)) (p (k + 2))
  least : ∀ k, 0 < k → k < n → ltP (p 0) (p k)
  fan : ∀ k, 0 < k → k + 1 < n → 0 < tn (p 0) (p k) (p (k + 1))
theorem tn_cross (o a b c : Pt) : tn a b c = crossP (subP a o) (subP b o) + crossP (subP b o) (subP c o) - crossP (subP a o) (subP c o) := by unfold tn crossP subP; grind
theorem gp (a b c d : Pt) : crossP a b * crossP c d - crossP a c * crossP b d + crossP a d * crossP b c = 0 := by unfold crossP; grind
theorem four1 {o a b c d : Pt} (hab : 0 < crossP (subP a o) (subP b o)) (hbc : 0 < crossP (subP b o) (subP c o)) (hbd : 0 < crossP (subP b o) (subP d o)) (h1 : 0 < tn a b c) (h2 : 0 < tn b c d) : 0 < tn a b d := by
  rw [tn_cross o] at *
  have g := gp (subP a o) (subP b o) (subP c o) (subP d o)
  generalize crossP (subP a o) (subP b o) = ab at *
  generalize crossP (subP b o) (subP c o) = bc at *
  generalize crossP (subP a o) (subP c o) = ac at *
  generalize crossP (subP c o) (subP d o) = cd at *
  generalize crossP (subP b o) (subP d o) = bd at *
  generalize crossP (subP a o) (subP d o) = ad at *
  have e : bc * (ab + bd - ad) = bd * (ab + bc - ac) + ab * (bc + cd - bd) := by grind
  have p1 : 0 < bd * (ab + bc - ac) := Int.mul_pos hbd h1
  have p2 : 0 < ab * (bc + cd - bd) := Int.mul_pos hab h2
  exact Int.pos_of_mul_pos_right (by rw [e]; omega) (by omega)
theorem four2 {o a b c d : Pt} (hbc : 0 < crossP (subP b o) (subP c o)) (hac : 0 < crossP (subP a o) (subP c o)) (hcd : 0 < crossP (subP c o) (subP d o)) (h1 : 0 < tn a b c) (h2 : 0 < tn b c d) : 0 < tn a c d := by
  rw [tn_cross o] at *
  have g := gp (subP a o) (subP b o) (subP c o) (subP d o)
  generalize crossP (subP a o) (subP b o) = ab at *
  generalize crossP (subP b o) (subP c o) = bc at *
  generalize crossP (subP a o) (subP c o) = ac at *
  generalize crossP (subP c o) (subP d o) = cd at *
  generalize crossP (subP b o) (subP d o) = bd at *
  generalize crossP (subP a o) (subP d o) = ad at *
  have e : bc * (ac + cd - ad) = ac * (bc + cd - bd) + cd * (ab + bc - ac) := by grind
  have p1 : 0 < ac * (bc + cd - bd) := Int.mul_pos hac h2
  have p2 : 0 < cd * (ab + bc - ac) := Int.mul_pos hcd h1
  exact Int.pos_of_mul_pos_right (by rw [e]; omega) (by omega)
/-- what is true of neighbors is true of all, for vectors in order -/
theorem trans_all {n : Nat} {v : Nat → Pt} {lo : Nat} (hp : ∀ k, lo ≤ k → k < n → posP (v k)) (h : ∀ k, lo ≤ k → k + 1 < n → 0 < crossP (v k) (v (k + 1))) : ∀ i j, lo ≤ i → i < j → j < n → 0 < crossP (v i) (v j)
  | i, 0, _, hij, _ => by omega
  | i, j + 1, hi, hij, hj => by
    by_cases e : i = j
    · subst e; exact h i hi hj
    · exact cross_trans (hp i hi (by omega)) (hp j (by omega) (by omega)) (hp (j + 1) (by omega) hj) (trans_all hp h i j hi (by omega) (by omega)) (h j (by omega) hj)
theorem Loc.fans {n : Nat} {p : Nat → Pt} (h : Loc n p) : ∀ i j, 0 < i → i < j → j < n → 0 < tn (p 0) (p i) (p j) := fun i j hi hij hj =>
  trans_all (v := fun k => subP (p k) (p 0)) (lo := 1) (fun k h1 h2 => ltP_iff.1 (h.least k (by omega) h2)) (fun k h1 h2 => h.fan k (by omega) h2) i j hi hij hj
theorem Loc.gap {n : Nat} {p : Nat → Pt} (h : Loc n p) : ∀ d i j k, k - i ≤ d → 0 < i → i < j → j < k → k < n → 0 < tn (p i) (p j) (p k)
  | 0, i, j, k, hd, hi, hij, hjk, hk => by omega
  | d + 1, i, j, k, hd, hi, hij, hjk, hk => by
    have f := h.fans
    by_cases e : i + 1 < j
    · exact four2 (o := p 0) (f (i + 1) j (by omega) e (by omega)) (f i j hi hij (by omega)) (f j k (by omega) hjk hk) (h.gap d i (i + 1) j (by omega) hi (by omega) e (by omega)) (h.gap d (i + 1) j k (by omega) (by omega) e hjk hk)
    · obtain rfl : j = i + 1 := by omega
      by_cases e2 : i + 2 < k
      · obtain ⟨c, rfl⟩ : ∃ c, k = c + 1 := ⟨k - 1, by omega⟩
        exact four1 (o := p 0) (f i (i + 1) hi (by omega) (by omega)) (f (i + 1) c (by omega) (by omega) (by omega)) (f (i + 1) (c + 1) (by omega) (by omega) hk) (h.gap d i (i + 1) c (by omega) hi (by omega) (by omega) (by omega)) (h.gap d (i + 1) c (c + 1) (by omega) (by omega) (by omega) (by omega) hk)
      · obtain rfl : k = i + 2 := by omega
        exact h.turn i hk
theorem Loc.tp {n : Nat} {p : Nat → Pt} (h : Loc n p) : TP n p := fun i j k hij hjk hk => by
  rcases Nat.eq_zero_or_pos i with rfl | hi
  · exact h.fans j k hij hjk hk
  · exact h.gap (k - i) i j k (Nat.le_refl _) hi hij hjk hk
theorem TP.loc {n : Nat} {p : Nat → Pt} (h : TP n p) (h3 : 3 ≤ n) (hl : ∀ k, 0 < k → k < n → ltP (p 0) (p k)) : Loc n p :=
  ⟨h3, fun k hk => h _ _ _ (by omega) (by omega) hk, hl, fun k h0 hk => h _ _ _ h0 (by omega) hk⟩
/-- the greatest corner -/
theorem exists_max {n : Nat} (p : Nat → Pt) : ∀ n, 0 < n → ∃ m, m < n ∧ ∀ k, k < n → ltP (p k) (p m) ∨ p k = p m
  | 0, h => by omega
  | n + 1, _ => by
    rcases Nat.eq_zero_or_pos n with rfl | hn
    · exact ⟨0, by omega, fun k hk => by obtain rfl : k = 0 := by omega
                                         exact .inr rfl⟩
    · obtain ⟨m, hm, hall⟩ := exists_max (n := n) p n hn
      rcases ltP_total (p n) (p m) with h | h | h
      · exact ⟨m, by omega, fun k hk => by
          by_cases e : k = n
          · subst e; exact .inl h
          · exact hall k (by omega)⟩
      · exact ⟨m, by omega, fun k hk => by
          by_cases e : k = n
          · subst e; exact .inr h
          · exact hall k (by omega)⟩
      · exact ⟨n, by omega, fun k hk => by
          by_cases e : k = n
          · subst e; exact .inr rfl
          · rcases hall k (by omega) with g | g
            · exact .inl (ltP_trans g h)
            · rw [g]; exact .inl h⟩
theorem TP.ne {n : Nat} {p : Nat → Pt} (h : TP n p) (h3 : 3 ≤ n) {i j : Nat} (hij : i < j) (hj : j < n) : p i ≠ p j := by
  intro e
  by_cases h1 : j + 1 < n
  · have := h i j (j + 1) hij (by omega) h1
    rw [e, tn_self1] at this; omega
  · by_cases h2 : i + 1 < j
    · have := h i (i + 1) j (by omega) h2 hj
      rw [e, tn_self2] at this; omega
    · have := h 0 i j (by omega) hij hj
      rw [e, tn_self] at this; omega
/-- up to the greatest corner and down again -/
theorem Loc.bitonic {n : Nat} {p : Nat → Pt} (h : Loc n p) : ∃ m, 0 < m ∧ m < n ∧ (∀ i, i < m → ltP (p i) (p (i + 1))) ∧ (∀ i, m ≤ i → i + 1 < n → ltP (p (i + 1)) (p i)) := by
  have tp := h.tp
  have h3 := h.n3
  obtain ⟨m, hm, hmax⟩ := exists_max (n := n) p n (by omega)
  have hm0 : 0 < m := by
    rcases Nat.eq_zero_or_pos m with rfl | g
    · have h1 := h.least 1 (by omega) (by omega)
      rcases hmax 1 (by omega) with k | k
      · exact absurd k (ltP_asymm h1)
      · rw [k] at h1; exact absurd h1 (ltP_irrefl _)
    · exact g
  have hlt : ∀ k, k < n → k ≠ m → ltP (p k) (p m) := fun k hk hkm => by
    rcases hmax k hk with g | g
    · exact g
    · exfalso
      rcases Nat.lt_or_ge k m with q | q
      · exact tp.ne h3 q hm g
      · exact tp.ne h3 (show m < k by omega) hk g.symm
  refine ⟨m, hm0, hm, fun i hi => ?_, fun i hi hn => ?_⟩
  · by_cases e : i + 1 = m
    · rw [e]; exact hlt i (by omega) (by omega)
    rcases Nat.eq_zero_or_pos i with rfl | hi0
    · exact h.least 1 (by omega) (by omega)
    rcases ltP_total (p i) (p (i + 1)) with g | g | g
    · exact g
    · exact absurd g (tp.ne h3 (by omega) (by omega))
    · exfalso
      -- u = p i - p 0, e = p i - p (i+1), w = p m - p i
      have hu := ltP_iff.1 (h.least i hi0 (by omega))
      have he := ltP_iff.1 g
      have hw := ltP_iff.1 (hlt i (by omega) (by omega))
      have t1 := tp 0 i (i + 1) hi0 (by omega) (by omega)
      have t2 := tp i (i + 1) m (by omega) (by omega) hm
      have t3 := tp 0 i m hi0 hi hm
      have c1 : 0 < crossP (subP (p m) (p i)) (subP (p i) (p (i + 1))) := by
        have : crossP (subP (p m) (p i)) (subP (p i) (p (i + 1))) = tn (p i) (p (i + 1)) (p m) := by unfold tn crossP subP; grind
        omega
      have c2 : 0 < crossP (subP (p i) (p (i + 1))) (subP (p i) (p 0)) := by
        have : crossP (subP (p i) (p (i + 1))) (subP (p i) (p 0)) = tn (p 0) (p i) (p (i + 1)) := by unfold tn crossP subP; grind
        omega
      have c3 := cross_trans hw he hu c1 c2
      have : crossP (subP (p m) (p i)) (subP (p i) (p 0)) = -tn (p 0) (p i) (p m) := by unfold tn crossP subP; grind
      omega
  · by_cases e : i = m
    · rw [e]; exact hlt (m + 1) (by omega) (by omega)
    rcases ltP_total (p (i + 1)) (p i) with g | g | g
    · exact g
    · exact absurd g.symm (tp.ne h3 (by omega) (by omega))
    · exfalso
      have hu := ltP_iff.1 (h.least i (by omega) (by omega))
      have he := ltP_iff.1 g
      have hw := ltP_iff.1 (hlt i (by omega) e)
      have t1 := tp 0 i (i + 1) (by omega) (by omega) hn
      have t2 := tp m i (i + 1) (by omega) (by omega) hn
      have t3 := tp 0 m i hm0 (by omega) (by omega)
      have c1 : 0 < crossP (subP (p i) (p 0)) (subP (p (i + 1)) (p i)) := by
        have : crossP (subP (p i) (p 0)) (subP (p (i + 1)) (p i)) = tn (p 0) (p i) (p (i + 1)) := by unfold tn crossP subP; grind
        omega
      have c2 : 0 < crossP (subP (p (i + 1)) (p i)) (subP (p m) (p i)) := by
        have : crossP (subP (p (i + 1)) (p i)) (subP (p m) (p i)) = tn (p m) (p i) (p (i + 1)) := by unfold tn crossP subP; grind
        omega
      have c3 := cross_trans hu he hw c1 c2
      have : crossP (subP (p i) (p 0)) (subP (p m) (p i)) = -tn (p 0) (p m) (p i) := by unfold tn crossP subP; grind
      omega
end Go.Proofs.YtehhoplenloocaaGreat

/- The monotone chain: the plain law. -/
namespace Go.Proofs.YtehhoplenloocaaGreat
set_option linter.unusedVariables false
set_option linter.unusedSimpArgs false

/-- what turns too far is taken off (the top stands first) -/
def pop (x : Pt) : List Pt → List Pt
  | b :: a :: r => if tn a b x ≤ 0 then pop x (a :: r) else b :: a :: r
  | [b] => [b]
  | [] => []
def chStep (st : List Pt) (x : Pt) : List Pt := x :: pop x st
def chain (S : List Pt) : List Pt := S.foldl chStep []
def hullP (S : List Pt) : List Pt := (chain S).tail.reverse ++ (chain S.reverse).tail.reverse
theorem pop_cons2 (x a b : Pt) (r : List Pt) : pop x (b :: a :: r) = if tn a b x ≤ 0 then pop x (a :: r) else b :: a :: r := by rw [pop]
theorem pop_one (x b : Pt) : pop x [b] = [b] := by rw [pop]
theorem pop_ne (x : Pt) : ∀ (st : List Pt), st ≠ [] → pop x st ≠ []
  | [], h => absurd rfl h
  | [b], _ => by rw [pop_one]; simp
  | b :: a :: r, _ => by
    rw [pop_cons2]
    split
    · exact pop_ne x (a :: r) (by simp)
    · simp
/-! ### weak and strict order by turns -/
theorem cross_id (u v w : Pt) : crossP u w * v.1 = crossP u v * w.1 + crossP v w * u.1 ∧ crossP u w * v.2 = crossP u v * w.2 + crossP v w * u.2 := by
  unfold crossP; constructor <;> grind
theorem lexComb {a b c v1 v2 w1 w2 u1 u2 : Int} (hv : 0 < v1 ∨ (v1 = 0 ∧ 0 < v2)) (hw : 0 < w1 ∨ (w1 = 0 ∧ 0 < w2)) (hu : 0 < u1 ∨ (u1 = 0 ∧ 0 < u2)) (e1 : c * v1 = a * w1 + b * u1) (e2 : c * v2 = a * w2 + b * u2) (ha : 0 ≤ a) (hb : 0 ≤ b) :
    0 ≤ c ∧ (0 < a ∨ 0 < b → 0 < c) := by
  have hw1 : 0 ≤ w1 := by omega
  have hu1 : 0 ≤ u1 := by omega
  have p1 : 0 ≤ a * w1 := Int.mul_nonneg ha hw1
  have p2 : 0 ≤ b * u1 := Int.mul_nonneg hb hu1
  -- c ≤ 0 forces all to be zero
  have key : c ≤ 0 → c = 0 ∧ a = 0 ∧ b = 0 := by
    intro hc
    have q1 : c * v1 ≤ 0 := Int.mul_nonpos_of_nonpos_of_nonneg hc (by omega)
    have z1 : a * w1 = 0 := by omega
    have z2 : b * u1 = 0 := by omega
    have aw : a * w2 ≥ 0 := by
      rcases hw with h | h
      · rcases Int.mul_eq_zero.1 z1 with k | k
        · rw [k]; simp
        · omega
      · exact Int.mul_nonneg ha (by omega)
    have bu : b * u2 ≥ 0 := by
      rcases hu with h | h
      · rcases Int.mul_eq_zero.1 z2 with k | k
        · rw [k]; simp
        · omega
      · exact Int.mul_nonneg hb (by omega)
    have cz : c = 0 := by
      rcases hv with h | h
      · have : c * v1 = 0 := by omega
        rcases Int.mul_eq_zero.1 this with k | k <;> omega
      · have q2 : c * v2 ≤ 0 := Int.mul_nonpos_of_nonpos_of_nonneg hc (by omega)
        have : c * v2 = 0 := by omega
        rcases Int.mul_eq_zero.1 this with k | k <;> omega
    subst cz
    simp only [Int.zero_mul] at e2
    refine ⟨rfl, ?_, ?_⟩
    · rcases hw with h | h
      · rcases Int.mul_eq_zero.1 z1 with k | k <;> omega
      · have : a * w2 = 0 := by omega
        rcases Int.mul_eq_zero.1 this with k | k <;> omega
    · rcases hu with h | h
      · rcases Int.mul_eq_zero.1 z2 with k | k <;> omega
      · have : b * u2 = 0 := by omega
        rcases Int.mul_eq_zero.1 this with k | k <;> omega
  constructor
  · rcases Int.lt_or_le c 0 with h | h
    · have := (key (by omega)).1; omega
    · exact h
  · intro h
    rcases Int.lt_or_le 0 c with g | g
    · exact g
    · have := key g; omega
theorem cross_weak {u v w : Pt} (hu : posP u) (hv : posP v) (hw : posP w) (h1 : 0 ≤ crossP u v) (h2 : 0 ≤ crossP v w) : 0 ≤ crossP u w ∧ (0 < crossP u v ∨ 0 < crossP v w → 0 < crossP u w) := by
  obtain ⟨e1, e2⟩ := cross_id u v w
  exact lexComb hv hw hu e1 e2 h1 h2
/-! ### a strictly convex, increasing sequence -/
theorem cross_add_left (a b c : Pt) : crossP (a.1 + b.1, a.2 + b.2) c = crossP a c + crossP b c := by unfold crossP; grind
/-- turns to the left all along: then of any three -/
theorem convex_all {n : Nat} {c : Nat → Pt} (hinc : ∀ i, i + 1 < n → ltP (c i) (c (i + 1))) (ht : ∀ i, i + 2 < n → 0 < tn (c i) (c (i + 1)) (c (i + 2))) : ∀ i j k, i < j → j < k → k < n → 0 < tn (c i) (c j) (c k) := by
  -- edges
  have he : ∀ i, i + 1 < n → posP (subP (c (i + 1)) (c i)) := fun i hi => ltP_iff.1 (hinc i hi)
  have hx : ∀ a b, a < b → b + 1 < n → 0 < crossP (subP (c (a + 1)) (c a)) (subP (c (b + 1)) (c b)) := fun a b hab hb =>
    trans_all (v := fun k => subP (c (k + 1)) (c k)) (lo := 0) (n := n - 1) (fun k _ hk => he k (by omega)) (fun k _ hk => by
      have := ht k (by omega)
      have e : crossP (subP (c (k + 1)) (c k)) (subP (c (k + 1 + 1)) (c (k + 1))) = tn (c k) (c (k + 1)) (c (k + 2)) := by unfold tn crossP subP; grind
      rw [e]; exact this) a b (Nat.zero_le _) hab (by omega)
  -- a sum of edges against one edge
  have hs1 : ∀ d i b, i + d ≤ b → b + 1 < n → 0 < d → 0 < crossP (subP (c (i + d)) (c i)) (subP (c (b + 1)) (c b)) := by
    intro d
    induction d with
    | zero => intro i b _ _ h; omega
    | succ d ih =>
      intro i b hib hb _
      have h1 := hx (i + d) b (by omega) hb
      by_cases h0 : d = 0
      · subst h0; exact h1
      · have h2 := ih i b (by omega) hb (by omega)
        have e : crossP (subP (c (i + (d + 1))) (c i)) (subP (c (b + 1)) (c b)) = crossP (subP (c (i + d)) (c i)) (subP (c (b + 1)) (c b)) + crossP (subP (c (i + d + 1)) (c (i + d))) (subP (c (b + 1)) (c b)) := by
          rw [show i + (d + 1) = i + d + 1 from rfl]; unfold crossP subP; grind
        omega
  have hs2 : ∀ e i j, i < j → j + e < n → 0 < e → 0 < crossP (subP (c j) (c i)) (subP (c (j + e)) (c j)) := by
    intro e
    induction e with
    | zero => intro i j _ _ h; omega
    | succ e ih =>
      intro i j hij hj _
      have h1 := hs1 (j - i) i (j + e) (by omega) (by omega) (by omega)
      rw [show i + (j - i) = j by omega] at h1
      by_cases h0 : e = 0
      · subst h0; exact h1
      · have h2 := ih i j hij (by omega) (by omega)
        have e' : crossP (subP (c j) (c i)) (subP (c (j + (e + 1))) (c j)) = crossP (subP (c j) (c i)) (subP (c (j + e)) (c j)) + crossP (subP (c j) (c i)) (subP (c (j + e + 1)) (c (j + e))) := by
          rw [show j + (e + 1) = j + e + 1 from rfl]; unfold crossP subP; grind
        omega
  intro i j k hij hjk hk
  have h := hs2 (k - j) i j hij (by omega) (by omega)
  rw [show j + (k - j) = k by omega] at h
  have e : crossP (subP (c j) (c i)) (subP (c k) (c j)) = tn (c i) (c j) (c k) := by unfold tn crossP subP; grind
  omega
/-! ### stacks -/
/-- the top first: decreasing -/
def Decr (st : List Pt) : Prop := st.Pairwise fun a b => ltP b a
/-- turns to the left -/
def Conv : List Pt → Prop
  | c :: b :: a :: r => 0 < tn a b c ∧ Conv (b :: a :: r)
  | _ => True
/-- all points lie on the left of every edge -/
def Above (P : List Pt) : List Pt → Prop
  | b :: a :: r => (∀ s ∈ P, 0 ≤ tn a b s) ∧ Above P (a :: r)
  | _ => True
theorem Conv.tail {b : Pt} : ∀ {r : List Pt}, Conv (b :: r) → Conv r
  | [], _ => trivial
  | [a], _ => trivial
  | a :: a' :: r, h => h.2
theorem Above.tail {P : List Pt} {b : Pt} : ∀ {r : List Pt}, Above P (b :: r) → Above P r
  | [], _ => trivial
  | a :: r, h => h.2
theorem pop_suffix (x : Pt) : ∀ (st : List Pt), ∃ q, st = q ++ pop x st
  | [] => ⟨[], by rw [pop]; rfl⟩
  | [b] => ⟨[], by rw [pop_one]; rfl⟩
  | b :: a :: r => by
    rw [pop_cons2]
    split
    · obtain ⟨q, hq⟩ := pop_suffix x (a :: r)
      exact ⟨b :: q, by rw [List.cons_append, ← hq]⟩
    · exact ⟨[], rfl⟩
theorem Conv.of_append {q : List Pt} : ∀ {st : List Pt}, Conv (q ++ st) → Conv st := by
  induction q with
  | nil => intro st h; exact h
  | cons b q ih => intro st h; exact ih (Conv.tail h)
theorem Above.of_append {P q : List Pt} : ∀ {st : List Pt}, Above P (q ++ st) → Above P st := by
  induction q with
  | nil => intro st h; exact h
  | cons b q ih => intro st h; exact ih (Above.tail h)
/-- what stands behind the pops -/
theorem pop_top (x : Pt) : ∀ (st : List Pt), ∀ b a r, pop x st = b :: a :: r → 0 < tn a b x
  | [], b, a, r, h => by rw [pop] at h; cases h
  | [c], b, a, r, h => by rw [pop_one] at h; cases h
  | c :: d :: r', b, a, r, h => by
    rw [pop_cons2] at h
    split at h
    · exact pop_top x (d :: r') b a r h
    · rename_i hc
      injection h with h1 h2
      injection h2 with h2 h3
      subst h1 h2
      omega
/-- the last one that was taken off -/
theorem pop_last (x : Pt) : ∀ (st : List Pt), pop x st = st ∨ ∃ b a r, pop x st = a :: r ∧ (∃ q, st = q ++ b :: a :: r) ∧ tn a b x ≤ 0
  | [] => .inl (by rw [pop])
  | [b] => .inl (pop_one _ _)
  | b :: a :: r => by
    rw [pop_cons2]
    split
    · rename_i hc
      right
      rcases pop_last x (a :: r) with h | ⟨b', a', r', h1, ⟨q, h2⟩, h3⟩
      · exact ⟨b, a, r, h, ⟨[], rfl⟩, hc⟩
      · exact ⟨b', a', r', h1, ⟨b :: q, by rw [List.cons_append, ← h2]⟩, h3⟩
    · exact .inl rfl
theorem pop_idem (x : Pt) : ∀ (st : List Pt), pop x (pop x st) = pop x st
  | [] => by rw [pop, pop]
  | [b] => by rw [pop_one, pop_one]
  | b :: a :: r => by
    rw [pop_cons2]
    split
    · exact pop_idem x (a :: r)
    · rename_i h
      rw [pop_cons2, if_neg h]
theorem Above.mid {P q : List Pt} {b a : Pt} {r : List Pt} (h : Above P (q ++ b :: a :: r)) : ∀ s ∈ P, 0 ≤ tn a b s := (Above.of_append h).1
end Go.Proofs.YtehhoplenloocaaGreat

/- The monotone chain makes a polygon: the plain law. -/
namespace Go.Proofs.YtehhoplenloocaaGreat
set_option linter.unusedVariables false
set_option linter.unusedSimpArgs false

structure Inv (P st : List Pt) : Prop where
  ne : st ≠ []
  sub : ∀ b ∈ st, b ∈ P
  dec : Decr st
  conv : Conv st
  above : Above P st
  top : ∀ s ∈ P, ∀ b r, st = b :: r → ltP s b ∨ s = b
  bot : ∀ s ∈ P, ∀ b q, st = q ++ [b] → ltP b s ∨ s = b
theorem Inv.first (x : Pt) : Inv [x] (chStep [] x) := by
  have e : chStep [] x = [x] := by unfold chStep; rw [pop]
  rw [e]
  refine ⟨by simp, fun b hb => hb, by unfold Decr; simp, trivial, trivial, fun s hs b r h => ?_, fun s hs b q h => ?_⟩
  · simp at hs; injection h with h1 h2; right; rw [hs, h1]
  · simp at hs
    have : q = [] ∧ x = b := by
      cases q with
      | nil => simp at h; exact ⟨rfl, h⟩
      | cons a q => simp at h
    right; rw [hs, this.2]
theorem tn_deeper {a2 a b x : Pt} (h1 : ltP a2 a) (h2 : ltP a b) (h3 : ltP b x) (t1 : 0 < tn a2 a b) (t2 : 0 < tn a b x) : 0 < tn a2 a x := by
  have hu := ltP_iff.1 h1
  have hv := ltP_iff.1 h2
  have hw := ltP_iff.1 h3
  have c1 : crossP (subP a a2) (subP b a) = tn a2 a b := by unfold tn crossP subP; grind
  have c2 : crossP (subP b a) (subP x b) = tn a b x := by unfold tn crossP subP; grind
  have c3 := cross_trans hu hv hw (by omega) (by omega)
  have e : tn a2 a x = crossP (subP a a2) (subP b a) + crossP (subP a a2) (subP x b) := by unfold tn crossP subP; grind
  omega
theorem above_new {P : List Pt} {x : Pt} : ∀ (b : Pt) (r : List Pt), Decr (x :: b :: r) → Conv (x :: b :: r) → Above P (b :: r) → Above (P ++ [x]) (b :: r)
  | b, [], _, _, _ => trivial
  | b, a :: r, hd, hc, ha => by
    have hd' := List.pairwise_cons.1 hd
    have hd2 := List.pairwise_cons.1 hd'.2
    have hxb : ltP b x := hd'.1 b (by simp)
    have hba : ltP a b := hd2.1 a (by simp)
    have t : 0 < tn a b x := hc.1
    refine ⟨fun s hs => ?_, ?_⟩
    · rcases List.mem_append.1 hs with h | h
      · exact ha.1 s h
      · simp at h; subst h; omega
    · refine above_new a r ?_ ?_ ha.2
      · exact List.pairwise_cons.2 ⟨fun z hz => hd'.1 z (by simp [List.mem_cons] at hz ⊢; right; exact hz), hd2.2⟩
      · match r with
        | [] => trivial
        | a2 :: r2 =>
          have hd3 := List.pairwise_cons.1 hd2.2
          exact ⟨tn_deeper (hd3.1 a2 (by simp)) hba hxb hc.2.1 t, hc.2.2⟩
theorem below_edge {a b x s : Pt} (hab : ltP a b) (hbx : ltP b x) (hsb : ltP s b) (t : 0 < tn a b x) (h : 0 ≤ tn a b s) : 0 ≤ tn b x s := by
  have hu := ltP_iff.1 hsb
  have hv := ltP_iff.1 hab
  have hw := ltP_iff.1 hbx
  have c1 : crossP (subP b s) (subP b a) = tn a b s := by unfold tn crossP subP; grind
  have c2 : crossP (subP b a) (subP x b) = tn a b x := by unfold tn crossP subP; grind
  have c3 := (cross_weak hu hv hw (by omega) (by omega)).1
  have e : crossP (subP b s) (subP x b) = tn b x s := by unfold tn crossP subP; grind
  omega
theorem behind_edge {b c x s : Pt} (hbc : ltP b c) (hbx : ltP b x) (hbs : ltP b s) (t : tn b c x ≤ 0) (h : 0 ≤ tn b c s) : 0 ≤ tn b x s := by
  have hu := ltP_iff.1 hbx
  have hv := ltP_iff.1 hbc
  have hw := ltP_iff.1 hbs
  have c1 : crossP (subP x b) (subP c b) = -tn b c x := by unfold tn crossP subP; grind
  have c2 : crossP (subP c b) (subP s b) = tn b c s := by unfold tn crossP subP; grind
  have c3 := (cross_weak hu hv hw (by omega) (by omega)).1
  have e : crossP (subP x b) (subP s b) = tn b x s := by unfold tn crossP subP; grind
  omega
theorem Inv.step {P st : List Pt} {x : Pt} (h : Inv P st) (hx : ∀ s ∈ P, ltP s x) : Inv (P ++ [x]) (chStep st x) := by
  unfold chStep
  obtain ⟨pre, hpre⟩ := pop_suffix x st
  have hne := pop_ne x st h.ne
  have hsub : ∀ b ∈ pop x st, b ∈ P := fun b hb => h.sub b (by rw [hpre]; exact List.mem_append_right _ hb)
  have hdq : Decr (pop x st) := by
    have := h.dec
    unfold Decr at this ⊢
    rw [hpre] at this
    exact (List.pairwise_append.1 this).2.1
  have hcq : Conv (pop x st) := Conv.of_append (q := pre) (by rw [← hpre]; exact h.conv)
  have haq : Above P (pop x st) := Above.of_append (q := pre) (by rw [← hpre]; exact h.above)
  have hbot : ∀ s ∈ P, ∀ b q, pop x st = q ++ [b] → ltP b s ∨ s = b := fun s hs b q hq => h.bot s hs b (pre ++ q) (by rw [hpre, hq, List.append_assoc])
  have hlast := pop_last x st
  have htop := pop_top x st
  generalize hq : pop x st = q at *
  obtain ⟨b, r, rfl⟩ : ∃ b r, q = b :: r := by
    cases q with
    | nil => exact absurd rfl hne
    | cons b r => exact ⟨b, r, rfl⟩
  have hxb : ltP b x := hx b (hsub b (by simp))
  have hdec : Decr (x :: b :: r) := List.pairwise_cons.2 ⟨fun z hz => hx z (hsub z hz), hdq⟩
  have hconv : Conv (x :: b :: r) := by
    match r with
    | [] => trivial
    | a :: r2 => exact ⟨htop b a r2 rfl, hcq⟩
  -- points below the top of what is left
  have hlow : ∀ s ∈ P, ltP s b → 0 ≤ tn b x s := fun s hs hsb => by
    match r, hcq, haq, hdq, htop, hbot with
    | [], _, _, _, _, hbot =>
      rcases hbot s hs b [] rfl with k | k
      · exact absurd k (ltP_asymm hsb)
      · rw [k] at hsb; exact absurd hsb (ltP_irrefl _)
    | a :: r2, hcq, haq, hdq, htop, _ =>
      exact below_edge ((List.pairwise_cons.1 hdq).1 a (by simp)) hxb hsb (htop b a r2 rfl) (haq.1 s hs)
  refine ⟨by simp, fun z hz => ?_, hdec, hconv, ⟨fun s hs => ?_, above_new b r hdec hconv haq⟩, fun s hs b' r' e => ?_, fun s hs b' q' e => ?_⟩
  · rcases List.mem_cons.1 hz with k | k
    · rw [k]; simp
    · exact List.mem_append_left _ (hsub z k)
  · rcases List.mem_append.1 hs with hs | hs
    · rcases ltP_total s b with k | k | k
      · exact hlow s hs k
      · rw [k, tn_self2]; exact Int.le_refl _
      · rcases hlast with e | ⟨c, a, r', h1, ⟨q', h2⟩, h3⟩
        · -- nothing was taken off: b is the greatest
          rcases h.top s hs b r e.symm with g | g
          · exact absurd g (ltP_asymm k)
          · rw [g] at k; exact absurd k (ltP_irrefl _)
        · injection h1 with e1 e2
          subst e1
          have hcb : ltP b c := by
            have := h.dec
            unfold Decr at this
            rw [h2] at this
            exact (List.pairwise_cons.1 (List.pairwise_append.1 this).2.1).1 b (by simp)
          have hall := Above.mid (P := P) (q := q') (b := c) (a := b) (r := r') (by rw [← h2]; exact h.above)
          exact behind_edge hcb hxb k h3 (hall s hs)
    · simp at hs; rw [hs, tn_self]; exact Int.le_refl _
  · injection e with e1 e2
    subst e1
    rcases List.mem_append.1 hs with hs | hs
    · exact .inl (hx s hs)
    · simp at hs; exact .inr hs
  · have e2 : ∃ q2, b :: r = q2 ++ [b'] := by
      cases q' with
      | nil => simp at e
      | cons y q2 => injection e with _ e; exact ⟨q2, e⟩
    obtain ⟨q2, e2⟩ := e2
    rcases List.mem_append.1 hs with hs | hs
    · exact hbot s hs b' q2 e2
    · simp at hs
      subst hs
      exact .inl (hx b' (hsub b' (by rw [e2]; simp)))
theorem Inv.fold : ∀ (rest P st : List Pt), Inv P st → (P ++ rest).Pairwise ltP → Inv (P ++ rest) (rest.foldl chStep st)
  | [], P, st, h, _ => by simpa using h
  | x :: rest, P, st, h, hs => by
    have h2 := h.step (x := x) (fun s hs' => (List.pairwise_append.1 hs).2.2 s hs' x (by simp))
    have := Inv.fold rest (P ++ [x]) (chStep st x) h2 (by simpa using hs)
    simpa using this
theorem chain_inv {S : List Pt} (hne : S ≠ []) (hs : S.Pairwise ltP) : Inv S (chain S) := by
  cases S with
  | nil => exact absurd rfl hne
  | cons x S => exact Inv.fold S [x] _ (Inv.first x) hs
/-! ### turned about -/
def negP (a : Pt) : Pt := (-a.1, -a.2)
theorem negP_negP (a : Pt) : negP (negP a) = a := by unfold negP; simp
theorem tn_neg (a b c : Pt) : tn (negP a) (negP b) (negP c) = tn a b c := by unfold tn crossP subP negP; grind
theorem ltP_neg {a b : Pt} : ltP (negP a) (negP b) ↔ ltP b a := by unfold ltP negP; constructor <;> intro h <;> simp at * <;> omega
theorem pop_neg (x : Pt) : ∀ (st : List Pt), pop (negP x) (st.map negP) = (pop x st).map negP
  | [] => by rw [List.map_nil, pop, pop, List.map_nil]
  | [b] => by rw [List.map_cons, List.map_nil, pop_one, pop_one]; rfl
  | b :: a :: r => by
    rw [List.map_cons, List.map_cons, pop_cons2, pop_cons2, tn_neg]
    split
    · exact pop_neg x (a :: r)
    · rfl
theorem fold_neg : ∀ (S st : List Pt), (S.map negP).foldl chStep (st.map negP) = (S.foldl chStep st).map negP
  | [], st => rfl
  | x :: S, st => by
    rw [List.map_cons, List.foldl_cons, List.foldl_cons]
    have : chStep (st.map negP) (negP x) = (chStep st x).map negP := by unfold chStep; rw [pop_neg]; rfl
    rw [this]
    exact fold_neg S (chStep st x)
theorem chain_neg (S : List Pt) : chain (S.map negP) = (chain S).map negP := fold_neg S []
/-! ### indices -/
abbrev o0 : Pt := (0, 0)
theorem Conv.at : ∀ {st : List Pt}, Conv st → ∀ i, i + 2 < st.length → 0 < tn (st.getD (i + 2) o0) (st.getD (i + 1) o0) (st.getD i o0)
  | [], _, i, h => by simp at h
  | [a], _, i, h => by simp at h
  | [a, b], _, i, h => by simp at h; omega
  | c :: b :: a :: r, hc, 0, _ => hc.1
  | c :: b :: a :: r, hc, i + 1, h => by
    have := Conv.at (st := b :: a :: r) hc.2 i (by simpa using h)
    simpa using this
theorem Above.at {P : List Pt} : ∀ {st : List Pt}, Above P st → ∀ i, i + 1 < st.length → ∀ s ∈ P, 0 ≤ tn (st.getD (i + 1) o0) (st.getD i o0) s
  | [], _, i, h => by simp at h
  | [a], _, i, h => by simp at h
  | b :: a :: r, ha, 0, _ => ha.1
  | b :: a :: r, ha, i + 1, h => by
    have := Above.at (st := a :: r) ha.2 i (by simpa using h)
    simpa using this
theorem Decr.at {st : List Pt} (h : Decr st) {i j : Nat} (hij : i < j) (hj : j < st.length) : ltP (st.getD j o0) (st.getD i o0) := by
  have := (List.pairwise_iff_getElem.1 h) i j (by omega) hj hij
  rw [List.getD_eq_getElem?_getD, List.getD_eq_getElem?_getD, List.getElem?_eq_getElem hj, List.getElem?_eq_getElem (by omega)]
  exact this
/-- a chain, from its first point on -/
structure Ch (P : List Pt) (a : Nat) (c : Nat → Pt) : Prop where
  mem : ∀ i, i ≤ a → c i ∈ P
  inc : ∀ i j, i < j → j ≤ a → ltP (c i) (c j)
  conv : ∀ i j k, i < j → j < k → k ≤ a → 0 < tn (c i) (c j) (c k)
  above : ∀ i, i < a → ∀ s ∈ P, 0 ≤ tn (c i) (c (i + 1)) s
  first : ∀ s ∈ P, ltP (c 0) s ∨ s = c 0
  last : ∀ s ∈ P, ltP s (c a) ∨ s = c a
theorem Inv.ch {P st : List Pt} (h : Inv P st) : Ch P (st.length - 1) (fun i => st.getD (st.length - 1 - i) o0) := by
  have hlen : 0 < st.length := List.length_pos_iff.2 h.ne
  have hinc : ∀ i j, i < j → j ≤ st.length - 1 → ltP (st.getD (st.length - 1 - i) o0) (st.getD (st.length - 1 - j) o0) := fun i j hij hj => h.dec.at (by omega) (by omega)
  refine ⟨fun i hi => h.sub _ ?_, hinc, fun i j k hij hjk hk => ?_, fun i hi s hs => ?_, fun s hs => ?_, fun s hs => ?_⟩
  · try dsimp only
    rw [List.getD_eq_getElem?_getD, List.getElem?_eq_getElem (by omega)]; exact List.getElem_mem _
  · exact convex_all (n := st.length) (c := fun i => st.getD (st.length - 1 - i) o0) (fun i hi => hinc i (i + 1) (by omega) (by omega)) (fun i hi => by
      have := h.conv.at (st.length - 1 - (i + 2)) (by omega)
      rw [show st.length - 1 - (i + 2) + 2 = st.length - 1 - i by omega, show st.length - 1 - (i + 2) + 1 = st.length - 1 - (i + 1) by omega] at this
      exact this) i j k hij hjk (by omega)
  · have := h.above.at (st.length - 1 - (i + 1)) (by omega) s hs
    rw [show st.length - 1 - (i + 1) + 1 = st.length - 1 - i by omega] at this
    exact this
  · obtain ⟨b, q, e⟩ : ∃ b q, st = q ++ [b] := ⟨_, _, (List.dropLast_concat_getLast h.ne).symm⟩
    have := h.bot s hs b q e
    have e2 : st.getD (st.length - 1 - 0) o0 = b := by
      rw [e]; simp
    try dsimp only
    rw [e2]; exact this
  · obtain ⟨b, r, e⟩ : ∃ b r, st = b :: r := by
      cases st with
      | nil => exact absurd rfl h.ne
      | cons b r => exact ⟨b, r, rfl⟩
    have := h.top s hs b r e
    have e2 : st.getD (st.length - 1 - (st.length - 1)) o0 = b := by rw [e]; simp
    try dsimp only
    rw [e2]; exact this
theorem Ch.neg {P : List Pt} {a : Nat} {c : Nat → Pt} (h : Ch (P.map negP) a c) : (∀ i, i ≤ a → negP (c i) ∈ P) ∧ (∀ i j, i < j → j ≤ a → ltP (negP (c j)) (negP (c i))) ∧ (∀ i j k, i < j → j < k → k ≤ a → 0 < tn (negP (c i)) (negP (c j)) (negP (c k))) ∧
    (∀ i, i < a → ∀ s ∈ P, 0 ≤ tn (negP (c i)) (negP (c (i + 1))) s) ∧ (∀ s ∈ P, ltP s (negP (c 0)) ∨ s = negP (c 0)) ∧ (∀ s ∈ P, ltP (negP (c a)) s ∨ s = negP (c a)) := by
  have hm : ∀ s ∈ P, negP s ∈ P.map negP := fun s hs => List.mem_map.2 ⟨s, hs, rfl⟩
  refine ⟨fun i hi => ?_, fun i j hij hj => ltP_neg.2 (h.inc i j hij hj), fun i j k hij hjk hk => by rw [tn_neg]; exact h.conv i j k hij hjk hk, fun i hi s hs => ?_, fun s hs => ?_, fun s hs => ?_⟩
  · obtain ⟨z, hz, e⟩ := List.mem_map.1 (h.mem i hi)
    rw [← e, negP_negP]; exact hz
  · have := h.above i hi (negP s) (hm s hs)
    rw [← negP_negP s, tn_neg]; exact this
  · rcases h.first (negP s) (hm s hs) with k | k
    · left; rw [← negP_negP s]; exact ltP_neg.2 k
    · right; rw [← k, negP_negP]
  · rcases h.last (negP s) (hm s hs) with k | k
    · left; rw [← negP_negP s]; exact ltP_neg.2 k
    · right; rw [← k, negP_negP]
/-- the two chains make a polygon -/
theorem two_chains {P : List Pt} {a b : Nat} {L U : Nat → Pt} (h : Ch P a L) (k : Ch (P.map negP) b (fun j => negP (U j))) (h3 : 3 ≤ a + b) (he : U 0 = L a) (he2 : U b = L 0) :
    Loc (a + b) (fun i => if i < a then L i else U (i - a)) := by
  obtain ⟨u1, u2, u3, u4, u5, u6⟩ := k.neg
  simp only [negP_negP] at u1 u2 u3 u4 u5 u6
  have ha : 0 < a := by
    rcases Nat.eq_zero_or_pos a with rfl | g
    · exfalso
      have := u2 0 b (by omega) (Nat.le_refl _)
      rw [he, he2] at this
      exact ltP_irrefl _ this
    · exact g
  have hb : 0 < b := by
    rcases Nat.eq_zero_or_pos b with rfl | g
    · exfalso
      have := h.inc 0 a ha (Nat.le_refl _)
      rw [← he2, he] at this
      exact ltP_irrefl _ this
    · exact g
  -- the joint at the greatest point
  have joint : 1 < b → 0 < tn (L (a - 1)) (L a) (U 1) := fun hb1 => by
    have t1 := h.above (a - 1) (by omega) (U 1) (u1 1 (by omega))
    rw [show a - 1 + 1 = a by omega] at t1
    have t2 := h.above (a - 1) (by omega) (L 0) (h.mem 0 (by omega))
    rw [show a - 1 + 1 = a by omega] at t2
    have t3 := u3 0 1 b (by omega) hb1 (Nat.le_refl _)
    rw [he, he2] at t3
    have hd := ltP_iff.1 (h.inc (a - 1) a (by omega) (Nat.le_refl _))
    have hee := u2 0 1 (by omega) (by omega)
    rw [he] at hee
    have he' := ltP_iff.1 hee
    have hf := ltP_iff.1 (h.inc 0 a ha (Nat.le_refl _))
    have c1 : crossP (subP (L a) (U 1)) (subP (L a) (L 0)) = tn (L a) (U 1) (L 0) := by unfold tn crossP subP; grind
    have c2 : crossP (subP (L a) (L 0)) (subP (L a) (L (a - 1))) = tn (L (a - 1)) (L a) (L 0) := by unfold tn crossP subP; grind
    have c3 := (cross_weak he' hf hd (by omega) (by omega)).2 (.inl (by omega))
    have c4 : crossP (subP (L a) (U 1)) (subP (L a) (L (a - 1))) = tn (L (a - 1)) (L a) (U 1) := by unfold tn crossP subP; grind
    omega
  refine ⟨h3, fun i hi => ?_, fun i h0 hi => ?_, fun i h0 hi => ?_⟩
  · try dsimp only
    by_cases c2 : i + 2 < a
    · rw [if_pos (by omega), if_pos (by omega), if_pos c2]; exact h.conv _ _ _ (by omega) (by omega) (by omega)
    · rw [if_neg c2]
      by_cases c1 : i + 1 < a
      · rw [if_pos (by omega), if_pos c1]
        have : i + 2 = a := by omega
        rw [this, Nat.sub_self, he]
        rw [← this]; exact h.conv _ _ _ (by omega) (by omega) (by omega)
      · rw [if_neg c1]
        by_cases c0 : i < a
        · rw [if_pos c0]
          have : i + 1 = a := by omega
          rw [this, Nat.sub_self, he, show i + 2 - a = 1 by omega, show i = a - 1 by omega]
          exact joint (by omega)
        · rw [if_neg c0, show i + 1 - a = i - a + 1 by omega, show i + 2 - a = i - a + 2 by omega]
          exact u3 _ _ _ (by omega) (by omega) (by omega)
  · try dsimp only
    rw [if_pos ha]
    by_cases c : i < a
    · rw [if_pos c]; exact h.inc 0 i h0 (by omega)
    · rw [if_neg c, ← he2]; exact u2 _ _ (by omega) (Nat.le_refl _)
  · try dsimp only
    rw [if_pos ha]
    by_cases c1 : i + 1 < a
    · rw [if_pos (by omega), if_pos c1]; exact h.conv _ _ _ h0 (by omega) (by omega)
    · rw [if_neg c1]
      by_cases c0 : i < a
      · rw [if_pos c0]
        have : i + 1 = a := by omega
        rw [this, Nat.sub_self, he, ← this]
        exact h.conv _ _ _ h0 (by omega) (by omega)
      · rw [if_neg c0, show i + 1 - a = i - a + 1 by omega, ← he2]
        rw [← tn_rot]
        exact u3 (i - a) (i - a + 1) b (by omega) (by omega) (Nat.le_refl _)
end Go.Proofs.YtehhoplenloocaaGreat

/- Polygons are their own hulls, and hulls are polygons: the plain law. -/
namespace Go.Proofs.YtehhoplenloocaaGreat
set_option linter.unusedVariables false
set_option linter.unusedSimpArgs false

theorem tailrev_getD (A : List Pt) (i : Nat) (h : i < A.length - 1) : A.tail.reverse.getD i o0 = A.getD (A.length - 1 - i) o0 := by
  rw [List.getD_eq_getElem?_getD, List.getD_eq_getElem?_getD, List.getElem?_reverse (by simpa using h), List.length_tail, List.getElem?_tail]
  congr 2; omega
theorem Ch.congr {P P' : List Pt} {a : Nat} {c : Nat → Pt} (h : Ch P a c) (hm : ∀ s, s ∈ P ↔ s ∈ P') : Ch P' a c :=
  ⟨fun i hi => (hm _).1 (h.mem i hi), h.inc, h.conv, fun i hi s hs => h.above i hi s ((hm s).2 hs), fun s hs => h.first s ((hm s).2 hs), fun s hs => h.last s ((hm s).2 hs)⟩
theorem Ch.ext {P : List Pt} {a : Nat} {c c' : Nat → Pt} (h : Ch P a c) (e : ∀ i, i ≤ a → c i = c' i) : Ch P a c' :=
  ⟨fun i hi => by rw [← e i hi]; exact h.mem i hi, fun i j hij hj => by rw [← e i (by omega), ← e j hj]; exact h.inc i j hij hj, fun i j k hij hjk hk => by rw [← e i (by omega), ← e j (by omega), ← e k hk]; exact h.conv i j k hij hjk hk,
    fun i hi s hs => by rw [← e i (by omega), ← e (i + 1) hi]; exact h.above i hi s hs, fun s hs => by rw [← e 0 (by omega)]; exact h.first s hs, fun s hs => by rw [← e a (Nat.le_refl _)]; exact h.last s hs⟩
theorem rev_neg_sorted {S : List Pt} (h : S.Pairwise ltP) : (S.reverse.map negP).Pairwise ltP := by
  rw [List.pairwise_map, List.pairwise_reverse]
  exact h.imp fun hab => ltP_neg.2 hab
theorem getD_neg (B : List Pt) (k : Nat) : (B.map negP).getD k o0 = negP (B.getD k o0) := by
  rw [List.getD_eq_getElem?_getD, List.getD_eq_getElem?_getD, List.getElem?_map]
  cases B[k]? <;> rfl
/-- a hull of three points or more is a polygon -/
theorem hullP_loc {S : List Pt} (hs : S.Pairwise ltP) (h3 : 3 ≤ (hullP S).length) : Loc (hullP S).length (fun i => (hullP S).getD i o0) := by
  have hne : S ≠ [] := by
    intro e; subst e; simp [hullP, chain] at h3
  have hA := (chain_inv hne hs).ch
  have hB := (chain_inv (S := S.reverse.map negP) (by simpa using hne) (rev_neg_sorted hs)).ch
  rw [chain_neg, List.length_map] at hB
  have hAn := (chain_inv hne hs).ne
  have hBn : chain S.reverse ≠ [] := by
    have := (chain_inv (S := S.reverse.map negP) (by simpa using hne) (rev_neg_sorted hs)).ne
    rw [chain_neg] at this
    simpa using this
  unfold hullP at h3 ⊢
  generalize chain S = A at *
  generalize chain S.reverse = B at *
  have hAl : 0 < A.length := List.length_pos_iff.2 hAn
  have hBl : 0 < B.length := List.length_pos_iff.2 hBn
  have hB2 : Ch (S.map negP) (B.length - 1) (fun j => negP (B.getD (B.length - 1 - j) o0)) := (hB.congr (P' := S.map negP) (fun s => by simp)).ext fun i _ => getD_neg B _
  have hlen : (A.tail.reverse ++ B.tail.reverse).length = (A.length - 1) + (B.length - 1) := by simp
  obtain ⟨u1, u2, u3, u4, u5, u6⟩ := hB2.neg
  simp only [negP_negP] at u1 u2 u3 u4 u5 u6
  have e1 : B.getD (B.length - 1 - 0) o0 = A.getD (A.length - 1 - (A.length - 1)) o0 := by
    rcases u5 _ (hA.mem (A.length - 1) (Nat.le_refl _)) with k | k
    · rcases hA.last _ (u1 0 (by omega)) with k2 | k2
      · exact absurd k (ltP_asymm k2)
      · exact k2
    · exact k.symm
  have e2 : B.getD (B.length - 1 - (B.length - 1)) o0 = A.getD (A.length - 1 - 0) o0 := by
    rcases u6 _ (hA.mem 0 (by omega)) with k | k
    · rcases hA.first _ (u1 (B.length - 1) (Nat.le_refl _)) with k2 | k2
      · exact absurd k (ltP_asymm k2)
      · exact k2
    · exact k.symm
  have h := two_chains hA hB2 (by omega) e1 e2
  rw [hlen]
  have hf : ∀ i, i < (A.length - 1) + (B.length - 1) → (A.tail.reverse ++ B.tail.reverse).getD i o0 = if i < A.length - 1 then A.getD (A.length - 1 - i) o0 else B.getD (B.length - 1 - (i - (A.length - 1))) o0 := fun i hi => by
    by_cases c : i < A.length - 1
    · rw [if_pos c, List.getD_eq_getElem?_getD, List.getElem?_append_left (by simpa using c), ← List.getD_eq_getElem?_getD, tailrev_getD A i c]
    · rw [if_neg c, List.getD_eq_getElem?_getD, List.getElem?_append_right (by simp; omega), ← List.getD_eq_getElem?_getD]
      rw [show i - A.tail.reverse.length = i - (A.length - 1) by simp, tailrev_getD B _ (by omega)]
  exact ⟨h.n3, fun k hk => by rw [hf k (by omega), hf (k + 1) (by omega), hf (k + 2) hk]; exact h.turn k hk,
    fun k h0 hk => by rw [hf 0 (by omega), hf k hk]; exact h.least k h0 hk,
    fun k h0 hk => by rw [hf 0 (by omega), hf k (by omega), hf (k + 1) hk]; exact h.fan k h0 hk⟩
/-! ### a polygon is its own hull -/
def lowR (p : Nat → Pt) : Nat → List Pt
  | 0 => [p 0]
  | i + 1 => p (i + 1) :: lowR p i
theorem lowR_cons (p : Nat → Pt) : ∀ i, ∃ r, lowR p i = p i :: r
  | 0 => ⟨[], rfl⟩
  | i + 1 => ⟨_, rfl⟩
theorem lowR_rev (p : Nat → Pt) : ∀ i, (lowR p i).reverse = (List.range (i + 1)).map p
  | 0 => rfl
  | i + 1 => by rw [lowR, List.reverse_cons, lowR_rev p i, List.range_succ (n := i + 1), List.map_append]; rfl
theorem lowR_tail (p : Nat → Pt) : ∀ i, (lowR p i).tail.reverse = (List.range i).map p
  | 0 => rfl
  | i + 1 => by rw [lowR, List.tail_cons, lowR_rev]
theorem tn_rev (a b c : Pt) : tn c b a = -tn a b c := by unfold tn crossP subP; grind
structure Bit (n m : Nat) (p : Nat → Pt) : Prop where
  m0 : 0 < m
  mn : m < n
  inc : ∀ i, i < m → ltP (p i) (p (i + 1))
  dec : ∀ i, m ≤ i → i + 1 < n → ltP (p (i + 1)) (p i)
theorem Bit.incs {n m : Nat} {p : Nat → Pt} (h : Bit n m p) : ∀ i j, i < j → j ≤ m → ltP (p i) (p j)
  | i, 0, hij, _ => by omega
  | i, j + 1, hij, hj => by
    by_cases e : i = j
    · subst e; exact h.inc i (by omega)
    · exact ltP_trans (h.incs i j (by omega) (by omega)) (h.inc j (by omega))
theorem Bit.decs {n m : Nat} {p : Nat → Pt} (h : Bit n m p) : ∀ i j, m ≤ i → i < j → j < n → ltP (p j) (p i)
  | i, 0, _, hij, _ => by omega
  | i, j + 1, hi, hij, hj => by
    by_cases e : i = j
    · subst e; exact h.dec i hi hj
    · exact ltP_trans (h.dec j (by omega) hj) (h.decs i j hi (by omega) (by omega))
theorem pop_lowR {n m : Nat} {p : Nat → Pt} (tp : TP n p) {i k : Nat} (hik : i < k) (hk : k < n) : pop (p k) (lowR p i) = lowR p i := by
  cases i with
  | zero => rw [lowR, pop_one]
  | succ i =>
    obtain ⟨r, hr⟩ := lowR_cons p i
    rw [lowR, hr, pop_cons2, if_neg]
    have := tp i (i + 1) k (by omega) hik hk
    omega
theorem pop_up {n m : Nat} {p : Nat → Pt} (tp : TP n p) {i k : Nat} (hik : i < k) (hk : k < n) : ∀ (ups : List Pt), ∃ q ups', ups = q ++ ups' ∧ pop (p k) (ups ++ lowR p i) = ups' ++ lowR p i
  | [] => ⟨[], [], rfl, pop_lowR (m := m) tp hik hk⟩
  | u :: ups => by
    obtain ⟨v, r, hv⟩ : ∃ v r, ups ++ lowR p i = v :: r := by
      obtain ⟨r, hr⟩ := lowR_cons p i
      cases ups with
      | nil => exact ⟨_, r, hr⟩
      | cons v w => exact ⟨v, w ++ lowR p i, rfl⟩
    rw [List.cons_append, hv, pop_cons2]
    split
    · obtain ⟨q, ups', h1, h2⟩ := pop_up (m := m) tp hik hk ups
      rw [← hv]
      exact ⟨u :: q, ups', by rw [h1]; rfl, h2⟩
    · exact ⟨[], u :: ups, rfl, by rw [← hv]; rfl⟩
theorem pop_low {n m : Nat} {p : Nat → Pt} (tp : TP n p) (hb : Bit n m p) {i : Nat} (him : i + 1 ≤ m) : ∀ (ups : List Pt), (∀ u ∈ ups, ∃ k, m < k ∧ k < n ∧ u = p k) → Decr ups → pop (p (i + 1)) (ups ++ lowR p i) = lowR p i
  | [], _, _ => pop_lowR (m := m) tp (by omega) (by have := hb.mn; omega)
  | u :: ups, hu, hd => by
    have hmn := hb.mn
    obtain ⟨k, hk1, hk2, rfl⟩ := hu u (by simp)
    have ih := pop_low tp hb him ups (fun z hz => hu z (by simp [hz])) (List.pairwise_cons.1 hd).2
    have hpop : ∀ v r, ups ++ lowR p i = v :: r → tn v (p k) (p (i + 1)) ≤ 0 := fun v r hv => by
      cases ups with
      | nil =>
        obtain ⟨r', hr⟩ := lowR_cons p i
        rw [List.nil_append, hr] at hv
        injection hv with hv _
        rw [← hv, tn_swap2]
        have := tp i (i + 1) k (by omega) (by omega) hk2
        omega
      | cons v' w =>
        rw [List.cons_append] at hv
        injection hv with hv _
        subst hv
        obtain ⟨k', hk1', hk2', e⟩ := hu v' (by simp)
        have hlt : ltP v' (p k) := (List.pairwise_cons.1 hd).1 v' (by simp)
        have hkk : k < k' := by
          rcases Nat.lt_trichotomy k k' with g | g | g
          · exact g
          · rw [e, g] at hlt; exact absurd hlt (ltP_irrefl _)
          · rw [e] at hlt
            exact absurd hlt (ltP_asymm (hb.decs k' k (by omega) g hk2))
        have := tp (i + 1) k k' (by omega) hkk hk2'
        rw [e, tn_rev]
        omega
    obtain ⟨v, r, hv⟩ : ∃ v r, ups ++ lowR p i = v :: r := by
      obtain ⟨r, hr⟩ := lowR_cons p i
      cases ups with
      | nil => exact ⟨_, r, hr⟩
      | cons v w => exact ⟨v, w ++ lowR p i, rfl⟩
    rw [List.cons_append, hv, pop_cons2, if_pos (hpop v r hv), ← hv]
    exact ih
structure Inv2 (n m : Nat) (p : Nat → Pt) (P st : List Pt) : Prop where
  ex : ∃ i ups, st = ups ++ lowR p i ∧ i ≤ m ∧ (∀ u ∈ ups, (∃ k, m < k ∧ k < n ∧ u = p k) ∧ ltP (p i) u ∧ u ∈ P) ∧ Decr ups ∧ ∀ k, k ≤ m → (p k ∈ P ↔ k ≤ i)
theorem Inv2.step {n m : Nat} {p : Nat → Pt} (tp : TP n p) (h3 : 3 ≤ n) (hb : Bit n m p) {P st : List Pt} {x : Pt} (h : Inv2 n m p P st) (hx : ∃ k, k < n ∧ x = p k) (hP : ∀ s ∈ P, ltP s x) (hall : ∀ k, k < n → ltP (p k) x → p k ∈ P) : Inv2 n m p (P ++ [x]) (chStep st x) := by
  obtain ⟨i, ups, rfl, him, hu, hd, hm⟩ := h.ex
  obtain ⟨k, hk, rfl⟩ := hx
  have hmn := hb.mn
  have hxP : p k ∉ P := fun hh => ltP_irrefl _ (hP _ hh)
  by_cases hkm : k ≤ m
  · have hki : i < k := by
      rcases Nat.lt_or_ge i k with g | g
      · exact g
      · exact absurd ((hm k hkm).2 g) hxP
    have hk1 : k = i + 1 := by
      have hin : p (k - 1) ∈ P := hall (k - 1) (by omega) (by
        have := hb.inc (k - 1) (by omega)
        rwa [show k - 1 + 1 = k by omega] at this)
      have := (hm (k - 1) (by omega)).1 hin
      omega
    subst hk1
    refine ⟨i + 1, [], ?_, hkm, fun u hu => by simp at hu, List.Pairwise.nil, fun k' hk' => ?_⟩
    · unfold chStep
      rw [pop_low tp hb hkm ups (fun u hu' => (hu u hu').1) hd]; rfl
    · rw [List.mem_append, hm k' hk', List.mem_singleton]
      constructor
      · rintro (g | g)
        · omega
        · rcases Nat.lt_trichotomy k' (i + 1) with q | q | q
          · omega
          · omega
          · exact absurd g.symm (tp.ne h3 q (by omega))
      · intro g
        by_cases e : k' = i + 1
        · right; rw [e]
        · left; omega
  · obtain ⟨q, ups', hq, hpop⟩ := pop_up (m := m) (p := p) tp (show i < k by omega) hk ups
    have hsub : ∀ u ∈ ups', u ∈ ups := fun u hu' => by rw [hq]; exact List.mem_append_right _ hu'
    refine ⟨i, p k :: ups', ?_, him, fun u hu' => ?_, ?_, fun k' hk' => ?_⟩
    · unfold chStep; rw [hpop]; rfl
    · rcases List.mem_cons.1 hu' with g | g
      · subst g
        exact ⟨⟨k, by omega, hk, rfl⟩, hP _ ((hm i him).2 (Nat.le_refl _)), by simp⟩
      · obtain ⟨a1, a2, a3⟩ := hu u (hsub u g)
        exact ⟨a1, a2, List.mem_append_left _ a3⟩
    · refine List.pairwise_cons.2 ⟨fun z hz => hP z (hu z (hsub z hz)).2.2, ?_⟩
      unfold Decr at hd
      rw [hq] at hd
      exact (List.pairwise_append.1 hd).2.1
    · rw [List.mem_append, hm k' hk', List.mem_singleton]
      constructor
      · rintro (g | g)
        · exact g
        · exact absurd g (tp.ne h3 (show k' < k by omega) hk)
      · intro g; exact .inl g
theorem Inv2.fold {n m : Nat} {p : Nat → Pt} (tp : TP n p) (h3 : 3 ≤ n) (hb : Bit n m p) : ∀ (rest P st : List Pt), Inv2 n m p P st → (P ++ rest).Pairwise ltP → (∀ s ∈ P ++ rest, ∃ k, k < n ∧ s = p k) → (∀ k, k < n → p k ∈ P ++ rest) → Inv2 n m p (P ++ rest) (rest.foldl chStep st)
  | [], P, st, h, _, _, _ => by simpa using h
  | x :: rest, P, st, h, hs, h1, h2 => by
    have hpw := List.pairwise_append.1 hs
    have hst := h.step tp h3 hb (x := x) (h1 x (by simp)) (fun s hs' => hpw.2.2 s hs' x (by simp)) (fun k hk hlt => by
      rcases List.mem_append.1 (h2 k hk) with g | g
      · exact g
      · rcases List.mem_cons.1 g with g | g
        · rw [g] at hlt; exact absurd hlt (ltP_irrefl _)
        · exact absurd hlt (ltP_asymm ((List.pairwise_cons.1 hpw.2.1).1 _ g)))
    have := Inv2.fold tp h3 hb rest (P ++ [x]) (chStep st x) hst (by simpa using hs) (by simpa using h1) (by simpa using h2)
    simpa using this
/-- one chain of a polygon -/
theorem chain_poly {n m : Nat} {p : Nat → Pt} (tp : TP n p) (h3 : 3 ≤ n) (hb : Bit n m p) (hl : ∀ k, 0 < k → k < n → ltP (p 0) (p k)) {S : List Pt} (hs : S.Pairwise ltP) (h1 : ∀ s ∈ S, ∃ k, k < n ∧ s = p k) (h2 : ∀ k, k < n → p k ∈ S) : chain S = lowR p m := by
  have hmn := hb.mn
  cases S with
  | nil => exact absurd (h2 0 (by omega)) (by simp)
  | cons x S =>
    have hx0 : x = p 0 := by
      obtain ⟨k, hk, e⟩ := h1 x (by simp)
      rcases Nat.eq_zero_or_pos k with rfl | hk0
      · exact e
      · exfalso
        rcases List.mem_cons.1 (h2 0 (by omega)) with g | g
        · exact tp.ne h3 hk0 hk (g.trans e)
        · have g1 := (List.pairwise_cons.1 hs).1 _ g
          have g2 := hl k hk0 hk
          rw [← e] at g2
          exact ltP_asymm g1 g2
    have e0 : chStep [] x = [p 0] := by unfold chStep; rw [pop, hx0]
    have hi : Inv2 n m p [x] (chStep [] x) := ⟨0, [], by rw [e0]; rfl, Nat.zero_le _, fun u hu => by simp at hu, List.Pairwise.nil, fun k hk => by
      rw [List.mem_singleton, hx0]
      constructor
      · intro g
        rcases Nat.eq_zero_or_pos k with q | q
        · omega
        · exact absurd g.symm (tp.ne h3 q (by omega))
      · intro g
        rw [show k = 0 by omega]⟩
    have hf := Inv2.fold tp h3 hb S [x] _ hi hs h1 h2
    obtain ⟨i, ups, he, him, hu, hd, hm⟩ := hf.ex
    have hi2 : i = m := by
      have := (hm m (Nat.le_refl _)).1 (h2 m hmn)
      omega
    subst hi2
    have hn : ups = [] := by
      cases ups with
      | nil => rfl
      | cons u r =>
        obtain ⟨⟨k, k1, k2, e⟩, g, -⟩ := hu u (by simp)
        rw [e] at g
        exact absurd g (ltP_asymm (hb.decs i k (Nat.le_refl _) k1 k2))
    rw [hn, List.nil_append] at he
    exact he
def rotN (n m : Nat) (p : Nat → Pt) (k : Nat) : Pt := negP (if m + k < n then p (m + k) else p (m + k - n))
theorem rotN_tp {n m : Nat} {p : Nat → Pt} (tp : TP n p) (hm : m < n) : TP n (rotN n m p) := fun i j k hij hjk hk => by
  unfold rotN
  rw [tn_neg]
  by_cases c3 : m + k < n
  · rw [if_pos (by omega), if_pos (by omega), if_pos c3]; exact tp _ _ _ (by omega) (by omega) c3
  · rw [if_neg c3]
    by_cases c2 : m + j < n
    · rw [if_pos (by omega), if_pos c2, tn_rot]
      exact tp (m + k - n) (m + i) (m + j) (by omega) (by omega) c2
    · rw [if_neg c2]
      by_cases c1 : m + i < n
      · rw [if_pos c1, tn_rot, tn_rot]
        exact tp (m + j - n) (m + k - n) (m + i) (by omega) (by omega) c1
      · rw [if_neg c1]; exact tp _ _ _ (by omega) (by omega) (by omega)
/-- a polygon is its own hull -/
theorem hull_poly {n : Nat} {p : Nat → Pt} (h : Loc n p) {S : List Pt} (hs : S.Pairwise ltP) (h1 : ∀ s ∈ S, ∃ k, k < n ∧ s = p k) (h2 : ∀ k, k < n → p k ∈ S) : hullP S = (List.range n).map p := by
  have tp := h.tp
  have h3 := h.n3
  obtain ⟨m, hm0, hmn, hinc, hdec⟩ := h.bitonic
  have hb : Bit n m p := ⟨hm0, hmn, hinc, hdec⟩
  have e1 := chain_poly tp h3 hb h.least hs h1 h2
  -- the way back
  have tq := rotN_tp tp hmn
  have hmax : ∀ k, k < n → k ≠ m → ltP (p k) (p m) := fun k hk hkm => by
    rcases Nat.lt_or_ge k m with g | g
    · exact hb.incs k m g (Nat.le_refl _)
    · exact hb.decs m k (Nat.le_refl _) (by omega) hk
  have lq : ∀ k, 0 < k → k < n → ltP (rotN n m p 0) (rotN n m p k) := fun k h0 hk => by
    unfold rotN
    rw [ltP_neg, if_pos (show m + 0 < n by omega), Nat.add_zero]
    by_cases c : m + k < n
    · rw [if_pos c]; exact hmax _ c (by omega)
    · rw [if_neg c]; exact hmax _ (by omega) (by omega)
  have Lq : Loc n (rotN n m p) := tq.loc h3 lq
  obtain ⟨m2, k0, kn, kinc, kdec⟩ := Lq.bitonic
  have hb2 : Bit n m2 (rotN n m p) := ⟨k0, kn, kinc, kdec⟩
  have hz : rotN n m p (n - m) = negP (p 0) := by unfold rotN; rw [if_neg (by omega), show m + (n - m) - n = 0 by omega]
  have hgr : ∀ k, k < n → k ≠ n - m → ltP (rotN n m p k) (rotN n m p (n - m)) := fun k hk hne => by
    rw [hz]
    unfold rotN
    rw [ltP_neg]
    by_cases c : m + k < n
    · rw [if_pos c]; exact h.least _ (by omega) c
    · rw [if_neg c]; exact h.least _ (by omega) (by omega)
  have hm2 : m2 = n - m := by
    rcases Nat.lt_trichotomy m2 (n - m) with g | g | g
    · exact absurd (hgr m2 kn (by omega)) (ltP_asymm (hb2.decs m2 (n - m) (Nat.le_refl _) g (by omega)))
    · exact g
    · exact absurd (hgr m2 kn (by omega)) (ltP_asymm (hb2.incs (n - m) m2 g (Nat.le_refl _)))
  have hinv : ∀ k, k < n → ∃ j, j < n ∧ negP (p k) = rotN n m p j := fun k hk => by
    by_cases c : m ≤ k
    · exact ⟨k - m, by omega, by unfold rotN; rw [if_pos (by omega), show m + (k - m) = k by omega]⟩
    · exact ⟨k + n - m, by omega, by unfold rotN; rw [if_neg (by omega), show m + (k + n - m) - n = k by omega]⟩
  have e2 := chain_poly tq h3 hb2 lq (rev_neg_sorted hs) (fun s hs' => by
    obtain ⟨z, hz', e⟩ := List.mem_map.1 hs'
    obtain ⟨k, hk, e'⟩ := h1 z (List.mem_reverse.1 hz')
    obtain ⟨j, hj, ej⟩ := hinv k hk
    exact ⟨j, hj, by rw [← e, e', ej]⟩) (fun k hk => by
    refine List.mem_map.2 ⟨if m + k < n then p (m + k) else p (m + k - n), ?_, rfl⟩
    rw [List.mem_reverse]
    split
    · rename_i c; exact h2 _ c
    · exact h2 _ (by omega))
  rw [chain_neg] at e2
  have e3 : chain S.reverse = (lowR (rotN n m p) m2).map negP := by
    rw [← e2, List.map_map]
    have : negP ∘ negP = id := funext negP_negP
    rw [this, List.map_id]
  unfold hullP
  rw [e1, e3, lowR_tail, ← List.map_tail, ← List.map_reverse, lowR_tail, hm2, List.map_map]
  have e4 : (List.range (n - m)).map (negP ∘ rotN n m p) = (List.range (n - m)).map (fun k => p (m + k)) := by
    refine List.map_congr_left fun k hk => ?_
    have hk := List.mem_range.1 hk
    show negP (rotN n m p k) = _
    unfold rotN
    rw [negP_negP, if_pos (by omega)]
  rw [e4]
  have e5 : List.range n = List.range m ++ (List.range (n - m)).map (m + ·) := by
    rw [← List.range_add, show m + (n - m) = n by omega]
  rw [e5, List.map_append, List.map_map]
  rfl
end Go.Proofs.YtehhoplenloocaaGreat

/- Hulls of lists with points that come twice; the tests of a polygon: the plain law. -/
namespace Go.Proofs.YtehhoplenloocaaGreat
set_option linter.unusedVariables false
set_option linter.unusedSimpArgs false

/-- sorted lists with the same members are the same -/
theorem sorted_unique {R : Pt → Pt → Prop} (ha : ∀ a b, R a b → ¬ R b a) : ∀ {l1 l2 : List Pt}, l1.Pairwise R → l2.Pairwise R → (∀ x, x ∈ l1 ↔ x ∈ l2) → l1 = l2
  | [], [], _, _, _ => rfl
  | [], b :: l2, _, _, h => absurd ((h b).2 (by simp)) (by simp)
  | a :: l1, [], _, _, h => absurd ((h a).1 (by simp)) (by simp)
  | a :: l1, b :: l2, h1, h2, h => by
    have p1 := List.pairwise_cons.1 h1
    have p2 := List.pairwise_cons.1 h2
    have e : a = b := by
      rcases List.mem_cons.1 ((h a).1 (by simp)) with g | g
      · exact g
      · rcases List.mem_cons.1 ((h b).2 (by simp)) with k | k
        · exact k.symm
        · exact absurd (p2.1 a g) (ha _ _ (p1.1 b k))
    subst e
    have hne1 : a ∉ l1 := fun g => ha a a (p1.1 a g) (p1.1 a g)
    have hne2 : a ∉ l2 := fun g => ha a a (p2.1 a g) (p2.1 a g)
    have : l1 = l2 := sorted_unique ha p1.2 p2.2 fun x => by
      constructor
      · intro hx
        rcases List.mem_cons.1 ((h x).1 (by simp [hx])) with g | g
        · subst g; exact absurd hx hne1
        · exact g
      · intro hx
        rcases List.mem_cons.1 ((h x).2 (by simp [hx])) with g | g
        · subst g; exact absurd hx hne2
        · exact g
    rw [this]
/-- without what comes twice, behind x -/
def sqF (x : Pt) : List Pt → List Pt
  | [] => []
  | y :: r => if y = x then sqF x r else y :: sqF y r
theorem sqF_mem (x : Pt) : ∀ (l : List Pt) (z : Pt), (z = x ∨ z ∈ sqF x l) ↔ (z = x ∨ z ∈ l)
  | [], z => by simp [sqF]
  | y :: r, z => by
    rw [sqF]
    split
    · rename_i h
      subst h
      rw [sqF_mem y r z, List.mem_cons]
      constructor
      · rintro (h | h)
        · exact .inl h
        · exact .inr (.inr h)
      · rintro (h | h | h)
        · exact .inl h
        · exact .inl h
        · exact .inr h
    · have := sqF_mem y r z
      rw [List.mem_cons, List.mem_cons, this]
theorem sqF_pair {R : Pt → Pt → Prop} (hR : ∀ a b c, R a b → R b c → R a c) : ∀ (l : List Pt) (x : Pt), (x :: l).Pairwise (fun a b => R a b ∨ a = b) → (x :: sqF x l).Pairwise R
  | [], x, _ => by simp [sqF]
  | y :: r, x, h => by
    have p1 := List.pairwise_cons.1 h
    have p2 := List.pairwise_cons.1 p1.2
    rw [sqF]
    split
    · rename_i e
      subst e
      exact sqF_pair hR r y p1.2
    · rename_i hne
      have ih := sqF_pair hR r y p1.2
      have hxy : R x y := by
        rcases p1.1 y (by simp) with g | g
        · exact g
        · exact absurd g.symm hne
      refine List.pairwise_cons.2 ⟨fun z hz => ?_, ih⟩
      rcases List.mem_cons.1 hz with g | g
      · rw [g]; exact hxy
      · exact hR x y z hxy ((List.pairwise_cons.1 ih).1 z g)
theorem chStep_absorb {st : List Pt} (x : Pt) (h : st ≠ []) : chStep (chStep st x) x = chStep st x := by
  unfold chStep
  have hne := pop_ne x st h
  have hid := pop_idem x st
  generalize pop x st = q at *
  cases q with
  | nil => exact absurd rfl hne
  | cons a r => rw [pop_cons2, tn_self, if_pos (Int.le_refl _), hid]
theorem fold_sqF : ∀ (l : List Pt) (x : Pt) (st : List Pt), st ≠ [] → chStep st x = st → l.foldl chStep st = (sqF x l).foldl chStep st
  | [], x, st, _, _ => rfl
  | y :: r, x, st, h, ha => by
    rw [sqF]
    split
    · rename_i e
      subst e
      rw [List.foldl_cons, ha]
      exact fold_sqF r y st h ha
    · rw [List.foldl_cons, List.foldl_cons]
      exact fold_sqF r y (chStep st y) (by simp [chStep]) (chStep_absorb y h)
theorem chStep_one (x y : Pt) : chStep [x] y = [y, x] := by unfold chStep; rw [pop_one]
theorem chStep_two (x y : Pt) : chStep [x, x] y = [y, x] := by unfold chStep; rw [pop_cons2, tn_self1, if_pos (Int.le_refl _), pop_one]
theorem fold_first : ∀ (l : List Pt) (x : Pt) (st : List Pt), st = [x] ∨ st = [x, x] → (sqF x l = [] → l.foldl chStep st = [x] ∨ l.foldl chStep st = [x, x]) ∧ (sqF x l ≠ [] → l.foldl chStep st = (sqF x l).foldl chStep [x])
  | [], x, st, h => ⟨fun _ => h, fun h => absurd rfl h⟩
  | y :: r, x, st, h => by
    rw [sqF]
    split
    · rename_i e
      subst e
      rw [List.foldl_cons]
      have hst : chStep st y = [y, y] := by
        rcases h with rfl | rfl
        · exact chStep_one y y
        · exact chStep_two y y
      rw [hst]
      exact fold_first r y [y, y] (.inr rfl)
    · refine ⟨fun h => (by cases h), fun _ => ?_⟩
      rw [List.foldl_cons, List.foldl_cons]
      have hst : chStep st y = chStep [x] y := by
        rcases h with rfl | rfl
        · rfl
        · rw [chStep_one, chStep_two]
      rw [hst]
      exact fold_sqF r y (chStep [x] y) (by simp [chStep]) (chStep_absorb y (by simp))
/-- the chain of a sorted list, whatever comes twice -/
theorem chain_dup {R : Pt → Pt → Prop} (ha : ∀ a b, R a b → ¬ R b a) (hR : ∀ a b c, R a b → R b c → R a c) {A S : List Pt} (hA : A.Pairwise (fun a b => R a b ∨ a = b)) (hS : S.Pairwise R) (hm : ∀ z, z ∈ A ↔ z ∈ S) :
    (2 ≤ S.length → chain A = chain S) ∧ (S.length < 2 → (chain A).length ≤ 2) := by
  cases A with
  | nil =>
    have : S = [] := by
      cases S with
      | nil => rfl
      | cons s S => exact absurd ((hm s).2 (by simp)) (by simp)
    subst this
    exact ⟨fun h => by simp at h, fun _ => by simp [chain]⟩
  | cons x l =>
    have e : x :: sqF x l = S := sorted_unique ha (sqF_pair hR l x hA) hS fun z => by
      rw [← hm z, List.mem_cons, List.mem_cons]; exact sqF_mem x l z
    subst e
    have e0 : chStep [] x = [x] := by unfold chStep; rw [pop]
    have hf := fold_first l x [x] (.inl rfl)
    constructor
    · intro h2
      have hne : sqF x l ≠ [] := by intro h; rw [h] at h2; simp at h2
      unfold chain
      rw [List.foldl_cons, List.foldl_cons, e0]
      exact hf.2 hne
    · intro h2
      have he : sqF x l = [] := by
        cases h : sqF x l with
        | nil => rfl
        | cons y r => rw [h] at h2; simp at h2; omega
      unfold chain
      rw [List.foldl_cons, e0]
      rcases hf.1 he with g | g <;> rw [g] <;> simp
/-- what the program makes of a sorted list -/
theorem hull_dup {A S : List Pt} (hA : A.Pairwise (fun a b => ltP a b ∨ a = b)) (hS : S.Pairwise ltP) (hm : ∀ z, z ∈ A ↔ z ∈ S) : (2 ≤ S.length → hullP A = hullP S) ∧ (S.length < 2 → (hullP A).length < 3) := by
  have h1 := chain_dup (R := ltP) (fun _ _ => ltP_asymm) (fun _ _ _ => ltP_trans) hA hS hm
  have h2 := chain_dup (R := fun a b => ltP b a) (A := A.reverse) (S := S.reverse) (fun _ _ => ltP_asymm) (fun _ _ _ h k => ltP_trans k h) (by
    rw [List.pairwise_reverse]; exact hA.imp fun h => h.imp id Eq.symm) (by rw [List.pairwise_reverse]; exact hS) (fun z => by rw [List.mem_reverse, List.mem_reverse]; exact hm z)
  rw [List.length_reverse] at h2
  unfold hullP
  constructor
  · intro h; rw [h1.1 h, h2.1 h]
  · intro h
    have a := h1.2 h
    have b := h2.2 h
    simp; omega
theorem chain_len : ∀ (S st : List Pt), (S.foldl chStep st).length ≤ st.length + S.length
  | [], st => by simp
  | x :: S, st => by
    have h1 := chain_len S (chStep st x)
    have h2 : (chStep st x).length ≤ st.length + 1 := by
      obtain ⟨q, hq⟩ := pop_suffix x st
      have := congrArg List.length hq
      rw [List.length_append] at this
      unfold chStep; simp; omega
    rw [List.foldl_cons, List.length_cons]
    omega
theorem hullP_short {S : List Pt} (h : S.length < 3) : (hullP S).length < 3 := by
  have h1 := chain_len S []
  have h2 := chain_len S.reverse []
  unfold hullP chain
  simp at *
  omega
/-! ### rows -/
def ptOf (r : List Int) : Pt := (r.getD 0 0, r.getD 1 0)
def ptsOf (ls : List (List Int)) : List Pt := ls.map ptOf
def rowP (a : Pt) : List Int := [a.1, a.2]
theorem ptOf_rowP (a : Pt) : ptOf (rowP a) = a := rfl
theorem ptOf_nil : ptOf [] = o0 := rfl
theorem ptOf_getD (ls : List (List Int)) (k : Nat) : (ptsOf ls).getD k o0 = ptOf (ls.getD k []) := by
  unfold ptsOf
  rw [List.getD_eq_getElem?_getD, List.getD_eq_getElem?_getD, List.getElem?_map]
  cases ls[k]? <;> rfl
/-- the program's tests, one corner after the other -/
def locAt (n : Nat) (p : Nat → Pt) (k : Nat) : Bool :=
  decide (0 < tn (p k) (p ((k + 1) % n)) (p ((k + 2) % n))) && (decide (k = 0) || decide (ltP (p 0) (p k))) && (decide (k = 0) || decide (n ≤ k + 1) || decide (0 < tn (p 0) (p k) (p (k + 1))))
def locB (n : Nat) (p : Nat → Pt) : Bool := (List.range n).all (locAt n p)
theorem locAt_iff {n : Nat} {p : Nat → Pt} {k : Nat} : locAt n p k = true ↔ 0 < tn (p k) (p ((k + 1) % n)) (p ((k + 2) % n)) ∧ (k = 0 ∨ ltP (p 0) (p k)) ∧ (k = 0 ∨ n ≤ k + 1 ∨ 0 < tn (p 0) (p k) (p (k + 1))) := by
  unfold locAt
  simp only [Bool.and_eq_true, Bool.or_eq_true, decide_eq_true_eq, and_assoc, or_assoc]
theorem locB_iff {n : Nat} {p : Nat → Pt} (h3 : 3 ≤ n) : locB n p = true ↔ Loc n p := by
  unfold locB
  rw [List.all_eq_true]
  constructor
  · intro h
    have h' : ∀ k, k < n → _ := fun k hk => locAt_iff.1 (h k (List.mem_range.2 hk))
    refine ⟨h3, fun k hk => ?_, fun k h0 hk => ?_, fun k h0 hk => ?_⟩
    · have := (h' k (by omega)).1
      rwa [Nat.mod_eq_of_lt (by omega), Nat.mod_eq_of_lt hk] at this
    · rcases (h' k hk).2.1 with g | g
      · omega
      · exact g
    · rcases (h' k (by omega)).2.2 with g | g | g
      · omega
      · omega
      · exact g
  · intro h k hk
    have hk := List.mem_range.1 hk
    have tp := h.tp
    rw [locAt_iff]
    refine ⟨?_, ?_, ?_⟩
    · by_cases c2 : k + 2 < n
      · rw [Nat.mod_eq_of_lt (by omega), Nat.mod_eq_of_lt c2]; exact h.turn k c2
      · by_cases c1 : k + 1 < n
        · have : k + 2 = n := by omega
          rw [Nat.mod_eq_of_lt c1, this, Nat.mod_self, tn_rot]
          exact tp 0 k (k + 1) (by omega) (by omega) c1
        · have e : k + 1 = n := by omega
          rw [e, Nat.mod_self, show k + 2 = n + 1 by omega, Nat.add_mod_left, Nat.mod_eq_of_lt (show 1 < n by omega)]
          rw [tn_rot, tn_rot]
          exact tp 0 1 k (by omega) (by omega) hk
    · by_cases g : k = 0
      · exact .inl g
      · exact .inr (h.least k (by omega) hk)
    · by_cases g : k = 0
      · exact .inl g
      · by_cases g2 : n ≤ k + 1
        · exact .inr (.inl g2)
        · exact .inr (.inr (h.fan k (by omega) (by omega)))
end Go.Proofs.YtehhoplenloocaaGreat
