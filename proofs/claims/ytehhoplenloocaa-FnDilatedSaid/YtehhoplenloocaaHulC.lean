/- The monotone chain: the plain law. -/
import Derived.Test.YtehhoplenloocaaHulM
namespace Go.Proofs.Ytehhoplenloocaa
set_option linter.unusedVariables false
set_option linter.unusedSimpArgs false

/-- what turns too far is taken off (the top stands first) -/
def pop (x : Pt) : List Pt → List Pt
  | b :: a :: r => if tn a b x ≤ 0 then pop x (a :: r) else b :: a :: r
  | [b] => [b]
  | [] => []
def chStep (st : List Pt) (x : Pt) : List Pt := x :: pop x st
def chain (S : List Pt) : List Pt := S.foldl chStep []
def hullP (S : List Pt) : List Pt := (chain S).tail.reverse ++ (chain S.reverse).tail.reverse
theorem pop_cons2 (x a b : Pt) (r : List Pt) : pop x (b :: a :: r) = if tn a b x ≤ 0 then pop x (a :: r) else b :: a :: r := by rw [pop]
theorem pop_one (x b : Pt) : pop x [b] = [b] := by rw [pop]
theorem pop_ne (x : Pt) : ∀ (st : List Pt), st ≠ [] → pop x st ≠ []
  | [], h => absurd rfl h
  | [b], _ => by rw [pop_one]; simp
  | b :: a :: r, _ => by
    rw [pop_cons2]
    split
    · exact pop_ne x (a :: r) (by simp)
    · simp
/-! ### weak and strict order by turns -/
theorem cross_id (u v w : Pt) : crossP u w * v.1 = crossP u v * w.1 + crossP v w * u.1 ∧ crossP u w * v.2 = crossP u v * w.2 + crossP v w * u.2 := by
  unfold crossP; constructor <;> grind
theorem lexComb {a b c v1 v2 w1 w2 u1 u2 : Int} (hv : 0 < v1 ∨ (v1 = 0 ∧ 0 < v2)) (hw : 0 < w1 ∨ (w1 = 0 ∧ 0 < w2)) (hu : 0 < u1 ∨ (u1 = 0 ∧ 0 < u2)) (e1 : c * v1 = a * w1 + b * u1) (e2 : c * v2 = a * w2 + b * u2) (ha : 0 ≤ a) (hb : 0 ≤ b) :
    0 ≤ c ∧ (0 < a ∨ 0 < b → 0 < c) := by
  have hw1 : 0 ≤ w1 := by omega
  have hu1 : 0 ≤ u1 := by omega
  have p1 : 0 ≤ a * w1 := Int.mul_nonneg ha hw1
  have p2 : 0 ≤ b * u1 := Int.mul_nonneg hb hu1
  -- c ≤ 0 forces all to be zero
  have key : c ≤ 0 → c = 0 ∧ a = 0 ∧ b = 0 := by
    intro hc
    have q1 : c * v1 ≤ 0 := Int.mul_nonpos_of_nonpos_of_nonneg hc (by omega)
    have z1 : a * w1 = 0 := by omega
    have z2 : b * u1 = 0 := by omega
    have aw : a * w2 ≥ 0 := by
      rcases hw with h | h
      · rcases Int.mul_eq_zero.1 z1 with k | k
        · rw [k]; simp
        · omega
      · exact Int.mul_nonneg ha (by omega)
    have bu : b * u2 ≥ 0 := by
      rcases hu with h | h
      · rcases Int.mul_eq_zero.1 z2 with k | k
        · rw [k]; simp
        · omega
      · exact Int.mul_nonneg hb (by omega)
    have cz : c = 0 := by
      rcases hv with h | h
      · have : c * v1 = 0 := by omega
        rcases Int.mul_eq_zero.1 this with k | k <;> omega
      · have q2 : c * v2 ≤ 0 := Int.mul_nonpos_of_nonpos_of_nonneg hc (by omega)
        have : c * v2 = 0 := by omega
        rcases Int.mul_eq_zero.1 this with k | k <;> omega
    subst cz
    simp only [Int.zero_mul] at e2
    refine ⟨rfl, ?_, ?_⟩
    · rcases hw with h | h
      · rcases Int.mul_eq_zero.1 z1 with k | k <;> omega
      · have : a * w2 = 0 := by omega
        rcases Int.mul_eq_zero.1 this with k | k <;> omega
    · rcases hu with h | h
      · rcases Int.mul_eq_zero.1 z2 with k | k <;> omega
      · have : b * u2 = 0 := by omega
        rcases Int.mul_eq_zero.1 this with k | k <;> omega
  constructor
  · rcases Int.lt_or_le c 0 with h | h
    · have := (key (by omega)).1; omega
    · exact h
  · intro h
    rcases Int.lt_or_le 0 c with g | g
    · exact g
    · have := key g; omega
theorem cross_weak {u v w : Pt} (hu : posP u) (hv : posP v) (hw : posP w) (h1 : 0 ≤ crossP u v) (h2 : 0 ≤ crossP v w) : 0 ≤ crossP u w ∧ (0 < crossP u v ∨ 0 < crossP v w → 0 < crossP u w) := by
  obtain ⟨e1, e2⟩ := cross_id u v w
  exact lexComb hv hw hu e1 e2 h1 h2
/-! ### a strictly convex, increasing sequence -/
theorem cross_add_left (a b c : Pt) : crossP (a.1 + b.1, a.2 + b.2) c = crossP a c + crossP b c := by unfold crossP; grind
/-- turns to the left all along: then of any three -/
theorem convex_all {n : Nat} {c : Nat → Pt} (hinc : ∀ i, i + 1 < n → ltP (c i) (c (i + 1))) (ht : ∀ i, i + 2 < n → 0 < tn (c i) (c (i + 1)) (c (i + 2))) : ∀ i j k, i < j → j < k → k < n → 0 < tn (c i) (c j) (c k) := by
  -- edges
  have he : ∀ i, i + 1 < n → posP (subP (c (i + 1)) (c i)) := fun i hi => ltP_iff.1 (hinc i hi)
  have hx : ∀ a b, a < b → b + 1 < n → 0 < crossP (subP (c (a + 1)) (c a)) (subP (c (b + 1)) (c b)) := fun a b hab hb =>
    trans_all (v := fun k => subP (c (k + 1)) (c k)) (lo := 0) (n := n - 1) (fun k _ hk => he k (by omega)) (fun k _ hk => by
      have := ht k (by omega)
      have e : crossP (subP (c (k + 1)) (c k)) (subP (c (k + 1 + 1)) (c (k + 1))) = tn (c k) (c (k + 1)) (c (k + 2)) := by unfold tn crossP subP; grind
      rw [e]; exact this) a b (Nat.zero_le _) hab (by omega)
  -- a sum of edges against one edge
  have hs1 : ∀ d i b, i + d ≤ b → b + 1 < n → 0 < d → 0 < crossP (subP (c (i + d)) (c i)) (subP (c (b + 1)) (c b)) := by
    intro d
    induction d with
    | zero => intro i b _ _ h; omega
    | succ d ih =>
      intro i b hib hb _
      have h1 := hx (i + d) b (by omega) hb
      by_cases h0 : d = 0
      · subst h0; exact h1
      · have h2 := ih i b (by omega) hb (by omega)
        have e : crossP (subP (c (i + (d + 1))) (c i)) (subP (c (b + 1)) (c b)) = crossP (subP (c (i + d)) (c i)) (subP (c (b + 1)) (c b)) + crossP (subP (c (i + d + 1)) (c (i + d))) (subP (c (b + 1)) (c b)) := by
          rw [show i + (d + 1) = i + d + 1 from rfl]; unfold crossP subP; grind
        omega
  have hs2 : ∀ e i j, i < j → j + e < n → 0 < e → 0 < crossP (subP (c j) (c i)) (subP (c (j + e)) (c j)) := by
    intro e
    induction e with
    | zero => intro i j _ _ h; omega
    | succ e ih =>
      intro i j hij hj _
      have h1 := hs1 (j - i) i (j + e) (by omega) (by omega) (by omega)
      rw [show i + (j - i) = j by omega] at h1
      by_cases h0 : e = 0
      · subst h0; exact h1
      · have h2 := ih i j hij (by omega) (by omega)
        have e' : crossP (subP (c j) (c i)) (subP (c (j + (e + 1))) (c j)) = crossP (subP (c j) (c i)) (subP (c (j + e)) (c j)) + crossP (subP (c j) (c i)) (subP (c (j + e + 1)) (c (j + e))) := by
          rw [show j + (e + 1) = j + e + 1 from rfl]; unfold crossP subP; grind
        omega
  intro i j k hij hjk hk
  have h := hs2 (k - j) i j hij (by omega) (by omega)
  rw [show j + (k - j) = k by omega] at h
  have e : crossP (subP (c j) (c i)) (subP (c k) (c j)) = tn (c i) (c j) (c k) := by unfold tn crossP subP; grind
  omega
/-! ### stacks -/
/-- the top first: decreasing -/
def Decr (st : List Pt) : Prop := st.Pairwise fun a b => ltP b a
/-- turns to the left -/
def Conv : List Pt → Prop
  | c :: b :: a :: r => 0 < tn a b c ∧ Conv (b :: a :: r)
  | _ => True
/-- all points lie on the left of every edge -/
def Above (P : List Pt) : List Pt → Prop
  | b :: a :: r => (∀ s ∈ P, 0 ≤ tn a b s) ∧ Above P (a :: r)
  | _ => True
theorem Conv.tail {b : Pt} : ∀ {r : List Pt}, Conv (b :: r) → Conv r
  | [], _ => trivial
  | [a], _ => trivial
  | a :: a' :: r, h => h.2
theorem Above.tail {P : List Pt} {b : Pt} : ∀ {r : List Pt}, Above P (b :: r) → Above P r
  | [], _ => trivial
  | a :: r, h => h.2
theorem pop_suffix (x : Pt) : ∀ (st : List Pt), ∃ q, st = q ++ pop x st
  | [] => ⟨[], by rw [pop]; rfl⟩
  | [b] => ⟨[], by rw [pop_one]; rfl⟩
  | b :: a :: r => by
    rw [pop_cons2]
    split
    · obtain ⟨q, hq⟩ := pop_suffix x (a :: r)
      exact ⟨b :: q, by rw [List.cons_append, ← hq]⟩
    · exact ⟨[], rfl⟩
theorem Conv.of_append {q : List Pt} : ∀ {st : List Pt}, Conv (q ++ st) → Conv st := by
  induction q with
  | nil => intro st h; exact h
  | cons b q ih => intro st h; exact ih (Conv.tail h)
theorem Above.of_append {P q : List Pt} : ∀ {st : List Pt}, Above P (q ++ st) → Above P st := by
  induction q with
  | nil => intro st h; exact h
  | cons b q ih => intro st h; exact ih (Above.tail h)
/-- what stands behind the pops -/
theorem pop_top (x : Pt) : ∀ (st : List Pt), ∀ b a r, pop x st = b :: a :: r → 0 < tn a b x
  | [], b, a, r, h => by rw [pop] at h; cases h
  | [c], b, a, r, h => by rw [pop_one] at h; cases h
  | c :: d :: r', b, a, r, h => by
    rw [pop_cons2] at h
    split at h
    · exact pop_top x (d :: r') b a r h
    · rename_i hc
      injection h with h1 h2
      injection h2 with h2 h3
      subst h1 h2
      omega
/-- the last one that was taken off -/
theorem pop_last (x : Pt) : ∀ (st : List Pt), pop x st = st ∨ ∃ b a r, pop x st = a :: r ∧ (∃ q, st = q ++ b :: a :: r) ∧ tn a b x ≤ 0
  | [] => .inl (by rw [pop])
  | [b] => .inl (pop_one _ _)
  | b :: a :: r => by
    rw [pop_cons2]
    split
    · rename_i hc
      right
      rcases pop_last x (a :: r) with h | ⟨b', a', r', h1, ⟨q, h2⟩, h3⟩
      · exact ⟨b, a, r, h, ⟨[], rfl⟩, hc⟩
      · exact ⟨b', a', r', h1, ⟨b :: q, by rw [List.cons_append, ← h2]⟩, h3⟩
    · exact .inl rfl
theorem pop_idem (x : Pt) : ∀ (st : List Pt), pop x (pop x st) = pop x st
  | [] => by rw [pop, pop]
  | [b] => by rw [pop_one, pop_one]
  | b :: a :: r => by
    rw [pop_cons2]
    split
    · exact pop_idem x (a :: r)
    · rename_i h
      rw [pop_cons2, if_neg h]
theorem Above.mid {P q : List Pt} {b a : Pt} {r : List Pt} (h : Above P (q ++ b :: a :: r)) : ∀ s ∈ P, 0 ≤ tn a b s := (Above.of_append h).1
end Go.Proofs.Ytehhoplenloocaa
