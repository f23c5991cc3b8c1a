/- Hulls of lists with points that come twice; the tests of a polygon: the plain law. -/
import Derived.Test.YtehhoplenloocaaHulE
namespace Go.Proofs.Ytehhoplenloocaa
set_option linter.unusedVariables false
set_option linter.unusedSimpArgs false

/-- sorted lists with the same members are the same -/
theorem sorted_unique {R : Pt → Pt → Prop} (ha : ∀ a b, R a b → ¬ R b a) : ∀ {l1 l2 : List Pt}, l1.Pairwise R → l2.Pairwise R → (∀ x, x ∈ l1 ↔ x ∈ l2) → l1 = l2
  | [], [], _, _, _ => rfl
  | [], b :: l2, _, _, h => absurd ((h b).2 (by simp)) (by simp)
  | a :: l1, [], _, _, h => absurd ((h a).1 (by simp)) (by simp)
  | a :: l1, b :: l2, h1, h2, h => by
    have p1 := List.pairwise_cons.1 h1
    have p2 := List.pairwise_cons.1 h2
    have e : a = b := by
      rcases List.mem_cons.1 ((h a).1 (by simp)) with g | g
      · exact g
      · rcases List.mem_cons.1 ((h b).2 (by simp)) with k | k
        · exact k.symm
        · exact absurd (p2.1 a g) (ha _ _ (p1.1 b k))
    subst e
    have hne1 : a ∉ l1 := fun g => ha a a (p1.1 a g) (p1.1 a g)
    have hne2 : a ∉ l2 := fun g => ha a a (p2.1 a g) (p2.1 a g)
    have : l1 = l2 := sorted_unique ha p1.2 p2.2 fun x => by
      constructor
      · intro hx
        rcases List.mem_cons.1 ((h x).1 (by simp [hx])) with g | g
        · subst g; exact absurd hx hne1
        · exact g
      · intro hx
        rcases List.mem_cons.1 ((h x).2 (by simp [hx])) with g | g
        · subst g; exact absurd hx hne2
        · exact g
    rw [this]
/-- without what comes twice, behind x -/
def sqF (x : Pt) : List Pt → List Pt
  | [] => []
  | y :: r => if y = x then sqF x r else y :: sqF y r
theorem sqF_mem (x : Pt) : ∀ (l : List Pt) (z : Pt), (z = x ∨ z ∈ sqF x l) ↔ (z = x ∨ z ∈ l)
  | [], z => by simp [sqF]
  | y :: r, z => by
    rw [sqF]
    split
    · rename_i h
      subst h
      rw [sqF_mem y r z, List.mem_cons]
      constructor
      · rintro (h | h)
        · exact .inl h
        · exact .inr (.inr h)
      · rintro (h | h | h)
        · exact .inl h
        · exact .inl h
        · exact .inr h
    · have := sqF_mem y r z
      rw [List.mem_cons, List.mem_cons, this]
theorem sqF_pair {R : Pt → Pt → Prop} (hR : ∀ a b c, R a b → R b c → R a c) : ∀ (l : List Pt) (x : Pt), (x :: l).Pairwise (fun a b => R a b ∨ a = b) → (x :: sqF x l).Pairwise R
  | [], x, _ => by simp [sqF]
  | y :: r, x, h => by
    have p1 := List.pairwise_cons.1 h
    have p2 := List.pairwise_cons.1 p1.2
    rw [sqF]
    split
    · rename_i e
      subst e
      exact sqF_pair hR r y p1.2
    · rename_i hne
      have ih := sqF_pair hR r y p1.2
      have hxy : R x y := by
        rcases p1.1 y (by simp) with g | g
        · exact g
        · exact absurd g.symm hne
      refine List.pairwise_cons.2 ⟨fun z hz => ?_, ih⟩
      rcases List.mem_cons.1 hz with g | g
      · rw [g]; exact hxy
      · exact hR x y z hxy ((List.pairwise_cons.1 ih).1 z g)
theorem chStep_absorb {st : List Pt} (x : Pt) (h : st ≠ []) : chStep (chStep st x) x = chStep st x := by
  unfold chStep
  have hne := pop_ne x st h
  have hid := pop_idem x st
  generalize pop x st = q at *
  cases q with
  | nil => exact absurd rfl hne
  | cons a r => rw [pop_cons2, tn_self, if_pos (Int.le_refl _), hid]
theorem fold_sqF : ∀ (l : List Pt) (x : Pt) (st : List Pt), st ≠ [] → chStep st x = st → l.foldl chStep st = (sqF x l).foldl chStep st
  | [], x, st, _, _ => rfl
  | y :: r, x, st, h, ha => by
    rw [sqF]
    split
    · rename_i e
      subst e
      rw [List.foldl_cons, ha]
      exact fold_sqF r y st h ha
    · rw [List.foldl_cons, List.foldl_cons]
      exact fold_sqF r y (chStep st y) (by simp [chStep]) (chStep_absorb y h)
theorem chStep_one (x y : Pt) : chStep [x] y = [y, x] := by unfold chStep; rw [pop_one]
theorem chStep_two (x y : Pt) : chStep [x, x] y = [y, x] := by unfold chStep; rw [pop_cons2, tn_self1, if_pos (Int.le_refl _), pop_one]
theorem fold_first : ∀ (l : List Pt) (x : Pt) (st : List Pt), st = [x] ∨ st = [x, x] → (sqF x l = [] → l.foldl chStep st = [x] ∨ l.foldl chStep st = [x, x]) ∧ (sqF x l ≠ [] → l.foldl chStep st = (sqF x l).foldl chStep [x])
  | [], x, st, h => ⟨fun _ => h, fun h => absurd rfl h⟩
  | y :: r, x, st, h => by
    rw [sqF]
    split
    · rename_i e
      subst e
      rw [List.foldl_cons]
      have hst : chStep st y = [y, y] := by
        rcases h with rfl | rfl
        · exact chStep_one y y
        · exact chStep_two y y
      rw [hst]
      exact fold_first r y [y, y] (.inr rfl)
    · refine ⟨fun h => (by cases h), fun _ => ?_⟩
      rw [List.foldl_cons, List.foldl_cons]
      have hst : chStep st y = chStep [x] y := by
        rcases h with rfl | rfl
        · rfl
        · rw [chStep_one, chStep_two]
      rw [hst]
      exact fold_sqF r y (chStep [x] y) (by simp [chStep]) (chStep_absorb y (by simp))
/-- the chain of a sorted list, whatever comes twice -/
theorem chain_dup {R : Pt → Pt → Prop} (ha : ∀ a b, R a b → ¬ R b a) (hR : ∀ a b c, R a b → R b c → R a c) {A S : List Pt} (hA : A.Pairwise (fun a b => R a b ∨ a = b)) (hS : S.Pairwise R) (hm : ∀ z, z ∈ A ↔ z ∈ S) :
    (2 ≤ S.length → chain A = chain S) ∧ (S.length < 2 → (chain A).length ≤ 2) := by
  cases A with
  | nil =>
    have : S = [] := by
      cases S with
      | nil => rfl
      | cons s S => exact absurd ((hm s).2 (by simp)) (by simp)
    subst this
    exact ⟨fun h => by simp at h, fun _ => by simp [chain]⟩
  | cons x l =>
    have e : x :: sqF x l = S := sorted_unique ha (sqF_pair hR l x hA) hS fun z => by
      rw [← hm z, List.mem_cons, List.mem_cons]; exact sqF_mem x l z
    subst e
    have e0 : chStep [] x = [x] := by unfold chStep; rw [pop]
    have hf := fold_first l x [x] (.inl rfl)
    constructor
    · intro h2
      have hne : sqF x l ≠ [] := by intro h; rw [h] at h2; simp at h2
      unfold chain
      rw [List.foldl_cons, List.foldl_cons, e0]
      exact hf.2 hne
    · intro h2
      have he : sqF x l = [] := by
        cases h : sqF x l with
        | nil => rfl
        | cons y r => rw [h] at h2; simp at h2; omega
      unfold chain
      rw [List.foldl_cons, e0]
      rcases hf.1 he with g | g <;> rw [g] <;> simp
/-- what the program makes of a sorted list -/
theorem hull_dup {A S : List Pt} (hA : A.Pairwise (fun a b => ltP a b ∨ a = b)) (hS : S.Pairwise ltP) (hm : ∀ z, z ∈ A ↔ z ∈ S) : (2 ≤ S.length → hullP A = hullP S) ∧ (S.length < 2 → (hullP A).length < 3) := by
  have h1 := chain_dup (R := ltP) (fun _ _ => ltP_asymm) (fun _ _ _ => ltP_trans) hA hS hm
  have h2 := chain_dup (R := fun a b => ltP b a) (A := A.reverse) (S := S.reverse) (fun _ _ => ltP_asymm) (fun _ _ _ h k => ltP_trans k h) (by
    rw [List.pairwise_reverse]; exact hA.imp fun h => h.imp id Eq.symm) (by rw [List.pairwise_reverse]; exact hS) (fun z => by rw [List.mem_reverse, List.mem_reverse]; exact hm z)
  rw [List.length_reverse] at h2
  unfold hullP
  constructor
  · intro h; rw [h1.1 h, h2.1 h]
  · intro h
    have a := h1.2 h
    have b := h2.2 h
    simp; omega
theorem chain_len : ∀ (S st : List Pt), (S.foldl chStep st).length ≤ st.length + S.length
  | [], st => by simp
  | x :: S, st => by
    have h1 := chain_len S (chStep st x)
    have h2 : (chStep st x).length ≤ st.length + 1 := by
      obtain ⟨q, hq⟩ := pop_suffix x st
      have := congrArg List.length hq
      rw [List.length_append] at this
      unfold chStep; simp; omega
    rw [List.foldl_cons, List.length_cons]
    omega
theorem hullP_short {S : List Pt} (h : S.length < 3) : (hullP S).length < 3 := by
  have h1 := chain_len S []
  have h2 := chain_len S.reverse []
  unfold hullP chain
  simp at *
  omega
/-! ### rows -/
def ptOf (r : List Int) : Pt := (r.getD 0 0, r.getD 1 0)
def ptsOf (ls : List (List Int)) : List Pt := ls.map ptOf
def rowP (a : Pt) : List Int := [a.1, a.2]
theorem ptOf_rowP (a : Pt) : ptOf (rowP a) = a := rfl
theorem ptOf_nil : ptOf [] = o0 := rfl
theorem ptOf_getD (ls : List (List Int)) (k : Nat) : (ptsOf ls).getD k o0 = ptOf (ls.getD k []) := by
  unfold ptsOf
  rw [List.getD_eq_getElem?_getD, List.getD_eq_getElem?_getD, List.getElem?_map]
  cases ls[k]? <;> rfl
/-- the program's tests, one corner after the other -/
def locAt (n : Nat) (p : Nat → Pt) (k : Nat) : Bool :=
  decide (0 < tn (p k) (p ((k + 1) % n)) (p ((k + 2) % n))) && (decide (k = 0) || decide (ltP (p 0) (p k))) && (decide (k = 0) || decide (n ≤ k + 1) || decide (0 < tn (p 0) (p k) (p (k + 1))))
def locB (n : Nat) (p : Nat → Pt) : Bool := (List.range n).all (locAt n p)
theorem locAt_iff {n : Nat} {p : Nat → Pt} {k : Nat} : locAt n p k = true ↔ 0 < tn (p k) (p ((k + 1) % n)) (p ((k + 2) % n)) ∧ (k = 0 ∨ ltP (p 0) (p k)) ∧ (k = 0 ∨ n ≤ k + 1 ∨ 0 < tn (p 0) (p k) (p (k + 1))) := by
  unfold locAt
  simp only [Bool.and_eq_true, Bool.or_eq_true, decide_eq_true_eq, and_assoc, or_assoc]
theorem locB_iff {n : Nat} {p : Nat → Pt} (h3 : 3 ≤ n) : locB n p = true ↔ Loc n p := by
  unfold locB
  rw [List.all_eq_true]
  constructor
  · intro h
    have h' : ∀ k, k < n → _ := fun k hk => locAt_iff.1 (h k (List.mem_range.2 hk))
    refine ⟨h3, fun k hk => ?_, fun k h0 hk => ?_, fun k h0 hk => ?_⟩
    · have := (h' k (by omega)).1
      rwa [Nat.mod_eq_of_lt (by omega), Nat.mod_eq_of_lt hk] at this
    · rcases (h' k hk).2.1 with g | g
      · omega
      · exact g
    · rcases (h' k (by omega)).2.2 with g | g | g
      · omega
      · omega
      · exact g
  · intro h k hk
    have hk := List.mem_range.1 hk
    have tp := h.tp
    rw [locAt_iff]
    refine ⟨?_, ?_, ?_⟩
    · by_cases c2 : k + 2 < n
      · rw [Nat.mod_eq_of_lt (by omega), Nat.mod_eq_of_lt c2]; exact h.turn k c2
      · by_cases c1 : k + 1 < n
        · have : k + 2 = n := by omega
          rw [Nat.mod_eq_of_lt c1, this, Nat.mod_self, tn_rot]
          exact tp 0 k (k + 1) (by omega) (by omega) c1
        · have e : k + 1 = n := by omega
          rw [e, Nat.mod_self, show k + 2 = n + 1 by omega, Nat.add_mod_left, Nat.mod_eq_of_lt (show 1 < n by omega)]
          rw [tn_rot, tn_rot]
          exact tp 0 1 k (by omega) (by omega) hk
    · by_cases g : k = 0
      · exact .inl g
      · exact .inr (h.least k (by omega) hk)
    · by_cases g : k = 0
      · exact .inl g
      · by_cases g2 : n ≤ k + 1
        · exact .inr (.inl g2)
        · exact .inr (.inr (h.fan k (by omega) (by omega)))
end Go.Proofs.Ytehhoplenloocaa
