/- Polygons are their own hulls, and hulls are polygons: the plain law. -/
import Derived.Test.YtehhoplenloocaaHulD
namespace Go.Proofs.Ytehhoplenloocaa
set_option linter.unusedVariables false
set_option linter.unusedSimpArgs false

theorem tailrev_getD (A : List Pt) (i : Nat) (h : i < A.length - 1) : A.tail.reverse.getD i o0 = A.getD (A.length - 1 - i) o0 := by
  rw [List.getD_eq_getElem?_getD, List.getD_eq_getElem?_getD, List.getElem?_reverse (by simpa using h), List.length_tail, List.getElem?_tail]
  congr 2; omega
theorem Ch.congr {P P' : List Pt} {a : Nat} {c : Nat → Pt} (h : Ch P a c) (hm : ∀ s, s ∈ P ↔ s ∈ P') : Ch P' a c :=
  ⟨fun i hi => (hm _).1 (h.mem i hi), h.inc, h.conv, fun i hi s hs => h.above i hi s ((hm s).2 hs), fun s hs => h.first s ((hm s).2 hs), fun s hs => h.last s ((hm s).2 hs)⟩
theorem Ch.ext {P : List Pt} {a : Nat} {c c' : Nat → Pt} (h : Ch P a c) (e : ∀ i, i ≤ a → c i = c' i) : Ch P a c' :=
  ⟨fun i hi => by rw [← e i hi]; exact h.mem i hi, fun i j hij hj => by rw [← e i (by omega), ← e j hj]; exact h.inc i j hij hj, fun i j k hij hjk hk => by rw [← e i (by omega), ← e j (by omega), ← e k hk]; exact h.conv i j k hij hjk hk,
    fun i hi s hs => by rw [← e i (by omega), ← e (i + 1) hi]; exact h.above i hi s hs, fun s hs => by rw [← e 0 (by omega)]; exact h.first s hs, fun s hs => by rw [← e a (Nat.le_refl _)]; exact h.last s hs⟩
theorem rev_neg_sorted {S : List Pt} (h : S.Pairwise ltP) : (S.reverse.map negP).Pairwise ltP := by
  rw [List.pairwise_map, List.pairwise_reverse]
  exact h.imp fun hab => ltP_neg.2 hab
theorem getD_neg (B : List Pt) (k : Nat) : (B.map negP).getD k o0 = negP (B.getD k o0) := by
  rw [List.getD_eq_getElem?_getD, List.getD_eq_getElem?_getD, List.getElem?_map]
  cases B[k]? <;> rfl
/-- a hull of three points or more is a polygon -/
theorem hullP_loc {S : List Pt} (hs : S.Pairwise ltP) (h3 : 3 ≤ (hullP S).length) : Loc (hullP S).length (fun i => (hullP S).getD i o0) := by
  have hne : S ≠ [] := by
    intro e; subst e; simp [hullP, chain] at h3
  have hA := (chain_inv hne hs).ch
  have hB := (chain_inv (S := S.reverse.map negP) (by simpa using hne) (rev_neg_sorted hs)).ch
  rw [chain_neg, List.length_map] at hB
  have hAn := (chain_inv hne hs).ne
  have hBn : chain S.reverse ≠ [] := by
    have := (chain_inv (S := S.reverse.map negP) (by simpa using hne) (rev_neg_sorted hs)).ne
    rw [chain_neg] at this
    simpa using this
  unfold hullP at h3 ⊢
  generalize chain S = A at *
  generalize chain S.reverse = B at *
  have hAl : 0 < A.length := List.length_pos_iff.2 hAn
  have hBl : 0 < B.length := List.length_pos_iff.2 hBn
  have hB2 : Ch (S.map negP) (B.length - 1) (fun j => negP (B.getD (B.length - 1 - j) o0)) := (hB.congr (P' := S.map negP) (fun s => by simp)).ext fun i _ => getD_neg B _
  have hlen : (A.tail.reverse ++ B.tail.reverse).length = (A.length - 1) + (B.length - 1) := by simp
  obtain ⟨u1, u2, u3, u4, u5, u6⟩ := hB2.neg
  simp only [negP_negP] at u1 u2 u3 u4 u5 u6
  have e1 : B.getD (B.length - 1 - 0) o0 = A.getD (A.length - 1 - (A.length - 1)) o0 := by
    rcases u5 _ (hA.mem (A.length - 1) (Nat.le_refl _)) with k | k
    · rcases hA.last _ (u1 0 (by omega)) with k2 | k2
      · exact absurd k (ltP_asymm k2)
      · exact k2
    · exact k.symm
  have e2 : B.getD (B.length - 1 - (B.length - 1)) o0 = A.getD (A.length - 1 - 0) o0 := by
    rcases u6 _ (hA.mem 0 (by omega)) with k | k
    · rcases hA.first _ (u1 (B.length - 1) (Nat.le_refl _)) with k2 | k2
      · exact absurd k (ltP_asymm k2)
      · exact k2
    · exact k.symm
  have h := two_chains hA hB2 (by omega) e1 e2
  rw [hlen]
  have hf : ∀ i, i < (A.length - 1) + (B.length - 1) → (A.tail.reverse ++ B.tail.reverse).getD i o0 = if i < A.length - 1 then A.getD (A.length - 1 - i) o0 else B.getD (B.length - 1 - (i - (A.length - 1))) o0 := fun i hi => by
    by_cases c : i < A.length - 1
    · rw [if_pos c, List.getD_eq_getElem?_getD, List.getElem?_append_left (by simpa using c), ← List.getD_eq_getElem?_getD, tailrev_getD A i c]
    · rw [if_neg c, List.getD_eq_getElem?_getD, List.getElem?_append_right (by simp; omega), ← List.getD_eq_getElem?_getD]
      rw [show i - A.tail.reverse.length = i - (A.length - 1) by simp, tailrev_getD B _ (by omega)]
  exact ⟨h.n3, fun k hk => by rw [hf k (by omega), hf (k + 1) (by omega), hf (k + 2) hk]; exact h.turn k hk,
    fun k h0 hk => by rw [hf 0 (by omega), hf k hk]; exact h.least k h0 hk,
    fun k h0 hk => by rw [hf 0 (by omega), hf k (by omega), hf (k + 1) hk]; exact h.fan k h0 hk⟩
/-! ### a polygon is its own hull -/
def lowR (p : Nat → Pt) : Nat → List Pt
  | 0 => [p 0]
  | i + 1 => p (i + 1) :: lowR p i
theorem lowR_cons (p : Nat → Pt) : ∀ i, ∃ r, lowR p i = p i :: r
  | 0 => ⟨[], rfl⟩
  | i + 1 => ⟨_, rfl⟩
theorem lowR_rev (p : Nat → Pt) : ∀ i, (lowR p i).reverse = (List.range (i + 1)).map p
  | 0 => rfl
  | i + 1 => by rw [lowR, List.reverse_cons, lowR_rev p i, List.range_succ (n := i + 1), List.map_append]; rfl
theorem lowR_tail (p : Nat → Pt) : ∀ i, (lowR p i).tail.reverse = (List.range i).map p
  | 0 => rfl
  | i + 1 => by rw [lowR, List.tail_cons, lowR_rev]
theorem tn_rev (a b c : Pt) : tn c b a = -tn a b c := by unfold tn crossP subP; grind
structure Bit (n m : Nat) (p : Nat → Pt) : Prop where
  m0 : 0 < m
  mn : m < n
  inc : ∀ i, i < m → ltP (p i) (p (i + 1))
  dec : ∀ i, m ≤ i → i + 1 < n → ltP (p (i + 1)) (p i)
theorem Bit.incs {n m : Nat} {p : Nat → Pt} (h : Bit n m p) : ∀ i j, i < j → j ≤ m → ltP (p i) (p j)
  | i, 0, hij, _ => by omega
  | i, j + 1, hij, hj => by
    by_cases e : i = j
    · subst e; exact h.inc i (by omega)
    · exact ltP_trans (h.incs i j (by omega) (by omega)) (h.inc j (by omega))
theorem Bit.decs {n m : Nat} {p : Nat → Pt} (h : Bit n m p) : ∀ i j, m ≤ i → i < j → j < n → ltP (p j) (p i)
  | i, 0, _, hij, _ => by omega
  | i, j + 1, hi, hij, hj => by
    by_cases e : i = j
    · subst e; exact h.dec i hi hj
    · exact ltP_trans (h.dec j (by omega) hj) (h.decs i j hi (by omega) (by omega))
theorem pop_lowR {n m : Nat} {p : Nat → Pt} (tp : TP n p) {i k : Nat} (hik : i < k) (hk : k < n) : pop (p k) (lowR p i) = lowR p i := by
  cases i with
  | zero => rw [lowR, pop_one]
  | succ i =>
    obtain ⟨r, hr⟩ := lowR_cons p i
    rw [lowR, hr, pop_cons2, if_neg]
    have := tp i (i + 1) k (by omega) hik hk
    omega
theorem pop_up {n m : Nat} {p : Nat → Pt} (tp : TP n p) {i k : Nat} (hik : i < k) (hk : k < n) : ∀ (ups : List Pt), ∃ q ups', ups = q ++ ups' ∧ pop (p k) (ups ++ lowR p i) = ups' ++ lowR p i
  | [] => ⟨[], [], rfl, pop_lowR (m := m) tp hik hk⟩
  | u :: ups => by
    obtain ⟨v, r, hv⟩ : ∃ v r, ups ++ lowR p i = v :: r := by
      obtain ⟨r, hr⟩ := lowR_cons p i
      cases ups with
      | nil => exact ⟨_, r, hr⟩
      | cons v w => exact ⟨v, w ++ lowR p i, rfl⟩
    rw [List.cons_append, hv, pop_cons2]
    split
    · obtain ⟨q, ups', h1, h2⟩ := pop_up (m := m) tp hik hk ups
      rw [← hv]
      exact ⟨u :: q, ups', by rw [h1]; rfl, h2⟩
    · exact ⟨[], u :: ups, rfl, by rw [← hv]; rfl⟩
theorem pop_low {n m : Nat} {p : Nat → Pt} (tp : TP n p) (hb : Bit n m p) {i : Nat} (him : i + 1 ≤ m) : ∀ (ups : List Pt), (∀ u ∈ ups, ∃ k, m < k ∧ k < n ∧ u = p k) → Decr ups → pop (p (i + 1)) (ups ++ lowR p i) = lowR p i
  | [], _, _ => pop_lowR (m := m) tp (by omega) (by have := hb.mn; omega)
  | u :: ups, hu, hd => by
    have hmn := hb.mn
    obtain ⟨k, hk1, hk2, rfl⟩ := hu u (by simp)
    have ih := pop_low tp hb him ups (fun z hz => hu z (by simp [hz])) (List.pairwise_cons.1 hd).2
    have hpop : ∀ v r, ups ++ lowR p i = v :: r → tn v (p k) (p (i + 1)) ≤ 0 := fun v r hv => by
      cases ups with
      | nil =>
        obtain ⟨r', hr⟩ := lowR_cons p i
        rw [List.nil_append, hr] at hv
        injection hv with hv _
        rw [← hv, tn_swap2]
        have := tp i (i + 1) k (by omega) (by omega) hk2
        omega
      | cons v' w =>
        rw [List.cons_append] at hv
        injection hv with hv _
        subst hv
        obtain ⟨k', hk1', hk2', e⟩ := hu v' (by simp)
        have hlt : ltP v' (p k) := (List.pairwise_cons.1 hd).1 v' (by simp)
        have hkk : k < k' := by
          rcases Nat.lt_trichotomy k k' with g | g | g
          · exact g
          · rw [e, g] at hlt; exact absurd hlt (ltP_irrefl _)
          · rw [e] at hlt
            exact absurd hlt (ltP_asymm (hb.decs k' k (by omega) g hk2))
        have := tp (i + 1) k k' (by omega) hkk hk2'
        rw [e, tn_rev]
        omega
    obtain ⟨v, r, hv⟩ : ∃ v r, ups ++ lowR p i = v :: r := by
      obtain ⟨r, hr⟩ := lowR_cons p i
      cases ups with
      | nil => exact ⟨_, r, hr⟩
      | cons v w => exact ⟨v, w ++ lowR p i, rfl⟩
    rw [List.cons_append, hv, pop_cons2, if_pos (hpop v r hv), ← hv]
    exact ih
structure Inv2 (n m : Nat) (p : Nat → Pt) (P st : List Pt) : Prop where
  ex : ∃ i ups, st = ups ++ lowR p i ∧ i ≤ m ∧ (∀ u ∈ ups, (∃ k, m < k ∧ k < n ∧ u = p k) ∧ ltP (p i) u ∧ u ∈ P) ∧ Decr ups ∧ ∀ k, k ≤ m → (p k ∈ P ↔ k ≤ i)
theorem Inv2.step {n m : Nat} {p : Nat → Pt} (tp : TP n p) (h3 : 3 ≤ n) (hb : Bit n m p) {P st : List Pt} {x : Pt} (h : Inv2 n m p P st) (hx : ∃ k, k < n ∧ x = p k) (hP : ∀ s ∈ P, ltP s x) (hall : ∀ k, k < n → ltP (p k) x → p k ∈ P) : Inv2 n m p (P ++ [x]) (chStep st x) := by
  obtain ⟨i, ups, rfl, him, hu, hd, hm⟩ := h.ex
  obtain ⟨k, hk, rfl⟩ := hx
  have hmn := hb.mn
  have hxP : p k ∉ P := fun hh => ltP_irrefl _ (hP _ hh)
  by_cases hkm : k ≤ m
  · have hki : i < k := by
      rcases Nat.lt_or_ge i k with g | g
      · exact g
      · exact absurd ((hm k hkm).2 g) hxP
    have hk1 : k = i + 1 := by
      have hin : p (k - 1) ∈ P := hall (k - 1) (by omega) (by
        have := hb.inc (k - 1) (by omega)
        rwa [show k - 1 + 1 = k by omega] at this)
      have := (hm (k - 1) (by omega)).1 hin
      omega
    subst hk1
    refine ⟨i + 1, [], ?_, hkm, fun u hu => by simp at hu, List.Pairwise.nil, fun k' hk' => ?_⟩
    · unfold chStep
      rw [pop_low tp hb hkm ups (fun u hu' => (hu u hu').1) hd]; rfl
    · rw [List.mem_append, hm k' hk', List.mem_singleton]
      constructor
      · rintro (g | g)
        · omega
        · rcases Nat.lt_trichotomy k' (i + 1) with q | q | q
          · omega
          · omega
          · exact absurd g.symm (tp.ne h3 q (by omega))
      · intro g
        by_cases e : k' = i + 1
        · right; rw [e]
        · left; omega
  · obtain ⟨q, ups', hq, hpop⟩ := pop_up (m := m) (p := p) tp (show i < k by omega) hk ups
    have hsub : ∀ u ∈ ups', u ∈ ups := fun u hu' => by rw [hq]; exact List.mem_append_right _ hu'
    refine ⟨i, p k :: ups', ?_, him, fun u hu' => ?_, ?_, fun k' hk' => ?_⟩
    · unfold chStep; rw [hpop]; rfl
    · rcases List.mem_cons.1 hu' with g | g
      · subst g
        exact ⟨⟨k, by omega, hk, rfl⟩, hP _ ((hm i him).2 (Nat.le_refl _)), by simp⟩
      · obtain ⟨a1, a2, a3⟩ := hu u (hsub u g)
        exact ⟨a1, a2, List.mem_append_left _ a3⟩
    · refine List.pairwise_cons.2 ⟨fun z hz => hP z (hu z (hsub z hz)).2.2, ?_⟩
      unfold Decr at hd
      rw [hq] at hd
      exact (List.pairwise_append.1 hd).2.1
    · rw [List.mem_append, hm k' hk', List.mem_singleton]
      constructor
      · rintro (g | g)
        · exact g
        · exact absurd g (tp.ne h3 (show k' < k by omega) hk)
      · intro g; exact .inl g
theorem Inv2.fold {n m : Nat} {p : Nat → Pt} (tp : TP n p) (h3 : 3 ≤ n) (hb : Bit n m p) : ∀ (rest P st : List Pt), Inv2 n m p P st → (P ++ rest).Pairwise ltP → (∀ s ∈ P ++ rest, ∃ k, k < n ∧ s = p k) → (∀ k, k < n → p k ∈ P ++ rest) → Inv2 n m p (P ++ rest) (rest.foldl chStep st)
  | [], P, st, h, _, _, _ => by simpa using h
  | x :: rest, P, st, h, hs, h1, h2 => by
    have hpw := List.pairwise_append.1 hs
    have hst := h.step tp h3 hb (x := x) (h1 x (by simp)) (fun s hs' => hpw.2.2 s hs' x (by simp)) (fun k hk hlt => by
      rcases List.mem_append.1 (h2 k hk) with g | g
      · exact g
      · rcases List.mem_cons.1 g with g | g
        · rw [g] at hlt; exact absurd hlt (ltP_irrefl _)
        · exact absurd hlt (ltP_asymm ((List.pairwise_cons.1 hpw.2.1).1 _ g)))
    have := Inv2.fold tp h3 hb rest (P ++ [x]) (chStep st x) hst (by simpa using hs) (by simpa using h1) (by simpa using h2)
    simpa using this
/-- one chain of a polygon -/
theorem chain_poly {n m : Nat} {p : Nat → Pt} (tp : TP n p) (h3 : 3 ≤ n) (hb : Bit n m p) (hl : ∀ k, 0 < k → k < n → ltP (p 0) (p k)) {S : List Pt} (hs : S.Pairwise ltP) (h1 : ∀ s ∈ S, ∃ k, k < n ∧ s = p k) (h2 : ∀ k, k < n → p k ∈ S) : chain S = lowR p m := by
  have hmn := hb.mn
  cases S with
  | nil => exact absurd (h2 0 (by omega)) (by simp)
  | cons x S =>
    have hx0 : x = p 0 := by
      obtain ⟨k, hk, e⟩ := h1 x (by simp)
      rcases Nat.eq_zero_or_pos k with rfl | hk0
      · exact e
      · exfalso
        rcases List.mem_cons.1 (h2 0 (by omega)) with g | g
        · exact tp.ne h3 hk0 hk (g.trans e)
        · have g1 := (List.pairwise_cons.1 hs).1 _ g
          have g2 := hl k hk0 hk
          rw [← e] at g2
          exact ltP_asymm g1 g2
    have e0 : chStep [] x = [p 0] := by unfold chStep; rw [pop, hx0]
    have hi : Inv2 n m p [x] (chStep [] x) := ⟨0, [], by rw [e0]; rfl, Nat.zero_le _, fun u hu => by simp at hu, List.Pairwise.nil, fun k hk => by
      rw [List.mem_singleton, hx0]
      constructor
      · intro g
        rcases Nat.eq_zero_or_pos k with q | q
        · omega
        · exact absurd g.symm (tp.ne h3 q (by omega))
      · intro g
        rw [show k = 0 by omega]⟩
    have hf := Inv2.fold tp h3 hb S [x] _ hi hs h1 h2
    obtain ⟨i, ups, he, him, hu, hd, hm⟩ := hf.ex
    have hi2 : i = m := by
      have := (hm m (Nat.le_refl _)).1 (h2 m hmn)
      omega
    subst hi2
    have hn : ups = [] := by
      cases ups with
      | nil => rfl
      | cons u r =>
        obtain ⟨⟨k, k1, k2, e⟩, g, -⟩ := hu u (by simp)
        rw [e] at g
        exact absurd g (ltP_asymm (hb.decs i k (Nat.le_refl _) k1 k2))
    rw [hn, List.nil_append] at he
    exact he
def rotN (n m : Nat) (p : Nat → Pt) (k : Nat) : Pt := negP (if m + k < n then p (m + k) else p (m + k - n))
theorem rotN_tp {n m : Nat} {p : Nat → Pt} (tp : TP n p) (hm : m < n) : TP n (rotN n m p) := fun i j k hij hjk hk => by
  unfold rotN
  rw [tn_neg]
  by_cases c3 : m + k < n
  · rw [if_pos (by omega), if_pos (by omega), if_pos c3]; exact tp _ _ _ (by omega) (by omega) c3
  · rw [if_neg c3]
    by_cases c2 : m + j < n
    · rw [if_pos (by omega), if_pos c2, tn_rot]
      exact tp (m + k - n) (m + i) (m + j) (by omega) (by omega) c2
    · rw [if_neg c2]
      by_cases c1 : m + i < n
      · rw [if_pos c1, tn_rot, tn_rot]
        exact tp (m + j - n) (m + k - n) (m + i) (by omega) (by omega) c1
      · rw [if_neg c1]; exact tp _ _ _ (by omega) (by omega) (by omega)
/-- a polygon is its own hull -/
theorem hull_poly {n : Nat} {p : Nat → Pt} (h : Loc n p) {S : List Pt} (hs : S.Pairwise ltP) (h1 : ∀ s ∈ S, ∃ k, k < n ∧ s = p k) (h2 : ∀ k, k < n → p k ∈ S) : hullP S = (List.range n).map p := by
  have tp := h.tp
  have h3 := h.n3
  obtain ⟨m, hm0, hmn, hinc, hdec⟩ := h.bitonic
  have hb : Bit n m p := ⟨hm0, hmn, hinc, hdec⟩
  have e1 := chain_poly tp h3 hb h.least hs h1 h2
  -- the way back
  have tq := rotN_tp tp hmn
  have hmax : ∀ k, k < n → k ≠ m → ltP (p k) (p m) := fun k hk hkm => by
    rcases Nat.lt_or_ge k m with g | g
    · exact hb.incs k m g (Nat.le_refl _)
    · exact hb.decs m k (Nat.le_refl _) (by omega) hk
  have lq : ∀ k, 0 < k → k < n → ltP (rotN n m p 0) (rotN n m p k) := fun k h0 hk => by
    unfold rotN
    rw [ltP_neg, if_pos (show m + 0 < n by omega), Nat.add_zero]
    by_cases c : m + k < n
    · rw [if_pos c]; exact hmax _ c (by omega)
    · rw [if_neg c]; exact hmax _ (by omega) (by omega)
  have Lq : Loc n (rotN n m p) := tq.loc h3 lq
  obtain ⟨m2, k0, kn, kinc, kdec⟩ := Lq.bitonic
  have hb2 : Bit n m2 (rotN n m p) := ⟨k0, kn, kinc, kdec⟩
  have hz : rotN n m p (n - m) = negP (p 0) := by unfold rotN; rw [if_neg (by omega), show m + (n - m) - n = 0 by omega]
  have hgr : ∀ k, k < n → k ≠ n - m → ltP (rotN n m p k) (rotN n m p (n - m)) := fun k hk hne => by
    rw [hz]
    unfold rotN
    rw [ltP_neg]
    by_cases c : m + k < n
    · rw [if_pos c]; exact h.least _ (by omega) c
    · rw [if_neg c]; exact h.least _ (by omega) (by omega)
  have hm2 : m2 = n - m := by
    rcases Nat.lt_trichotomy m2 (n - m) with g | g | g
    · exact absurd (hgr m2 kn (by omega)) (ltP_asymm (hb2.decs m2 (n - m) (Nat.le_refl _) g (by omega)))
    · exact g
    · exact absurd (hgr m2 kn (by omega)) (ltP_asymm (hb2.incs (n - m) m2 g (Nat.le_refl _)))
  have hinv : ∀ k, k < n → ∃ j, j < n ∧ negP (p k) = rotN n m p j := fun k hk => by
    by_cases c : m ≤ k
    · exact ⟨k - m, by omega, by unfold rotN; rw [if_pos (by omega), show m + (k - m) = k by omega]⟩
    · exact ⟨k + n - m, by omega, by unfold rotN; rw [if_neg (by omega), show m + (k + n - m) - n = k by omega]⟩
  have e2 := chain_poly tq h3 hb2 lq (rev_neg_sorted hs) (fun s hs' => by
    obtain ⟨z, hz', e⟩ := List.mem_map.1 hs'
    obtain ⟨k, hk, e'⟩ := h1 z (List.mem_reverse.1 hz')
    obtain ⟨j, hj, ej⟩ := hinv k hk
    exact ⟨j, hj, by rw [← e, e', ej]⟩) (fun k hk => by
    refine List.mem_map.2 ⟨if m + k < n then p (m + k) else p (m + k - n), ?_, rfl⟩
    rw [List.mem_reverse]
    split
    · rename_i c; exact h2 _ c
    · exact h2 _ (by omega))
  rw [chain_neg] at e2
  have e3 : chain S.reverse = (lowR (rotN n m p) m2).map negP := by
    rw [← e2, List.map_map]
    have : negP ∘ negP = id := funext negP_negP
    rw [this, List.map_id]
  unfold hullP
  rw [e1, e3, lowR_tail, ← List.map_tail, ← List.map_reverse, lowR_tail, hm2, List.map_map]
  have e4 : (List.range (n - m)).map (negP ∘ rotN n m p) = (List.range (n - m)).map (fun k => p (m + k)) := by
    refine List.map_congr_left fun k hk => ?_
    have hk := List.mem_range.1 hk
    show negP (rotN n m p k) = _
    unfold rotN
    rw [negP_negP, if_pos (by omega)]
  rw [e4]
  have e5 : List.range n = List.range m ++ (List.range (n - m)).map (m + ·) := by
    rw [← List.range_add, show m + (n - m) = n by omega]
  rw [e5, List.map_append, List.map_map]
  rfl
end Go.Proofs.Ytehhoplenloocaa
