/- The monotone chain makes a polygon: the plain law. -/
import Derived.Test.YtehhoplenloocaaHulC
namespace Go.Proofs.Ytehhoplenloocaa
set_option linter.unusedVariables false
set_option linter.unusedSimpArgs false

structure Inv (P st : List Pt) : Prop where
  ne : st ≠ []
  sub : ∀ b ∈ st, b ∈ P
  dec : Decr st
  conv : Conv st
  above : Above P st
  top : ∀ s ∈ P, ∀ b r, st = b :: r → ltP s b ∨ s = b
  bot : ∀ s ∈ P, ∀ b q, st = q ++ [b] → ltP b s ∨ s = b
theorem Inv.first (x : Pt) : Inv [x] (chStep [] x) := by
  have e : chStep [] x = [x] := by unfold chStep; rw [pop]
  rw [e]
  refine ⟨by simp, fun b hb => hb, by unfold Decr; simp, trivial, trivial, fun s hs b r h => ?_, fun s hs b q h => ?_⟩
  · simp at hs; injection h with h1 h2; right; rw [hs, h1]
  · simp at hs
    have : q = [] ∧ x = b := by
      cases q with
      | nil => simp at h; exact ⟨rfl, h⟩
      | cons a q => simp at h
    right; rw [hs, this.2]
theorem tn_deeper {a2 a b x : Pt} (h1 : ltP a2 a) (h2 : ltP a b) (h3 : ltP b x) (t1 : 0 < tn a2 a b) (t2 : 0 < tn a b x) : 0 < tn a2 a x := by
  have hu := ltP_iff.1 h1
  have hv := ltP_iff.1 h2
  have hw := ltP_iff.1 h3
  have c1 : crossP (subP a a2) (subP b a) = tn a2 a b := by unfold tn crossP subP; grind
  have c2 : crossP (subP b a) (subP x b) = tn a b x := by unfold tn crossP subP; grind
  have c3 := cross_trans hu hv hw (by omega) (by omega)
  have e : tn a2 a x = crossP (subP a a2) (subP b a) + crossP (subP a a2) (subP x b) := by unfold tn crossP subP; grind
  omega
theorem above_new {P : List Pt} {x : Pt} : ∀ (b : Pt) (r : List Pt), Decr (x :: b :: r) → Conv (x :: b :: r) → Above P (b :: r) → Above (P ++ [x]) (b :: r)
  | b, [], _, _, _ => trivial
  | b, a :: r, hd, hc, ha => by
    have hd' := List.pairwise_cons.1 hd
    have hd2 := List.pairwise_cons.1 hd'.2
    have hxb : ltP b x := hd'.1 b (by simp)
    have hba : ltP a b := hd2.1 a (by simp)
    have t : 0 < tn a b x := hc.1
    refine ⟨fun s hs => ?_, ?_⟩
    · rcases List.mem_append.1 hs with h | h
      · exact ha.1 s h
      · simp at h; subst h; omega
    · refine above_new a r ?_ ?_ ha.2
      · exact List.pairwise_cons.2 ⟨fun z hz => hd'.1 z (by simp [List.mem_cons] at hz ⊢; right; exact hz), hd2.2⟩
      · match r with
        | [] => trivial
        | a2 :: r2 =>
          have hd3 := List.pairwise_cons.1 hd2.2
          exact ⟨tn_deeper (hd3.1 a2 (by simp)) hba hxb hc.2.1 t, hc.2.2⟩
theorem below_edge {a b x s : Pt} (hab : ltP a b) (hbx : ltP b x) (hsb : ltP s b) (t : 0 < tn a b x) (h : 0 ≤ tn a b s) : 0 ≤ tn b x s := by
  have hu := ltP_iff.1 hsb
  have hv := ltP_iff.1 hab
  have hw := ltP_iff.1 hbx
  have c1 : crossP (subP b s) (subP b a) = tn a b s := by unfold tn crossP subP; grind
  have c2 : crossP (subP b a) (subP x b) = tn a b x := by unfold tn crossP subP; grind
  have c3 := (cross_weak hu hv hw (by omega) (by omega)).1
  have e : crossP (subP b s) (subP x b) = tn b x s := by unfold tn crossP subP; grind
  omega
theorem behind_edge {b c x s : Pt} (hbc : ltP b c) (hbx : ltP b x) (hbs : ltP b s) (t : tn b c x ≤ 0) (h : 0 ≤ tn b c s) : 0 ≤ tn b x s := by
  have hu := ltP_iff.1 hbx
  have hv := ltP_iff.1 hbc
  have hw := ltP_iff.1 hbs
  have c1 : crossP (subP x b) (subP c b) = -tn b c x := by unfold tn crossP subP; grind
  have c2 : crossP (subP c b) (subP s b) = tn b c s := by unfold tn crossP subP; grind
  have c3 := (cross_weak hu hv hw (by omega) (by omega)).1
  have e : crossP (subP x b) (subP s b) = tn b x s := by unfold tn crossP subP; grind
  omega
theorem Inv.step {P st : List Pt} {x : Pt} (h : Inv P st) (hx : ∀ s ∈ P, ltP s x) : Inv (P ++ [x]) (chStep st x) := by
  unfold chStep
  obtain ⟨pre, hpre⟩ := pop_suffix x st
  have hne := pop_ne x st h.ne
  have hsub : ∀ b ∈ pop x st, b ∈ P := fun b hb => h.sub b (by rw [hpre]; exact List.mem_append_right _ hb)
  have hdq : Decr (pop x st) := by
    have := h.dec
    unfold Decr at this ⊢
    rw [hpre] at this
    exact (List.pairwise_append.1 this).2.1
  have hcq : Conv (pop x st) := Conv.of_append (q := pre) (by rw [← hpre]; exact h.conv)
  have haq : Above P (pop x st) := Above.of_append (q := pre) (by rw [← hpre]; exact h.above)
  have hbot : ∀ s ∈ P, ∀ b q, pop x st = q ++ [b] → ltP b s ∨ s = b := fun s hs b q hq => h.bot s hs b (pre ++ q) (by rw [hpre, hq, List.append_assoc])
  have hlast := pop_last x st
  have htop := pop_top x st
  generalize hq : pop x st = q at *
  obtain ⟨b, r, rfl⟩ : ∃ b r, q = b :: r := by
    cases q with
    | nil => exact absurd rfl hne
    | cons b r => exact ⟨b, r, rfl⟩
  have hxb : ltP b x := hx b (hsub b (by simp))
  have hdec : Decr (x :: b :: r) := List.pairwise_cons.2 ⟨fun z hz => hx z (hsub z hz), hdq⟩
  have hconv : Conv (x :: b :: r) := by
    match r with
    | [] => trivial
    | a :: r2 => exact ⟨htop b a r2 rfl, hcq⟩
  -- points below the top of what is left
  have hlow : ∀ s ∈ P, ltP s b → 0 ≤ tn b x s := fun s hs hsb => by
    match r, hcq, haq, hdq, htop, hbot with
    | [], _, _, _, _, hbot =>
      rcases hbot s hs b [] rfl with k | k
      · exact absurd k (ltP_asymm hsb)
      · rw [k] at hsb; exact absurd hsb (ltP_irrefl _)
    | a :: r2, hcq, haq, hdq, htop, _ =>
      exact below_edge ((List.pairwise_cons.1 hdq).1 a (by simp)) hxb hsb (htop b a r2 rfl) (haq.1 s hs)
  refine ⟨by simp, fun z hz => ?_, hdec, hconv, ⟨fun s hs => ?_, above_new b r hdec hconv haq⟩, fun s hs b' r' e => ?_, fun s hs b' q' e => ?_⟩
  · rcases List.mem_cons.1 hz with k | k
    · rw [k]; simp
    · exact List.mem_append_left _ (hsub z k)
  · rcases List.mem_append.1 hs with hs | hs
    · rcases ltP_total s b with k | k | k
      · exact hlow s hs k
      · rw [k, tn_self2]; exact Int.le_refl _
      · rcases hlast with e | ⟨c, a, r', h1, ⟨q', h2⟩, h3⟩
        · -- nothing was taken off: b is the greatest
          rcases h.top s hs b r e.symm with g | g
          · exact absurd g (ltP_asymm k)
          · rw [g] at k; exact absurd k (ltP_irrefl _)
        · injection h1 with e1 e2
          subst e1
          have hcb : ltP b c := by
            have := h.dec
            unfold Decr at this
            rw [h2] at this
            exact (List.pairwise_cons.1 (List.pairwise_append.1 this).2.1).1 b (by simp)
          have hall := Above.mid (P := P) (q := q') (b := c) (a := b) (r := r') (by rw [← h2]; exact h.above)
          exact behind_edge hcb hxb k h3 (hall s hs)
    · simp at hs; rw [hs, tn_self]; exact Int.le_refl _
  · injection e with e1 e2
    subst e1
    rcases List.mem_append.1 hs with hs | hs
    · exact .inl (hx s hs)
    · simp at hs; exact .inr hs
  · have e2 : ∃ q2, b :: r = q2 ++ [b'] := by
      cases q' with
      | nil => simp at e
      | cons y q2 => injection e with _ e; exact ⟨q2, e⟩
    obtain ⟨q2, e2⟩ := e2
    rcases List.mem_append.1 hs with hs | hs
    · exact hbot s hs b' q2 e2
    · simp at hs
      subst hs
      exact .inl (hx b' (hsub b' (by rw [e2]; simp)))
theorem Inv.fold : ∀ (rest P st : List Pt), Inv P st → (P ++ rest).Pairwise ltP → Inv (P ++ rest) (rest.foldl chStep st)
  | [], P, st, h, _ => by simpa using h
  | x :: rest, P, st, h, hs => by
    have h2 := h.step (x := x) (fun s hs' => (List.pairwise_append.1 hs).2.2 s hs' x (by simp))
    have := Inv.fold rest (P ++ [x]) (chStep st x) h2 (by simpa using hs)
    simpa using this
theorem chain_inv {S : List Pt} (hne : S ≠ []) (hs : S.Pairwise ltP) : Inv S (chain S) := by
  cases S with
  | nil => exact absurd rfl hne
  | cons x S => exact Inv.fold S [x] _ (Inv.first x) hs
/-! ### turned about -/
def negP (a : Pt) : Pt := (-a.1, -a.2)
theorem negP_negP (a : Pt) : negP (negP a) = a := by unfold negP; simp
theorem tn_neg (a b c : Pt) : tn (negP a) (negP b) (negP c) = tn a b c := by unfold tn crossP subP negP; grind
theorem ltP_neg {a b : Pt} : ltP (negP a) (negP b) ↔ ltP b a := by unfold ltP negP; constructor <;> intro h <;> simp at * <;> omega
theorem pop_neg (x : Pt) : ∀ (st : List Pt), pop (negP x) (st.map negP) = (pop x st).map negP
  | [] => by rw [List.map_nil, pop, pop, List.map_nil]
  | [b] => by rw [List.map_cons, List.map_nil, pop_one, pop_one]; rfl
  | b :: a :: r => by
    rw [List.map_cons, List.map_cons, pop_cons2, pop_cons2, tn_neg]
    split
    · exact pop_neg x (a :: r)
    · rfl
theorem fold_neg : ∀ (S st : List Pt), (S.map negP).foldl chStep (st.map negP) = (S.foldl chStep st).map negP
  | [], st => rfl
  | x :: S, st => by
    rw [List.map_cons, List.foldl_cons, List.foldl_cons]
    have : chStep (st.map negP) (negP x) = (chStep st x).map negP := by unfold chStep; rw [pop_neg]; rfl
    rw [this]
    exact fold_neg S (chStep st x)
theorem chain_neg (S : List Pt) : chain (S.map negP) = (chain S).map negP := fold_neg S []
/-! ### indices -/
abbrev o0 : Pt := (0, 0)
theorem Conv.at : ∀ {st : List Pt}, Conv st → ∀ i, i + 2 < st.length → 0 < tn (st.getD (i + 2) o0) (st.getD (i + 1) o0) (st.getD i o0)
  | [], _, i, h => by simp at h
  | [a], _, i, h => by simp at h
  | [a, b], _, i, h => by simp at h; omega
  | c :: b :: a :: r, hc, 0, _ => hc.1
  | c :: b :: a :: r, hc, i + 1, h => by
    have := Conv.at (st := b :: a :: r) hc.2 i (by simpa using h)
    simpa using this
theorem Above.at {P : List Pt} : ∀ {st : List Pt}, Above P st → ∀ i, i + 1 < st.length → ∀ s ∈ P, 0 ≤ tn (st.getD (i + 1) o0) (st.getD i o0) s
  | [], _, i, h => by simp at h
  | [a], _, i, h => by simp at h
  | b :: a :: r, ha, 0, _ => ha.1
  | b :: a :: r, ha, i + 1, h => by
    have := Above.at (st := a :: r) ha.2 i (by simpa using h)
    simpa using this
theorem Decr.at {st : List Pt} (h : Decr st) {i j : Nat} (hij : i < j) (hj : j < st.length) : ltP (st.getD j o0) (st.getD i o0) := by
  have := (List.pairwise_iff_getElem.1 h) i j (by omega) hj hij
  rw [List.getD_eq_getElem?_getD, List.getD_eq_getElem?_getD, List.getElem?_eq_getElem hj, List.getElem?_eq_getElem (by omega)]
  exact this
/-- a chain, from its first point on -/
structure Ch (P : List Pt) (a : Nat) (c : Nat → Pt) : Prop where
  mem : ∀ i, i ≤ a → c i ∈ P
  inc : ∀ i j, i < j → j ≤ a → ltP (c i) (c j)
  conv : ∀ i j k, i < j → j < k → k ≤ a → 0 < tn (c i) (c j) (c k)
  above : ∀ i, i < a → ∀ s ∈ P, 0 ≤ tn (c i) (c (i + 1)) s
  first : ∀ s ∈ P, ltP (c 0) s ∨ s = c 0
  last : ∀ s ∈ P, ltP s (c a) ∨ s = c a
theorem Inv.ch {P st : List Pt} (h : Inv P st) : Ch P (st.length - 1) (fun i => st.getD (st.length - 1 - i) o0) := by
  have hlen : 0 < st.length := List.length_pos_iff.2 h.ne
  have hinc : ∀ i j, i < j → j ≤ st.length - 1 → ltP (st.getD (st.length - 1 - i) o0) (st.getD (st.length - 1 - j) o0) := fun i j hij hj => h.dec.at (by omega) (by omega)
  refine ⟨fun i hi => h.sub _ ?_, hinc, fun i j k hij hjk hk => ?_, fun i hi s hs => ?_, fun s hs => ?_, fun s hs => ?_⟩
  · try dsimp only
    rw [List.getD_eq_getElem?_getD, List.getElem?_eq_getElem (by omega)]; exact List.getElem_mem _
  · exact convex_all (n := st.length) (c := fun i => st.getD (st.length - 1 - i) o0) (fun i hi => hinc i (i + 1) (by omega) (by omega)) (fun i hi => by
      have := h.conv.at (st.length - 1 - (i + 2)) (by omega)
      rw [show st.length - 1 - (i + 2) + 2 = st.length - 1 - i by omega, show st.length - 1 - (i + 2) + 1 = st.length - 1 - (i + 1) by omega] at this
      exact this) i j k hij hjk (by omega)
  · have := h.above.at (st.length - 1 - (i + 1)) (by omega) s hs
    rw [show st.length - 1 - (i + 1) + 1 = st.length - 1 - i by omega] at this
    exact this
  · obtain ⟨b, q, e⟩ : ∃ b q, st = q ++ [b] := ⟨_, _, (List.dropLast_concat_getLast h.ne).symm⟩
    have := h.bot s hs b q e
    have e2 : st.getD (st.length - 1 - 0) o0 = b := by
      rw [e]; simp
    try dsimp only
    rw [e2]; exact this
  · obtain ⟨b, r, e⟩ : ∃ b r, st = b :: r := by
      cases st with
      | nil => exact absurd rfl h.ne
      | cons b r => exact ⟨b, r, rfl⟩
    have := h.top s hs b r e
    have e2 : st.getD (st.length - 1 - (st.length - 1)) o0 = b := by rw [e]; simp
    try dsimp only
    rw [e2]; exact this
theorem Ch.neg {P : List Pt} {a : Nat} {c : Nat → Pt} (h : Ch (P.map negP) a c) : (∀ i, i ≤ a → negP (c i) ∈ P) ∧ (∀ i j, i < j → j ≤ a → ltP (negP (c j)) (negP (c i))) ∧ (∀ i j k, i < j → j < k → k ≤ a → 0 < tn (negP (c i)) (negP (c j)) (negP (c k))) ∧
    (∀ i, i < a → ∀ s ∈ P, 0 ≤ tn (negP (c i)) (negP (c (i + 1))) s) ∧ (∀ s ∈ P, ltP s (negP (c 0)) ∨ s = negP (c 0)) ∧ (∀ s ∈ P, ltP (negP (c a)) s ∨ s = negP (c a)) := by
  have hm : ∀ s ∈ P, negP s ∈ P.map negP := fun s hs => List.mem_map.2 ⟨s, hs, rfl⟩
  refine ⟨fun i hi => ?_, fun i j hij hj => ltP_neg.2 (h.inc i j hij hj), fun i j k hij hjk hk => by rw [tn_neg]; exact h.conv i j k hij hjk hk, fun i hi s hs => ?_, fun s hs => ?_, fun s hs => ?_⟩
  · obtain ⟨z, hz, e⟩ := List.mem_map.1 (h.mem i hi)
    rw [← e, negP_negP]; exact hz
  · have := h.above i hi (negP s) (hm s hs)
    rw [← negP_negP s, tn_neg]; exact this
  · rcases h.first (negP s) (hm s hs) with k | k
    · left; rw [← negP_negP s]; exact ltP_neg.2 k
    · right; rw [← k, negP_negP]
  · rcases h.last (negP s) (hm s hs) with k | k
    · left; rw [← negP_negP s]; exact ltP_neg.2 k
    · right; rw [← k, negP_negP]
/-- the two chains make a polygon -/
theorem two_chains {P : List Pt} {a b : Nat} {L U : Nat → Pt} (h : Ch P a L) (k : Ch (P.map negP) b (fun j => negP (U j))) (h3 : 3 ≤ a + b) (he : U 0 = L a) (he2 : U b = L 0) :
    Loc (a + b) (fun i => if i < a then L i else U (i - a)) := by
  obtain ⟨u1, u2, u3, u4, u5, u6⟩ := k.neg
  simp only [negP_negP] at u1 u2 u3 u4 u5 u6
  have ha : 0 < a := by
    rcases Nat.eq_zero_or_pos a with rfl | g
    · exfalso
      have := u2 0 b (by omega) (Nat.le_refl _)
      rw [he, he2] at this
      exact ltP_irrefl _ this
    · exact g
  have hb : 0 < b := by
    rcases Nat.eq_zero_or_pos b with rfl | g
    · exfalso
      have := h.inc 0 a ha (Nat.le_refl _)
      rw [← he2, he] at this
      exact ltP_irrefl _ this
    · exact g
  -- the joint at the greatest point
  have joint : 1 < b → 0 < tn (L (a - 1)) (L a) (U 1) := fun hb1 => by
    have t1 := h.above (a - 1) (by omega) (U 1) (u1 1 (by omega))
    rw [show a - 1 + 1 = a by omega] at t1
    have t2 := h.above (a - 1) (by omega) (L 0) (h.mem 0 (by omega))
    rw [show a - 1 + 1 = a by omega] at t2
    have t3 := u3 0 1 b (by omega) hb1 (Nat.le_refl _)
    rw [he, he2] at t3
    have hd := ltP_iff.1 (h.inc (a - 1) a (by omega) (Nat.le_refl _))
    have hee := u2 0 1 (by omega) (by omega)
    rw [he] at hee
    have he' := ltP_iff.1 hee
    have hf := ltP_iff.1 (h.inc 0 a ha (Nat.le_refl _))
    have c1 : crossP (subP (L a) (U 1)) (subP (L a) (L 0)) = tn (L a) (U 1) (L 0) := by unfold tn crossP subP; grind
    have c2 : crossP (subP (L a) (L 0)) (subP (L a) (L (a - 1))) = tn (L (a - 1)) (L a) (L 0) := by unfold tn crossP subP; grind
    have c3 := (cross_weak he' hf hd (by omega) (by omega)).2 (.inl (by omega))
    have c4 : crossP (subP (L a) (U 1)) (subP (L a) (L (a - 1))) = tn (L (a - 1)) (L a) (U 1) := by unfold tn crossP subP; grind
    omega
  refine ⟨h3, fun i hi => ?_, fun i h0 hi => ?_, fun i h0 hi => ?_⟩
  · try dsimp only
    by_cases c2 : i + 2 < a
    · rw [if_pos (by omega), if_pos (by omega), if_pos c2]; exact h.conv _ _ _ (by omega) (by omega) (by omega)
    · rw [if_neg c2]
      by_cases c1 : i + 1 < a
      · rw [if_pos (by omega), if_pos c1]
        have : i + 2 = a := by omega
        rw [this, Nat.sub_self, he]
        rw [← this]; exact h.conv _ _ _ (by omega) (by omega) (by omega)
      · rw [if_neg c1]
        by_cases c0 : i < a
        · rw [if_pos c0]
          have : i + 1 = a := by omega
          rw [this, Nat.sub_self, he, show i + 2 - a = 1 by omega, show i = a - 1 by omega]
          exact joint (by omega)
        · rw [if_neg c0, show i + 1 - a = i - a + 1 by omega, show i + 2 - a = i - a + 2 by omega]
          exact u3 _ _ _ (by omega) (by omega) (by omega)
  · try dsimp only
    rw [if_pos ha]
    by_cases c : i < a
    · rw [if_pos c]; exact h.inc 0 i h0 (by omega)
    · rw [if_neg c, ← he2]; exact u2 _ _ (by omega) (Nat.le_refl _)
  · try dsimp only
    rw [if_pos ha]
    by_cases c1 : i + 1 < a
    · rw [if_pos (by omega), if_pos c1]; exact h.conv _ _ _ h0 (by omega) (by omega)
    · rw [if_neg c1]
      by_cases c0 : i < a
      · rw [if_pos c0]
        have : i + 1 = a := by omega
        rw [this, Nat.sub_self, he, ← this]
        exact h.conv _ _ _ h0 (by omega) (by omega)
      · rw [if_neg c0, show i + 1 - a = i - a + 1 by omega, ← he2]
        rw [← tn_rot]
        exact u3 (i - a) (i - a + 1) b (by omega) (by omega) (Nat.le_refl _)
end Go.Proofs.Ytehhoplenloocaa
