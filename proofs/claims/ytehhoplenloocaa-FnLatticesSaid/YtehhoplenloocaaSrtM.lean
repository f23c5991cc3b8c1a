/- Lists of rows in order: plain law. -/
import Derived.Test.YtehhoplenloocaaPutG
import Derived.Test.YtehhoplenloocaaLtc
namespace Go.Proofs.Ytehhoplenloocaa
set_option linter.unusedVariables false
set_option linter.unusedSimpArgs false

abbrev StG (S : List (List Int)) : Prop := S.Pairwise fun a b => ltB a b = true
theorem ltB_asymm {a b : List Int} (h : ltB a b = true) : ltB b a = false := by
  cases e : ltB b a
  · rfl
  · have := ltB_trans h e; rw [ltB_self] at this; cases this
def insB (r : List Int) : List (List Int) → List (List Int)
  | [] => [r]
  | s :: S => if r = s then s :: S else if ltB r s then r :: s :: S else s :: insB r S
theorem insB_mem (r : List Int) : ∀ (S : List (List Int)) (z : List Int), z ∈ insB r S ↔ z = r ∨ z ∈ S
  | [], z => by simp [insB]
  | s :: S, z => by
    unfold insB
    split
    · rename_i e; subst e; simp
    · split
      · simp
      · rw [List.mem_cons, insB_mem r S z, List.mem_cons]
        constructor
        · rintro (h | h | h)
          · exact .inr (.inl h)
          · exact .inl h
          · exact .inr (.inr h)
        · rintro (h | h | h)
          · exact .inr (.inl h)
          · exact .inl h
          · exact .inr (.inr h)
theorem insB_st {m : Nat} (r : List Int) (hr : r.length = m) : ∀ (S : List (List Int)), (∀ s ∈ S, s.length = m) → StG S → StG (insB r S)
  | [], _, _ => by unfold insB; exact List.pairwise_singleton _ _
  | s :: S, hl, h => by
    unfold insB
    rw [StG, List.pairwise_cons] at h
    split
    · exact List.pairwise_cons.2 h
    · rename_i hne
      split
      · rename_i hlt
        refine List.pairwise_cons.2 ⟨fun z hz => ?_, List.pairwise_cons.2 h⟩
        rcases List.mem_cons.1 hz with rfl | hz
        · exact hlt
        · exact ltB_trans hlt (h.1 z hz)
      · rename_i hlt
        refine List.pairwise_cons.2 ⟨fun z hz => ?_, insB_st r hr S (fun t ht => hl t (by simp [ht])) h.2⟩
        rcases (insB_mem r S z).1 hz with rfl | hz
        · cases e : ltB s z
          · exact absurd (ltB_total (by rw [hr, hl s (by simp)]) (by simpa using hlt) e) hne
          · rfl
        · exact h.1 z hz
/-- two lists in strict order with the same elements are the same -/
theorem StG.unique : ∀ {S T : List (List Int)}, StG S → StG T → (∀ z, z ∈ S ↔ z ∈ T) → S = T
  | [], [], _, _, _ => rfl
  | [], t :: T, _, _, h => by have := (h t).2 (by simp); simp at this
  | s :: S, [], _, _, h => by have := (h s).1 (by simp); simp at this
  | s :: S, t :: T, hs, ht, h => by
    rw [StG, List.pairwise_cons] at hs ht
    have est : s = t := by
      rcases List.mem_cons.1 ((h s).1 (by simp)) with e | e
      · exact e
      · rcases List.mem_cons.1 ((h t).2 (by simp)) with e2 | e2
        · exact e2.symm
        · have h1 := ht.1 s e
          have h2 := hs.1 t e2
          rw [ltB_asymm h1] at h2; cases h2
    subst est
    have hn : ∀ {U : List (List Int)}, (∀ z ∈ U, ltB s z = true) → s ∉ U := fun h hm => by
      have := h s hm; rw [ltB_self] at this; cases this
    rw [StG.unique hs.2 ht.2 fun z => ?_]
    constructor
    · intro hz
      rcases List.mem_cons.1 ((h z).1 (by simp [hz])) with e | e
      · subst e; exact absurd hz (hn hs.1)
      · exact e
    · intro hz
      rcases List.mem_cons.1 ((h z).2 (by simp [hz])) with e | e
      · subst e; exact absurd hz (hn ht.1)
      · exact e
def sG (L : List (List Int)) : List (List Int) := L.foldl (fun S r => insB r S) []
theorem sG_fold {m : Nat} : ∀ (L S : List (List Int)), (∀ r ∈ L, r.length = m) → (∀ s ∈ S, s.length = m) → StG S →
    StG (L.foldl (fun S r => insB r S) S) ∧ ∀ z, z ∈ L.foldl (fun S r => insB r S) S ↔ z ∈ S ∨ z ∈ L
  | [], S, _, _, h => ⟨h, fun z => by simp⟩
  | r :: L, S, hL, hS, h => by
    rw [List.foldl_cons]
    have hr := hL r (by simp)
    have hS' : ∀ s ∈ insB r S, s.length = m := fun s hs => by
      rcases (insB_mem r S s).1 hs with rfl | hs
      · exact hr
      · exact hS s hs
    obtain ⟨g1, g2⟩ := sG_fold L (insB r S) (fun q hq => hL q (by simp [hq])) hS' (insB_st r hr S hS h)
    refine ⟨g1, fun z => ?_⟩
    rw [g2, insB_mem]
    constructor
    · rintro ((rfl | h) | h)
      · exact .inr (by simp)
      · exact .inl h
      · exact .inr (by simp [h])
    · rintro (h | h)
      · exact .inl (.inr h)
      · rcases List.mem_cons.1 h with rfl | h
        · exact .inl (.inl rfl)
        · exact .inr h
theorem sG_st {m : Nat} {L : List (List Int)} (h : ∀ r ∈ L, r.length = m) : StG (sG L) ∧ ∀ z, z ∈ sG L ↔ z ∈ L := by
  obtain ⟨g1, g2⟩ := sG_fold (m := m) L [] h (by simp) List.Pairwise.nil
  exact ⟨g1, fun z => by rw [sG, g2]; simp⟩
theorem sG_eq {m : Nat} {L S : List (List Int)} (h : ∀ r ∈ L, r.length = m) (hs : StG S) (hm : ∀ z, z ∈ S ↔ z ∈ L) : S = sG L :=
  StG.unique hs (sG_st h).1 fun z => by rw [hm, (sG_st h).2]
theorem sG_len {m : Nat} {L : List (List Int)} (h : ∀ r ∈ L, r.length = m) (hn : L.Nodup) : (sG L).length = L.length := by
  obtain ⟨g1, g2⟩ := sG_st h
  have hn2 : (sG L).Nodup := g1.imp fun h e => by subst e; rw [ltB_self] at h; cases h
  exact nodup_len hn2 hn g2
/-- what is put in keeps the order -/
theorem PutG.sorted {m : Nat} {ls ls' : List (List Int)} {r : List Int} (h : PutG ls r ls') (hr : r.length = m) (hl : ∀ s ∈ ls, s.length = m) (hs : StG ls) : StG ls' ∧ ∀ z, z ∈ ls' ↔ z = r ∨ z ∈ ls := by
  rcases h with ⟨rfl, k, hk, e⟩ | ⟨k, hk, rfl, h1, h2⟩
  · refine ⟨hs, fun z => ⟨fun h => .inr h, fun h => ?_⟩⟩
    rcases h with rfl | h
    · rw [← e, List.getD_eq_getElem?_getD, List.getElem?_eq_getElem hk]; exact List.getElem_mem hk
    · exact h
  · have hmem : ∀ z, z ∈ ls.take k ++ r :: ls.drop k ↔ z = r ∨ z ∈ ls := fun z => by
      constructor
      · intro hz
        rcases List.mem_append.1 hz with h | h
        · exact .inr (List.mem_of_mem_take h)
        · rcases List.mem_cons.1 h with h | h
          · exact .inl h
          · exact .inr (List.mem_of_mem_drop h)
      · rintro (rfl | h)
        · simp
        · rw [← List.take_append_drop k ls] at h
          rcases List.mem_append.1 h with h | h
          · exact List.mem_append.2 (.inl h)
          · exact List.mem_append.2 (.inr (by simp [h]))
    refine ⟨?_, hmem⟩
    have hd : ∀ z ∈ ls.drop k, ltB r z = true := fun z hz => by
      obtain ⟨j, hj, rfl⟩ := List.getElem_of_mem hz
      rw [List.getElem_drop]
      rw [List.length_drop] at hj
      have := h1 (k + j) (by omega) (by omega)
      rwa [List.getD_eq_getElem?_getD, List.getElem?_eq_getElem (by omega)] at this
    have ht : ∀ z ∈ ls.take k, ltB z r = true := fun z hz => by
      by_cases hk0 : k = 0
      · subst hk0; simp at hz
      obtain ⟨g1, g2⟩ := h2 (by omega)
      have hkl : k - 1 < ls.length := by omega
      rw [List.getD_eq_getElem?_getD, List.getElem?_eq_getElem hkl] at g1 g2
      have glt : ltB ls[k - 1] r = true := by
        cases e : ltB ls[k - 1] r
        · exact absurd (ltB_total (by rw [hl _ (List.getElem_mem hkl), hr]) e (by simpa using g1)) g2
        · rfl
      obtain ⟨j, hj, rfl⟩ := List.getElem_of_mem hz
      rw [List.getElem_take]
      rw [List.length_take] at hj
      by_cases ej : j = k - 1
      · subst ej; exact glt
      · exact ltB_trans (List.pairwise_iff_getElem.1 hs j (k - 1) (by omega) hkl (by omega)) glt
    rw [StG, List.pairwise_append, List.pairwise_cons]
    refine ⟨List.Pairwise.sublist (List.take_sublist k ls) hs, ⟨hd, List.Pairwise.sublist (List.drop_sublist k ls) hs⟩, fun a ha b hb => ?_⟩
    rcases List.mem_cons.1 hb with rfl | hb
    · exact ht a ha
    · exact ltB_trans (ht a ha) (hd b hb)
end Go.Proofs.Ytehhoplenloocaa
