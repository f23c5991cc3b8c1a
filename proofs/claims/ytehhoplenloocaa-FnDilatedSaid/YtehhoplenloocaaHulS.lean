/- Sorted rows and what HullOf gives: the plain law. -/
import Derived.Test.YtehhoplenloocaaHull
namespace Go.Proofs.Ytehhoplenloocaa
set_option linter.unusedVariables false
set_option linter.unusedSimpArgs false

def insP (x : Pt) : List Pt → List Pt
  | [] => [x]
  | y :: r => if ltP x y then x :: y :: r else if x = y then y :: r else y :: insP x r
theorem insP_mem (x : Pt) : ∀ (S : List Pt) (z : Pt), z ∈ insP x S ↔ z = x ∨ z ∈ S
  | [], z => by simp [insP]
  | y :: r, z => by
    rw [insP]
    split
    · simp
    · split
      · rename_i h; subst h; simp
      · have := insP_mem x r z
        simp only [List.mem_cons, this]
        constructor <;> (intro h; rcases h with h | h | h <;> simp [h])
theorem insP_pair (x : Pt) : ∀ (S : List Pt), S.Pairwise ltP → (insP x S).Pairwise ltP
  | [], _ => by simp [insP]
  | y :: r, h => by
    have p := List.pairwise_cons.1 h
    rw [insP]
    split
    · rename_i hx
      refine List.pairwise_cons.2 ⟨fun z hz => ?_, h⟩
      rcases List.mem_cons.1 hz with e | hz
      · rw [e]; exact hx
      · exact ltP_trans hx (p.1 z hz)
    · split
      · exact h
      · rename_i h1 h2
        refine List.pairwise_cons.2 ⟨fun z hz => ?_, insP_pair x r p.2⟩
        rcases (insP_mem x r z).1 hz with e | hz
        · rw [e]
          rcases ltP_total x y with g | g | g
          · exact absurd g h1
          · exact absurd g h2
          · exact g
        · exact p.1 z hz
/-- sorted, each once -/
def srtP (L : List Pt) : List Pt := L.foldl (fun S x => insP x S) []
theorem srtP_fold : ∀ (L S : List Pt), S.Pairwise ltP → (L.foldl (fun S x => insP x S) S).Pairwise ltP ∧ ∀ z, z ∈ L.foldl (fun S x => insP x S) S ↔ z ∈ S ∨ z ∈ L
  | [], S, h => ⟨h, fun z => by simp⟩
  | x :: L, S, h => by
    have ih := srtP_fold L (insP x S) (insP_pair x S h)
    refine ⟨ih.1, fun z => ?_⟩
    rw [List.foldl_cons, ih.2 z, insP_mem, List.mem_cons]
    constructor
    · rintro ((g | g) | g)
      · exact .inr (.inl g)
      · exact .inl g
      · exact .inr (.inr g)
    · rintro (g | g | g)
      · exact .inl (.inr g)
      · exact .inl (.inl g)
      · exact .inr g
theorem srtP_pair (L : List Pt) : (srtP L).Pairwise ltP := (srtP_fold L [] List.Pairwise.nil).1
theorem srtP_mem (L : List Pt) (z : Pt) : z ∈ srtP L ↔ z ∈ L := by
  have := (srtP_fold L [] List.Pairwise.nil).2 z
  unfold srtP; rw [this]; simp
theorem srtP_eq {L S : List Pt} (h : S.Pairwise ltP) (hm : ∀ z, z ∈ S ↔ z ∈ L) : S = srtP L :=
  sorted_unique (fun _ _ => ltP_asymm) h (srtP_pair L) fun z => by rw [hm z, srtP_mem]
/-- a row of two numbers is its point -/
theorem row_pt {r : List Int} (h : r.length = 2) : rowP (ptOf r) = r := by
  match r, h with
  | [a, b], _ => rfl
theorem pt_inj {a b : List Int} (ha : a.length = 2) (hb : b.length = 2) (h : ptOf a = ptOf b) : a = b := by
  rw [← row_pt ha, ← row_pt hb, h]
theorem ptsOf_append (a b : List (List Int)) : ptsOf (a ++ b) = ptsOf a ++ ptsOf b := by unfold ptsOf; rw [List.map_append]
theorem put_sorted {ls ls' : List (List Int)} {r : List Int} (h : PutOf ls r ls') (hs : (ptsOf ls).Pairwise ltP) (h2 : ∀ i, i < ls.length → (ls.getD i []).length = 2) (hr : r.length = 2) :
    (ptsOf ls').Pairwise ltP ∧ (∀ z, z ∈ ptsOf ls' ↔ z = ptOf r ∨ z ∈ ptsOf ls) ∧ (∀ q, q ∈ ls' → q = r ∨ q ∈ ls) ∧ ls'.length ≤ ls.length + 1 := by
  rcases h with ⟨rfl, k, hk, e⟩ | ⟨k, hk, rfl, hgt, hlt⟩
  · refine ⟨hs, fun z => ⟨fun hz => .inr hz, fun hz => ?_⟩, fun q hq => .inr hq, by omega⟩
    rcases hz with rfl | hz
    · rw [← e]
      unfold ptsOf
      refine List.mem_map.2 ⟨_, ?_, rfl⟩
      rw [List.getD_eq_getElem?_getD, List.getElem?_eq_getElem hk]; exact List.getElem_mem hk
    · exact hz
  · have hpf : ∀ j, pf ls j = (ptsOf ls).getD j o0 := fun j => (ptOf_getD ls j).symm
    have hl : (ptsOf ls).length = ls.length := by unfold ptsOf; simp
    have e : ptsOf (ls.take k ++ r :: ls.drop k) = (ptsOf ls).take k ++ ptOf r :: (ptsOf ls).drop k := by
      rw [ptsOf_append]; unfold ptsOf; rw [List.map_take, List.map_cons, List.map_drop]
    have hS := hs
    rw [← List.take_append_drop k (ptsOf ls)] at hS
    obtain ⟨s1, s2, s3⟩ := List.pairwise_append.1 hS
    have hdrop : ∀ z, z ∈ (ptsOf ls).drop k → ltP (ptOf r) z := by
      intro z hz
      obtain ⟨i, hi, rfl⟩ := List.getElem_of_mem hz
      rw [List.length_drop] at hi
      have := hgt (k + i) (by omega) (by omega)
      rw [hpf, List.getD_eq_getElem?_getD, List.getElem?_eq_getElem (by omega)] at this
      rw [List.getElem_drop]; exact this
    have htake : ∀ z, z ∈ (ptsOf ls).take k → ltP z (ptOf r) := by
      intro z hz
      obtain ⟨i, hi, rfl⟩ := List.getElem_of_mem hz
      rw [List.length_take] at hi
      rw [List.getElem_take]
      have hk0 : 0 < k := by omega
      obtain ⟨g1, g2⟩ := hlt hk0
      have hlast : ltP (pf ls (k - 1)) (ptOf r) := by
        rcases ltP_total (ptOf r) (pf ls (k - 1)) with g | g | g
        · exact absurd g g1
        · exact absurd (pt_inj (h2 (k - 1) (by omega)) hr g.symm) g2
        · exact g
      by_cases e : i = k - 1
      · subst e
        rw [hpf, List.getD_eq_getElem?_getD, List.getElem?_eq_getElem (by omega)] at hlast
        exact hlast
      · have hij := List.pairwise_iff_getElem.1 hs i (k - 1) (by omega) (by omega) (by omega)
        rw [hpf, List.getD_eq_getElem?_getD, List.getElem?_eq_getElem (by omega)] at hlast
        exact ltP_trans hij hlast
    refine ⟨?_, fun z => ?_, fun q hq => ?_, by simp; omega⟩
    · rw [e]
      refine List.pairwise_append.2 ⟨s1, List.pairwise_cons.2 ⟨hdrop, s2⟩, fun a ha b hb => ?_⟩
      rcases List.mem_cons.1 hb with rfl | hb
      · exact htake a ha
      · exact s3 a ha b hb
    · rw [e, List.mem_append, List.mem_cons]
      constructor
      · rintro (h | h | h)
        · exact .inr (List.mem_of_mem_take h)
        · exact .inl h
        · exact .inr (List.mem_of_mem_drop h)
      · rintro (h | h)
        · exact .inr (.inl h)
        · rw [← List.take_append_drop k (ptsOf ls), List.mem_append] at h
          rcases h with h | h
          · exact .inl h
          · exact .inr (.inr h)
    · rcases List.mem_append.1 hq with h | h
      · exact .inr (List.mem_of_mem_take h)
      · rcases List.mem_cons.1 h with h | h
        · exact .inl h
        · exact .inr (List.mem_of_mem_drop h)
/-! ### what HullOf gives -/
def hullR (ls : List (List Int)) : List (List Int) := (hullP (srtP (ptsOf ls))).map rowP
def hullOk (ls : List (List Int)) : Bool := decide (ls.length ≤ 200) && (flatB ls 50 && inB (hullR ls).length 3 12)
def hullV (ls : List (List Int)) : List (List Int) × Bool := if hullOk ls then (hullR ls, true) else ([], false)
theorem hullR_short {ls : List (List Int)} (h : (srtP (ptsOf ls)).length < 3) : (hullR ls).length < 3 := by
  unfold hullR; rw [List.length_map]; exact hullP_short h
theorem ptsOf_hullR (ls : List (List Int)) : ptsOf (hullR ls) = hullP (srtP (ptsOf ls)) := by
  unfold hullR ptsOf; rw [List.map_map]
  conv => rhs; rw [← List.map_id (hullP _)]
  exact List.map_congr_left fun a _ => rfl
/-- a polygon is its own hull -/
theorem poly_hull {ls : List (List Int)} (h3 : 3 ≤ ls.length) (h12 : ls.length ≤ 12) (hf : flatB ls 50 = true) : isPolyB ls = (hullOk ls && decide (hullR ls = ls)) := by
  have h2 : ∀ i, i < ls.length → (ls.getD i []).length = 2 := fun i hi => (ptB_len (flatB_at hf i hi)).1
  have hl : (ptsOf ls).length = ls.length := by unfold ptsOf; simp
  have e1 : isPolyB ls = locB ls.length (pf ls) := by
    unfold isPolyB; rw [inB_iff.2 ⟨by omega, by omega⟩, hf]; rfl
  rw [e1]
  have hpf : ∀ j, pf ls j = (ptsOf ls).getD j o0 := fun j => (ptOf_getD ls j).symm
  by_cases hL : Loc ls.length (pf ls)
  · rw [(locB_iff h3).2 hL]
    have hp := hull_poly hL (srtP_pair (ptsOf ls)) (fun s hs => by
      rw [srtP_mem] at hs
      obtain ⟨i, hi, rfl⟩ := List.getElem_of_mem hs
      refine ⟨i, by omega, ?_⟩
      rw [hpf, List.getD_eq_getElem?_getD, List.getElem?_eq_getElem hi]; rfl) (fun k hk => by
      rw [srtP_mem, hpf, List.getD_eq_getElem?_getD, List.getElem?_eq_getElem (by omega)]; exact List.getElem_mem _)
    have hR : hullR ls = ls := by
      unfold hullR
      rw [hp, List.map_map]
      apply List.ext_getElem?
      intro i
      rw [List.getElem?_map]
      by_cases hi : i < ls.length
      · rw [List.getElem?_range hi, List.getElem?_eq_getElem hi]
        show some (rowP (pf ls i)) = _
        unfold pf
        rw [row_pt (h2 i hi), List.getD_eq_getElem?_getD, List.getElem?_eq_getElem hi]; rfl
      · rw [List.getElem?_eq_none (show ls.length ≤ i by omega), List.getElem?_eq_none (show (List.range ls.length).length ≤ i by rw [List.length_range]; omega)]; rfl
    have hok : hullOk ls = true := by
      unfold hullOk
      rw [hf, hR, inB_iff.2 ⟨by omega, by omega⟩, decide_eq_true (show ls.length ≤ 200 by omega)]; rfl
    rw [hok, decide_eq_true hR]; rfl
  · have hb : locB ls.length (pf ls) = false := by
      rw [← Bool.not_eq_true]; intro e; exact hL ((locB_iff h3).1 e)
    rw [hb]
    symm
    rw [Bool.and_eq_false_iff]
    right
    rw [decide_eq_false_iff_not]
    intro hR
    apply hL
    have hp := ptsOf_hullR ls
    rw [hR] at hp
    have := hullP_loc (srtP_pair (ptsOf ls)) (by rw [← hp, hl]; exact h3)
    rw [← hp, hl] at this
    have hfe : (fun i => (ptsOf ls).getD i o0) = pf ls := by funext j; exact (hpf j).symm
    rwa [hfe] at this
end Go.Proofs.Ytehhoplenloocaa
