/- Rows of one length that the library sorts in place. -/
import Derived.Test.YtgecnidndjbdaaaSrt
import Derived.Test.YtgecnidndjbdaaaSrtM
namespace Go.Proofs.Ytgecnidndjbdaaa
open Go.RowKit
open Go.Sort (Holds putRow mapBlock grow SWO PermIn SortedIn)
set_option linter.unusedVariables false
set_option linter.unusedSimpArgs false

theorem sortWorld_at {α : Type} [Inhabited α] (enc : α → Value) (w : World) (g off n : Nat) (d : Array α) (os : Array Obj) (hb : g < w.heap.size) {cs : Array Value} {t : TypeId} {fr : Nat × Nat} (h : w.heap[g]? = some (.cells cs t fr)) : ∃ cs', (sortWorld enc w g off n d os).heap[g]? = some (.cells cs' t fr) := by
  unfold sortWorld
  rw [Go.Sort.heap_grow_old _ _ (by rw [putRow_size]; exact hb)]
  unfold putRow mapBlock
  have h' : (Go.Sort.ahead w n).heap[g]? = some (.cells cs t fr) := h
  rw [Array.getElem?_modify, if_pos rfl, h']
  exact ⟨_, rfl⟩
def cfG {n : Nat} (rows : Fin n → List Int) (x y : Fin n) : Int := cmpL (rows x) (rows y)
theorem ltOf_G {n : Nat} (rows : Fin n → List Int) (x y : Fin n) : ltOf (cfG rows) x y = ltB (rows x) (rows y) := by
  unfold ltOf cfG cmpL
  cases h : ltB (rows x) (rows y)
  · cases h2 : ltB (rows y) (rows x) <;> rfl
  · rfl
theorem swoG {n m : Nat} (rows : Fin n → List Int) (hl : ∀ i, (rows i).length = m) : SWO (ltOf (cfG rows)) where
  irrefl x := by rw [ltOf_G]; exact ltB_self _
  trans x y z h1 h2 := by rw [ltOf_G] at *; exact ltB_trans h1 h2
  ntrans x y z h1 h2 := by
    rw [ltOf_G] at *
    cases h3 : ltB (rows x) (rows z)
    · rfl
    · exfalso
      cases h4 : ltB (rows y) (rows x)
      · have := ltB_total (by rw [hl, hl]) h1 h4
        rw [this] at h3; rw [h2] at h3; cases h3
      · have := ltB_trans h4 h3; rw [h2] at this; cases this
set_option maxHeartbeats 1000000 in
theorem sortG_any {n m q : Nat} (hm : m = n) (hn : 0 < n) (hn' : n ≤ 100000) (V : Fin n → Value) (rows : Fin n → List Int) (g cap : Nat) (d : Array (Fin n)) (w : World)
    (hr : ∀ i, RA w g (V i) (rows i)) (h2 : ∀ i, (rows i).length = q) (hq1 : 1 ≤ q) (hq : q ≤ 1000) (hd : d.size = n) :
    letI : Inhabited (Fin n) := ⟨⟨0, hn⟩⟩
    Holds V w g 0 d → g < w.heap.size →
    Calls Try.prog 65 #[.slice (some ⟨g, 0, none⟩) m cap, .func (.func 66) #[] #[]] w fun e w' =>
      e = .returned (.tuple #[]) ∧ ∃ d', d'.size = n ∧ Holds V w' g 0 d' ∧ (rowsD rows d').Pairwise (fun a b => ltB b a = false) ∧ List.Perm d'.toList d.toList ∧ w.grownBy w' (some g) ∧ ∀ cs t fr, w.heap[g]? = some (.cells cs t fr) → ∃ cs', w'.heap[g]? = some (.cells cs' t fr) := by
  letI : Inhabited (Fin n) := ⟨⟨0, hn⟩⟩
  intro hH hg
  rw [hm]
  have eg : ∀ args w, (callFunc 66 args).run Try.prog w = .ok (.enter 66 args) w := enters_of Try.func66 (by kernel_rfl) rfl
  have hcmp : CmpReads Try.prog 66 #[] V (cfG rows) g 0 d.size w := by
    intro m os dk hs x y
    have hx := (hr x).2 (sortWorld V w g 0 m dk os) fun b hb hlt => sortWorld_other V w g 0 m dk os hb hlt
    have hy := (hr y).2 (sortWorld V w g 0 m dk os) fun b hb hlt => sortWorld_other V w g 0 m dk os hb hlt
    have := compareG_any q (rows x) (rows y) (V x) (V y) w.heap.size (sortWorld V w g 0 m dk os) hx hy (h2 x) (h2 y) hq hq1
    exact this.mono fun e w' ⟨he, hw⟩ => ⟨he, 0, hw.symm⟩
  have hcon := Any.slices_SortFunc Try.sortPts V (fun x => (hr x).1) (cfG rows) (swoG rows h2) 66 #[] g 0 cap d w eg hcmp.lays hH hg (by rw [hd]; omega)
  change Calls Try.prog 65 _ _ _ at hcon
  rw [hd] at hcon
  refine hcon.mono ?_
  rintro e w' ⟨rfl, d', k, os, hp, hs, rfl⟩
  obtain ⟨hp1, -, hp3⟩ := hp
  rw [hd] at hp1
  have hl : d'.toList.length = n := by simp [hp1]
  refine ⟨rfl, d', hp1, holds_sortWorld V w g 0 k d d' os hg hH (by rw [hp1, hd]), ?_, ?_, sortWorld_grown V w g 0 k d' os, fun cs t fr h => sortWorld_at V w g 0 k d' os hg h⟩
  · unfold rowsD
    rw [List.pairwise_map, List.pairwise_iff_getElem]
    intro i j hi hj hij
    have h := hs i j (Nat.zero_le _) hij (by omega)
    rw [getElem!_pos d' i (by omega), getElem!_pos d' j (by omega), ltOf_G] at h
    rw [Array.getElem_toList, Array.getElem_toList]
    exact h
  · have e1 : d'.extract 0 n = d' := by have : d'.extract 0 d'.size = d' := by simp
                                        rw [hp1] at this; exact this
    have e2 : d.extract 0 n = d := by have : d.extract 0 d.size = d := by simp
                                      rw [hd] at this; exact this
    rw [e1, e2] at hp3
    exact hp3
/-- rows of the call's own, laid open for sorting, with what they are -/
theorem OwnL.holds2 {w : World} {B : Nat} {u : Value} {ls : List (List Int)} (h : OwnL w B u ls) (hn : 0 < ls.length) :
    ∃ g cap, ∃ V : Fin ls.length → Value, u = .slice (some ⟨g, 0, none⟩) ls.length cap ∧ ls.length ≤ cap ∧ cap ≤ maxLen ∧ B ≤ g ∧ g < w.heap.size ∧ (∀ i, RA w g (V i) (ls.getD i.val [])) ∧
      (letI : Inhabited (Fin ls.length) := ⟨⟨0, hn⟩⟩; ∃ d : Array (Fin ls.length), d.size = ls.length ∧ Holds V w g 0 d ∧ ∀ x, x ∈ d.toList) ∧ (∃ cs, w.heap[g]? = some (.cells cs 23 (0, 0))) ∧
      (∀ i, IS w B w.heap.size (V i) (ls.getD i.val [])) ∧ ∀ i j, i ≠ j → blkOf (V j) = none ∨ blkOf (V j) ≠ blkOf (V i) := by
  obtain ⟨V, p, h1, h2, h3, h4⟩ := h
  rcases h1.2 with ⟨-, h0⟩ | ⟨g, cap, cur, rfl, hg, hh, hl, hc, hs, ht⟩
  · omega
  letI : Inhabited (Fin ls.length) := ⟨⟨0, hn⟩⟩
  have hgw := (World.ownsRow.lt h1 g rfl).2
  refine ⟨g, cap, fun i => V i.val, rfl, hl, hc, hg, hgw, fun i => ?_, ⟨Array.ofFn (fun i => i), by simp, fun j hj => ?_, fun x => by simp⟩, ⟨cur, hh⟩, fun i => ?_, fun i j hij => ?_⟩
  · have m2 := OwnL.mono (fun i hi => (h4 i hi).1) (i.val + 1) ls.length i.isLt (Nat.le_refl _)
    exact (h4 i.val i.isLt).2.ra (by omega) hh (by decide)
  · have hj' : j < ls.length := by simpa using hj
    rw [getElem!_pos _ j hj]
    simp only [Array.getElem_ofFn, Nat.zero_add]
    refine ⟨?_, ?_⟩
    · rw [own_cells h1 hj', List.getD_eq_getElem?_getD, List.getElem?_map, List.getElem?_range hj']; rfl
    · simp [World.frozen?, hh]
  · have m1 := OwnL.mono (fun i hi => (h4 i hi).1) 0 i.val (Nat.zero_le _) (by omega)
    have m2 := OwnL.mono (fun i hi => (h4 i hi).1) (i.val + 1) ls.length i.isLt (Nat.le_refl _)
    exact (h4 i.val i.isLt).2.mono (by omega) (by omega)
  · have hij' : i.val ≠ j.val := fun e => hij (Fin.ext e)
    rcases (h4 j.val j.isLt).2.blk with h0 | ⟨bj, e1, l1, u1, -⟩
    · exact .inl h0
    · right
      rcases (h4 i.val i.isLt).2.blk with h0 | ⟨bi, e2, l2, u2, -⟩
      · rw [e1, h0]; simp
      · rw [e1, e2]; intro e; injection e with e
        rcases Nat.lt_or_ge i.val j.val with g | g
        · have := OwnL.mono (fun i hi => (h4 i hi).1) (i.val + 1) j.val (by omega) (by omega)
          omega
        · have := OwnL.mono (fun i hi => (h4 i hi).1) (j.val + 1) i.val (by omega) (by omega)
          omega
/-- rows that were sorted -/
theorem Holds.iss {n cap lo hi : Nat} (hn : 0 < n) {V : Fin n → Value} {L : List (List Int)} {w w' : World} {g : Nat} {d : Array (Fin n)} (hL : L.length = n)
    (h : letI : Inhabited (Fin n) := ⟨⟨0, hn⟩⟩; Holds V w' g 0 d) (hd : d.size = n) (hnd : d.toList.Nodup) (hr : ∀ i, IS w lo hi (V i) (L.getD i.val [])) (hap : ∀ i j, i ≠ j → blkOf (V j) = none ∨ blkOf (V j) ≠ blkOf (V i)) (hc : n ≤ cap) (hm : cap ≤ maxLen) (hlo : lo ≤ g) (hg : g < hi)
    (hgr : w.grownBy w' (some g)) (hcs : ∃ cs, w.heap[g]? = some (.cells cs 23 (0, 0))) (hcs' : ∃ cs, w'.heap[g]? = some (.cells cs 23 (0, 0))) :
    ISS w' lo hi (.slice (some ⟨g, 0, none⟩) n cap) (rowsD (fun i : Fin n => L.getD i.val []) d) := by
  letI : Inhabited (Fin n) := ⟨⟨0, hn⟩⟩
  have hl : (rowsD (fun i : Fin n => L.getD i.val []) d).length = n := by rw [rowsD_len, hd]
  obtain ⟨cs', hcs'⟩ := hcs'
  have hty : ∀ g', some g = some g' → ∃ c e fr, w.heap[g']? = some (.cells c e fr) ∧ e ≠ 3 := fun g' hg => by
    injection hg with hg
    subst hg
    obtain ⟨cs, hcs⟩ := hcs
    exact ⟨cs, _, _, hcs, by decide⟩
  refine ⟨_, cap, by rw [hl], by rw [hl]; exact hc, hm, fun _ => ⟨g, 0, fun i => V (d[i]!), rfl, hlo, hg, ⟨cs', hcs', fun i hi => ?_⟩, fun i hi => ?_, fun i j hij hj => ?_⟩⟩
  · rw [hl] at hi
    have := (h i (by omega)).1
    simpa [World.cell?, hcs'] using this
  · rw [hl] at hi
    have hi' : i < d.size := by omega
    have e : (rowsD (fun i : Fin n => L.getD i.val []) d).getD i [] = L.getD (d[i]!).val [] := by
      unfold rowsD
      rw [List.getD_eq_getElem?_getD, List.getElem?_map, getElem!_pos d i hi']
      rw [List.getElem?_eq_getElem (by simpa using hi')]
      rfl
    rw [e]
    exact (hr _).grown_type hgr hty
  · rw [hl] at hj
    refine hap _ _ fun e => ?_
    rw [getElem!_pos d i (by omega), getElem!_pos d j (by omega)] at e
    rw [List.Nodup, List.pairwise_iff_getElem] at hnd
    exact hnd i j (by simp; omega) (by simp; omega) hij (by simpa using e)
end Go.Proofs.Ytgecnidndjbdaaa
