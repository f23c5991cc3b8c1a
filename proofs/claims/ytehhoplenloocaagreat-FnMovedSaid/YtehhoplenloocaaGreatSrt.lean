/- Points that the library sorts and turns round in place. -/
import Derived.Test.YtehhoplenloocaaGreatB15
import Derived.Test.YtehhoplenloocaaGreatLays
import Derived.Test.YtehhoplenloocaaGreatB4
namespace Go.Proofs.YtehhoplenloocaaGreat
open Go.RowKit
open Go.Sort (Holds putRow mapBlock grow SWO PermIn SortedIn)
set_option linter.unusedVariables false
set_option linter.unusedSimpArgs false

/-- a row that does not lie in block g -/
def RA (w : World) (g : Nat) (v : Value) (l : List Int) : Prop := v.oneCell' = true ∧ ∀ W : World, (∀ b, b ≠ g → b < w.heap.size → W.heap[b]? = w.heap[b]?) → ISr W w.heap.size v l
theorem RA.grown {w w' : World} {g : Nat} {v : Value} {l : List Int} (h : RA w g v l) (hg : w.grownBy w' (some g)) : RA w' g v l :=
  ⟨h.1, fun W hW => (h.2 W fun b hb hlt => (hW b hb (Nat.lt_of_lt_of_le hlt hg.size)).trans (hg.block b hlt (by intro e; injection e with e; exact hb e))).upto hg.size⟩
theorem RA.below {w w' : World} {g : Nat} {v : Value} {l : List Int} (h : RA w g v l) (hb : Below w.heap.size w w') : RA w' g v l :=
  ⟨h.1, fun W hW => (h.2 W fun b hne hlt => (hW b hne (Nat.lt_of_lt_of_le hlt hb.size)).trans (hb.block b hlt)).upto hb.size⟩
theorem RA.read {w : World} {g : Nat} {v : Value} {l : List Int} (h : RA w g v l) : ISr w w.heap.size v l := h.2 w fun _ _ _ => rfl
theorem IS.ra {w : World} {g lo hi : Nat} {v : Value} {l : List Int} {c : Array Value} {e : TypeId} {fr : Nat × Nat} (h : IS w lo hi v l) (hh : hi ≤ w.heap.size) (hg : w.heap[g]? = some (.cells c e fr)) (he : e ≠ 3) : RA w g v l := by
  obtain ⟨a, cap, rfl, h1, h2, h3⟩ := h
  refine ⟨rfl, fun W hW => ⟨a, cap, rfl, h1, h2, fun hl => ?_⟩⟩
  obtain ⟨b, off, rfl, hb1, hb2, hbk⟩ := h3 hl
  have hne : b ≠ g := by
    intro e2
    subst e2
    obtain ⟨cs, k1, -⟩ := hbk
    rw [hg] at k1
    injection k1 with k1
    injection k1 with _ k1 _
    exact he k1
  have hbk' := hbk.of_block (hW b hne hbk.lt)
  exact ⟨b, off, rfl, by omega, fun i hi => hbk'.cell hi⟩
theorem putRow_other {α : Type} [Inhabited α] (enc : α → Value) (w : World) (g off : Nat) (d : Array α) {b : Nat} (h : b ≠ g) : (putRow enc w g off d).heap[b]? = w.heap[b]? := by
  unfold putRow mapBlock
  rw [Array.getElem?_modify, if_neg (fun e => h e.symm)]
theorem putRow_size {α : Type} [Inhabited α] (enc : α → Value) (w : World) (g off : Nat) (d : Array α) : (putRow enc w g off d).heap.size = w.heap.size := by
  unfold putRow mapBlock; simp
theorem sortWorld_other {α : Type} [Inhabited α] (enc : α → Value) (w : World) (g off n : Nat) (d : Array α) (os : Array Obj) {b : Nat} (h : b ≠ g) (hb : b < w.heap.size) : (sortWorld enc w g off n d os).heap[b]? = w.heap[b]? := by
  unfold sortWorld
  rw [Go.Sort.heap_grow_old _ _ (by rw [putRow_size]; exact hb), putRow_other _ _ _ _ _ h]; rfl
theorem sortWorld_grown {α : Type} [Inhabited α] (enc : α → Value) (w : World) (g off n : Nat) (d : Array α) (os : Array Obj) : w.grownBy (sortWorld enc w g off n d os) (some g) :=
  ⟨rfl, rfl, rfl, by unfold sortWorld; rw [Go.Sort.size_grow, putRow_size]; exact Nat.le_add_right _ _, fun k hk hne => sortWorld_other enc w g off n d os (fun e => hne (by rw [e])) hk⟩
theorem putRow_grown {α : Type} [Inhabited α] (enc : α → Value) (w : World) (g off n : Nat) (d : Array α) : w.grownBy (putRow enc (Go.Sort.ahead w n) g off d) (some g) :=
  ⟨rfl, rfl, rfl, by rw [putRow_size]; exact Nat.le_refl _, fun k hk hne => putRow_other enc (Go.Sort.ahead w n) g off d (fun e => hne (by rw [e]))⟩
theorem grown_belowG {w w' : World} {B g : Nat} (h : w.grownBy w' (some g)) (hB : B ≤ w.heap.size) (hg : B ≤ g) : Below B w w' :=
  (Below.refl B w).grown h hB fun k hk => by injection hk with e; omega

/-- the order of points -/
def cfP {n : Nat} (rows : Fin n → List Int) (x y : Fin n) : Int := cmp2 (ptOf (rows x)) (ptOf (rows y))
theorem ltP_irr (a : Pt) : ¬ ltP a a := by unfold ltP; omega
theorem ltOf_P {n : Nat} (rows : Fin n → List Int) (x y : Fin n) : ltOf (cfP rows) x y = decide (ltP (ptOf (rows x)) (ptOf (rows y))) := by
  unfold ltOf cfP
  rw [Bool.eq_iff_iff]; simp [cmp2_lt]
theorem swoP {n : Nat} (rows : Fin n → List Int) : SWO (ltOf (cfP rows)) where
  irrefl x := by rw [ltOf_P]; simpa using ltP_irr _
  trans x y z h1 h2 := by rw [ltOf_P] at *; simp at *; exact ltP_trans h1 h2
  ntrans x y z h1 h2 := by
    rw [ltOf_P] at *; simp at *
    intro h3
    unfold ltP at *
    omega

def rowsD {n : Nat} (rows : Fin n → List Int) (d : Array (Fin n)) : List (List Int) := d.toList.map rows
theorem rowsD_len {n : Nat} (rows : Fin n → List Int) (d : Array (Fin n)) : (rowsD rows d).length = d.size := by simp [rowsD]
theorem rowsD_rev {n : Nat} (rows : Fin n → List Int) (d : Array (Fin n)) : rowsD rows d.reverse = (rowsD rows d).reverse := by simp [rowsD]

set_option maxHeartbeats 1000000 in
theorem sort_any {n m : Nat} (hm : m = n) (hn : 0 < n) (hn' : n ≤ 100000) (V : Fin n → Value) (rows : Fin n → List Int) (g cap : Nat) (d : Array (Fin n)) (w : World)
    (hr : ∀ i, RA w g (V i) (rows i)) (h2 : ∀ i, (rows i).length = 2) (hd : d.size = n) :
    letI : Inhabited (Fin n) := ⟨⟨0, hn⟩⟩
    Holds V w g 0 d → g < w.heap.size →
    Calls Tryz.prog 61 #[.slice (some ⟨g, 0, none⟩) m cap, .func (.func 40) #[] #[]] w fun e w' =>
      e = .returned (.tuple #[]) ∧ ∃ d', d'.size = n ∧ Holds V w' g 0 d' ∧ (ptsOf (rowsD rows d')).Pairwise (fun a b => ltP a b ∨ a = b) ∧ (∀ x, x ∈ d'.toList ↔ x ∈ d.toList) ∧ w.grownBy w' (some g) := by
  letI : Inhabited (Fin n) := ⟨⟨0, hn⟩⟩
  intro hH hg
  rw [hm]
  have eg : ∀ args w, (callFunc 40 args).run Tryz.prog w = .ok (.enter 40 args) w := enters_of Tryz.func40 (by kernel_rfl) rfl
  have hcmp : CmpReads Tryz.prog 40 #[] V (cfP rows) g 0 d.size w := by
    intro m os dk hs x y
    have hx := (hr x).2 (sortWorld V w g 0 m dk os) fun b hb hlt => sortWorld_other V w g 0 m dk os hb hlt
    have hy := (hr y).2 (sortWorld V w g 0 m dk os) fun b hb hlt => sortWorld_other V w g 0 m dk os hb hlt
    have := compare_any (rows x) (rows y) (V x) (V y) w.heap.size (sortWorld V w g 0 m dk os) hx hy (h2 x) (h2 y)
    exact this.mono fun e w' ⟨he, hw⟩ => ⟨he, 0, hw.symm⟩
  have hcon := Any.slices_SortFunc Tryz.sortPts V (fun x => (hr x).1) (cfP rows) (swoP rows) 40 #[] g 0 cap d w eg hcmp.lays hH hg (by rw [hd]; omega)
  change Calls Tryz.prog 61 _ _ _ at hcon
  rw [hd] at hcon
  refine hcon.mono ?_
  rintro e w' ⟨rfl, d', k, os, hp, hs, rfl⟩
  obtain ⟨hp1, -, hp3⟩ := hp
  rw [hd] at hp1
  have hl : d'.toList.length = n := by simp [hp1]
  refine ⟨rfl, d', hp1, holds_sortWorld V w g 0 k d d' os hg hH (by rw [hp1, hd]), ?_, ?_, sortWorld_grown V w g 0 k d' os⟩
  · unfold ptsOf rowsD
    rw [List.map_map, List.pairwise_map, List.pairwise_iff_getElem]
    intro i j hi hj hij
    have h := hs i j (Nat.zero_le _) hij (by omega)
    rw [getElem!_pos d' i (by omega), getElem!_pos d' j (by omega), ltOf_P] at h
    rw [Array.getElem_toList, Array.getElem_toList]
    have h' : ¬ ltP (ptOf (rows d'[j])) (ptOf (rows d'[i])) := by simpa using h
    rcases ltP_total (ptOf (rows d'[i])) (ptOf (rows d'[j])) with k1 | k1 | k1
    · exact .inl k1
    · exact .inr k1
    · exact absurd k1 h'
  · intro x
    have e1 : d'.extract 0 n = d' := by have : d'.extract 0 d'.size = d' := by simp
                                        rw [hp1] at this; exact this
    have e2 : d.extract 0 n = d := by have : d.extract 0 d.size = d := by simp
                                      rw [hd] at this; exact this
    rw [e1, e2] at hp3
    exact hp3.mem_iff
theorem reverse_any {n m : Nat} (hm : m = n) (hn : 0 < n) (hn' : n ≤ 100000) (V : Fin n → Value) (g cap : Nat) (d : Array (Fin n)) (w : World) (h1 : ∀ i, (V i).oneCell' = true) (hd : d.size = n) :
    letI : Inhabited (Fin n) := ⟨⟨0, hn⟩⟩
    Holds V w g 0 d → g < w.heap.size →
    Calls Tryz.prog 63 #[.slice (some ⟨g, 0, none⟩) m cap] w fun e w' => e = .returned (.tuple #[]) ∧ Holds V w' g 0 d.reverse ∧ w.grownBy w' (some g) := by
  letI : Inhabited (Fin n) := ⟨⟨0, hn⟩⟩
  intro hH hg
  rw [hm]
  have hcon := AnyE.slices_Reverse_arr Tryz.revPts V h1 g 0 cap d w hH (by rw [hd]; omega)
  change Calls Tryz.prog 63 _ _ _ at hcon
  rw [hd] at hcon
  refine hcon.mono ?_
  rintro e w' ⟨rfl, k, rfl⟩
  have hhs := holds_sortWorld V w g 0 k d d.reverse #[] hg hH (by simp)
  unfold sortWorld at hhs
  rw [Go.Sort.grow_empty] at hhs
  exact ⟨rfl, hhs, putRow_grown V w g 0 k d.reverse⟩
/-- the copy, laid open for sorting -/
theorem OwnL.holds {w : World} {B : Nat} {u : Value} {ls : List (List Int)} (h : OwnL w B u ls) (hn : 0 < ls.length) :
    ∃ g cap, ∃ V : Fin ls.length → Value, u = .slice (some ⟨g, 0, none⟩) ls.length cap ∧ ls.length ≤ cap ∧ cap ≤ maxLen ∧ B ≤ g ∧ g < w.heap.size ∧ (∀ i, RA w g (V i) (ls.getD i.val [])) ∧
      (letI : Inhabited (Fin ls.length) := ⟨⟨0, hn⟩⟩; ∃ d : Array (Fin ls.length), d.size = ls.length ∧ Holds V w g 0 d ∧ ∀ x, x ∈ d.toList) := by
  obtain ⟨V, p, h1, h2, h3, h4⟩ := h
  rcases h1.2 with ⟨-, h0⟩ | ⟨g, cap, cur, rfl, hg, hh, hl, hc, hs, ht⟩
  · omega
  letI : Inhabited (Fin ls.length) := ⟨⟨0, hn⟩⟩
  have hgw := (World.ownsRow.lt h1 g rfl).2
  refine ⟨g, cap, fun i => V i.val, rfl, hl, hc, hg, hgw, fun i => ?_, Array.ofFn (fun i => i), by simp, fun j hj => ?_, fun x => by simp⟩
  · have m2 := OwnL.mono (fun i hi => (h4 i hi).1) (i.val + 1) ls.length i.isLt (Nat.le_refl _)
    exact (h4 i.val i.isLt).2.ra (by omega) hh (by decide)
  · have hj' : j < ls.length := by simpa using hj
    rw [getElem!_pos _ j hj]
    simp only [Array.getElem_ofFn, Nat.zero_add]
    refine ⟨?_, ?_⟩
    · rw [own_cells h1 hj', List.getD_eq_getElem?_getD, List.getElem?_map, List.getElem?_range hj']; rfl
    · simp [World.frozen?, hh]
theorem Holds.below {n : Nat} [Inhabited (Fin n)] {V : Fin n → Value} {w w' : World} {g B : Nat} {d : Array (Fin n)} (h : Holds V w g 0 d) (hb : Below B w w') (hg : g < B) : Holds V w' g 0 d := fun j hj =>
  ⟨(hb.cell (p := ⟨g, 0 + j, none⟩) hg).trans (h j hj).1, (hb.frozen (p := ⟨g, 0 + j, none⟩) hg).trans (h j hj).2⟩
theorem OwnL.grownG {w w' : World} {B g : Nat} {v : Value} {ls : List (List Int)} (h : OwnL w B v ls) (hg : w.grownBy w' (some g)) (hb : g < B) : OwnL w' B v ls := by
  obtain ⟨V, p, h1, h2, h3, h4⟩ := h
  refine ⟨V, p, World.ownsRow.kept h1 hg (.inr (by
    intro e
    have := World.ownsRow.lt h1 g e
    omega)), h2, Nat.le_trans h3 hg.size, fun i hi => ⟨(h4 i hi).1, (h4 i hi).2.of_blocks fun b k1 k2 k3 => hg.block b k3 (by
      intro e
      injection e with e
      have m1 := OwnL.mono (fun i hi => (h4 i hi).1) 0 i (Nat.zero_le _) (by omega)
      omega)⟩⟩
theorem OwnL.takeK {w : World} {B g cap : Nat} {ls : List (List Int)} (h : OwnL w B (.slice (some ⟨g, 0, none⟩) ls.length cap) ls) {k : Nat} (hk : k ≤ ls.length) : OwnL w B (.slice (some ⟨g, 0, none⟩) k cap) (ls.take k) := by
  obtain ⟨V, p, h1, h2, h3, h4⟩ := h
  have hl : (ls.take k).length = k := by rw [List.length_take]; omega
  have hm := OwnL.mono (fun i hi => (h4 i hi).1) k ls.length hk (Nat.le_refl _)
  refine ⟨V, p, ?_, h2, by rw [hl]; omega, fun i hi => ?_⟩
  · rw [hl]
    have := own_take h1 hk
    rwa [← List.map_take, List.take_range, Nat.min_eq_left hk] at this
  · rw [hl] at hi
    rw [List.getD_eq_getElem?_getD, List.getElem?_take_of_lt hi, ← List.getD_eq_getElem?_getD]
    exact h4 i (by omega)
theorem OwnL.cellK {w : World} {B g cap : Nat} {ls : List (List Int)} (h : OwnL w B (.slice (some ⟨g, 0, none⟩) ls.length cap) ls) {i : Nat} (hi : i < ls.length) : ∃ u, w.cell? ⟨g, i, none⟩ = some u ∧ ISr w w.heap.size u (ls.getD i []) := by
  obtain ⟨V, p, h1, h2, h3, h4⟩ := h
  have hm := OwnL.mono (fun i hi => (h4 i hi).1) (i + 1) ls.length hi (Nat.le_refl _)
  refine ⟨V i, ?_, (h4 i hi).2.read.upto (by omega)⟩
  rw [own_cells h1 hi, List.getD_eq_getElem?_getD, List.getElem?_map, List.getElem?_range hi]; rfl
end Go.Proofs.YtehhoplenloocaaGreat
