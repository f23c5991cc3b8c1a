/- Hermite's form: the program's walk. -/
import Derived.Test.YtfncikbmdaameaaHerM
import Derived.Test.YtfncikbmdaameaaInv
import Derived.Deep.RegionHeld3
import Derived.StillTailTactics
namespace Go.Proofs.Ytfncikbmdaameaa
open Go.RowKit
set_option linter.unusedVariables false
set_option linter.unusedSimpArgs false

theorem RowsW.far {w : World} {lo hi b off n : Nat} {V : Nat → Value} {cur : Nat → List Int} (h : RowsW w lo hi b off n V cur) {i j : Nat} (hi' : i < n) (hj : j < n) (hij : i ≠ j) {br : Nat} (hb : blkOf (V j) = some br) : blkOf (V i) = none ∨ blkOf (V i) ≠ some br := by
  rcases Nat.lt_or_ge i j with g | g
  · rcases h.apart i j g hj with e | e
    · rw [hb] at e; cases e
    · rw [hb] at e; exact .inr fun e' => e e'.symm
  · have := h.apart j i (by omega) hi'
    rwa [hb] at this
/-- one row has been written by a callee -/
theorem RowsW.row1 {w w' : World} {lo hi b off n k br or' cr m : Nat} {V : Nat → Value} {cur : Nat → List Int} (h : RowsW w lo hi b off n V cur) (hk : k < n) (hv : V k = .slice (some ⟨br, or', none⟩) m cr) (hm : 0 < m) {l : List Int} (hl : l.length = m) (hcl : (cur k).length = m)
    (hbk : BK w' br or' m 3 (fun i => .int .i64 (l.getD i 0))) (hg : w.grownBy w' (some br)) : RowsW w' lo hi b off n V (fun i => if i = k then l else cur i) ∧ lo ≤ br := by
  obtain ⟨br', or2, cr', hv', hlo, hhi, hne, -⟩ := h.at hk (by omega)
  rw [hv] at hv'
  injection hv' with e1 e2 e3
  injection e1 with e1
  injection e1 with e1 e4
  subst e1 e4 e3
  have hblk : blkOf (V k) = some br := by rw [hv]; exact blkOf_some _ _ _ _ hm
  refine ⟨⟨h.outer.of_block (hg.block b h.outer.lt (by intro e; injection e with e; exact hne e.symm)), fun i hi => ?_, h.apart⟩, hlo⟩
  by_cases e : i = k
  · subst e
    rw [if_pos rfl]
    obtain ⟨a, cap, hva, l1, l2, -⟩ := id (h.row i hi)
    rw [hv] at hva
    injection hva with _ hva2 hva
    subst hva
    refine ⟨_, cr, by rw [hv, hl], by rw [hl]; omega, l2, fun _ => ⟨br, or', rfl, hlo, hhi, ?_⟩⟩
    rw [hl]; exact hbk
  · rw [if_neg e]
    exact (h.row i hi).grown hg (h.far hi hk e hblk)
def swF {α : Type} (k r : Nat) (f : Nat → α) (i : Nat) : α := if i = k then f r else if i = r then f k else f i
/-- two rows have changed their places -/
theorem RowsW.swap {w : World} {lo hi b off n k r : Nat} {V : Nat → Value} {cur : Nat → List Int} (h : RowsW w lo hi b off n V cur) (hk : k < n) (hr : r < n) (hkr : k ≠ r) (hl : ∀ i, i < n → 0 < (cur i).length) :
    RowsW ((w.setCell ⟨b, off + r, none⟩ (V k)).setCell ⟨b, off + k, none⟩ (V r)) lo hi b off n (swF k r V) (swF k r cur) := by
  have hg : w.grownBy ((w.setCell ⟨b, off + r, none⟩ (V k)).setCell ⟨b, off + k, none⟩ (V r)) (some b) := by
    refine ⟨rfl, rfl, rfl, by simp, fun i hi hne' => ?_⟩
    have hn : i ≠ b := by intro e; apply hne'; rw [e]
    rw [Below.heap_setCell _ _ _ _ hn, Below.heap_setCell _ _ _ _ hn]
  have hrow : ∀ i, i < n → IS ((w.setCell ⟨b, off + r, none⟩ (V k)).setCell ⟨b, off + k, none⟩ (V r)) lo hi (V i) (cur i) := fun i hi => by
    obtain ⟨br, or', cr, hv, -, -, hne, -⟩ := h.at hi (hl i hi)
    exact (h.row i hi).grown hg (.inr (by rw [hv, blkOf_some _ _ _ _ (hl i hi)]; intro e; injection e with e; exact hne e))
  refine ⟨?_, fun i hi => ?_, fun i j hij hj => ?_⟩
  · exact ((h.outer.set hr (V k)).set hk (V r)).congr fun i hi => rfl
  · unfold swF
    by_cases e : i = k
    · rw [if_pos e, if_pos e]; exact hrow r hr
    · rw [if_neg e, if_neg e]
      by_cases e2 : i = r
      · rw [if_pos e2, if_pos e2]; exact hrow k hk
      · rw [if_neg e2, if_neg e2]; exact hrow i hi
  · have hap : ∀ x y, x < n → y < n → x ≠ y → blkOf (V y) = none ∨ blkOf (V y) ≠ blkOf (V x) := fun x y hx hy hxy => by
      obtain ⟨br, or', cr, hv, -⟩ := h.at hx (hl x hx)
      have hb : blkOf (V x) = some br := by rw [hv]; exact blkOf_some _ _ _ _ (hl x hx)
      rw [hb]; exact h.far hy hx (Ne.symm hxy) hb
    have hs : ∀ i, swF k r V i = V (swF k r id i) := fun i => by unfold swF; split <;> (try split) <;> rfl
    have hl2 : ∀ i, i < n → swF k r id i < n := fun i hi => by unfold swF; simp only [id]; split <;> (try split) <;> omega
    have hne : swF k r id i ≠ swF k r id j := by unfold swF; simp only [id]; split <;> split <;> (try split) <;> (try split) <;> omega
    rw [hs i, hs j]
    exact hap _ _ (hl2 i (by omega)) (hl2 j hj) hne
/-- a number of a row of rows, as the world has it -/
def rdM (w : World) (b off r k : Nat) : Nat :=
  match w.cell? ⟨b, off + r, none⟩ with
  | some (.slice (some a) _ _) => match w.cell? ⟨a.block, a.off + k, none⟩ with
    | some (.int _ x) => x.natAbs
    | _ => 0
  | _ => 0
theorem rdM_of {w : World} {b off r k br or' m cr : Nat} {x : Int} (h1 : w.cell? ⟨b, off + r, none⟩ = some (.slice (some ⟨br, or', none⟩) m cr)) (h2 : w.cell? ⟨br, or' + k, none⟩ = some (.int .i64 x)) : rdM w b off r k = x.natAbs := by
  unfold rdM; rw [h1]; simp only [h2]
def MR (w : World) (lo hi b off n : Nat) (M : List (List Int)) : Prop := ∃ V, RowsW w lo hi b off n V (fun i => M.getD i [])
theorem MR.drew {w : World} {lo hi b off n : Nat} {M : List (List Int)} (h : MR w lo hi b off n M) : MR w.drew lo hi b off n M := by
  obtain ⟨V, h⟩ := h
  exact ⟨V, h.outer.of_block rfl, fun i hi' => (h.row i hi').keep (below_draws hi _ 1) (Nat.le_refl _), h.apart⟩
theorem MR.row {w : World} {lo hi b off n : Nat} {M : List (List Int)} {V : Nat → Value} (h : RowsW w lo hi b off n V (fun i => M.getD i [])) (hs : Sq n M) {k : Nat} (hk : k < n) :
    ∃ br or' cr, V k = .slice (some ⟨br, or', none⟩) n cr ∧ w.cell? ⟨b, off + k, none⟩ = some (.slice (some ⟨br, or', none⟩) n cr) ∧ lo ≤ br ∧ br < hi ∧ BK w br or' n 3 (fun i => .int .i64 ((M.getD k []).getD i 0)) ∧ ∀ j, j < n → w.cell? ⟨br, or' + j, none⟩ = some (.int .i64 (atM M k j)) := by
  obtain ⟨br, or', cr, hv, h1, h2, h3, h4⟩ := h.at hk (by show 0 < (M.getD k []).length; rw [hs.row k hk]; omega)
  have hv : V k = .slice (some ⟨br, or', none⟩) (M.getD k []).length cr := hv
  have h4 : BK w br or' (M.getD k []).length 3 (fun i => .int .i64 ((M.getD k []).getD i 0)) := h4
  rw [hs.row k hk] at hv h4
  exact ⟨br, or', cr, hv, by rw [← hv]; exact h.outer.cell hk, h1, h2, h4, fun j hj => h4.cell hj⟩
theorem swF_step {n k r : Nat} {Q : List (List Int)} (h : Sq n Q) (hk : k < n) (hr : r < n) (hkr : k ≠ r) (q : Int) (i : Nat) : swF k r (fun i => if i = k then subW (Q.getD k []) (Q.getD r []) q else Q.getD i []) i = (stepQ k r q Q).getD i [] := by
  unfold swF stepQ
  rw [getD_setR (by rw [List.length_set, h.len]; exact hr), getD_setR (by rw [h.len]; exact hk)]
  by_cases e : i = k
  · subst e
    rw [if_pos rfl, if_neg hkr, if_pos rfl]
    show (if r = i then _ else _) = _
    rw [if_neg (Ne.symm hkr)]
  · rw [if_neg e]
    by_cases e2 : i = r
    · subst e2
      rw [if_pos rfl, if_pos rfl]
      show (if k = k then _ else _) = _
      rw [if_pos rfl]
    · rw [if_neg e2, if_neg e2, if_neg e]
      show (if i = k then _ else _) = _
      rw [if_neg e]
theorem subW_neg (a : List Int) : subW a a 2 = neW a := by
  apply List.ext_getElem?
  intro i
  unfold subW neW
  rw [List.getElem?_zipWith, List.getElem?_map]
  cases a[i]? with
  | none => rfl
  | some x =>
    show some (wrap64 (x - wrap64 (x * 2))) = some (wrap64 (x * -1))
    congr 1
    unfold wrap64; omega
theorem copyInts_row {n : Nat} (l : List Int) (hn : l.length = n) (h0 : 0 < n) (h3 : n ≤ 3) (v : Value) (hb : Nat) (w : World) (h : ISr w hb v l) :
    Calls Try.prog 140 #[v] w fun e w' => ∃ bc oc cc, e = .returned (.slice (some ⟨bc, oc, none⟩) n cc) ∧ w.heap.size ≤ bc ∧ bc < w'.heap.size ∧ (∀ i, i < n → w'.cell? ⟨bc, oc + i, none⟩ = some (.int .i64 (l.getD i 0))) ∧ Below w.heap.size w w' :=
  (copyInts_any l v hb w h (by omega)).mono fun e w' ⟨u, he, ho, hbl⟩ => by
    rcases ho.is.cases with ⟨e1, -⟩ | ⟨-, -, bc, oc, cc, hv, -, -, g1, g2, g3⟩
    · rw [e1] at hn; simp at hn; omega
    · rw [hn] at hv g3
      exact ⟨bc, oc, cc, by rw [he, hv], g1, g2, fun i hi => g3.cell hi, hbl⟩
theorem negS_no {k : Nat} {C : List (List Int)} (h : ¬ atM C k k < 0) : negS k C = C := by unfold negS; rw [if_neg h]
theorem negS_yes {k : Nat} {C : List (List Int)} (h : atM C k k < 0) : negS k C = C.set k (neW (C.getD k [])) := by unfold negS; rw [if_pos h]
end Go.Proofs.Ytfncikbmdaameaa
