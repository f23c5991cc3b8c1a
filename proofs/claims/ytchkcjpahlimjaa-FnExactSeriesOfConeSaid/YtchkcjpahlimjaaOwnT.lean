/- Slices of terms that grow by appending. -/
import Derived.Test.YtchkcjpahlimjaaMkT
import Derived.Test.YtchkcjpahlimjaaB2
import Derived.Deep.AppendLies
namespace Go.Proofs.Ytchkcjpahlimjaa
open Go.RowKit
set_option linter.unusedVariables false
set_option linter.unusedSimpArgs false

def cellsT (ts : List TermL) (V2 V3 : Nat → Value) (n : Nat) : List Value := (List.range n).flatMap fun i => [.int .i64 (ts.getD i t0).1, V2 i, V3 i]
theorem cellsT_succ (ts : List TermL) (V2 V3 : Nat → Value) (n : Nat) : cellsT ts V2 V3 (n + 1) = cellsT ts V2 V3 n ++ [.int .i64 (ts.getD n t0).1, V2 n, V3 n] := by
  unfold cellsT; rw [List.range_succ, List.flatMap_append]; simp
theorem cellsT_len (ts : List TermL) (V2 V3 : Nat → Value) : ∀ n, (cellsT ts V2 V3 n).length = n * 3
  | 0 => by simp [cellsT]
  | n + 1 => by rw [cellsT_succ, List.length_append, cellsT_len ts V2 V3 n]; simp; omega
theorem cellsT_get (ts : List TermL) (V2 V3 : Nat → Value) : ∀ n j, j < n * 3 → (cellsT ts V2 V3 n)[j]? = some (tri (fun i => .int .i64 (ts.getD i t0).1) V2 V3 j)
  | 0, j, h => by omega
  | n + 1, j, h => by
    rw [cellsT_succ]
    by_cases e : j < n * 3
    · rw [List.getElem?_append_left (by rw [cellsT_len]; exact e)]; exact cellsT_get ts V2 V3 n j e
    · rw [List.getElem?_append_right (by rw [cellsT_len]; omega), cellsT_len]
      have h3 : j = n * 3 ∨ j = n * 3 + 1 ∨ j = n * 3 + 2 := by omega
      rcases h3 with rfl | rfl | rfl
      · rw [tri_0]; simp
      · rw [tri_1, show n * 3 + 1 - n * 3 = 1 by omega]; rfl
      · rw [tri_2, show n * 3 + 2 - n * 3 = 2 by omega]; rfl
theorem cellsT_congr {ts ts' : List TermL} {V2 V3 V2' V3' : Nat → Value} : ∀ n, (∀ i, i < n → (ts.getD i t0).1 = (ts'.getD i t0).1 ∧ V2 i = V2' i ∧ V3 i = V3' i) → cellsT ts V2 V3 n = cellsT ts' V2' V3' n
  | 0, _ => rfl
  | n + 1, h => by
    rw [cellsT_succ, cellsT_succ, cellsT_congr n (fun i hi => h i (by omega))]
    obtain ⟨h1, h2, h3⟩ := h n (Nat.lt_succ_self _)
    rw [h1, h2, h3]
/-- a slice of terms of the call's own, its elements below m -/
def OwnTp (w : World) (B : Nat) (v : Value) (ts : List TermL) (V2 V3 : Nat → Value) (m : Nat) : Prop :=
  ∃ p q r : Nat → Nat, w.ownsRow B 70 3 v ts.length (cellsT ts V2 V3 ts.length) ∧ (∀ g, v.ownBlock = some g → g < m) ∧ m ≤ w.heap.size ∧
    (∀ i, i < ts.length → (B ≤ p i ∧ r i ≤ m) ∧ (∀ g, v.ownBlock = some g → g < p i ∨ r i ≤ g) ∧ TEl w (ts.getD i t0) (V2 i) (V3 i) (p i) (q i) (r i)) ∧ ∀ i j, i < j → j < ts.length → r i ≤ p j
theorem OwnTp.nil (w : World) (B : Nat) (V2 V3 : Nat → Value) (m : Nat) (hm : m ≤ w.heap.size) : OwnTp w B (.slice none 0 0) [] V2 V3 m :=
  ⟨fun _ => 0, fun _ => 0, fun _ => 0, ⟨by simp [cellsT], .inl ⟨rfl, rfl⟩⟩, fun g hg => by simp [Value.ownBlock] at hg, hm, fun i hi => absurd hi (Nat.not_lt_zero _), fun i j _ hj => absurd hj (Nat.not_lt_zero _)⟩
theorem OwnTp.lit0 (w : World) (B : Nat) (h : B ≤ w.heap.size) (V2 V3 : Nat → Value) : OwnTp (w.alloc (.cells #[] 70)) B (.slice (some ⟨w.heap.size, 0, none⟩) 0 0) [] V2 V3 (w.heap.size + 1) :=
  ⟨fun _ => 0, fun _ => 0, fun _ => 0, World.ownsRow_lit w #[] 0 h (by simp [maxLen]) rfl, fun g hg => by simp [Value.ownBlock] at hg; omega, by simp, fun i hi => absurd hi (Nat.not_lt_zero _), fun i j _ hj => absurd hj (Nat.not_lt_zero _)⟩
theorem OwnTp.keep {w w' : World} {B m : Nat} {v : Value} {ts : List TermL} {V2 V3 : Nat → Value} (h : OwnTp w B v ts V2 V3 m) (hb : Below m w w') : OwnTp w' B v ts V2 V3 m := by
  obtain ⟨p, q, r, h1, h2, h3, h4, h5⟩ := h
  refine ⟨p, q, r, ?_, h2, Nat.le_trans h3 hb.size, fun i hi => ⟨(h4 i hi).1, (h4 i hi).2.1, (h4 i hi).2.2.keep hb (h4 i hi).1.2⟩, h5⟩
  rcases h1.2 with ⟨rfl, h0⟩ | ⟨g, cap, cur, rfl, hg, hh, hn, hc, hs, ht⟩
  · exact ⟨h1.1, .inl ⟨rfl, h0⟩⟩
  · exact ⟨h1.1, .inr ⟨g, cap, cur, rfl, hg, (hb.block g (h2 g rfl)).trans hh, hn, hc, hs, ht⟩⟩
theorem OwnTp.push {w1 w2 : World} {B m g cap pn qn rn : Nat} {v v2 v3 : Value} {ts : List TermL} {t : TermL} {V2 V3 : Nat → Value} {o : Obj} (h : OwnTp w1 B v ts V2 V3 m) (hel : TEl w1 t v2 v3 pn qn rn) (hm : m ≤ pn) (hB : B ≤ pn) (hr : rn ≤ w1.heap.size)
    (hg : (w1.alloc o).grownBy w2 v.ownBlock) (hown : w2.ownsRow B 70 3 (.slice (some ⟨g, 0, none⟩) (ts.length + 1) cap) (ts.length + 1) (cellsT ts V2 V3 ts.length ++ [.int .i64 t.1, v2, v3])) (hat : v.ownBlock = some g ∨ g = w1.heap.size + 1) :
    ∃ V2' V3', OwnTp w2 B (.slice (some ⟨g, 0, none⟩) (ts.length + 1) cap) (ts ++ [t]) V2' V3' w2.heap.size := by
  obtain ⟨p, q, r, h1, h2, h3, h4, h5⟩ := h
  have hsz : w1.heap.size + 1 ≤ w2.heap.size := by have := hg.size; simpa using this
  have hpr : pn ≤ rn := Nat.le_trans hel.1 hel.2.1
  have hkeep : ∀ {t' : TermL} {a b : Value} {x y z : Nat}, TEl w1 t' a b x y z → z ≤ w1.heap.size → (∀ g', v.ownBlock = some g' → g' < x ∨ z ≤ g') → TEl w2 t' a b x y z := fun k hz hd => k.of_blocks fun c c1 c2 c3 => by
    rw [hg.block c (by simp; omega) (fun e => by have := hd c e.symm; omega), Below.heap_alloc _ _ _ c3]
  refine ⟨fun i => if i < ts.length then V2 i else v2, fun i => if i < ts.length then V3 i else v3, fun i => if i < ts.length then p i else pn, fun i => if i < ts.length then q i else qn, fun i => if i < ts.length then r i else rn, ?_, fun g' hg' => ?_, Nat.le_refl _, fun i hi => ?_, fun i j hij hj => ?_⟩
  · rw [List.length_append, List.length_singleton, cellsT_succ]
    have e1 : (ts ++ [t]).getD ts.length t0 = t := by rw [List.getD_eq_getElem?_getD]; simp
    rw [e1, if_neg (Nat.lt_irrefl _), if_neg (Nat.lt_irrefl _)]
    rw [cellsT_congr (ts := ts ++ [t]) (ts' := ts) (V2' := V2) (V3' := V3) ts.length fun i hi => ⟨by rw [List.getD_eq_getElem?_getD, List.getElem?_append_left hi, ← List.getD_eq_getElem?_getD], by rw [if_pos hi], by rw [if_pos hi]⟩]
    exact hown
  · simp [Value.ownBlock] at hg'
    have := World.ownsRow.lt hown g rfl
    omega
  · rw [List.length_append, List.length_singleton] at hi
    dsimp only
    by_cases e : i < ts.length
    · rw [if_pos e, if_pos e, if_pos e, if_pos e, if_pos e, List.getD_eq_getElem?_getD, List.getElem?_append_left e, ← List.getD_eq_getElem?_getD]
      obtain ⟨⟨a1, a2⟩, a3, a4⟩ := h4 i e
      refine ⟨⟨a1, by omega⟩, fun g' hg' => ?_, hkeep a4 (by omega) a3⟩
      simp [Value.ownBlock] at hg'
      subst hg'
      rcases hat with k | k
      · exact a3 _ k
      · right; omega
    · obtain rfl : i = ts.length := by omega
      rw [if_neg e, if_neg e, if_neg e, if_neg e, if_neg e, List.getD_eq_getElem?_getD, List.getElem?_append_right (Nat.le_refl _)]
      simp only [Nat.sub_self, List.getElem?_cons_zero, Option.getD_some]
      refine ⟨⟨hB, by omega⟩, fun g' hg' => ?_, hkeep hel hr fun g' hg' => .inl (by have := h2 g' hg'; omega)⟩
      simp [Value.ownBlock] at hg'
      subst hg'
      rcases hat with k | k
      · left; have := h2 _ k; omega
      · right; omega
  · rw [List.length_append, List.length_singleton] at hj
    dsimp only
    rw [if_pos (show i < ts.length by omega)]
    by_cases e : j < ts.length
    · rw [if_pos e]; exact h5 i j hij e
    · rw [if_neg e]; have := (h4 i (by omega)).1.2; omega
theorem OwnTp.is {w : World} {B m : Nat} {v : Value} {ts : List TermL} {V2 V3 : Nat → Value} (h : OwnTp w B v ts V2 V3 m) : TS w B w.heap.size v ts := by
  obtain ⟨p, q, r, h1, h2, h3, h4, h5⟩ := h
  rcases h1.2 with ⟨rfl, h0⟩ | ⟨g, cap, cur, rfl, hg, hh, hn, hc, hs, ht⟩
  · have : ts = [] := List.length_eq_zero_iff.1 h0
    subst this; exact TS.nil _ _ _
  · refine ⟨_, _, rfl, hn, hc, fun hl => ⟨g, 0, V2, V3, p, q, r, rfl, hg, World.ownsRow.lt h1 g rfl |>.2, ⟨cur, hh, fun i hi => ?_⟩, fun i hi => ?_, h5⟩⟩
    · rw [Nat.zero_add, ← Array.getElem?_toList]
      have e1 : (cur.toList.take (ts.length * 3))[i]? = (cellsT ts V2 V3 ts.length)[i]? := by rw [ht]
      rw [List.getElem?_take_of_lt hi] at e1
      rw [e1]; exact cellsT_get _ _ _ _ _ hi
    · obtain ⟨⟨a1, a2⟩, a3, a4⟩ := h4 i hi
      exact ⟨⟨a1, by omega⟩, a3 g rfl, a4⟩
theorem OwnTp.form {w : World} {B m : Nat} {v : Value} {ts : List TermL} {V2 V3 : Nat → Value} (h : OwnTp w B v ts V2 V3 m) : ∃ a c, v = .slice a ts.length c := by
  obtain ⟨p, q, r, h1, -⟩ := h
  rcases h1.2 with ⟨rfl, h0⟩ | ⟨g, cap, cur, rfl, -⟩
  · exact ⟨none, 0, by rw [h0]⟩
  · exact ⟨_, _, rfl⟩
theorem OwnTp.own {w : World} {B m : Nat} {v : Value} {ts : List TermL} {V2 V3 : Nat → Value} (h : OwnTp w B v ts V2 V3 m) : w.ownsRow B 70 3 v ts.length (cellsT ts V2 V3 ts.length) := let ⟨_, _, _, h1, _⟩ := h; h1
theorem OwnTp.le {w : World} {B m : Nat} {v : Value} {ts : List TermL} {V2 V3 : Nat → Value} (h : OwnTp w B v ts V2 V3 m) : m ≤ w.heap.size := let ⟨_, _, _, _, _, h3, _⟩ := h; h3
theorem OwnTp.blk {w : World} {B m : Nat} {v : Value} {ts : List TermL} {V2 V3 : Nat → Value} (h : OwnTp w B v ts V2 V3 m) : ∀ g, v.ownBlock = some g → B ≤ g ∧ g < m := fun g hg => ⟨(World.ownsRow.lt h.own g hg).1, let ⟨_, _, _, _, h2, _⟩ := h; h2 g hg⟩
theorem OwnTp.below {w w1 w2 : World} {B m B0 : Nat} {v : Value} {ts : List TermL} {V2 V3 : Nat → Value} (hbe : Below B0 w w1) (hB : B0 ≤ w1.heap.size) (o : Obj) (hg : (w1.alloc o).grownBy w2 v.ownBlock) (h : OwnTp w1 B v ts V2 V3 m) (hB0 : B0 ≤ B) : Below B0 w w2 :=
  (hbe.alloc hB o).grown hg (by simp; omega) fun k hk => Nat.le_trans hB0 (h.blk k hk).1
/-- literals of rows -/
theorem ISS.lit2 {w : World} {lo a b c d : Nat} {u1 u2 : Value} {r1 r2 : List Int} (h1 : IS w a b u1 r1) (h2 : IS w c d u2 r2) (ha : lo ≤ a) (hbc : b ≤ c) (hab : a ≤ b) (hd : d ≤ w.heap.size) (hcd : c ≤ d) : ISS (w.alloc (.cells #[u1, u2] 22)) lo (w.heap.size + 1) (.slice (some ⟨w.heap.size, 0, none⟩) 2 2) [r1, r2] := by
  have k1 := h1.keep (below1 w (.cells #[u1, u2] 22)) (by omega)
  have k2 := h2.keep (below1 w (.cells #[u1, u2] 22)) hd
  refine ⟨_, _, rfl, by simp, by simp [maxLen], fun _ => ⟨w.heap.size, 0, fun i => if i = 0 then u1 else u2, rfl, by omega, by omega, ⟨_, heap_alloc_new w _, fun i hi => ?_⟩, fun i hi => ?_, fun i j hij hj => ?_⟩⟩
  · match i, hi with
    | 0, _ => rfl
    | 1, _ => rfl
  · match i, hi with
    | 0, _ => exact k1.mono (by omega) (by omega)
    | 1, _ => exact k2.mono (by omega) (by omega)
  · have hj2 : j < 2 := hj
    obtain rfl : i = 0 := by omega
    obtain rfl : j = 1 := by omega
    exact IS.disj h1 h2 (.inl hbc)
theorem ISS.lit1 {w : World} {lo a b : Nat} {u1 : Value} {r1 : List Int} (h1 : IS w a b u1 r1) (ha : lo ≤ a) (hab : a ≤ b) (hd : b ≤ w.heap.size) : ISS (w.alloc (.cells #[u1] 22)) lo (w.heap.size + 1) (.slice (some ⟨w.heap.size, 0, none⟩) 1 1) [r1] := by
  have k1 := h1.keep (below1 w (.cells #[u1] 22)) hd
  refine ⟨_, _, rfl, by simp, by simp [maxLen], fun _ => ⟨w.heap.size, 0, fun i => u1, rfl, by omega, by omega, ⟨_, heap_alloc_new w _, fun i hi => ?_⟩, fun i hi => ?_, fun i j hij hj => ?_⟩⟩
  · match i, hi with
    | 0, _ => rfl
  · match i, hi with
    | 0, _ => exact k1.mono (by omega) (by omega)
  · simp at hj; omega
end Go.Proofs.Ytchkcjpahlimjaa
