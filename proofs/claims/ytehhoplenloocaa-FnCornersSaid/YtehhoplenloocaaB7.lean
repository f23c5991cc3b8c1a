/- B7: texts in one: MkT OwnT SerC SerS SerW. -/
import Derived.Test.YtehhoplenloocaaB6
import Derived.Test.YtehhoplenloocaaB2
import Derived.Deep.AppendLies
import Derived.Test.YtehhoplenloocaaB5
import Derived.Lib.SliceRun
import Derived.Test.YtehhoplenloocaaB4
/- Slices of terms are marked, and the marks are asked. -/
namespace Go.Proofs.Ytehhoplenloocaa
open Go.RowKit
set_option linter.unusedVariables false
set_option linter.unusedSimpArgs false

def mk1 (t : TermL) : Nat := 1 + t.2.1.length + totL t.2.2 t.2.2.length
def mtK (ts : List TermL) : Nat → Nat
  | 0 => 0
  | i + 1 => mtK ts i + mk1 (ts.getD i t0)
def mtT (ts : List TermL) : Nat := mtK ts ts.length
theorem mtK_mono (ts : List TermL) (i : Nat) : ∀ j, i ≤ j → mtK ts i ≤ mtK ts j
  | 0, h => by have : i = 0 := by omega
               subst this; exact Nat.le_refl _
  | j + 1, h => by
    by_cases e : i = j + 1
    · subst e; exact Nat.le_refl _
    · have := mtK_mono ts i j (by omega)
      rw [show mtK ts (j + 1) = mtK ts j + mk1 (ts.getD j t0) from rfl]; omega
def markT (t : TermL) (k : Int) : TermL := (k, markL t.2.1.length (k + 1), markLL t.2.2 (k + 1 + t.2.1.length))
def markTS (ts : List TermL) (k : Int) : List TermL := (List.range ts.length).map fun (i : Nat) => markT (ts.getD i t0) (k + mtK ts i)
theorem markTS_len (ts : List TermL) (k : Int) : (markTS ts k).length = ts.length := by simp [markTS]
theorem markTS_getD (ts : List TermL) (k : Int) (i : Nat) (h : i < ts.length) : (markTS ts k).getD i t0 = markT (ts.getD i t0) (k + mtK ts i) := by
  rw [List.getD_eq_getElem?_getD]; simp [markTS, h]
theorem tri_put0 (f0 f2 f3 : Nat → Value) (k : Nat) (x0 : Value) : ∀ j, (if j = k * 3 then x0 else trV f0 f2 f3 j) = trV (fun i => if i = k then x0 else f0 i) f2 f3 j := by
  intro j
  unfold trV
  by_cases e0 : j = k * 3
  · subst e0
    dsimp only
    rw [if_pos rfl, if_pos (by omega), if_pos (by omega)]
  · rw [if_neg e0]
    dsimp only
    by_cases h0 : j % 3 = 0
    · rw [if_pos h0, if_pos h0, if_neg (show ¬ j / 3 = k by omega)]
    · rw [if_neg h0, if_neg h0]


end Go.Proofs.Ytehhoplenloocaa

/- Slices of terms that grow by appending. -/
namespace Go.Proofs.Ytehhoplenloocaa
open Go.RowKit
set_option linter.unusedVariables false
set_option linter.unusedSimpArgs false

def cellsT (ts : List TermL) (V2 V3 : Nat → Value) (n : Nat) : List Value := (List.range n).flatMap fun i => [.int .i64 (ts.getD i t0).1, V2 i, V3 i]
theorem cellsT_succ (ts : List TermL) (V2 V3 : Nat → Value) (n : Nat) : cellsT ts V2 V3 (n + 1) = cellsT ts V2 V3 n ++ [.int .i64 (ts.getD n t0).1, V2 n, V3 n] := by
  unfold cellsT; rw [List.range_succ, List.flatMap_append]; simp
theorem cellsT_len (ts : List TermL) (V2 V3 : Nat → Value) : ∀ n, (cellsT ts V2 V3 n).length = n * 3
  | 0 => by simp [cellsT]
  | n + 1 => by rw [cellsT_succ, List.length_append, cellsT_len ts V2 V3 n]; simp; omega
theorem cellsT_get (ts : List TermL) (V2 V3 : Nat → Value) : ∀ n j, j < n * 3 → (cellsT ts V2 V3 n)[j]? = some (trV (fun i => .int .i64 (ts.getD i t0).1) V2 V3 j)
  | 0, j, h => by omega
  | n + 1, j, h => by
    rw [cellsT_succ]
    by_cases e : j < n * 3
    · rw [List.getElem?_append_left (by rw [cellsT_len]; exact e)]; exact cellsT_get ts V2 V3 n j e
    · rw [List.getElem?_append_right (by rw [cellsT_len]; omega), cellsT_len]
      have h3 : j = n * 3 ∨ j = n * 3 + 1 ∨ j = n * 3 + 2 := by omega
      rcases h3 with rfl | rfl | rfl
      · rw [trV_0]; simp
      · rw [trV_1, show n * 3 + 1 - n * 3 = 1 by omega]; rfl
      · rw [trV_2, show n * 3 + 2 - n * 3 = 2 by omega]; rfl
theorem cellsT_congr {ts ts' : List TermL} {V2 V3 V2' V3' : Nat → Value} : ∀ n, (∀ i, i < n → (ts.getD i t0).1 = (ts'.getD i t0).1 ∧ V2 i = V2' i ∧ V3 i = V3' i) → cellsT ts V2 V3 n = cellsT ts' V2' V3' n
  | 0, _ => rfl
  | n + 1, h => by
    rw [cellsT_succ, cellsT_succ, cellsT_congr n (fun i hi => h i (by omega))]
    obtain ⟨h1, h2, h3⟩ := h n (Nat.lt_succ_self _)
    rw [h1, h2, h3]
/-- a slice of terms of the call's own, its elements below m -/
def OwnTp (w : World) (B : Nat) (v : Value) (ts : List TermL) (V2 V3 : Nat → Value) (m : Nat) : Prop :=
  ∃ p q r : Nat → Nat, w.ownsRow B 50 3 v ts.length (cellsT ts V2 V3 ts.length) ∧ (∀ g, v.ownBlock = some g → g < m) ∧ m ≤ w.heap.size ∧
    (∀ i, i < ts.length → (B ≤ p i ∧ r i ≤ m) ∧ (∀ g, v.ownBlock = some g → g < p i ∨ r i ≤ g) ∧ TEl w (ts.getD i t0) (V2 i) (V3 i) (p i) (q i) (r i)) ∧ ∀ i j, i < j → j < ts.length → r i ≤ p j
theorem OwnTp.nil (w : World) (B : Nat) (V2 V3 : Nat → Value) (m : Nat) (hm : m ≤ w.heap.size) : OwnTp w B (.slice none 0 0) [] V2 V3 m :=
  ⟨fun _ => 0, fun _ => 0, fun _ => 0, ⟨by simp [cellsT], .inl ⟨rfl, rfl⟩⟩, fun g hg => by simp [Value.ownBlock] at hg, hm, fun i hi => absurd hi (Nat.not_lt_zero _), fun i j _ hj => absurd hj (Nat.not_lt_zero _)⟩
theorem OwnTp.lit0 (w : World) (B : Nat) (h : B ≤ w.heap.size) (V2 V3 : Nat → Value) : OwnTp (w.alloc (.cells #[] 50)) B (.slice (some ⟨w.heap.size, 0, none⟩) 0 0) [] V2 V3 (w.heap.size + 1) :=
  ⟨fun _ => 0, fun _ => 0, fun _ => 0, World.ownsRow_lit w #[] 0 h (by simp [maxLen]) rfl, fun g hg => by simp [Value.ownBlock] at hg; omega, by simp, fun i hi => absurd hi (Nat.not_lt_zero _), fun i j _ hj => absurd hj (Nat.not_lt_zero _)⟩
theorem OwnTp.keep {w w' : World} {B m : Nat} {v : Value} {ts : List TermL} {V2 V3 : Nat → Value} (h : OwnTp w B v ts V2 V3 m) (hb : Below m w w') : OwnTp w' B v ts V2 V3 m := by
  obtain ⟨p, q, r, h1, h2, h3, h4, h5⟩ := h
  refine ⟨p, q, r, ?_, h2, Nat.le_trans h3 hb.size, fun i hi => ⟨(h4 i hi).1, (h4 i hi).2.1, (h4 i hi).2.2.keep hb (h4 i hi).1.2⟩, h5⟩
  rcases h1.2 with ⟨rfl, h0⟩ | ⟨g, cap, cur, rfl, hg, hh, hn, hc, hs, ht⟩
  · exact ⟨h1.1, .inl ⟨rfl, h0⟩⟩
  · exact ⟨h1.1, .inr ⟨g, cap, cur, rfl, hg, (hb.block g (h2 g rfl)).trans hh, hn, hc, hs, ht⟩⟩
theorem OwnTp.push {w1 w2 : World} {B m g cap pn qn rn : Nat} {v v2 v3 : Value} {ts : List TermL} {t : TermL} {V2 V3 : Nat → Value} {o : Obj} (h : OwnTp w1 B v ts V2 V3 m) (hel : TEl w1 t v2 v3 pn qn rn) (hm : m ≤ pn) (hB : B ≤ pn) (hr : rn ≤ w1.heap.size)
    (hg : (w1.alloc o).grownBy w2 v.ownBlock) (hown : w2.ownsRow B 50 3 (.slice (some ⟨g, 0, none⟩) (ts.length + 1) cap) (ts.length + 1) (cellsT ts V2 V3 ts.length ++ [.int .i64 t.1, v2, v3])) (hat : v.ownBlock = some g ∨ g = w1.heap.size + 1) :
    ∃ V2' V3', OwnTp w2 B (.slice (some ⟨g, 0, none⟩) (ts.length + 1) cap) (ts ++ [t]) V2' V3' w2.heap.size := by
  obtain ⟨p, q, r, h1, h2, h3, h4, h5⟩ := h
  have hsz : w1.heap.size + 1 ≤ w2.heap.size := by have := hg.size; simpa using this
  have hpr : pn ≤ rn := Nat.le_trans hel.1 hel.2.1
  have hkeep : ∀ {t' : TermL} {a b : Value} {x y z : Nat}, TEl w1 t' a b x y z → z ≤ w1.heap.size → (∀ g', v.ownBlock = some g' → g' < x ∨ z ≤ g') → TEl w2 t' a b x y z := fun k hz hd => k.of_blocks fun c c1 c2 c3 => by
    rw [hg.block c (by simp; omega) (fun e => by have := hd c e.symm; omega), Below.heap_alloc _ _ _ c3]
  refine ⟨fun i => if i < ts.length then V2 i else v2, fun i => if i < ts.length then V3 i else v3, fun i => if i < ts.length then p i else pn, fun i => if i < ts.length then q i else qn, fun i => if i < ts.length then r i else rn, ?_, fun g' hg' => ?_, Nat.le_refl _, fun i hi => ?_, fun i j hij hj => ?_⟩
  · rw [List.length_append, List.length_singleton, cellsT_succ]
    have e1 : (ts ++ [t]).getD ts.length t0 = t := by rw [List.getD_eq_getElem?_getD]; simp
    rw [e1, if_neg (Nat.lt_irrefl _), if_neg (Nat.lt_irrefl _)]
    rw [cellsT_congr (ts := ts ++ [t]) (ts' := ts) (V2' := V2) (V3' := V3) ts.length fun i hi => ⟨by rw [List.getD_eq_getElem?_getD, List.getElem?_append_left hi, ← List.getD_eq_getElem?_getD], by rw [if_pos hi], by rw [if_pos hi]⟩]
    exact hown
  · simp [Value.ownBlock] at hg'
    have := World.ownsRow.lt hown g rfl
    omega
  · rw [List.length_append, List.length_singleton] at hi
    dsimp only
    by_cases e : i < ts.length
    · rw [if_pos e, if_pos e, if_pos e, if_pos e, if_pos e, List.getD_eq_getElem?_getD, List.getElem?_append_left e, ← List.getD_eq_getElem?_getD]
      obtain ⟨⟨a1, a2⟩, a3, a4⟩ := h4 i e
      refine ⟨⟨a1, by omega⟩, fun g' hg' => ?_, hkeep a4 (by omega) a3⟩
      simp [Value.ownBlock] at hg'
      subst hg'
      rcases hat with k | k
      · exact a3 _ k
      · right; omega
    · obtain rfl : i = ts.length := by omega
      rw [if_neg e, if_neg e, if_neg e, if_neg e, if_neg e, List.getD_eq_getElem?_getD, List.getElem?_append_right (Nat.le_refl _)]
      simp only [Nat.sub_self, List.getElem?_cons_zero, Option.getD_some]
      refine ⟨⟨hB, by omega⟩, fun g' hg' => ?_, hkeep hel hr fun g' hg' => .inl (by have := h2 g' hg'; omega)⟩
      simp [Value.ownBlock] at hg'
      subst hg'
      rcases hat with k | k
      · left; have := h2 _ k; omega
      · right; omega
  · rw [List.length_append, List.length_singleton] at hj
    dsimp only
    rw [if_pos (show i < ts.length by omega)]
    by_cases e : j < ts.length
    · rw [if_pos e]; exact h5 i j hij e
    · rw [if_neg e]; have := (h4 i (by omega)).1.2; omega
theorem OwnTp.is {w : World} {B m : Nat} {v : Value} {ts : List TermL} {V2 V3 : Nat → Value} (h : OwnTp w B v ts V2 V3 m) : TS w B w.heap.size v ts := by
  obtain ⟨p, q, r, h1, h2, h3, h4, h5⟩ := h
  rcases h1.2 with ⟨rfl, h0⟩ | ⟨g, cap, cur, rfl, hg, hh, hn, hc, hs, ht⟩
  · have : ts = [] := List.length_eq_zero_iff.1 h0
    subst this; exact TS.nil _ _ _
  · refine ⟨_, _, rfl, hn, hc, fun hl => ⟨g, 0, V2, V3, p, q, r, rfl, hg, World.ownsRow.lt h1 g rfl |>.2, ⟨cur, hh, fun i hi => ?_⟩, fun i hi => ?_, h5⟩⟩
    · rw [Nat.zero_add, ← Array.getElem?_toList]
      have e1 : (cur.toList.take (ts.length * 3))[i]? = (cellsT ts V2 V3 ts.length)[i]? := by rw [ht]
      rw [List.getElem?_take_of_lt hi] at e1
      rw [e1]; exact cellsT_get _ _ _ _ _ hi
    · obtain ⟨⟨a1, a2⟩, a3, a4⟩ := h4 i hi
      exact ⟨⟨a1, by omega⟩, a3 g rfl, a4⟩
theorem OwnTp.form {w : World} {B m : Nat} {v : Value} {ts : List TermL} {V2 V3 : Nat → Value} (h : OwnTp w B v ts V2 V3 m) : ∃ a c, v = .slice a ts.length c := by
  obtain ⟨p, q, r, h1, -⟩ := h
  rcases h1.2 with ⟨rfl, h0⟩ | ⟨g, cap, cur, rfl, -⟩
  · exact ⟨none, 0, by rw [h0]⟩
  · exact ⟨_, _, rfl⟩
theorem OwnTp.own {w : World} {B m : Nat} {v : Value} {ts : List TermL} {V2 V3 : Nat → Value} (h : OwnTp w B v ts V2 V3 m) : w.ownsRow B 50 3 v ts.length (cellsT ts V2 V3 ts.length) := let ⟨_, _, _, h1, _⟩ := h; h1
theorem OwnTp.le {w : World} {B m : Nat} {v : Value} {ts : List TermL} {V2 V3 : Nat → Value} (h : OwnTp w B v ts V2 V3 m) : m ≤ w.heap.size := let ⟨_, _, _, _, _, h3, _⟩ := h; h3
theorem OwnTp.blk {w : World} {B m : Nat} {v : Value} {ts : List TermL} {V2 V3 : Nat → Value} (h : OwnTp w B v ts V2 V3 m) : ∀ g, v.ownBlock = some g → B ≤ g ∧ g < m := fun g hg => ⟨(World.ownsRow.lt h.own g hg).1, let ⟨_, _, _, _, h2, _⟩ := h; h2 g hg⟩
theorem OwnTp.below {w w1 w2 : World} {B m B0 : Nat} {v : Value} {ts : List TermL} {V2 V3 : Nat → Value} (hbe : Below B0 w w1) (hB : B0 ≤ w1.heap.size) (o : Obj) (hg : (w1.alloc o).grownBy w2 v.ownBlock) (h : OwnTp w1 B v ts V2 V3 m) (hB0 : B0 ≤ B) : Below B0 w w2 :=
  (hbe.alloc hB o).grown hg (by simp; omega) fun k hk => Nat.le_trans hB0 (h.blk k hk).1
/-- literals of rows -/
theorem ISS.lit2 {w : World} {lo a b c d : Nat} {u1 u2 : Value} {r1 r2 : List Int} (h1 : IS w a b u1 r1) (h2 : IS w c d u2 r2) (ha : lo ≤ a) (hbc : b ≤ c) (hab : a ≤ b) (hd : d ≤ w.heap.size) (hcd : c ≤ d) : ISS (w.alloc (.cells #[u1, u2] 30)) lo (w.heap.size + 1) (.slice (some ⟨w.heap.size, 0, none⟩) 2 2) [r1, r2] := by
  have k1 := h1.keep (below1 w (.cells #[u1, u2] 30)) (by omega)
  have k2 := h2.keep (below1 w (.cells #[u1, u2] 30)) hd
  refine ⟨_, _, rfl, by simp, by simp [maxLen], fun _ => ⟨w.heap.size, 0, fun i => if i = 0 then u1 else u2, rfl, by omega, by omega, ⟨_, heap_alloc_new w _, fun i hi => ?_⟩, fun i hi => ?_, fun i j hij hj => ?_⟩⟩
  · match i, hi with
    | 0, _ => rfl
    | 1, _ => rfl
  · match i, hi with
    | 0, _ => exact k1.mono (by omega) (by omega)
    | 1, _ => exact k2.mono (by omega) (by omega)
  · have hj2 : j < 2 := hj
    obtain rfl : i = 0 := by omega
    obtain rfl : j = 1 := by omega
    exact IS.disj h1 h2 (.inl hbc)
theorem ISS.lit1 {w : World} {lo a b : Nat} {u1 : Value} {r1 : List Int} (h1 : IS w a b u1 r1) (ha : lo ≤ a) (hab : a ≤ b) (hd : b ≤ w.heap.size) : ISS (w.alloc (.cells #[u1] 30)) lo (w.heap.size + 1) (.slice (some ⟨w.heap.size, 0, none⟩) 1 1) [r1] := by
  have k1 := h1.keep (below1 w (.cells #[u1] 30)) hd
  refine ⟨_, _, rfl, by simp, by simp [maxLen], fun _ => ⟨w.heap.size, 0, fun i => u1, rfl, by omega, by omega, ⟨_, heap_alloc_new w _, fun i hi => ?_⟩, fun i hi => ?_, fun i j hij hj => ?_⟩⟩
  · match i, hi with
    | 0, _ => rfl
  · match i, hi with
    | 0, _ => exact k1.mono (by omega) (by omega)
  · simp at hj; omega
end Go.Proofs.Ytehhoplenloocaa

/- The series of a cone: the program's walk. -/
namespace Go.Proofs.Ytehhoplenloocaa
open Go.RowKit
set_option linter.unusedVariables false
set_option linter.unusedSimpArgs false

def posT (L : List (List Int)) (sh : List Int) (k : Nat) : TermL := (1, sh, [L.getD k [], L.getD (k + 1) []])
def negT (L : List (List Int)) (sh : List Int) (k : Nat) : TermL := (-1, sh, [L.getD (k + 1) []])
def serL (L : List (List Int)) (sh : List Int) : List TermL := (List.range (L.length - 1)).map (posT L sh) ++ (List.range (L.length - 2)).map (negT L sh)
def serOk (L : List (List Int)) (sh : List Int) : Bool := decide (L ≠ []) && (vecB sh && (decide (sh.length = 2) && decide (L.length ≤ 31)))
def serC (U V sh : List Int) : List TermL × Bool := if serOk (splitC U V) sh then (serL (splitC U V) sh, true) else ([], false)
theorem serC_no {U V sh : List Int} (h : serOk (splitC U V) sh = false) : serC U V sh = ([], false) := by unfold serC; rw [h]; rfl
theorem serC_yes {U V sh : List Int} (h : serOk (splitC U V) sh = true) : serC U V sh = (serL (splitC U V) sh, true) := by unfold serC; rw [h]; rfl
theorem splitC_two {U V : List Int} (h : splitC U V ≠ []) : 2 ≤ (splitC U V).length := by
  cases hc : coneB U V
  · exact absurd (by unfold splitC; rw [hc]; rfl) h
  · obtain ⟨x, y, p, q, rfl, rfl, bx, bY, bp, bq, hg, hg2, hd⟩ := cone_parts hc
    have e : splitC [x, y] [p, q] = splitP p q (x * q - y * p).toNat x y := by unfold splitC; rw [hc]; simp [crossI]
    rw [e]
    obtain ⟨k, hk⟩ : ∃ k, (x * q - y * p).toNat = k + 1 := ⟨(x * q - y * p).toNat - 1, by omega⟩
    rw [hk, splitP_succ p q k (by omega)]
    have hs : Spl p q x y (k + 1) := ⟨bx, bY, hg, by omega, by omega⟩
    obtain ⟨k', hk', hn⟩ := hs.next bp bq (by omega)
    obtain rfl : k' = k := by omega
    have := (splitP_all bp bq _ _ _ hn).2.2
    simp; omega

set_option maxRecDepth 100000 in
set_option maxHeartbeats 8000000 in
theorem implSeriesOfCone_any (U V sh : List Int) (v1 v2 vs : Value) (hb : Nat) (w : World) (i1 : ISr w hb v1 U) (i2 : ISr w hb v2 V) (i3 : ISr w hb vs sh) (hhb : hb ≤ w.heap.size) :
    Calls Try.prog 108 #[.agg #[v1, v2], vs] w fun e w' => ∃ u, e = .returned (.tuple #[u, .bool (serC U V sh).2]) ∧ TS w' w.heap.size w'.heap.size u (serC U V sh).1 ∧ Below w.heap.size w w' := by
  have HB0 := Lib.hid (below1 w (.cells #[v1, v2] 62))
  have C0 := implSplitCone_any U V v1 v2 hb _ (i1.keep HB0.out hhb) (i2.keep HB0.out hhb) (by have := HB0.out.size; omega)
  obtain ⟨hall, hlen⟩ := splitC_all U V
  have HR := Lib.hid hall.row
  have HTWO := Lib.hid (splitC_two (U := U) (V := V))
  have HNO := Lib.hid (serC_no (U := U) (V := V) (sh := sh))
  have HYES := Lib.hid (serC_yes (U := U) (V := V) (sh := sh))
  have HEN := fun W n c => Lib.run_eql_slice_nil (P := Try.prog) W 24 30 none n c 0 0 Try.underlying24
  have HEQ := fun W a n c => Lib.run_eql_slice_nil (P := Try.prog) W 24 30 (some a) n c 0 0 Try.underlying24
  simp only [Option.isNone_none, Option.isNone_some] at HEN HEQ
  generalize serC U V sh = RES at *
  generalize splitC U V = L at *
  have HI3 := Lib.hid i3
  obtain ⟨a1, c1, rfl, -⟩ := id i1
  obtain ⟨a2, c2, rfl, -⟩ := id i2
  obtain ⟨a3, c3, rfl, -⟩ := id i3
  clear i1 i2 i3 hall
  go_enter Try.func108, Try.ntmps108
  go_wp2_with fail
  refine C0.mono ?_
  rintro e w2 ⟨u2, rfl, hown, hnil, b2⟩
  have HB2 := Lib.hid (below_then HB0.out HB0.out.size b2)
  have HIS := Lib.hid hown.is.read
  by_cases hL : L = []
  · obtain rfl := hnil hL
    have hr := HNO.out (by unfold serOk; rw [decide_eq_false (by simpa using hL)]; rfl)
    have HRS := Lib.hid hr
    clear hown hnil hr b2 C0
    go_wp2
    go_ret2
    exact ⟨.slice none 0 0, by rw [HRS.out]; rfl, by rw [HRS.out]; exact TS.nil _ _ _, HB2.out⟩
  have hn2 := HTWO.out hL
  rcases hown.is.read.cases with ⟨e, -⟩ | ⟨-, -, b, off, cap, Vf, rfl, hbb, hcc⟩
  · exact absurd e hL
  have HCC := Lib.hid hcc
  clear hown hnil b2 C0 hcc
  have CV := implIsVector_any sh _ hb w2 (HI3.out.keep HB2.out hhb)
  have HLEN := Lib.hid hlen
  obtain ⟨n, hn⟩ : ∃ n, n = L.length := ⟨_, rfl⟩
  rw [← hn] at hn2 HCC HIS hlen ⊢
  have HN := Lib.hid hn
  clear hn
  have SOK := Lib.hid (show serOk L sh = (vecB sh && (decide (sh.length = 2) && decide (L.length ≤ 31))) by unfold serOk; rw [decide_eq_true (by simpa using hL)]; rfl)
  go_wp2_with fail
  cases hv : vecB sh
  · rw [hv] at CV
    refine CV.mono ?_
    rintro e w3 ⟨rfl, d3, hw3⟩
    have HB3 := Lib.hid (HB2.out.trans (hw3 ▸ below_draws w.heap.size w2 d3))
    have HRS := Lib.hid (HNO.out (by rw [SOK.out, hv]; rfl))
    clear hw3 CV hv
    go_wp2
    go_ret2
    exact ⟨.slice none 0 0, by rw [HRS.out]; rfl, by rw [HRS.out]; exact TS.nil _ _ _, HB3.out⟩
  rw [hv] at CV
  refine CV.mono ?_
  rintro e w3 ⟨rfl, d3, hw3⟩
  have c3 : Below w2.heap.size w2 w3 := hw3 ▸ below_draws _ _ _
  have HZ3 := Lib.hid (show w3.heap.size = w2.heap.size by rw [hw3]; rfl)
  have HB3 := Lib.hid (below_then HB2.out HB2.out.size c3)
  have HC3 := Lib.hid (show ∀ i, i < n → w3.cell? ⟨b, off + i, none⟩ = some (Vf i) ∧ ISr w3 w2.heap.size (Vf i) (L.getD i []) from fun i hi => ⟨(c3.cell (p := ⟨b, off + i, none⟩) hbb).trans (HCC.out i hi).1, (HCC.out i hi).2.keep c3 (Nat.le_refl _)⟩)
  have HX3 := Lib.hid (HI3.out.keep HB3.out hhb)
  have HMC := Lib.hid (show n ≤ cap ∧ cap ≤ maxLen from by
    obtain ⟨x, y, hxy, h1, h2, -⟩ := HIS.out
    injection hxy with e1 e2 e3
    subst e3
    exact ⟨by rw [HN.out]; exact h1, h2⟩)
  clear hw3 CV c3 HCC HIS
  by_cases hs2 : sh.length = 2
  case neg =>
    have hne : ((sh.length : Int) != 2) = true := by rw [bne_iff_ne]; omega
    have HRS := Lib.hid (HNO.out (by rw [SOK.out, decide_eq_false hs2, Bool.false_and, Bool.and_false]))
    clear hv
    generalize sh.length = ls at *
    clear hs2
    go_wp2
    go_ret2
    exact ⟨.slice none 0 0, by rw [HRS.out]; rfl, by rw [HRS.out]; exact TS.nil _ _ _, HB3.out⟩
  by_cases hn31 : n ≤ 31
  case neg =>
    have HRS := Lib.hid (HNO.out (by rw [SOK.out, ← HN.out, decide_eq_false hn31, Bool.and_false, Bool.and_false]))
    have hgt : (60 : Int) < 2 * (n : Int) - 3 := by omega
    have hw1 := wr64 (2 * (n : Int)) (by omega)
    have hw2 := wr64 (2 * (n : Int) - 3) (by omega)
    have hne : ((sh.length : Int) != 2) = false := by rw [hs2]; rfl
    clear hv hs2
    generalize sh.length = ls at *
    go_wp2
    go_ret2
    exact ⟨.slice none 0 0, by rw [HRS.out]; rfl, by rw [HRS.out]; exact TS.nil _ _ _, HB3.out⟩
  have HRS := Lib.hid (HYES.out (by rw [SOK.out, hv, ← HN.out, decide_eq_true hs2, decide_eq_true hn31]; rfl))
  have hgt : ¬ (60 : Int) < 2 * (n : Int) - 3 := by omega
  have hw1 := wr64 (2 * (n : Int)) (by omega)
  have hw2 := wr64 (2 * (n : Int) - 3) (by omega)
  have hne : ((sh.length : Int) != 2) = false := by rw [hs2]; rfl
  have HS2 := Lib.hid hs2
  clear hv hs2 SOK HNO HYES HTWO
  have hs63 : sh.length ≤ 1000 := by rw [HS2.out]; omega
  obtain ⟨ls, hls⟩ : ∃ ls, ls = sh.length := ⟨_, rfl⟩
  rw [← hls] at hne
  have HLS := Lib.hid hls
  rw [← hls] at hs63
  have CS := fun W (B : Below w3.heap.size w3 W) => copyInts_any sh (.slice a3 ls c3) hb W (by have := HX3.out.keep B (by rw [HZ3.out]; have := HB2.out.size; omega); rw [HLS.out]; exact this) (by rw [← HLS.out]; omega)
  rw [← hls]
  clear hls
  go_wp2
  clear HEN HEQ
  clear hgt hw1 hw2 hne
  obtain ⟨i0, hi0, hz0, hz1, hz2⟩ := info_parts info_term
  have HI0 := Lib.hid hi0; clear hi0
  have HJ0 := Lib.hid hz0; clear hz0
  have HJ1 := Lib.hid hz1; clear hz1
  have HJ2 := Lib.hid hz2; clear hz2
  have HRL := Lib.hid (show ∀ i, i < n → (L.getD i []).length ≤ 1000000 from fun i hi => by
    obtain ⟨x, y, e, -⟩ := HR.out i (by rw [← HN.out]; exact hi)
    rw [e]; simp)
  have CR := fun i (hi : i < n) W (B : Below w3.heap.size w3 W) => copyInts_any (L.getD i []) (Vf i) w3.heap.size W (((HC3.out i hi).2.upto (by rw [HZ3.out]; exact Nat.le_refl _)).keep B (Nat.le_refl _)) (HRL.out i hi)
  have HCW := Lib.hid (show ∀ i, i < n → ∀ W, Below w3.heap.size w3 W → W.cell? ⟨b, off + i, none⟩ = some (Vf i) from fun i hi W B => (B.cell (p := ⟨b, off + i, none⟩) (by rw [HZ3.out]; exact hbb)).trans (HC3.out i hi).1)
  go_loopw [7, 8] (fun ov kv wr => ∃ (j : Nat) (acc : List TermL) (V2 V3 : Nat → Value) (m : Nat), j + 1 ≤ n ∧ kv = .int .i64 ((j : Int) + 1) ∧ acc.length ≤ j ∧ Hid (acc = (List.range j).map (posT L sh)) ∧ Hid (OwnTp wr w3.heap.size ov acc V2 V3 m) ∧ Hid (Below w3.heap.size w3 wr)) (fun _ kv _ => n - (intOf kv).toNat)
  case atStart => exact ⟨0, [], fun _ => .slice none 0 0, fun _ => .slice none 0 0, w3.heap.size, by omega, rfl, Nat.le_refl _, Lib.hid rfl, OwnTp.nil _ _ _ _ _ (Nat.le_refl _), Below.refl _ _⟩
  case round =>
    obtain ⟨j, acc, V2, V3, m, hj, rfl, hal, hacc, hown, hbe⟩ := hrel
    by_cases hlt : j + 1 < n
    · have hbs := hbe.out.size
      have hc0 := HCW.out j (by omega) wr hbe.out
      have hc1 := HCW.out (j + 1) hlt wr hbe.out
      have HE := Lib.hid (range_snoc (posT L sh) j)
      rw [← hacc.out, show posT L sh j = (1, sh, [L.getD j [], L.getD (j + 1) []]) from rfl] at HE
      have Bd : Below w3.heap.size w3 wr.drew := hbe.out.trans (below_draws _ wr 1)
      have CA := CR j (by omega)
      have CB := CR (j + 1) hlt
      have HCW0 := Lib.hid (HCW.out j (by omega))
      have HCW1 := Lib.hid (HCW.out (j + 1) hlt)
      have CS1 := CS
      clear CR CS
      generalize Vf j = x0 at *
      generalize Vf (j + 1) = x1 at *
      generalize L.getD j [] = r0 at *
      generalize L.getD (j + 1) [] = r1 at *
      have hi1 : (0 : Int) ≤ (j : Int) := by omega
      have hi2 : (j : Int) < (n : Int) := by omega
      have hi3 : (j : Int) + 1 < (n : Int) := by omega
      have hi4 : (0 : Int) ≤ (j : Int) + 1 := by omega
      have hto1 : ((j : Int) + 1).toNat = j + 1 := by omega
      have hw1 := wr64 (j : Int) (by omega)
      go_wp2_with fail
      go_region_held3 (fun w' => w'.cell? ⟨b, off + j, none⟩ = some x0 ∧ w'.cell? ⟨b, off + (j + 1), none⟩ = some x1)
        (first | exact ⟨hc0, hc1⟩ | exact ⟨p9, q9⟩ | exact ⟨p5, q5⟩ | exact ⟨p4, q4⟩ | exact ⟨p3, q3⟩ | go_keep)
        (first
          | (go_at_call 82; (with_reducible refine (CB _ B4).mono ?_); rintro e w6 ⟨u6, rfl, o6, b6⟩; have B5 := below_then B4 B4.size b6; have p5 := HCW0.out _ B5; have q5 := HCW1.out _ B5; obtain ⟨a6, e6, rfl⟩ := o6.form; have K6 := o6.is; have G6 := below_then G5 G5.size b6; have HPT6 := hown.out.keep (G6.mono hown.out.le); have G7 := below1 w6 (.cells #[.slice a5 r0.length e5, .slice a6 r1.length e6] 30); have HPT7 := HPT6.keep (G7.mono (Nat.le_trans hown.out.le G6.size)); have HN6 := heap_alloc_new (w6.alloc (.cells #[.slice a5 r0.length e5, .slice a6 r1.length e6] 30)) (.cells #[.int .i64 1, .slice a4 sh.length e4, .slice (some ⟨w6.heap.size, 0, none⟩) 2 2] 50); rw [World.size_alloc] at HN6)
          | (go_at_call 82; (with_reducible refine (CA _ B3).mono ?_); rintro e w5 ⟨u5, rfl, o5, b5⟩; have B4 := below_then B3 B3.size b5; have p4 := HCW0.out _ B4; have q4 := HCW1.out _ B4; obtain ⟨a5, e5, rfl⟩ := o5.form; have K5 := o5.is; have G5 := below_then G4 G4.size b5)
          | (go_at_call 82; (with_reducible refine (CS1 _ Bd).mono ?_); rintro e w4 ⟨u4, rfl, o4, b4⟩; have B3 := below_then Bd Bd.size b4; have p3 := HCW0.out _ B3; have q3 := HCW1.out _ B3; obtain ⟨a4, e4, rfl⟩ := o4.form; have K4 := o4.is; have G4 : Below wr.heap.size wr w4 := (below_draws _ wr 1).trans b4)
          | (refine step_append_lies _ (by rfl) _ _ _ (by rfl) w3.heap.size 50 i0 _ 3 56 Try.underlying46 HI0.out HJ0.out HJ1.out HJ2.out rfl (by omega) u7 acc.length _ (by rfl) (World.ownsRow.alloc HPT7.own _) ⟨w6.heap.size + 1, 0, none⟩ 1 1 [.int .i64 1, .slice a4 sh.length e4, .slice (some ⟨w6.heap.size, 0, none⟩) 2 2] (by rfl) (by rfl) (World.news_of_block HN6) (by simp [Value.oneCell']) (by omega) (by unfold maxLen; omega) (by omega) (by simp; have := B5.size; omega) (w6.heap.size + 1 + 1) (by simp) ?_; intro gg cg w1 hown1 hgrow hat hlt9; have B9 := OwnTp.below (B5.trans (G7.mono B5.size)) (by simp; have := B5.size; omega) _ hgrow HPT7 (Nat.le_refl _); have p9 := HCW0.out _ B9; have q9 := HCW1.out _ B9))
      have K4' : IS (w6.alloc (.cells #[.slice a5 r0.length e5, .slice a6 r1.length e6] 30)) wr.heap.size w4.heap.size (.slice a4 sh.length e4) sh := ((K4.keep b5 (Nat.le_refl _)).keep b6 b5.size).keep G7 (Nat.le_trans b5.size b6.size)
      have GL := ISS.lit2 (lo := w4.heap.size) (K5.keep b6 (Nat.le_refl _)) K6 (Nat.le_refl _) (Nat.le_refl _) b5.size (Nat.le_refl _) b6.size
      have hel : TEl (w6.alloc (.cells #[.slice a5 r0.length e5, .slice a6 r1.length e6] 30)) (1, sh, [r0, r1]) (.slice a4 sh.length e4) (.slice (some ⟨w6.heap.size, 0, none⟩) 2 2) wr.heap.size w4.heap.size (w6.heap.size + 1) := ⟨G4.size, by have := b5.size; have := b6.size; omega, by simp, K4', GL⟩
      obtain ⟨V2', V3', hnew⟩ := OwnTp.push HPT7 hel hown.out.le hbs (by simp) hgrow hown1 (by simpa using hat)
      have HNEW := Lib.hid hnew
      have HB9 := Lib.hid B9
      clear hnew hel GL K4' hgrow hown1 hat hlt9 HN6 HPT7 HPT6 G7 G6 G5 G4 K4 K5 K6 o4 o5 o6 b4 b5 b6 B3 B4 B5 B9 p3 q3 p4 q4 p5 q5 p9 q9 CA CB hc0 hc1 hw1 CS1 Bd
      go_wp2
      go_roundw
      case rel => exact ⟨j + 1, _, V2', V3', _, by omega, by go_num, by simp; omega, HE, HNEW, HB9⟩
      case measure => simp [intOf]; omega
    · have hjn : n = j + 1 := by omega
      have hcap1 : ¬ cap = 1 := by have := HMC.out.1; omega
      have hcc1 : (1 : Int) ≤ (n : Int) - 1 := by omega
      have hmc := HMC.out.1
      have hmm := HMC.out.2
      unfold maxLen at hmm
      have hjc : (n : Int) - 1 ≤ (cap : Int) := by omega
      have hj1 : ((n : Int) - 1).toNat = n - 1 := by omega
      have hw3j := wr64 ((n : Int) - 1) (by omega)
      have hdec : ¬ ((j : Int) + 1 < (n : Int)) := by omega
      have HJN := Lib.hid hjn
      clear hjn
      go_wp2
      obtain ⟨q, hq⟩ : ∃ q, q = n - 1 - 1 := ⟨_, rfl⟩
      rw [← hq]
      have HQ1 := Lib.hid (show q + 1 = j by have := HJN.out; omega)
      have HACC := Lib.hid hacc.out
      have hjq : j ≤ 31 := by omega
      have hq30 : q ≤ 30 := by omega
      clear hq hj1 hw3j hjc hcc1 hcap1 hmc hmm hacc hdec
      go_loopw [7, 62] (fun ov kv wr => ∃ (k : Nat) (acc : List TermL) (V2 V3 : Nat → Value) (m : Nat), k ≤ q ∧ kv = .int .i64 k ∧ acc.length ≤ 31 + k ∧ Hid (acc = (List.range j).map (posT L sh) ++ (List.range k).map (negT L sh)) ∧ Hid (OwnTp wr w3.heap.size ov acc V2 V3 m) ∧ Hid (Below w3.heap.size w3 wr)) (fun _ kv _ => q - (intOf kv).toNat)
      case atStart => exact ⟨0, acc, V2, V3, m, by omega, rfl, by omega, Lib.hid (by rw [HACC.out]; simp), hown, hbe⟩
      case round =>
        clear hown hbe hal HACC
        obtain ⟨k, acc, V2, V3, m, hk, rfl, hal, hacc, hown, hbe⟩ := hrel
        by_cases hlt : k < q
        · have hbs := hbe.out.size
          have hc0 : wr.cell? ⟨b, off + 1 + k, none⟩ = some (Vf (k + 1)) := by
            have := HCW.out (k + 1) (by have := HQ1.out; have := HJN.out; omega) wr hbe.out
            rw [show off + 1 + k = off + (k + 1) by omega]; exact this
          have HE := Lib.hid (show acc ++ [negT L sh k] = (List.range j).map (posT L sh) ++ (List.range (k + 1)).map (negT L sh) by
            rw [hacc.out, List.append_assoc, range_snoc (negT L sh) k])
          rw [show negT L sh k = (-1, sh, [L.getD (k + 1) []]) from rfl] at HE
          have CA := CR (k + 1) (by have := HQ1.out; have := HJN.out; omega)
          have CS1 := CS
          clear CR CS
          generalize Vf (k + 1) = x0 at *
          generalize L.getD (k + 1) [] = r0 at *
          go_wp2_with fail
          refine (CS1 _ hbe.out).mono ?_
          rintro e w4 ⟨u4, rfl, o4, b4⟩
          have B4 := Lib.hid (below_then hbe.out hbs b4)
          obtain ⟨a4, e4, rfl⟩ := o4.form
          have K4 := Lib.hid o4.is
          have HPT4 := Lib.hid (hown.out.keep (b4.mono hown.out.le))
          have HS4 := Lib.hid b4.size
          clear o4 b4
          go_wp2_with fail
          refine (CA _ B4.out).mono ?_
          rintro e w5 ⟨u5, rfl, o5, b5⟩
          have B5 := Lib.hid (below_then B4.out B4.out.size b5)
          obtain ⟨a5, e5, rfl⟩ := o5.form
          have K5 := Lib.hid o5.is
          have HPT5 := Lib.hid (HPT4.out.keep (b5.mono HPT4.out.le))
          have HS5 := Lib.hid b5.size
          have K4' := Lib.hid (K4.out.keep b5 (Nat.le_refl _))
          clear o5 b5 hc0
          have G7 := Lib.hid (below1 w5 (.cells #[.slice a5 r0.length e5] 30))
          have HPT7 := Lib.hid (HPT5.out.keep (G7.out.mono HPT5.out.le))
          have HN6 := Lib.hid (heap_alloc_new (w5.alloc (.cells #[.slice a5 r0.length e5] 30)) (.cells #[.int .i64 (-1), .slice a4 sh.length e4, .slice (some ⟨w5.heap.size, 0, none⟩) 1 1] 50))
          rw [World.size_alloc] at HN6
          go_wp2_with (at_builtin; refine wpList_append_lies _ rfl _ _ _ rfl w3.heap.size 50 i0 _ 3 56 Try.underlying46 HI0.out HJ0.out HJ1.out HJ2.out rfl (by omega) _ acc.length _ rfl (World.ownsRow.alloc HPT7.out.own _) ⟨w5.heap.size + 1, 0, none⟩ 1 1 [.int .i64 (-1), .slice a4 sh.length e4, .slice (some ⟨w5.heap.size, 0, none⟩) 1 1] rfl rfl (World.news_of_block HN6.out) (by simp [Value.oneCell']) (by omega) (by unfold maxLen; omega) (by omega) (by simp; have := B5.out.size; omega) (w5.heap.size + 1 + 1) (by simp) ?_)
          intro gg cg w1 hown1 hgrow hat hlt9
          have GL := ISS.lit1 (lo := w4.heap.size) K5.out (Nat.le_refl _) HS5.out (Nat.le_refl _)
          have hel : TEl (w5.alloc (.cells #[.slice a5 r0.length e5] 30)) (-1, sh, [r0]) (.slice a4 sh.length e4) (.slice (some ⟨w5.heap.size, 0, none⟩) 1 1) wr.heap.size w4.heap.size (w5.heap.size + 1) := ⟨HS4.out, by have := HS5.out; omega, by simp, K4'.out.keep G7.out HS5.out, GL⟩
          obtain ⟨V2', V3', hnew⟩ := OwnTp.push HPT7.out hel hown.out.le hbs (by simp) hgrow hown1 (by simpa using hat)
          have HNEW := Lib.hid hnew
          have HB9 := Lib.hid (OwnTp.below (B5.out.trans (G7.out.mono B5.out.size)) (by simp; have := B5.out.size; omega) _ hgrow HPT7.out (Nat.le_refl _))
          clear hnew hel GL hgrow hown1 hat hlt9
          go_wp2
          go_roundw
          case rel =>
            exact ⟨k + 1, _, V2', V3', _, by omega, by go_num, by simp; omega, HE, HNEW, HB9⟩
          case measure => simp [intOf]; omega
        · obtain rfl : k = q := by omega
          have HFIN := Lib.hid (show RES = (acc, true) by
            rw [HRS.out, hacc.out]
            unfold serL
            rw [← HN.out, show n - 1 = j by have := HJN.out; omega, show n - 2 = k by have := HQ1.out; have := HJN.out; omega])
          go_wp2
          go_ret2
          exact ⟨_, by rw [HFIN.out]; rfl, by rw [HFIN.out]; exact hown.out.is.mono HB3.out.size (Nat.le_refl _), HB3.out.trans (hbe.out.mono HB3.out.size)⟩
end Go.Proofs.Ytehhoplenloocaa

/- The series of a cone: the model's walk. -/
namespace Go.Proofs.Ytehhoplenloocaa
open Go.RowKit
set_option linter.unusedVariables false
set_option linter.unusedSimpArgs false

theorem TS.empty (w : World) (lo hi : Nat) (a : Option Addr) (cap : Nat) (h : cap ≤ maxLen) : TS w lo hi (.slice a 0 cap) [] := ⟨a, cap, rfl, Nat.zero_le _, h, fun h => absurd rfl h⟩
/-- a part of a slice of rows -/
theorem rows_part {w : World} {hi b off n cap : Nat} {ls : List (List Int)} {Vf : Nat → Value} (h : ∀ i, i < n → w.cell? ⟨b, off + i, none⟩ = some (Vf i) ∧ ISr w hi (Vf i) (ls.getD i [])) (hb : b < hi) (hc : cap ≤ maxLen) {j m : Nat} (hjm : j + m ≤ n) (hn : n ≤ cap) :
    ISSr w hi (.slice (some ⟨b, off + j, none⟩) m (cap - j)) ((List.range m).map fun i => ls.getD (j + i) []) := by
  refine ⟨some ⟨b, off + j, none⟩, cap - j, by simp, by simp; omega, by omega, fun _ => ⟨b, off + j, fun i => Vf (j + i), rfl, hb, fun i hi' => ?_⟩⟩
  have hi2 : i < m := by simpa using hi'
  obtain ⟨h1, h2⟩ := h (j + i) (by omega)
  rw [Nat.add_assoc]
  refine ⟨h1, ?_⟩
  rw [List.getD_eq_getElem?_getD]
  simpa [hi2] using h2

theorem OwnTp.down {w : World} {B B' m : Nat} {v : Value} {ts : List TermL} {V2 V3 : Nat → Value} (h : OwnTp w B v ts V2 V3 m) (hb : B' ≤ B) : OwnTp w B' v ts V2 V3 m := by
  obtain ⟨p, q, r, h1, h2, h3, h4, h5⟩ := h
  refine ⟨p, q, r, ?_, h2, h3, fun i hi => ⟨⟨Nat.le_trans hb (h4 i hi).1.1, (h4 i hi).1.2⟩, (h4 i hi).2⟩, h5⟩
  rcases h1.2 with ⟨rfl, h0⟩ | ⟨g, cap, cur, rfl, hg, hr⟩
  · exact ⟨h1.1, .inl ⟨rfl, h0⟩⟩
  · exact ⟨h1.1, .inr ⟨g, cap, cur, rfl, Nat.le_trans hb hg, hr⟩⟩
set_option maxRecDepth 100000 in
set_option maxHeartbeats 8000000 in
theorem specSeriesOfCone_own (U V sh : List Int) (v1 v2 vs : Value) (hb : Nat) (w : World) (i1 : ISr w hb v1 U) (i2 : ISr w hb v2 V) (i3 : ISr w hb vs sh) (hhb : hb ≤ w.heap.size) :
    Calls Try.prog 109 #[.agg #[v1, v2], vs] w fun e w' => ∃ u, e = .returned (.tuple #[u, .bool (serC U V sh).2]) ∧ (∃ V2 V3 m, OwnTp w' w.heap.size u (serC U V sh).1 V2 V3 m) ∧ Below w.heap.size w w' := by
  have HB0 := Lib.hid (below1 w (.cells #[v1, v2] 62))
  have C0 := specSplitCone_any U V v1 v2 hb _ (i1.keep HB0.out hhb) (i2.keep HB0.out hhb) (by have := HB0.out.size; omega)
  obtain ⟨hall, hlen⟩ := splitC_all U V
  have HR := Lib.hid hall.row
  have HTWO := Lib.hid (splitC_two (U := U) (V := V))
  have HNO := Lib.hid (serC_no (U := U) (V := V) (sh := sh))
  have HYES := Lib.hid (serC_yes (U := U) (V := V) (sh := sh))
  generalize serC U V sh = RES at *
  generalize splitC U V = L at *
  have HI3 := Lib.hid i3
  obtain ⟨a1, c1, rfl, -⟩ := id i1
  obtain ⟨a2, c2, rfl, -⟩ := id i2
  obtain ⟨a3, c3, rfl, -⟩ := id i3
  clear i1 i2 i3 hall
  go_enter Try.func109, Try.ntmps109
  go_wp2_with fail
  refine C0.mono ?_
  rintro e w2 ⟨u2, rfl, hown, b2⟩
  have HB2 := Lib.hid (below_then HB0.out HB0.out.size b2)
  have HIS := Lib.hid hown.is.read
  by_cases hL : L = []
  · subst hL
    obtain ⟨a0, c0, rfl⟩ := hown.form
    have hr := HNO.out (by unfold serOk; rw [decide_eq_false (by simp)]; rfl)
    have HRS := Lib.hid hr
    clear hown hr b2 C0
    go_wp2
    go_ret2
    exact ⟨.slice (some ⟨w2.heap.size, 0, none⟩) 0 0, by rw [HRS.out]; rfl, by rw [HRS.out]; exact ⟨fun _ => .slice none 0 0, fun _ => .slice none 0 0, _, OwnTp.lit0 w2 w.heap.size HB2.out.size _ _⟩, HB2.out.trans ((below1 w2 _).mono HB2.out.size)⟩
  have hn2 := HTWO.out hL
  rcases hown.is.read.cases with ⟨e, -⟩ | ⟨-, -, b, off, cap, Vf, rfl, hbb, hcc⟩
  · exact absurd e hL
  have HCC := Lib.hid hcc
  clear hown b2 C0 hcc
  have CV := specIsVector_any sh _ hb w2 (HI3.out.keep HB2.out hhb)
  have HLEN := Lib.hid hlen
  obtain ⟨n, hn⟩ : ∃ n, n = L.length := ⟨_, rfl⟩
  rw [← hn] at hn2 HCC HIS hlen ⊢
  have HN := Lib.hid hn
  clear hn
  have hn0 : ((n : Int) == 0) = false := by rw [beq_eq_false_iff_ne]; omega
  have SOK := Lib.hid (show serOk L sh = (vecB sh && (decide (sh.length = 2) && decide (L.length ≤ 31))) by unfold serOk; rw [decide_eq_true (by simpa using hL)]; rfl)
  go_wp2_with fail
  cases hv : vecB sh
  · rw [hv] at CV
    refine CV.mono ?_
    rintro e w3 ⟨rfl, d3, hw3⟩
    have HB3 := Lib.hid (HB2.out.trans (hw3 ▸ below_draws w.heap.size w2 d3))
    have HRS := Lib.hid (HNO.out (by rw [SOK.out, hv]; rfl))
    clear hw3 CV hv
    go_wp2
    go_ret2
    exact ⟨.slice (some ⟨w3.heap.size, 0, none⟩) 0 0, by rw [HRS.out]; rfl, by rw [HRS.out]; exact ⟨fun _ => .slice none 0 0, fun _ => .slice none 0 0, _, OwnTp.lit0 w3 w.heap.size HB3.out.size _ _⟩, HB3.out.trans ((below1 w3 _).mono HB3.out.size)⟩
  rw [hv] at CV
  refine CV.mono ?_
  rintro e w3 ⟨rfl, d3, hw3⟩
  have c3 : Below w2.heap.size w2 w3 := hw3 ▸ below_draws _ _ _
  have HZ3 := Lib.hid (show w3.heap.size = w2.heap.size by rw [hw3]; rfl)
  have HB3 := Lib.hid (below_then HB2.out HB2.out.size c3)
  have HC3 := Lib.hid (show ∀ i, i < n → w3.cell? ⟨b, off + i, none⟩ = some (Vf i) ∧ ISr w3 w2.heap.size (Vf i) (L.getD i []) from fun i hi => ⟨(c3.cell (p := ⟨b, off + i, none⟩) hbb).trans (HCC.out i hi).1, (HCC.out i hi).2.keep c3 (Nat.le_refl _)⟩)
  have HX3 := Lib.hid (HI3.out.keep HB3.out hhb)
  have HMC := Lib.hid (show n ≤ cap ∧ cap ≤ maxLen from by
    obtain ⟨x, y, hxy, h1, h2, -⟩ := HIS.out
    injection hxy with e1 e2 e3
    subst e3
    exact ⟨by rw [HN.out]; exact h1, h2⟩)
  clear hw3 CV c3 HCC HIS
  by_cases hs2 : sh.length = 2
  case neg =>
    have hne : ((sh.length : Int) != 2) = true := by rw [bne_iff_ne]; omega
    have HRS := Lib.hid (HNO.out (by rw [SOK.out, decide_eq_false hs2, Bool.false_and, Bool.and_false]))
    clear hv
    generalize sh.length = ls at *
    clear hs2
    go_wp2
    go_ret2
    exact ⟨.slice (some ⟨w3.heap.size, 0, none⟩) 0 0, by rw [HRS.out]; rfl, by rw [HRS.out]; exact ⟨fun _ => .slice none 0 0, fun _ => .slice none 0 0, _, OwnTp.lit0 w3 w.heap.size HB3.out.size _ _⟩, HB3.out.trans ((below1 w3 _).mono HB3.out.size)⟩
  by_cases hn31 : n ≤ 31
  case neg =>
    have HRS := Lib.hid (HNO.out (by rw [SOK.out, ← HN.out, decide_eq_false hn31, Bool.and_false, Bool.and_false]))
    have hgt : (60 : Int) < 2 * (n : Int) - 3 := by omega
    have hw1 := wr64 (2 * (n : Int)) (by omega)
    have hw2 := wr64 (2 * (n : Int) - 3) (by omega)
    have hne : ((sh.length : Int) != 2) = false := by rw [hs2]; rfl
    clear hv hs2
    generalize sh.length = ls at *
    go_wp2
    go_ret2
    exact ⟨.slice (some ⟨w3.heap.size, 0, none⟩) 0 0, by rw [HRS.out]; rfl, by rw [HRS.out]; exact ⟨fun _ => .slice none 0 0, fun _ => .slice none 0 0, _, OwnTp.lit0 w3 w.heap.size HB3.out.size _ _⟩, HB3.out.trans ((below1 w3 _).mono HB3.out.size)⟩
  have HRS := Lib.hid (HYES.out (by rw [SOK.out, hv, ← HN.out, decide_eq_true hs2, decide_eq_true hn31]; rfl))
  have hgt : ¬ (60 : Int) < 2 * (n : Int) - 3 := by omega
  have hw1 := wr64 (2 * (n : Int)) (by omega)
  have hw2 := wr64 (2 * (n : Int) - 3) (by omega)
  have hne : ((sh.length : Int) != 2) = false := by rw [hs2]; rfl
  have HS2 := Lib.hid hs2
  clear hv hs2 SOK HNO HYES HTWO
  have hs63 : sh.length ≤ 1000 := by rw [HS2.out]; omega
  obtain ⟨ls, hls⟩ : ∃ ls, ls = sh.length := ⟨_, rfl⟩
  rw [← hls] at hne
  have HLS := Lib.hid hls
  rw [← hls] at hs63
  have HX4 := Lib.hid (show ISr w3 hb (.slice a3 ls c3) sh by rw [HLS.out]; exact HX3.out)
  rw [← hls]
  clear hls
  go_wp2
  clear hgt hw1 hw2 hne
  obtain ⟨i0, hi0, hz0, hz1, hz2⟩ := info_parts info_term
  have HI0 := Lib.hid hi0; clear hi0
  have HJ0 := Lib.hid hz0; clear hz0
  have HJ1 := Lib.hid hz1; clear hz1
  have HJ2 := Lib.hid hz2; clear hz2
  have HRL := Lib.hid (show ∀ i, i < n → (L.getD i []).length ≤ 1000000 from fun i hi => by
    obtain ⟨x, y, e, -⟩ := HR.out i (by rw [← HN.out]; exact hi)
    rw [e]; simp)
  have HCW := Lib.hid (show ∀ i, i < n → ∀ W, Below w3.heap.size w3 W → W.cell? ⟨b, off + i, none⟩ = some (Vf i) from fun i hi W B => (B.cell (p := ⟨b, off + i, none⟩) (by rw [HZ3.out]; exact hbb)).trans (HC3.out i hi).1)
  go_loopw [7, 8] (fun ov kv wr => ∃ (j : Nat) (acc : List TermL) (V2 V3 : Nat → Value) (m : Nat), j + 1 ≤ n ∧ kv = .int .i64 j ∧ acc.length ≤ j ∧ Hid (acc = (List.range j).map (posT L sh)) ∧ Hid (OwnTp wr w3.heap.size ov acc V2 V3 m) ∧ Hid (Below w3.heap.size w3 wr)) (fun _ kv _ => n - (intOf kv).toNat)
  case atStart => exact ⟨0, [], fun _ => .slice none 0 0, fun _ => .slice none 0 0, w3.heap.size + 1, by omega, rfl, Nat.le_refl _, Lib.hid rfl, OwnTp.lit0 w3 _ (Nat.le_refl _) _ _, below1 _ _⟩
  case round =>
    obtain ⟨j, acc, V2, V3, m, hj, rfl, hal, hacc, hown, hbe⟩ := hrel
    by_cases hlt : j + 1 < n
    · have hbs := hbe.out.size
      have HE := Lib.hid (range_snoc (posT L sh) j)
      rw [← hacc.out, show posT L sh j = (1, sh, [L.getD j [], L.getD (j + 1) []]) from rfl] at HE
      have Bd : Below w3.heap.size w3 wr.drew := hbe.out.trans (below_draws _ wr 1)
      have hi1 : (0 : Int) ≤ (j : Int) := by omega
      have hi3 : (j : Int) + 1 < (n : Int) := by omega
      have hw2 := wr64 ((j : Int) + 2) (by omega)
      have hto2 : ((j : Int) + 2).toNat = j + 2 := by omega
      have hi4 : (j : Int) ≤ (j : Int) + 2 := by omega
      have hmc := HMC.out.1
      have hi5 : (j : Int) + 2 ≤ (cap : Int) := by omega
      have hcj : ¬ cap = j := by omega
      go_wp2_with fail
      have G1 : Below wr.heap.size wr (wr.alloc (.cells #[] 3)).drew := (below1 wr (.cells #[] 3)).trans (below_draws _ _ 1)
      have SRC := Lib.hid ((HX4.out.keep hbe.out (by rw [HZ3.out]; have := HB2.out.size; omega)).keep G1 (by have := HB2.out.size; rw [← HZ3.out] at this; omega))
      have HCB := Lib.hid (show ∀ W, Below w3.heap.size w3 W → Calls Try.prog 157 #[.slice (some ⟨b, off + j, none⟩) 2 (cap - j)] W fun e w' => ∃ u, e = .returned u ∧ OwnL w' W.heap.size u [L.getD j [], L.getD (j + 1) []] ∧ Below W.heap.size W w' from fun W B =>
        l7Copy_any [L.getD j [], L.getD (j + 1) []] _ w3.heap.size W ((rows_part (j := j) (m := 2) (fun i hi => ⟨(HC3.out i hi).1, (HC3.out i hi).2.upto (by rw [HZ3.out]; exact Nat.le_refl _)⟩) (by rw [HZ3.out]; exact hbb) HMC.out.2 (by omega) hmc).keep B (Nat.le_refl _)) B.size (by simp) (fun i hi => by
          match i, hi with
          | 0, _ => exact HRL.out j (by omega)
          | 1, _ => exact HRL.out (j + 1) hlt))
      generalize L.getD j [] = r0 at *
      generalize L.getD (j + 1) [] = r1 at *
      go_region_held3 (fun w' => True) (trivial)
        (first
          | (go_at_call 157; (with_reducible refine (HCB.out _ B4).mono ?_); rintro e w5 ⟨u5, rfl, o5, b5⟩; have B5 := below_then B4 B4.size b5; have K5 := o5.is; obtain ⟨a5, e5, rfl⟩ := o5.form; have G5 := below_then G4 G4.size b5; have HPT5 := hown.out.keep (G5.mono hown.out.le); have HN6 := heap_alloc_new w5 (.cells #[.int .i64 1, .slice a4 n4 e4, .slice a5 2 e5] 50))
          | (refine step_append_I (by rfl) _ _ (by with_reducible rfl) (by rfl) (by rfl) (OwnI.lit0 wr wr.heap.size (Nat.le_refl _)) SRC.out (by have := HLS.out; simp; omega) (by simp) ?_; intro a4 n4 e4 w4 hn4 o4 hg4; have G4 : Below wr.heap.size wr w4 := G1.grown hg4 (by simp) (fun k hk => by simp [Value.ownBlock] at hk; omega); have B4 := hbe.out.trans (G4.mono hbs))
          | (refine step_append_lies _ (by rfl) _ _ _ (by rfl) w3.heap.size 50 i0 _ 3 56 Try.underlying46 HI0.out HJ0.out HJ1.out HJ2.out rfl (by omega) u7 acc.length _ (by rfl) (World.ownsRow.alloc HPT5.own _) ⟨w5.heap.size, 0, none⟩ 1 1 [.int .i64 1, .slice a4 n4 e4, .slice a5 2 e5] (by rfl) (by rfl) (World.news_of_block HN6) (by simp [Value.oneCell']) (by omega) (by unfold maxLen; omega) (by omega) (by simp; have := B5.size; omega) (w5.heap.size + 1) (by simp) ?_; intro gg cg w1 hown1 hgrow hat hlt9; have B9 := OwnTp.below B5 B5.size _ hgrow HPT5 (Nat.le_refl _)))
      have K4 : IS w4 wr.heap.size w4.heap.size (.slice a4 n4 e4) sh := o4.is
      have hel : TEl w5 (1, sh, [r0, r1]) (.slice a4 n4 e4) (.slice a5 2 e5) wr.heap.size w4.heap.size w5.heap.size := ⟨G4.size, b5.size, by simp, K4.keep b5 (Nat.le_refl _), K5⟩
      obtain ⟨V2', V3', hnew⟩ := OwnTp.push HPT5 hel hown.out.le hbs (Nat.le_refl _) hgrow hown1 (by simpa using hat)
      have HNEW := Lib.hid hnew
      have HB9 := Lib.hid B9
      clear hnew hel K4 K5 hgrow hown1 hat hlt9 HN6 HPT5 G5 G4 G1 o4 o5 b5 B4 B5 B9 hn4 hg4 Bd SRC HCB hw2 hto2
      go_wp2
      go_roundw
      case rel => exact ⟨j + 1, _, V2', V3', _, by omega, by go_num, by simp; omega, HE, HNEW, HB9⟩
      case measure => simp [intOf]; omega
    · have HJN := Lib.hid (show n = j + 1 by omega)
      have HACC := Lib.hid hacc.out
      have hdec : ¬ ((j : Int) + 1 < (n : Int)) := by have := HJN.out; omega
      have hj31 : j ≤ 31 := by omega
      clear hacc
      go_wp2
      clear hdec
      go_loopw [7, 9] (fun ov kv wr => ∃ (k : Nat) (acc : List TermL) (V2 V3 : Nat → Value) (m : Nat), k + 2 ≤ n ∧ kv = .int .i64 ((k : Int) + 1) ∧ acc.length ≤ 31 + k ∧ Hid (acc = (List.range j).map (posT L sh) ++ (List.range k).map (negT L sh)) ∧ Hid (OwnTp wr w3.heap.size ov acc V2 V3 m) ∧ Hid (Below w3.heap.size w3 wr)) (fun _ kv _ => n - (intOf kv).toNat)
      case atStart => exact ⟨0, acc, V2, V3, m, by omega, rfl, by omega, Lib.hid (by rw [HACC.out]; simp), hown, hbe⟩
      case round =>
        clear hown hbe hal HACC
        obtain ⟨k, acc, V2, V3, m, hk, rfl, hal, hacc, hown, hbe⟩ := hrel
        by_cases hlt : k + 2 < n
        · have hbs := hbe.out.size
          have HE := Lib.hid (show acc ++ [negT L sh k] = (List.range j).map (posT L sh) ++ (List.range (k + 1)).map (negT L sh) by
            rw [hacc.out, List.append_assoc, range_snoc (negT L sh) k])
          rw [show negT L sh k = (-1, sh, [L.getD (k + 1) []]) from rfl] at HE
          have hi1 : (0 : Int) ≤ (k : Int) + 1 := by omega
          have hi3 : (k : Int) + 1 + 1 < (n : Int) := by omega
          have hw2 := wr64 ((k : Int) + 1 + 1) (by omega)
          have hto1 : ((k : Int) + 1).toNat = k + 1 := by omega
          have hto2 : ((k : Int) + 1 + 1).toNat = k + 1 + 1 := by omega
          have hi4 : (k : Int) + 1 ≤ (k : Int) + 1 + 1 := by omega
          have hmc := HMC.out.1
          have hi5 : (k : Int) + 1 + 1 ≤ (cap : Int) := by omega
          have hcj : ¬ cap = k + 1 := by omega
          have G1 : Below wr.heap.size wr (wr.alloc (.cells #[] 3)).drew := (below1 wr (.cells #[] 3)).trans (below_draws _ _ 1)
          have SRC := Lib.hid ((HX4.out.keep hbe.out (by rw [HZ3.out]; have := HB2.out.size; omega)).keep G1 (by have := HB2.out.size; rw [← HZ3.out] at this; omega))
          have HCB := Lib.hid (show ∀ W, Below w3.heap.size w3 W → Calls Try.prog 157 #[.slice (some ⟨b, off + (k + 1), none⟩) 1 (cap - (k + 1))] W fun e w' => ∃ u, e = .returned u ∧ OwnL w' W.heap.size u [L.getD (k + 1) []] ∧ Below W.heap.size W w' from fun W B =>
            l7Copy_any [L.getD (k + 1) []] _ w3.heap.size W ((rows_part (j := k + 1) (m := 1) (fun i hi => ⟨(HC3.out i hi).1, (HC3.out i hi).2.upto (by rw [HZ3.out]; exact Nat.le_refl _)⟩) (by rw [HZ3.out]; exact hbb) HMC.out.2 (by omega) hmc).keep B (Nat.le_refl _)) B.size (by simp) (fun i hi => by
              match i, hi with
              | 0, _ => exact HRL.out (k + 1) (by omega)))
          generalize L.getD (k + 1) [] = r0 at *
          go_wp2_with fail
          go_region_held3 (fun w' => True) (trivial)
            (first
              | (go_at_call 157; (with_reducible refine (HCB.out _ B4).mono ?_); rintro e w5 ⟨u5, rfl, o5, b5⟩; have B5 := below_then B4 B4.size b5; have K5 := o5.is; obtain ⟨a5, e5, rfl⟩ := o5.form; have G5 := below_then G4 G4.size b5; have HPT5 := hown.out.keep (G5.mono hown.out.le); have HN6 := heap_alloc_new w5 (.cells #[.int .i64 (-1), .slice a4 n4 e4, .slice a5 1 e5] 50))
              | (refine step_append_I (by rfl) _ _ (by with_reducible rfl) (by rfl) (by rfl) (OwnI.lit0 wr wr.heap.size (Nat.le_refl _)) SRC.out (by have := HLS.out; simp; omega) (by simp) ?_; intro a4 n4 e4 w4 hn4 o4 hg4; have G4 : Below wr.heap.size wr w4 := G1.grown hg4 (by simp) (fun k hk => by simp [Value.ownBlock] at hk; omega); have B4 := hbe.out.trans (G4.mono hbs))
              | (refine step_append_lies _ (by rfl) _ _ _ (by rfl) w3.heap.size 50 i0 _ 3 56 Try.underlying46 HI0.out HJ0.out HJ1.out HJ2.out rfl (by omega) _ acc.length _ (by rfl) (World.ownsRow.alloc HPT5.own _) ⟨w5.heap.size, 0, none⟩ 1 1 [.int .i64 (-1), .slice a4 n4 e4, .slice a5 1 e5] (by rfl) (by rfl) (World.news_of_block HN6) (by simp [Value.oneCell']) (by omega) (by unfold maxLen; omega) (by omega) (by simp; have := B5.size; omega) (w5.heap.size + 1) (by simp) ?_; intro gg cg w1 hown1 hgrow hat hlt9; have B9 := OwnTp.below B5 B5.size _ hgrow HPT5 (Nat.le_refl _)))
          have K4 : IS w4 wr.heap.size w4.heap.size (.slice a4 n4 e4) sh := o4.is
          have hel : TEl w5 (-1, sh, [r0]) (.slice a4 n4 e4) (.slice a5 1 e5) wr.heap.size w4.heap.size w5.heap.size := ⟨G4.size, b5.size, by simp, K4.keep b5 (Nat.le_refl _), K5⟩
          obtain ⟨V2', V3', hnew⟩ := OwnTp.push HPT5 hel hown.out.le hbs (Nat.le_refl _) hgrow hown1 (by simpa using hat)
          have HNEW := Lib.hid hnew
          have HB9 := Lib.hid B9
          clear hnew hel K4 K5 hgrow hown1 hat hlt9 HN6 HPT5 G5 G4 G1 o4 o5 b5 B4 B5 B9 hn4 hg4 SRC HCB hw2 hto2 hto1
          go_wp2
          go_roundw
          case rel => exact ⟨k + 1, _, V2', V3', _, by omega, by go_num, by simp; omega, HE, HNEW, HB9⟩
          case measure => simp [intOf]; omega
        · have HFIN := Lib.hid (show RES = (acc, true) by
            rw [HRS.out, hacc.out]
            unfold serL
            rw [← HN.out, show n - 1 = j by have := HJN.out; omega, show n - 2 = k by have := HJN.out; omega])
          have hdec : ¬ ((k : Int) + 1 + 1 < (n : Int)) := by omega
          go_wp2
          go_ret2
          exact ⟨_, by rw [HFIN.out]; rfl, by rw [HFIN.out]; exact ⟨_, _, _, hown.out.down HB3.out.size⟩, HB3.out.trans (hbe.out.mono HB3.out.size)⟩
theorem specSeriesOfCone_any (U V sh : List Int) (v1 v2 vs : Value) (hb : Nat) (w : World) (i1 : ISr w hb v1 U) (i2 : ISr w hb v2 V) (i3 : ISr w hb vs sh) (hhb : hb ≤ w.heap.size) :
    Calls Try.prog 109 #[.agg #[v1, v2], vs] w fun e w' => ∃ u, e = .returned (.tuple #[u, .bool (serC U V sh).2]) ∧ TS w' w.heap.size w'.heap.size u (serC U V sh).1 ∧ Below w.heap.size w w' :=
  (specSeriesOfCone_own U V sh v1 v2 vs hb w i1 i2 i3 hhb).mono fun _ _ ⟨u, h1, ⟨_, _, _, h2⟩, h3⟩ => ⟨u, h1, h2.is, h3⟩
end Go.Proofs.Ytehhoplenloocaa

/- The series of a cone: bounds for the law. -/
namespace Go.Proofs.Ytehhoplenloocaa
open Go.RowKit
set_option linter.unusedVariables false
set_option linter.unusedSimpArgs false

theorem mtK_le {ts : List TermL} {c : Nat} (h : ∀ i, i < ts.length → mk1 (ts.getD i t0) ≤ c) : ∀ k, k ≤ ts.length → mtK ts k ≤ c * k
  | 0, _ => by simp [mtK]
  | k + 1, hk => by
    have h1 := mtK_le h k (by omega)
    have h2 := h k (by omega)
    rw [show mtK ts (k + 1) = mtK ts k + mk1 (ts.getD k t0) from rfl, Nat.mul_add]
    omega
theorem row2 {L : List (List Int)} (h : SplAll L) (i : Nat) : (L.getD i []).length ≤ 2 := by
  by_cases hi : i < L.length
  · obtain ⟨a, b, e, -⟩ := h.row i hi; rw [e]; simp
  · rw [List.getD_eq_getElem?_getD, List.getElem?_eq_none (by omega)]; simp
theorem serL_mem {L : List (List Int)} {sh : List Int} {P : TermL → Prop} (h1 : ∀ k, P (posT L sh k)) (h2 : ∀ k, P (negT L sh k)) : ∀ i, i < (serL L sh).length → P ((serL L sh).getD i t0) := by
  intro i hi
  rw [List.getD_eq_getElem?_getD, List.getElem?_eq_getElem hi]
  have := List.getElem_mem hi
  unfold serL at this
  rw [List.mem_append] at this
  rcases this with h | h
  · obtain ⟨k, -, e⟩ := List.mem_map.1 h; unfold serL; rw [Option.getD_some, ← e]; exact h1 k
  · obtain ⟨k, -, e⟩ := List.mem_map.1 h; unfold serL; rw [Option.getD_some, ← e]; exact h2 k
theorem serL_len (L : List (List Int)) (sh : List Int) : (serL L sh).length = (L.length - 1) + (L.length - 2) := by simp [serL]
theorem serC_tot (U V sh : List Int) : mtT (serC U V sh).1 ≤ 1000 ∧ (serC U V sh).1.length ≤ 60 := by
  cases h : serOk (splitC U V) sh
  · rw [serC_no h]; simp [mtT, mtK]
  · rw [serC_yes h]
    have hall := (splitC_all U V).1
    generalize splitC U V = L at *
    unfold serOk at h
    simp only [Bool.and_eq_true, decide_eq_true_eq] at h
    obtain ⟨h1, h2, h3, h4⟩ := h
    have hm : ∀ i, i < (serL L sh).length → mk1 ((serL L sh).getD i t0) ≤ 7 := serL_mem (P := fun t => mk1 t ≤ 7) (fun k => by
      have a := row2 hall k
      have b := row2 hall (k + 1)
      unfold mk1 posT
      simp only [totL, List.length_cons, List.length_nil, List.getD_cons_zero, List.getD_cons_succ]
      rw [h3]
      omega) (fun k => by
      have b := row2 hall (k + 1)
      unfold mk1 negT
      simp only [totL, List.length_cons, List.length_nil, List.getD_cons_zero]
      rw [h3]
      omega)
    have := mtK_le hm _ (Nat.le_refl _)
    have hl := serL_len L sh
    constructor
    · show mtK (serL L sh) (serL L sh).length ≤ 1000; omega
    · show (serL L sh).length ≤ 60; omega
end Go.Proofs.Ytehhoplenloocaa
