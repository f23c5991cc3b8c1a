/- Appending: numbers out of whatever slice, and rows. -/
import Derived.Test.YtchkcjpahlimjaaVec
import Derived.Test.YtchkcjpahlimjaaTSS
import Derived.Deep.Upon
namespace Go.Proofs.Ytchkcjpahlimjaa
open Go.RowKit
set_option linter.unusedVariables false
set_option linter.unusedSimpArgs false

theorem OwnI.form {w : World} {B : Nat} {v : Value} {l : List Int} (h : OwnI w B v l) : ∃ a cap, v = .slice a l.length cap := by
  rcases h.2 with ⟨rfl, h0⟩ | ⟨g, cap, cur, rfl, -⟩
  · exact ⟨none, 0, by rw [h0]⟩
  · exact ⟨_, _, rfl⟩
theorem OwnI.own {w : World} {B : Nat} {v : Value} {l : List Int} {n : Nat} {xs : List Value} (h : w.ownsRow B 3 1 v n xs) (hn : n = l.length) (hx : xs = ivs l) : OwnI w B v l := by
  subst hn hx; exact h
theorem OwnI.kept {w w' : World} {B : Nat} {v : Value} {l : List Int} (h : OwnI w B v l) (hb : Below w.heap.size w w') : OwnI w' B v l :=
  World.ownsRow.kept h (row := none) ⟨hb.os, hb.tape, hb.output, hb.size, fun k hk _ => hb.block k hk⟩ (by cases v.ownBlock <;> simp)
theorem ivs_append (a b : List Int) : ivs (a ++ b) = ivs a ++ ivs b := by unfold ivs; rw [List.map_append]
theorem ivs_len (a : List Int) : (ivs a).length = a.length := by unfold ivs; simp

/-- numbers are appended out of a slice that may be read -/
theorem run_append_I {w : World} {B hi : Nat} {v vx : Value} {acc l : List Int} (ty : TypeId) (hown : OwnI w B v acc) (hsrc : ISr w hi vx l) (h63 : acc.length + l.length ≤ 1000000000) (hB : B ≤ w.heap.size) :
    ∃ a cap w', (Builtin.append_ #[22, 22] ty #[v, vx]).run Try.prog w = .ok (.slice a (acc ++ l).length cap) w' ∧ OwnI w' B (.slice a (acc ++ l).length cap) (acc ++ l) ∧ w.grownBy w' v.ownBlock := by
  obtain ⟨i0, hi0, hz0, hz1, hz2⟩ := info_parts info_int
  rcases hsrc.cases with ⟨rfl, a, cap, rfl⟩ | ⟨hpos, hlen, b, off, cap, rfl, hbb, hcell⟩
  · obtain ⟨a', cap', rfl⟩ := hown.form
    have hle : acc.length ≤ cap' := by
      rcases hown.2 with ⟨e, h0⟩ | ⟨g, c, cur, e, -, -, hn, -⟩
      · injection e with _ e2 e3; omega
      · injection e with _ e2 e3; omega
    refine ⟨a', cap', w, ?_, by rw [List.append_nil]; exact hown, World.grownBy.refl _ _⟩
    rw [List.append_nil]
    refine run_append_nothing w 22 22 ty 3 i0 Try.underlying22 hi0 a' acc.length cap' hle _ ⟨.inl ⟨_, Try.underlying22⟩, fun w' => by simp [Builtin.lenOf], ?_, ?_, by simp, by simp⟩
    · cases a <;> simp [Builtin.firstCells, loadCells, loadCellsFrom]
    · cases a <;> simp [Builtin.firstCells, loadCells, loadCellsFrom]
  · obtain ⟨v', w', hr, h2, h3, h4⟩ := run_append_own (P := Try.prog) w B 22 ty 3 i0 (.int .i64 0) 1 8 Try.underlying22 hi0 hz0 hz1 hz2 rfl (by decide) v acc.length (ivs acc) hown ⟨b, off, none⟩ l.length cap (ivs l) (by rw [ivs_len, Nat.mul_one])
      (fun j u hj => by
        have hjl : j < l.length := by
          have := (List.getElem?_eq_some_iff.1 hj).1
          rwa [ivs_len] at this
        have e : u = .int .i64 (l.getD j 0) := by
          unfold ivs at hj
          rw [List.getElem?_map, List.getElem?_eq_getElem hjl] at hj
          simp at hj
          rw [← hj, List.getD_eq_getElem?_getD, List.getElem?_eq_getElem hjl]; rfl
        rw [e]
        have ha : (⟨b, off, none⟩ : Addr).add j = ⟨b, off + j, none⟩ := by simp only [Addr.add]; split <;> simp_all
        rw [ha]; exact hcell j hjl)
      (fun u hu => by unfold ivs at hu; simp at hu; obtain ⟨x, -, rfl⟩ := hu; rfl)
      (by unfold maxLen; omega) (by omega) hB
    have ho : OwnI w' B v' (acc ++ l) := OwnI.own h2 (by simp) (by rw [ivs_append])
    obtain ⟨a, cap', rfl⟩ := ho.form
    exact ⟨a, cap', w', hr, ho, h3⟩
theorem wp_append_I {o : Oper} {act : Act} {K : Act → World → Prop} {Q : Exit → Act → World → Prop} {w : World} (s x : Operand)
    (ho : o.op = .call { callee := .builtin .append, args := #[s, x], argTypes := #[22, 22] })
    {B hi : Nat} {v vx : Value} {acc l : List Int} (hs : act.eval s = v) (hx : act.eval x = vx) (hown : OwnI w B v acc) (hsrc : ISr w hi vx l) (h63 : acc.length + l.length ≤ 1000000000) (hB : B ≤ w.heap.size)
    (h : ∀ a cap w', OwnI w' B (.slice a (acc ++ l).length cap) (acc ++ l) → w.grownBy w' v.ownBlock → K (act.put o.dst (.slice a (acc ++ l).length cap)) w') : o.wp Try.prog act w K Q := by
  obtain ⟨a, cap, w', hr, h2, h3⟩ := run_append_I o.type hown hsrc h63 hB
  unfold Oper.wp execOp
  simp only [ho, resolve, invoke, builtin, Sem.run_bind, Sem.run_pure, Result.andThen_ok, List.map_toArray, List.map_cons, List.map_nil, hs, hx, hr]
  exact h a cap w' h2 h3
theorem wpList_append_I {ops : Array Oper} {rest : List Oper} {o : Oper} {act : Act} {Q : Exit → Act → World → Prop} {w : World} (hgd : o.guard = none) (s x : Operand)
    (ho : o.op = .call { callee := .builtin .append, args := #[s, x], argTypes := #[22, 22] })
    {B hi : Nat} {v vx : Value} {acc l : List Int} (hs : act.eval s = v) (hx : act.eval x = vx) (hown : OwnI w B v acc) (hsrc : ISr w hi vx l) (h63 : acc.length + l.length ≤ 1000000000) (hB : B ≤ w.heap.size)
    (h : ∀ a cap w', OwnI w' B (.slice a (acc ++ l).length cap) (acc ++ l) → w.grownBy w' v.ownBlock → wpList Try.prog ops Q rest (act.put o.dst (.slice a (acc ++ l).length cap)) w') : wpList Try.prog ops Q (o :: rest) act w :=
  wpList_plain hgd fun _ hK => wp_append_I s x ho hs hx hown hsrc h63 hB fun a cap w' h2 h3 => hK _ _ (h a cap w' h2 h3)
/-- at a step of a region that draws its order; the length a letter -/
theorem step_append_I {ops : Array Oper} {o : Oper} {act : Act} {K : Act → World → Prop} {Q : Exit → Act → World → Prop} {E : Prop} {w : World} (hgd : o.guard = none) (s x : Operand)
    (ho : o.op = .call { callee := .builtin .append, args := #[s, x], argTypes := #[22, 22] })
    {B hi : Nat} {v vx : Value} {acc l : List Int} (hs : act.eval s = v) (hx : act.eval x = vx) (hown : OwnI w B v acc) (hsrc : ISr w hi vx l) (h63 : acc.length + l.length ≤ 1000000000) (hB : B ≤ w.heap.size)
    (h : ∀ a n cap w', Hid (n = (acc ++ l).length) → OwnI w' B (.slice a n cap) (acc ++ l) → w.grownBy w' v.ownBlock → K (act.put o.dst (.slice a n cap)) w') : if Region.wanted o (yielded ops act.tmps) = true then Oper.wp Try.prog o act w K Q else E := by
  have hw : Region.wanted o (yielded ops act.tmps) = true := by simp [Region.wanted, hgd]
  rw [if_pos hw]
  exact wp_append_I s x ho hs hx hown hsrc h63 hB fun a cap w' h1 h2 => h a _ cap w' (Lib.hid rfl) h1 h2

set_option maxHeartbeats 1000000 in
theorem copyInts_any (l : List Int) (v : Value) (hb : Nat) (w : World) (h : ISr w hb v l) (hl : l.length ≤ 1000000) :
    Calls Try.prog 59 #[v] w fun e w' => ∃ u, e = .returned u ∧ OwnI w' w.heap.size u l ∧ Below w.heap.size w w' := by
  go_enter Try.func59, Try.ntmps59
  go_wp2_with (at_builtin; refine wpList_append_I rfl _ _ rfl rfl rfl (OwnI.nil w w.heap.size) h (by simp; omega) (Nat.le_refl _) ?_)
  intro a cap w1 hown hg
  have HO := Lib.hid hown
  have HB := Lib.hid ((Below.refl w.heap.size w).grown hg (Nat.le_refl _) (fun k hk => by cases hk))
  clear hown hg
  go_wp2
  go_ret
  exact ⟨_, rfl, HO.out, HB.out⟩

/-! ### rows -/
/-- v is a slice of the call's own, from block B on, of rows that lie in stretches of their own -/
def OwnL (w : World) (B : Nat) (v : Value) (ls : List (List Int)) : Prop :=
  ∃ (V : Nat → Value) (p : Nat → Nat), w.ownsRow B 22 1 v ls.length ((List.range ls.length).map V) ∧ B ≤ p 0 ∧ p ls.length ≤ w.heap.size ∧ ∀ i, i < ls.length → p i ≤ p (i + 1) ∧ IS w (p i) (p (i + 1)) (V i) (ls.getD i [])
theorem OwnL.nil (w : World) (B : Nat) (hB : B ≤ w.heap.size) : OwnL w B (.slice none 0 0) [] := ⟨fun _ => .slice none 0 0, fun _ => B, ⟨rfl, .inl ⟨rfl, rfl⟩⟩, Nat.le_refl _, hB, fun i hi => absurd hi (Nat.not_lt_zero _)⟩
theorem OwnL.lit0 (w : World) (B : Nat) (h : B ≤ w.heap.size) : OwnL (w.alloc (.cells #[] 22)) B (.slice (some ⟨w.heap.size, 0, none⟩) 0 0) [] := ⟨fun _ => .slice none 0 0, fun _ => B, World.ownsRow_lit w #[] 0 h (by simp [maxLen]) rfl, Nat.le_refl _, by simp; omega, fun i hi => absurd hi (Nat.not_lt_zero _)⟩
theorem OwnL.mono {p : Nat → Nat} {n : Nat} (h : ∀ i, i < n → p i ≤ p (i + 1)) : ∀ i j, i ≤ j → j ≤ n → p i ≤ p j
  | i, 0, hij, _ => by have : i = 0 := by omega
                       subst this; exact Nat.le_refl _
  | i, j + 1, hij, hj => by
    by_cases e : i = j + 1
    · subst e; exact Nat.le_refl _
    · exact Nat.le_trans (OwnL.mono h i j (by omega) (by omega)) (h j (by omega))
theorem OwnL.kept {w w' : World} {B : Nat} {v : Value} {ls : List (List Int)} (h : OwnL w B v ls) (hb : Below w.heap.size w w') : OwnL w' B v ls := by
  obtain ⟨V, p, h1, h2, h3, h4⟩ := h
  refine ⟨V, p, World.ownsRow.kept h1 (row := none) ⟨hb.os, hb.tape, hb.output, hb.size, fun k hk _ => hb.block k hk⟩ (by cases v.ownBlock <;> simp), h2, Nat.le_trans h3 hb.size, fun i hi => ⟨(h4 i hi).1, (h4 i hi).2.keep hb ?_⟩⟩
  exact Nat.le_trans (OwnL.mono (fun i hi => (h4 i hi).1) (i + 1) ls.length hi (Nat.le_refl _)) h3
theorem OwnL.draws {w : World} {B : Nat} {v : Value} {ls : List (List Int)} (h : OwnL w B v ls) (d : Nat) : OwnL (w.drewN d) B v ls := h
theorem OwnL.lt {w : World} {B : Nat} {v : Value} {ls : List (List Int)} (h : OwnL w B v ls) : ∀ k, v.ownBlock = some k → B ≤ k ∧ k < w.heap.size := by
  obtain ⟨V, p, h1, -⟩ := h; exact World.ownsRow.lt h1
/-- the outer block holds slices, so no row lies in it -/
theorem own_type {w : World} {B : Nat} {v : Value} {n : Nat} {xs : List Value} (h : w.ownsRow B 22 1 v n xs) : ∀ g, v.ownBlock = some g → ∃ c e fr, w.heap[g]? = some (.cells c e fr) ∧ e ≠ 3 := by
  intro g hg
  rcases h.2 with ⟨rfl, -⟩ | ⟨b, cap, cur, rfl, -, hh, -⟩
  · simp [Value.ownBlock] at hg
  · simp [Value.ownBlock] at hg
    subst hg
    exact ⟨cur, _, _, hh, by decide⟩
/-- a row is appended: 'o' the block that held it, in the world w1 -/
theorem OwnL.push {w1 w2 : World} {B lo hi : Nat} {v v' vr : Value} {ls : List (List Int)} {r : List Int} {o : Obj} (V : Nat → Value) (p : Nat → Nat) (h1 : w1.ownsRow B 22 1 v ls.length ((List.range ls.length).map V)) (h2 : B ≤ p 0) (h3 : p ls.length ≤ lo) (h4 : ∀ i, i < ls.length → p i ≤ p (i + 1) ∧ IS w1 (p i) (p (i + 1)) (V i) (ls.getD i []))
    (hr : IS w1 lo hi vr r) (hlh : lo ≤ hi) (hhi : hi ≤ w1.heap.size) (hg : (w1.alloc o).grownBy w2 v.ownBlock) (hown : w2.ownsRow B 22 1 v' (ls.length + 1) ((List.range ls.length).map V ++ [vr])) : OwnL w2 B v' (ls ++ [r]) := by
  have hty : ∀ g, v.ownBlock = some g → ∃ c e fr, (w1.alloc o).heap[g]? = some (.cells c e fr) ∧ e ≠ 3 := by
    intro g hg'
    obtain ⟨c, e, fr, h, h'⟩ := own_type h1 g hg'
    exact ⟨c, e, fr, by rw [Below.heap_alloc _ _ _ ((World.ownsRow.lt h1 g hg').2)]; exact h, h'⟩
  have b1 := below1 w1 o
  refine ⟨fun i => if i < ls.length then V i else vr, fun i => if i ≤ ls.length then p i else hi, ?_, ?_, ?_, ?_⟩
  · rw [List.length_append, List.length_singleton, List.range_succ, List.map_append]
    have e : (List.range ls.length).map (fun i => if i < ls.length then V i else vr) = (List.range ls.length).map V := List.map_congr_left fun i hi => by rw [if_pos (List.mem_range.1 hi)]
    rw [e]; simpa using hown
  · dsimp only; rw [if_pos (Nat.zero_le _)]; exact h2
  · dsimp only; rw [List.length_append, List.length_singleton, if_neg (by omega)]
    have := hg.size; simp at this; omega
  · intro i hi'
    rw [List.length_append, List.length_singleton] at hi'
    by_cases e : i < ls.length
    · dsimp only
      rw [if_pos (show i ≤ ls.length by omega), if_pos (show i + 1 ≤ ls.length by omega)]
      refine ⟨(h4 i e).1, ?_⟩
      show IS w2 _ _ (if i < ls.length then V i else vr) _
      rw [if_pos e, List.getD_eq_getElem?_getD, List.getElem?_append_left e, ← List.getD_eq_getElem?_getD]
      have hle := OwnL.mono (fun i hi => (h4 i hi).1) (i + 1) ls.length e (Nat.le_refl _)
      exact ((h4 i e).2.keep b1 (by omega)).grown_type hg hty
    · obtain rfl : i = ls.length := by omega
      dsimp only
      rw [if_pos (Nat.le_refl _), if_neg (by omega)]
      refine ⟨by omega, ?_⟩
      show IS w2 _ _ (if ls.length < ls.length then V ls.length else vr) _
      rw [if_neg (Nat.lt_irrefl _), List.getD_eq_getElem?_getD, List.getElem?_append_right (Nat.le_refl _)]
      simp only [Nat.sub_self, List.getElem?_cons_zero, Option.getD_some]
      exact ((hr.keep b1 hhi).grown_type hg hty).mono h3 (Nat.le_refl _)
theorem OwnL.is {w : World} {B : Nat} {v : Value} {ls : List (List Int)} (h : OwnL w B v ls) : ISS w B w.heap.size v ls := by
  obtain ⟨V, p, h1, h2, h3, h4⟩ := h
  rcases h1.2 with ⟨rfl, h0⟩ | ⟨g, cap, cur, rfl, hg, hh, hn, hc, hs, ht⟩
  · have : ls = [] := List.length_eq_zero_iff.1 h0
    subst this; exact ISS.nil _ _ _
  · refine ⟨_, _, rfl, hn, hc, fun hl => ⟨g, 0, V, rfl, hg, ?_, ⟨cur, hh, fun i hi => ?_⟩, fun i hi => ?_, fun i j hij hj => ?_⟩⟩
    · exact World.ownsRow.lt h1 g rfl |>.2
    · rw [Nat.zero_add, ← Array.getElem?_toList]
      have e1 : (cur.toList.take (ls.length * 1))[i]? = ((List.range ls.length).map V)[i]? := by rw [ht]
      rw [List.getElem?_take_of_lt (by omega)] at e1
      rw [e1]; simp [hi]
    · have m1 := OwnL.mono (fun i hi => (h4 i hi).1) 0 i (Nat.zero_le _) (by omega)
      have m2 := OwnL.mono (fun i hi => (h4 i hi).1) (i + 1) ls.length hi (Nat.le_refl _)
      exact (h4 i hi).2.mono (by omega) (by omega)
    · rcases (h4 j hj).2.blk with h0 | ⟨bj, e1, l1, u1, -⟩
      · exact .inl h0
      · right
        rcases (h4 i (by omega)).2.blk with h0 | ⟨bi, e2, l2, u2, -⟩
        · rw [e1, h0]; simp
        · have := OwnL.mono (fun i hi => (h4 i hi).1) (i + 1) j (by omega) (by omega)
          rw [e1, e2]; intro e; injection e with e; omega
theorem OwnL.below {w w1 w2 : World} {B B0 : Nat} {v : Value} {ls : List (List Int)} (hbe : Below B w w1) (hB : B ≤ w1.heap.size) (o : Obj) (hg : (w1.alloc o).grownBy w2 v.ownBlock) (hown : OwnL w1 B0 v ls) (hB0 : B ≤ B0) : Below B w w2 :=
  (hbe.alloc hB o).grown hg (by simp; omega) fun k hk => Nat.le_trans hB0 (hown.lt k hk).1
/-- the same, laid open, its rows below m -/
def OwnLp (w : World) (B : Nat) (v : Value) (ls : List (List Int)) (V : Nat → Value) (p : Nat → Nat) (m : Nat) : Prop :=
  w.ownsRow B 22 1 v ls.length ((List.range ls.length).map V) ∧ B ≤ p 0 ∧ p ls.length ≤ m ∧ ∀ i, i < ls.length → p i ≤ p (i + 1) ∧ IS w (p i) (p (i + 1)) (V i) (ls.getD i [])
theorem OwnL.part {w w' : World} {B : Nat} {v : Value} {ls : List (List Int)} (h : OwnL w B v ls) (hb : Below w.heap.size w w') : ∃ V p, OwnLp w' B v ls V p w.heap.size := by
  obtain ⟨V, p, h1, h2, h3, h4⟩ := h
  refine ⟨V, p, World.ownsRow.kept h1 (row := none) ⟨hb.os, hb.tape, hb.output, hb.size, fun k hk _ => hb.block k hk⟩ (by cases v.ownBlock <;> simp), h2, h3, fun i hi => ⟨(h4 i hi).1, (h4 i hi).2.keep hb ?_⟩⟩
  exact Nat.le_trans (OwnL.mono (fun i hi => (h4 i hi).1) (i + 1) ls.length hi (Nat.le_refl _)) h3
theorem OwnLp.alloc {w : World} {B : Nat} {v : Value} {ls : List (List Int)} {V : Nat → Value} {p : Nat → Nat} {m : Nat} (h : OwnLp w B v ls V p m) (o : Obj) : (w.alloc o).ownsRow B 22 1 v ls.length ((List.range ls.length).map V) := World.ownsRow.alloc h.1 o
theorem OwnLp.push {w1 w2 : World} {B lo hi m : Nat} {v v' vr : Value} {ls : List (List Int)} {r : List Int} {o : Obj} {V : Nat → Value} {p : Nat → Nat} (h : OwnLp w1 B v ls V p m)
    (hr : IS w1 lo hi vr r) (hm : m ≤ lo) (hlh : lo ≤ hi) (hhi : hi ≤ w1.heap.size) (hg : (w1.alloc o).grownBy w2 v.ownBlock) (hown : w2.ownsRow B 22 1 v' (ls.length + 1) ((List.range ls.length).map V ++ [vr])) : OwnL w2 B v' (ls ++ [r]) :=
  OwnL.push V p h.1 h.2.1 (Nat.le_trans h.2.2.1 hm) h.2.2.2 hr hlh hhi hg hown
theorem OwnLp.below {w w1 w2 : World} {B B0 m : Nat} {v : Value} {ls : List (List Int)} {V : Nat → Value} {p : Nat → Nat} (hbe : Below B w w1) (hB : B ≤ w1.heap.size) (o : Obj) (hg : (w1.alloc o).grownBy w2 v.ownBlock) (hown : OwnLp w1 B0 v ls V p m) (hB0 : B ≤ B0) : Below B w w2 :=
  (hbe.alloc hB o).grown hg (by simp; omega) fun k hk => Nat.le_trans hB0 (World.ownsRow.lt hown.1 k hk).1
end Go.Proofs.Ytchkcjpahlimjaa
