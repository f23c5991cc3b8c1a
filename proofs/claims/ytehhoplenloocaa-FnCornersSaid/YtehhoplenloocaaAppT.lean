/- Slices of terms: a whole slice is appended. -/
import Derived.Test.YtehhoplenloocaaB7
namespace Go.Proofs.Ytehhoplenloocaa
open Go.RowKit
set_option linter.unusedVariables false
set_option linter.unusedSimpArgs false

theorem getD_app_l {a b : List TermL} {i : Nat} (h : i < a.length) : (a ++ b).getD i t0 = a.getD i t0 := by
  rw [List.getD_eq_getElem?_getD, List.getElem?_append_left h, ← List.getD_eq_getElem?_getD]
theorem getD_app_r {a b : List TermL} {i : Nat} (h : a.length ≤ i) : (a ++ b).getD i t0 = b.getD (i - a.length) t0 := by
  rw [List.getD_eq_getElem?_getD, List.getElem?_append_right h, ← List.getD_eq_getElem?_getD]
def joinV (n : Nat) (V S : Nat → Value) (i : Nat) : Value := if i < n then V i else S (i - n)
def joinN (n : Nat) (p s : Nat → Nat) (i : Nat) : Nat := if i < n then p i else s (i - n)
theorem cellsT_app (acc ts : List TermL) (V2 V3 S2 S3 : Nat → Value) : ∀ k, k ≤ ts.length → cellsT (acc ++ ts) (joinV acc.length V2 S2) (joinV acc.length V3 S3) (acc.length + k) = cellsT acc V2 V3 acc.length ++ cellsT ts S2 S3 k
  | 0, _ => by
    rw [Nat.add_zero, show cellsT ts S2 S3 0 = [] by simp [cellsT], List.append_nil]
    exact cellsT_congr _ fun i hi => ⟨by rw [getD_app_l hi], by unfold joinV; rw [if_pos hi], by unfold joinV; rw [if_pos hi]⟩
  | k + 1, hk => by
    rw [show acc.length + (k + 1) = acc.length + k + 1 by omega, cellsT_succ, cellsT_succ, cellsT_app acc ts V2 V3 S2 S3 k (by omega), List.append_assoc]
    rw [getD_app_r (by omega), show acc.length + k - acc.length = k by omega]
    unfold joinV
    rw [if_neg (by omega), if_neg (by omega), show acc.length + k - acc.length = k by omega]
theorem OwnTp.up {w : World} {B m m' : Nat} {v : Value} {ts : List TermL} {V2 V3 : Nat → Value} (h : OwnTp w B v ts V2 V3 m) (h1 : m ≤ m') (h2 : m' ≤ w.heap.size) : OwnTp w B v ts V2 V3 m' := by
  obtain ⟨p, q, r, a1, a2, a3, a4, a5⟩ := h
  exact ⟨p, q, r, a1, fun g hg => Nat.lt_of_lt_of_le (a2 g hg) h1, h2, fun i hi => ⟨⟨(a4 i hi).1.1, Nat.le_trans (a4 i hi).1.2 h1⟩, (a4 i hi).2⟩, a5⟩
theorem OwnTp.app {w1 w2 : World} {B m g cap : Nat} {v : Value} {acc ts : List TermL} {V2 V3 S2 S3 : Nat → Value} {p' q' r' : Nat → Nat} (h : OwnTp w1 B v acc V2 V3 m)
    (hel : ∀ i, i < ts.length → (m ≤ p' i ∧ B ≤ p' i ∧ r' i ≤ w1.heap.size) ∧ TEl w1 (ts.getD i t0) (S2 i) (S3 i) (p' i) (q' i) (r' i)) (hap : ∀ i j, i < j → j < ts.length → r' i ≤ p' j)
    (hg : w1.grownBy w2 v.ownBlock) (hown : w2.ownsRow B 50 3 (.slice (some ⟨g, 0, none⟩) (acc.length + ts.length) cap) (acc.length + ts.length) (cellsT acc V2 V3 acc.length ++ cellsT ts S2 S3 ts.length)) (hat : v.ownBlock = some g ∨ g = w1.heap.size) :
    ∃ V2' V3', OwnTp w2 B (.slice (some ⟨g, 0, none⟩) (acc ++ ts).length cap) (acc ++ ts) V2' V3' w2.heap.size := by
  obtain ⟨p, q, r, h1, h2, h3, h4, h5⟩ := h
  have hsz : w1.heap.size ≤ w2.heap.size := hg.size
  have hkeep : ∀ {t' : TermL} {a b : Value} {x y z : Nat}, TEl w1 t' a b x y z → (∀ g', v.ownBlock = some g' → g' < x ∨ z ≤ g') → TEl w2 t' a b x y z := fun k hd => k.of_blocks fun c c1 c2 c3 => hg.block c c3 (fun e => by have := hd c e.symm; omega)
  refine ⟨joinV acc.length V2 S2, joinV acc.length V3 S3, joinN acc.length p p', joinN acc.length q q', joinN acc.length r r', ?_, fun g' hg' => ?_, Nat.le_refl _, fun i hi => ?_, fun i j hij hj => ?_⟩
  · rw [List.length_append, cellsT_app _ _ _ _ _ _ _ (Nat.le_refl _)]; exact hown
  · simp [Value.ownBlock] at hg'
    have := World.ownsRow.lt hown g rfl
    omega
  · rw [List.length_append] at hi
    unfold joinV joinN
    by_cases e : i < acc.length
    · rw [if_pos e, if_pos e, if_pos e, if_pos e, if_pos e, getD_app_l e]
      obtain ⟨⟨a1, a2⟩, a3, a4⟩ := h4 i e
      refine ⟨⟨a1, by omega⟩, fun g' hg' => ?_, hkeep a4 a3⟩
      simp [Value.ownBlock] at hg'
      subst hg'
      rcases hat with k | k
      · exact a3 _ k
      · right; omega
    · rw [if_neg e, if_neg e, if_neg e, if_neg e, if_neg e, getD_app_r (by omega)]
      obtain ⟨⟨b1, b2, b3⟩, b4⟩ := hel (i - acc.length) (by omega)
      refine ⟨⟨b2, by omega⟩, fun g' hg' => ?_, hkeep b4 fun g' hg' => .inl (by have := h2 g' hg'; omega)⟩
      simp [Value.ownBlock] at hg'
      subst hg'
      rcases hat with k | k
      · left; have := h2 _ k; omega
      · right; omega
  · rw [List.length_append] at hj
    unfold joinN
    by_cases e : j < acc.length
    · rw [if_pos (show i < acc.length by omega), if_pos e]; exact h5 i j hij e
    · rw [if_neg e]
      obtain ⟨⟨b1, b2, b3⟩, -⟩ := hel (j - acc.length) (by omega)
      by_cases e2 : i < acc.length
      · rw [if_pos e2]; have := (h4 i e2).1.2; omega
      · rw [if_neg e2]; exact hap _ _ (by omega) (by omega)
theorem IS.one {w : World} {lo hi : Nat} {v : Value} {l : List Int} (h : IS w lo hi v l) : v.oneCell' = true := by
  obtain ⟨a, c, rfl, -⟩ := h; rfl
theorem ISS.one {w : World} {lo hi : Nat} {v : Value} {l : List (List Int)} (h : ISS w lo hi v l) : v.oneCell' = true := by
  obtain ⟨a, c, rfl, -⟩ := h; rfl
theorem cellsT_mem {ts : List TermL} {S2 S3 : Nat → Value} {u : Value} : ∀ n, u ∈ cellsT ts S2 S3 n → ∃ i, i < n ∧ (u = .int .i64 (ts.getD i t0).1 ∨ u = S2 i ∨ u = S3 i)
  | 0, h => by simp [cellsT] at h
  | n + 1, h => by
    rw [cellsT_succ, List.mem_append] at h
    rcases h with h | h
    · obtain ⟨i, hi, e⟩ := cellsT_mem n h; exact ⟨i, by omega, e⟩
    · simp at h; exact ⟨n, by omega, h⟩

theorem run_append_T {w : World} {B m lo hi : Nat} {v vx : Value} {acc ts : List TermL} {V2 V3 : Nat → Value} (ty : TypeId) (hown : OwnTp w B v acc V2 V3 m) (hsrc : TS w lo hi vx ts) (hm : m ≤ lo) (hB : B ≤ lo) (hh : hi ≤ w.heap.size) (h63 : acc.length + ts.length ≤ 100000) (hBw : B ≤ w.heap.size) :
    ∃ a cap w' V2' V3', (Builtin.append_ #[46, 46] ty #[v, vx]).run Try.prog w = .ok (.slice a (acc ++ ts).length cap) w' ∧ OwnTp w' B (.slice a (acc ++ ts).length cap) (acc ++ ts) V2' V3' w'.heap.size ∧ w.grownBy w' v.ownBlock := by
  obtain ⟨i0, hi0, hz0, hz1, hz2⟩ := info_parts info_term
  obtain ⟨ax, cx, rfl, hcx, hmx, hcell⟩ := hsrc
  by_cases hts : ts = []
  · subst hts
    obtain ⟨a', cap', rfl⟩ := hown.form
    have hle : acc.length ≤ cap' := by
      rcases hown.own.2 with ⟨e, h0⟩ | ⟨g, c, cur, e, -, -, hn, -⟩
      · injection e with _ e2 e3; omega
      · injection e with _ e2 e3; omega
    refine ⟨a', cap', w, V2, V3, ?_, by rw [List.append_nil]; exact hown.up hown.le (Nat.le_refl _), World.grownBy.refl _ _⟩
    rw [List.append_nil]
    refine run_append_nothing w 46 46 ty 50 i0 Try.underlying46 hi0 a' acc.length cap' hle _ ⟨.inl ⟨_, Try.underlying46⟩, fun w' => by simp [Builtin.lenOf], ?_, ?_, by simp, by simp⟩
    · cases ax <;> simp [Builtin.firstCells, loadCells, loadCellsFrom]
    · cases ax <;> simp [Builtin.firstCells, loadCells, loadCellsFrom]
  · obtain ⟨b, off, S2, S3, p', q', r', rfl, hb1, hb2, hbk, hel, hap⟩ := hcell hts
    have hpos : 0 < ts.length := List.length_pos_iff.2 hts
    obtain ⟨g, cap, w', hr, h2, h3, h4, h5⟩ := run_append_lies (P := Try.prog) w 46 ty B 50 i0 _ 3 56 Try.underlying46 hi0 hz0 hz1 hz2 rfl (by omega) v acc.length _ hown.own ⟨b, off, none⟩ ts.length cx (cellsT ts S2 S3 ts.length) (cellsT_len _ _ _ _)
      (fun j u hj => by
        have hjl : j < ts.length * 3 := by
          have := (List.getElem?_eq_some_iff.1 hj).1
          rwa [cellsT_len] at this
        rw [cellsT_get _ _ _ _ _ hjl] at hj
        have ha : (⟨b, off, none⟩ : Addr).add j = ⟨b, off + j, none⟩ := by simp only [Addr.add]; split <;> simp_all
        rw [ha, hbk.cell hjl]; exact hj)
      (fun u hu => by
        obtain ⟨i, hi, e⟩ := cellsT_mem _ hu
        obtain ⟨-, -, -, -, -, e4, e5⟩ := hel i hi
        rcases e with rfl | rfl | rfl
        · rfl
        · exact e4.one
        · exact e5.one)
      hpos (by unfold maxLen; omega) (by omega) hBw _ rfl
    obtain ⟨V2', V3', hnew⟩ := hown.app (ts := ts) (p' := p') (q' := q') (r' := r') (fun i hi => ⟨⟨by have := (hel i hi).1.1; omega, by have := (hel i hi).1.1; omega, by have := (hel i hi).1.2; omega⟩, (hel i hi).2.2⟩) hap h3 h2 h4
    refine ⟨_, cap, w', V2', V3', ?_, hnew, h3⟩
    rw [hr, List.length_append]
theorem wp_append_T {o : Oper} {act : Act} {K : Act → World → Prop} {Q : Exit → Act → World → Prop} {w : World} (s x : Operand)
    (ho : o.op = .call { callee := .builtin .append, args := #[s, x], argTypes := #[46, 46] })
    {B m lo hi : Nat} {v vx : Value} {acc ts : List TermL} {V2 V3 : Nat → Value} (hs : act.eval s = v) (hx : act.eval x = vx) (hown : OwnTp w B v acc V2 V3 m) (hsrc : TS w lo hi vx ts) (hm : m ≤ lo) (hB : B ≤ lo) (hh : hi ≤ w.heap.size) (h63 : acc.length + ts.length ≤ 100000) (hBw : B ≤ w.heap.size)
    (h : ∀ a cap w' V2' V3', OwnTp w' B (.slice a (acc ++ ts).length cap) (acc ++ ts) V2' V3' w'.heap.size → w.grownBy w' v.ownBlock → K (act.put o.dst (.slice a (acc ++ ts).length cap)) w') : o.wp Try.prog act w K Q := by
  obtain ⟨a, cap, w', V2', V3', hr, h2, h3⟩ := run_append_T o.type hown hsrc hm hB hh h63 hBw
  unfold Oper.wp execOp
  simp only [ho, resolve, invoke, builtin, Sem.run_bind, Sem.run_pure, Result.andThen_ok, List.map_toArray, List.map_cons, List.map_nil, hs, hx, hr]
  exact h a cap w' V2' V3' h2 h3
theorem wpList_append_T {ops : Array Oper} {rest : List Oper} {o : Oper} {act : Act} {Q : Exit → Act → World → Prop} {w : World} (hgd : o.guard = none) (s x : Operand)
    (ho : o.op = .call { callee := .builtin .append, args := #[s, x], argTypes := #[46, 46] })
    {B m lo hi : Nat} {v vx : Value} {acc ts : List TermL} {V2 V3 : Nat → Value} (hs : act.eval s = v) (hx : act.eval x = vx) (hown : OwnTp w B v acc V2 V3 m) (hsrc : TS w lo hi vx ts) (hm : m ≤ lo) (hB : B ≤ lo) (hh : hi ≤ w.heap.size) (h63 : acc.length + ts.length ≤ 100000) (hBw : B ≤ w.heap.size)
    (h : ∀ a cap w' V2' V3', OwnTp w' B (.slice a (acc ++ ts).length cap) (acc ++ ts) V2' V3' w'.heap.size → w.grownBy w' v.ownBlock → wpList Try.prog ops Q rest (act.put o.dst (.slice a (acc ++ ts).length cap)) w') : wpList Try.prog ops Q (o :: rest) act w :=
  wpList_plain hgd fun _ hK => wp_append_T s x ho hs hx hown hsrc hm hB hh h63 hBw fun a cap w' V2' V3' h2 h3 => hK _ _ (h a cap w' V2' V3' h2 h3)
end Go.Proofs.Ytehhoplenloocaa
