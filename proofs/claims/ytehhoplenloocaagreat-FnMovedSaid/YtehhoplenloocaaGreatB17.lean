/- B17: texts in one: Wrp Last HerM TetM TetS Mat Move Mat2 Adj Inv. -/
import Derived.Test.YtehhoplenloocaaGreatB2
import Derived.Test.YtehhoplenloocaaGreatPlace
import Derived.Deep.RegionHeld3
import Derived.StillTail
import Derived.Deep.RegionHeld
import Derived.Test.YtehhoplenloocaaGreatB4
import Derived.Test.YtehhoplenloocaaGreatB1
import Derived.Deep.RegionWith
import Derived.BigQuiet
/- Row steps with the wrap of 64 bits. -/
namespace Go.Proofs.YtehhoplenloocaaGreat
open Go.RowKit
set_option linter.unusedVariables false
set_option linter.unusedSimpArgs false

set_option maxHeartbeats 1000000 in
theorem l2ScaleW_any (l : List Int) (v : Value) (m : Int) (hb : Nat) (w : World) (h : ISr w hb v l) (hhb : hb ≤ w.heap.size) (hl : l.length ≤ 1000000) :
    Calls Tryz.prog 36 #[v, .int .i64 m] w fun e w' => ∃ v', e = .returned v' ∧ IS w' w.heap.size w'.heap.size v' (l.map (fun x => wrap64 (x * m))) ∧ Below w.heap.size w w' := by
  obtain ⟨i0, hi0, hz0, hz1, hz2⟩ := info_parts info_int
  have HI0 := Lib.hid hi0; clear hi0
  have HZ0 := Lib.hid hz0; clear hz0
  have HZ1 := Lib.hid hz1; clear hz1
  have HZ2 := Lib.hid hz2; clear hz2
  obtain ⟨n, hn⟩ : ∃ n, n = l.length := ⟨_, rfl⟩
  obtain ⟨a, cap, rfl, -, -, hcell⟩ := id h
  rw [← hn] at hl ⊢
  have HN := Lib.hid hn; clear hn
  have HC := Lib.hid hcell; clear hcell h
  go_enter Tryz.func36, Tryz.ntmps36
  go_wp2
  go_loopw [5, 6] (fun ov i wr => ∃ (k : Nat) (acc : List Int), k ≤ n ∧ i = .int .i64 k ∧ acc.length ≤ k ∧ Hid (acc = (l.take k).map (fun x => wrap64 (x * m))) ∧ Hid (OwnI wr w.heap.size ov acc) ∧ Hid (Below w.heap.size w wr)) (fun _ i _ => n - (intOf i).toNat)
  case atStart => exact ⟨0, [], by omega, rfl, Nat.le_refl _, Lib.hid (by simp), OwnI.lit0 w _ (Nat.le_refl _), below1 _ _⟩
  case round =>
    obtain ⟨k, acc, hk, rfl, hal, hacc, hown, hbe⟩ := hrel
    by_cases hlt : k < n
    · have hkl : k < l.length := by rw [← HN.out]; exact hlt
      obtain ⟨b, off, rfl, hbb, hcc⟩ := HC.out (by intro e; rw [e] at hkl; exact absurd hkl (Nat.not_lt_zero _))
      have hck := (hbe.out.cell (p := ⟨b, off + k, none⟩) (Nat.lt_of_lt_of_le hbb hhb)).trans (hcc k hkl)
      have HE := Lib.hid (map_step (fun x => wrap64 (x * m)) l k hkl)
      rw [← hacc.out] at HE
      clear hcc hkl
      generalize l.getD k 0 = x at *
      have hbs := hbe.out.size
      go_wp2_with (at_builtin; refine wpList_append_own _ rfl _ _ 25 rfl w.heap.size 3 i0 (.int .i64 0) 1 8 Tryz.underlying25 HI0.out HZ0.out HZ1.out HZ2.out rfl (by decide) _ _ _ rfl (hown.out.alloc _) ⟨wr.heap.size, 0, none⟩ 1 1 [.int .i64 (wrap64 (x * m))] rfl rfl ?c1 ?c2 ?c3 ?c4 ?c5 ?_)
      case c1 => exact cell_one_new _ _ _
      case c2 => first | rfl | (intro u hu; simp at hu; subst hu; rfl)
      case c3 => unfold maxLen; omega
      case c4 => omega
      case c5 => first | omega | (simp; omega)
      intro v2 w2 hown2 hgrow _
      have HO := Lib.hid (OwnI.push hown2); clear hown2
      have HBE := Lib.hid (OwnI.below hbe.out hbs _ hgrow hown.out (Nat.le_refl _))
      clear hgrow
      go_wp2
      go_roundw
      case rel => exact ⟨k + 1, _, by omega, by go_num, by simp; omega, HE, HO, HBE⟩
      case measure => simp [intOf]; omega
    · obtain rfl : k = n := by omega
      have hfin : acc = l.map (fun x => wrap64 (x * m)) := by rw [hacc.out, HN.out, List.take_length]
      subst hfin
      go_wp2
      go_ret
      exact ⟨_, rfl, hown.out.is, hbe.out⟩
set_option maxHeartbeats 1000000 in
theorem l2LessW0_any (l l' : List Int) (v v' : Value) (hb : Nat) (w : World) (h : ISr w hb v l) (h' : ISr w hb v' l') (hhb : hb ≤ w.heap.size) (hl : l.length ≤ 1000000) (hll : l.length ≤ l'.length) :
    Calls Tryz.prog 85 #[v, v'] w fun e w' => ∃ u, e = .returned u ∧ IS w' w.heap.size w'.heap.size u (List.zipWith (fun x y => IntKind.i64.wrap (x - y)) l l') ∧ Below w.heap.size w w' := by
  obtain ⟨i0, hi0, hz0, hz1, hz2⟩ := info_parts info_int
  have HI0 := Lib.hid hi0; clear hi0
  have HZ0 := Lib.hid hz0; clear hz0
  have HZ1 := Lib.hid hz1; clear hz1
  have HZ2 := Lib.hid hz2; clear hz2
  obtain ⟨n, hn⟩ : ∃ n, n = l.length := ⟨_, rfl⟩
  obtain ⟨n', hn'⟩ : ∃ n, n = l'.length := ⟨_, rfl⟩
  obtain ⟨a, cap, rfl, -, -, hcell⟩ := id h
  obtain ⟨a', cap', rfl, -, hm', hcell'⟩ := id h'
  rw [← hn] at hl hll ⊢
  rw [← hn'] at hll ⊢
  have HN := Lib.hid hn; clear hn
  have HN' := Lib.hid hn'; clear hn'
  have HC := Lib.hid hcell; clear hcell h
  have HC' := Lib.hid hcell'; clear hcell' h' hm'
  go_enter Tryz.func85, Tryz.ntmps85
  go_wp2
  go_loopw [5, 6] (fun ov i wr => ∃ (k : Nat) (acc : List Int), k ≤ n ∧ i = .int .i64 k ∧ acc.length ≤ k ∧ Hid (acc = List.zipWith (fun x y => IntKind.i64.wrap (x - y)) (l.take k) (l'.take k)) ∧ Hid (OwnI wr w.heap.size ov acc) ∧ Hid (Below w.heap.size w wr)) (fun _ i _ => n - (intOf i).toNat)
  case atStart => exact ⟨0, [], by omega, rfl, Nat.le_refl _, Lib.hid (by simp), OwnI.lit0 w _ (Nat.le_refl _), below1 _ _⟩
  case round =>
    obtain ⟨k, acc, hk, rfl, hal, hacc, hown, hbe⟩ := hrel
    by_cases hlt : k < n
    · have hkl : k < l.length := by rw [← HN.out]; exact hlt
      have hkl' : k < l'.length := by rw [← HN'.out]; omega
      obtain ⟨b, off, rfl, hbb, hcc⟩ := HC.out (by intro e; rw [e] at hkl; exact absurd hkl (Nat.not_lt_zero _))
      obtain ⟨b', off', rfl, hbb', hcc'⟩ := HC'.out (by intro e; rw [e] at hkl'; exact absurd hkl' (Nat.not_lt_zero _))
      have hck := (hbe.out.cell (p := ⟨b, off + k, none⟩) (Nat.lt_of_lt_of_le hbb hhb)).trans (hcc k hkl)
      have hck' := (hbe.out.cell (p := ⟨b', off' + k, none⟩) (Nat.lt_of_lt_of_le hbb' hhb)).trans (hcc' k hkl')
      have HE := Lib.hid (zip_step (fun x y => IntKind.i64.wrap (x - y)) l l' k hkl hkl')
      rw [← hacc.out] at HE
      clear hcc hcc' hkl hkl'
      generalize l.getD k 0 = x at *
      generalize l'.getD k 0 = y at *
      have hbs := hbe.out.size
      have hi1 : (0 : Int) ≤ (k : Int) := by omega
      have hi2 : (k : Int) < (n : Int) := by omega
      have hi3 : (k : Int) < (n' : Int) := by omega
      go_wp2_with fail
      have lg := World.block_lt_of_cell? wr _ hck
      have lg' := World.block_lt_of_cell? wr _ hck'
      have ag : u5.ownBlock ≠ some b := fun e => by have := (World.ownsRow.lt hown.out b e).1; omega
      have ag' : u5.ownBlock ≠ some b' := fun e => by have := (World.ownsRow.lt hown.out b' e).1; omega
      go_region_held3 (fun w' => w'.cell? ⟨b, off + k, none⟩ = some (.int .i64 x) ∧ w'.cell? ⟨b', off' + k, none⟩ = some (.int .i64 y))
        (first
          | go_keep
          | (go_split_ands
             refine ⟨?_, ?_⟩
             · (rw [hgrow.cell_far _ (by simp; omega) (Ne.symm ag)]; assumption)
             · (rw [hgrow.cell_far _ (by simp; omega) (Ne.symm ag')]; assumption)))
        ((refine step_append_lies _ (by rfl) _ _ _ (by rfl) w.heap.size 3 i0 _ 1 8 Tryz.underlying25 HI0.out HZ0.out HZ1.out HZ2.out rfl (by omega) u5 acc.length (ivs acc) (by rfl) ((hown.out.alloc _).drew)
            ⟨wr.heap.size, 0, none⟩ 1 1 [.int .i64 (IntKind.i64.wrap (x - y))] (by rfl) (by rfl) (World.news_of_block (cs := #[.int .i64 (IntKind.i64.wrap (x - y))]) (t := 3) (fr := (0, 0)) (heap_alloc_new wr _)) (by simp [Value.oneCell'])
            (by omega) (by unfold maxLen; omega) (by omega) (by simp; omega) (wr.heap.size + 1) (by simp) ?_; intro gg cap w1 hown1 hgrow hat hlt))
      have HO := Lib.hid (OwnI.push hown1); clear hown1
      have HBE := Lib.hid (OwnI.below hbe.out hbs _ (grown_undrew hgrow) hown.out (Nat.le_refl _))
      clear hgrow hat hlt lg lg' ag ag'
      go_wp2
      go_roundw
      case rel => exact ⟨k + 1, _, by omega, by go_num, by simp; omega, HE, HO, HBE⟩
      case measure => simp [intOf]; omega
    · obtain rfl : k = n := by omega
      have hfin : acc = List.zipWith (fun x y => IntKind.i64.wrap (x - y)) l l' := by
        rw [hacc.out, HN.out, List.take_length]
        exact zip_full _ _ _
      subst hfin
      go_wp2
      go_ret
      exact ⟨_, rfl, hown.out.is, hbe.out⟩
theorem wrap_64 (x : Int) : IntKind.i64.wrap x = wrap64 x := IntWalk.i64_left x
theorem l2LessW_any (l l' : List Int) (v v' : Value) (hb : Nat) (w : World) (h : ISr w hb v l) (h' : ISr w hb v' l') (hhb : hb ≤ w.heap.size) (hl : l.length ≤ 1000000) (hll : l.length ≤ l'.length) :
    Calls Tryz.prog 85 #[v, v'] w fun e w' => ∃ u, e = .returned u ∧ IS w' w.heap.size w'.heap.size u (List.zipWith (fun x y => wrap64 (x - y)) l l') ∧ Below w.heap.size w w' := by
  have := l2LessW0_any l l' v v' hb w h h' hhb hl hll
  simp only [wrap_64] at this
  exact this
/-- the floor of a quotient as the code reckons it -/
def flW (a b : Int) : Int := if a.tmod b < 0 then wrap64 (wrap64 (a.tdiv b) - 1) else wrap64 (a.tdiv b)
theorem l3FloorW_any (a b : Int) (w : World) (hb : ¬ b = 0) :
    Calls Tryz.prog 87 #[.int .i64 a, .int .i64 b] w fun e w' => e = .returned (.int .i64 (flW a b)) ∧ w = w' := by
  have hb2 : (b == 0) = false := by rw [beq_eq_false_iff_ne]; exact hb
  go_enter Tryz.func87, Tryz.ntmps87
  go_wp2
  · have h : a.tmod b < 0 := by assumption
    go_ret
    exact ⟨ret_int (by unfold flW; rw [if_pos h]), rfl⟩
  · have h : 0 ≤ a.tmod b := by assumption
    go_ret
    exact ⟨ret_int (by unfold flW; rw [if_neg (by omega)]), rfl⟩
theorem downW_any (a b : Int) (w : World) (hb : ¬ b = 0) :
    Calls Tryz.prog 82 #[.int .i64 a, .int .i64 b] w fun e w' => e = .returned (.int .i64 (flW a b)) ∧ w = w' := by
  have hb2 : (b == 0) = false := by rw [beq_eq_false_iff_ne]; exact hb
  go_enter Tryz.func82, Tryz.ntmps82
  go_wp2
  · have h : a.tmod b < 0 := by assumption
    go_ret
    exact ⟨ret_int (by unfold flW; rw [if_pos h]), rfl⟩
  · have h : 0 ≤ a.tmod b := by assumption
    go_ret
    exact ⟨ret_int (by unfold flW; rw [if_neg (by omega)]), rfl⟩
/-- one row less a multiple of another, with the wrap -/
def subW (a b : List Int) (q : Int) : List Int := List.zipWith (fun x y => wrap64 (x - wrap64 (y * q))) a b
def subK (a b : List Int) (q : Int) (k : Nat) : List Int := (List.range a.length).map fun i => if i < k then wrap64 (a.getD i 0 - wrap64 (q * b.getD i 0)) else a.getD i 0
theorem subK_len (a b : List Int) (q : Int) (k : Nat) : (subK a b q k).length = a.length := by simp [subK]
theorem subK_zero (a b : List Int) (q : Int) : subK a b q 0 = a := by
  apply List.ext_getElem?
  intro i
  unfold subK
  rw [List.getElem?_map]
  by_cases h : i < a.length
  · rw [List.getElem?_range h, List.getElem?_eq_getElem h]; simp [List.getD_eq_getElem?_getD, List.getElem?_eq_getElem h]
  · rw [List.getElem?_eq_none (by simp; omega), List.getElem?_eq_none (by omega)]; rfl
theorem subK_at {a : List Int} {i k : Nat} (b : List Int) (q : Int) (h : i < a.length) (hk : k ≤ i) : (subK a b q k).getD i 0 = a.getD i 0 := by
  unfold subK; rw [List.getD_eq_getElem?_getD, List.getElem?_map, List.getElem?_range h]
  show (if i < k then _ else _) = _
  rw [if_neg (by omega)]
theorem subK_set {a : List Int} {k : Nat} (b : List Int) (q : Int) (h : k < a.length) : (subK a b q k).set k (wrap64 (a.getD k 0 - wrap64 (q * b.getD k 0))) = subK a b q (k + 1) := by
  apply List.ext_getElem?
  intro c
  rw [List.getElem?_set]
  unfold subK
  rw [List.length_map, List.length_range, List.getElem?_map, List.getElem?_map]
  by_cases e : k = c
  · subst e
    rw [if_pos rfl, if_pos h, List.getElem?_range h]
    simp
  · rw [if_neg e]
    by_cases hc : c < a.length
    · rw [List.getElem?_range hc]
      show some (if c < k then _ else _) = some (if c < k + 1 then _ else _)
      by_cases e2 : c < k
      · rw [if_pos e2, if_pos (by omega)]
      · rw [if_neg e2, if_neg (by omega)]
    · rw [List.getElem?_eq_none (by simp; omega)]; rfl
theorem subK_full {a b : List Int} (q : Int) (hl : a.length = b.length) : subK a b q a.length = subW a b q := by
  apply List.ext_getElem?
  intro c
  unfold subK subW
  rw [List.getElem?_map, List.getElem?_zipWith]
  by_cases hc : c < a.length
  · rw [List.getElem?_range hc, List.getElem?_eq_getElem hc, List.getElem?_eq_getElem (by omega : c < b.length)]
    simp [List.getD_eq_getElem?_getD, hc, List.getElem?_eq_getElem hc, List.getElem?_eq_getElem (by omega : c < b.length), Int.mul_comm]
  · rw [List.getElem?_eq_none (by simp; omega), List.getElem?_eq_none (by omega : a.length ≤ c)]; rfl
theorem subW_len {a b : List Int} (q : Int) (hl : a.length = b.length) : (subW a b q).length = a.length := by unfold subW; simp [hl]
end Go.Proofs.YtehhoplenloocaaGreat

/- A region that draws its order and whose last operation waits for all the others: it is carried out last (a store, say), and need not keep what the others keep. -/
namespace Go.Proofs.YtehhoplenloocaaGreat
open Go Go.RowKit
set_option linter.unusedVariables false
set_option linter.unusedSimpArgs false

section
variable {P : Program} {md : Region.Mode} {Q : Exit → Act → World → Prop}

/-- behind the others the last one -/
def lastQ (P : Program) (o : Oper) (Q : Exit → Act → World → Prop) : Exit → Act → World → Prop
  | .normal, a, w => o.wp P a w (fun a' w' => Q .normal a' w') Q
  | e, a, w => Q e a w
theorem lastQ_of {o : Oper} : ∀ e a w, e ≠ .normal → lastQ P o Q e a w → Q e a w := fun e a w he h => by
  cases e <;> first | exact absurd rfl he | exact h
/-- no guards; each waits only for earlier ones; each of the first n has a later one that waits for it -/
def lastB (md : Region.Mode) (ops : Array Oper) (n : Nat) : Bool :=
  (List.range ops.size).all (fun j => (ops[j]?.map fun o => o.guard.isNone && o.after.all fun e => decide (e.on < j)).getD false) && Region.sinkB md ops n && Region.chainB md ops n
theorem wpU_mono {o : Oper} {a : Act} {w : World} {K K' : Act → World → Prop} {Q Q' : Exit → Act → World → Prop} (h : ∀ a w, K a w → K' a w) (hq : ∀ e a w, e ≠ .normal → Q e a w → Q' e a w) (hh : o.wp P a w K Q) : o.wp P a w K' Q' := by
  unfold Oper.wp at *
  generalize (execOp a.eval o).run P w = r at *
  match r, hh with
  | .ok (.value v) w', hh => exact h _ _ hh
  | .ok .skip w', hh => exact h _ _ hh
  | .ok (.defer d) w', hh => exact h _ _ hh
  | .ok (.enter f args) w', hh =>
    exact Calls.mono hh (fun e w'' he => match e, he with
      | .returned v, he => h _ _ he
      | .panicked c, he => hq _ _ _ (by simp) he
      | .outgrown, ⟨a0, w0, he⟩ => ⟨a0, w0, hq _ _ _ (by simp) he⟩)
  | .ok (.row row args) w', hh => exact Rows.mono hh fun _ _ he => h _ _ he
  | .halt (.panic v) w', hh => exact hq _ _ _ (by simp) hh
theorem lastB_at {ops : Array Oper} {n : Nat} (h : lastB md ops n = true) {j : Nat} {o : Oper} (ho : ops[j]? = some o) : o.guard = none ∧ ∀ e ∈ o.after, e.on < j := by
  unfold lastB at h
  simp only [Bool.and_eq_true] at h
  have hj : j < ops.size := (Array.getElem?_eq_some_iff.1 ho).1
  have := List.all_eq_true.1 h.1.1 j (List.mem_range.2 hj)
  rw [ho] at this
  simp only [Option.map_some, Option.getD_some, Bool.and_eq_true, Option.isNone_iff_eq_none, Array.all_eq_true_iff_forall_mem, decide_eq_true_eq] at this
  exact this
/-- where nothing is ready all have been -/
theorem ready_none {ops : Array Oper} {n : Nat} (hB : lastB md ops n = true) {listed : Array Bool} (hs : listed.size = ops.size) (h : Region.ready md ops listed = []) : ∀ i, i < ops.size → listed.getD i true = true := by
  intro i
  induction i using Nat.strongRecOn with
  | _ i ih =>
    intro hi
    cases hl : listed.getD i true with
    | true => rfl
    | false =>
      have ho : ops[i]? = some ops[i] := Array.getElem?_eq_getElem hi
      have hm : i ∈ Region.ready md ops listed := mem_ready.2 ⟨hl, ops[i], ho, fun e he hb => by
        have hlt := (lastB_at hB ho).2 e he
        have := ih e.on hlt (by omega)
        have hsz : e.on < listed.size := by omega
        simp only [Array.getD, hsz, dif_pos] at this ⊢
        exact this⟩
      rw [h] at hm; cases hm
theorem getD_push {l : Array Bool} {i : Nat} (d : Bool) (h : i < l.size) : (l.push false).getD i d = l.getD i d := by
  simp only [Array.getD_eq_getD_getElem?, Array.getElem?_push]
  rw [if_neg (by omega)]
theorem set_push {l : Array Bool} {i : Nat} (h : i < l.size) : (l.push false).setIfInBounds i true = (l.setIfInBounds i true).push false := by
  apply Array.ext_getElem?
  intro j
  simp only [Array.getElem?_setIfInBounds, Array.getElem?_push, Array.size_push, Array.size_setIfInBounds]
  by_cases e : i = j
  · subst e
    rw [if_pos rfl, if_pos (by omega), if_neg (by omega), if_pos rfl, if_pos h]
  · rw [if_neg e]
    by_cases e2 : j = l.size
    · rw [if_pos e2, if_pos e2]
    · rw [if_neg e2, if_neg e2, if_neg e]
theorem wpAny_last {l : List Oper} {n : Nat} {o : Oper} (hl : l.length = n + 1) (ho : l[n]? = some o) (hB : lastB md l.toArray n = true) :
    ∀ (f : Nat) (listed : Array Bool) (a : Act) (w : World), HeadInv md l.toArray n (listed.push false) → listed.size = n → wpAny P md (l.take n).toArray (lastQ P o Q) f listed a w → wpAny P md l.toArray Q (f + 1) (listed.push false) a w := by
  have hg : ∀ j (oj : Oper), l.toArray[j]? = some oj → oj.guard = none := fun j oj h => (lastB_at hB h).1
  have hsz : l.toArray.size = n + 1 := by simpa using hl
  have hB' := hB
  unfold lastB at hB'
  simp only [Bool.and_eq_true] at hB'
  have hat : ∀ j, j < n → (l.take n).toArray[j]? = l.toArray[j]? := fun j hj => by simp [hj]
  have hpn : l.toArray[n]? = some o := by simpa using ho
  have hpre : ∀ (listed : Array Bool), listed.size = n → ∀ j, j < n → (j ∈ Region.ready md l.toArray (listed.push false) ↔ j ∈ Region.ready md (l.take n).toArray listed) := fun listed hs j hj => by
    rw [mem_ready, mem_ready, getD_push true (by omega), hat j hj]
    constructor
    · rintro ⟨h1, oj, h2, h3⟩
      refine ⟨h1, oj, h2, fun e he hb => ?_⟩
      have hlt := (lastB_at hB h2).2 e he
      have := h3 e he hb
      rwa [getD_push false (by omega)] at this
    · rintro ⟨h1, oj, h2, h3⟩
      refine ⟨h1, oj, h2, fun e he hb => ?_⟩
      have hlt := (lastB_at hB h2).2 e he
      rw [getD_push false (by omega)]
      exact h3 e he hb
  have hnone : ∀ (listed : Array Bool), listed.size = n → Region.ready md l.toArray (listed.push false) ≠ [] := fun listed hs h => by
    have := ready_none hB (by rw [Array.size_push, hs, hsz]) h n (by omega)
    simp only [Array.getD_eq_getD_getElem?, Array.getElem?_push] at this
    rw [if_pos hs.symm] at this
    simp at this
  have hlast : ∀ (listed : Array Bool) (a : Act) (w : World), HeadInv md l.toArray n (listed.push false) → listed.size = n → n ∈ Region.ready md l.toArray (listed.push false) → (Region.ready md (l.take n).toArray listed = [] → lastQ P o Q .normal a w) → ∀ f, wpOp P l.toArray Q n (wpAny P md l.toArray Q f ((listed.push false).setIfInBounds n true)) a w := fun listed a w inv hs hn hq f => by
    have hall : ∀ i, i < n → listed.getD i true = true := fun i hi => by
      cases e : listed.getD i true with
      | true => rfl
      | false => exact absurd hn (tail_waits hB'.1.2 hB'.2 (by omega) inv _ i rfl hi (by rw [getD_push true (by omega)]; exact e) n (Nat.le_refl _))
    have hr0 : Region.ready md (l.take n).toArray listed = [] := by
      rw [List.eq_nil_iff_forall_not_mem]
      intro j hj
      obtain ⟨h1, oj, h2, -⟩ := mem_ready.1 hj
      have hjn : j < n := by
        have := (Array.getElem?_eq_some_iff.1 h2).1
        simp at this; omega
      rw [hall j hjn] at h1; cases h1
    have hq := hq hr0
    have hr1 : Region.ready md l.toArray ((listed.push false).setIfInBounds n true) = [] := by
      rw [List.eq_nil_iff_forall_not_mem]
      intro j hj
      obtain ⟨h1, oj, h2, -⟩ := mem_ready.1 hj
      have hjn : j < n + 1 := by
        have := (Array.getElem?_eq_some_iff.1 h2).1
        omega
      by_cases e : j = n
      · subst e
        simp only [Array.getD_eq_getD_getElem?, Array.getElem?_setIfInBounds] at h1
        rw [if_pos (show j < (listed.push false).size by simp [hs])] at h1
        simp at h1
      · rw [getD_set_ne true (Ne.symm e), getD_push true (by omega), hall j (by omega)] at h1; cases h1
    unfold wpOp
    rw [hpn]
    dsimp only
    rw [if_pos (by unfold Region.wanted; rw [hg n o hpn])]
    left
    refine wpU_mono (fun a' w' hh => ?_) (fun _ _ _ _ h => h) hq
    cases f with
    | zero => exact ⟨hr1, hh⟩
    | succ f => exact ⟨fun _ => hh, by rw [hr1]; simp⟩
  intro f
  induction f with
  | zero =>
    intro listed a w inv hs h
    refine ⟨fun h0 => absurd h0 (hnone listed hs), fun i hi => ?_⟩
    have hin : i < n + 1 := by
      obtain ⟨-, oj, h2, -⟩ := mem_ready.1 hi
      have := (Array.getElem?_eq_some_iff.1 h2).1
      omega
    by_cases e : i = n
    · subst e
      exact hlast listed a w inv hs hi (fun _ => h.2) _
    · have := (hpre listed hs i (by omega)).1 hi
      rw [h.1] at this; cases this
  | succ f ih =>
    intro listed a w inv hs h
    refine ⟨fun h0 => absurd h0 (hnone listed hs), fun i hi => ?_⟩
    have hin : i < n + 1 := by
      obtain ⟨-, oj, h2, -⟩ := mem_ready.1 hi
      have := (Array.getElem?_eq_some_iff.1 h2).1
      omega
    by_cases e : i = n
    · subst e
      exact hlast listed a w inv hs hi h.1 _
    · have hi2 := (hpre listed hs i (by omega)).1 hi
      have hop := h.2 i hi2
      have inv2 := inv.set hi (by omega)
      rw [set_push (by omega)] at inv2 ⊢
      obtain ⟨-, oi, hoi, -⟩ := mem_ready.1 hi
      unfold wpOp at hop ⊢
      rw [hat i (by omega), hoi] at hop
      rw [hoi]
      dsimp only at hop ⊢
      rw [if_pos (by unfold Region.wanted; rw [hg i oi hoi])] at hop ⊢
      rcases hop with hop | ⟨h1, a0, w0, h2⟩
      · left
        exact wpU_mono (fun a' w' hh => ih _ a' w' inv2 (by rw [Array.size_setIfInBounds]; exact hs) hh) lastQ_of hop
      · right
        exact ⟨h1, a0, w0, lastQ_of _ _ _ (by simp) h2⟩
/-- the law -/
theorem wp_region_last {id : Nat} {a : Act} {w : World} {l : List Oper} {S : World → Prop} (n : Nat) (o : Oper) (hm : P.follows .mixedOrders = true) (hl : l.length = n + 1) (ho : l[n]? = some o) (hB : lastB .any l.toArray n = true)
    (h : wpAnyH P .any (l.take n).toArray (lastQ P o Q) S n (Array.replicate n false) a w.drew) : (Code.region id l.toArray true).wp P Q a w := by
  refine wp_region_any hm ?_
  have e : l.toArray.size = n + 1 := by simpa using hl
  have e2 : Array.replicate l.toArray.size false = (Array.replicate n false).push false := by
    rw [e, Array.replicate_succ]
  rw [e2, e]
  refine wpAny_last hl ho hB n _ a _ ⟨by simp [e], fun j oj _ hj => ?_, fun t ht ht' => ?_⟩ (by simp) (wpAny_of_held _ _ _ _ h)
  · rw [← e2, getD_replicate_false] at hj; cases hj
  · rw [← e2]; exact getD_in (by simpa using ht') (getD_replicate_false _ _)
end
end Go.Proofs.YtehhoplenloocaaGreat

/- Hermite's form as the code reckons it (64 bits, with the wrap): plain law. -/
namespace Go.Proofs.YtehhoplenloocaaGreat
open Go.RowKit
set_option linter.unusedVariables false
set_option linter.unusedSimpArgs false

theorem wrap_ex (x : Int) : ∃ t, wrap64 x = x + 18446744073709551616 * t := ⟨-((x + 9223372036854775808) / 18446744073709551616), by unfold wrap64; omega⟩
theorem wrap_in (x : Int) : -9223372036854775808 ≤ wrap64 x ∧ wrap64 x ≤ 9223372036854775807 := by unfold wrap64; omega
theorem wrap_eq {x y : Int} (h : ∃ t, x = y + 18446744073709551616 * t) : wrap64 x = wrap64 y := by
  obtain ⟨t, rfl⟩ := h; unfold wrap64; omega
theorem wrap_id {x : Int} (h : -9223372036854775808 ≤ x ∧ x ≤ 9223372036854775807) : wrap64 x = x := by unfold wrap64; omega
theorem wrap_sub (x y : Int) : ∃ t, wrap64 (x - wrap64 y) = x - y + 18446744073709551616 * t := by
  obtain ⟨s, hs⟩ := wrap_ex y
  obtain ⟨t, ht⟩ := wrap_ex (x - wrap64 y)
  exact ⟨t - s, by rw [ht, hs]; omega⟩
/-- a square matrix -/
structure Sq (n : Nat) (M : List (List Int)) : Prop where
  len : M.length = n
  row : ∀ i, i < n → (M.getD i []).length = n
def neW (a : List Int) : List Int := a.map (fun x => wrap64 (x * -1))
theorem neW_len (a : List Int) : (neW a).length = a.length := by simp [neW]
theorem getD_setR {M : List (List Int)} {k i : Nat} {r : List Int} (h : k < M.length) : (M.set k r).getD i [] = if i = k then r else M.getD i [] := by
  rw [List.getD_eq_getElem?_getD, List.getElem?_set]
  by_cases e : k = i
  · subst e; simp [h]
  · rw [if_neg e, if_neg (fun e' => e e'.symm), ← List.getD_eq_getElem?_getD]
theorem Sq.set {n k : Nat} {M : List (List Int)} (h : Sq n M) (hk : k < n) {r : List Int} (hr : r.length = n) : Sq n (M.set k r) := by
  refine ⟨by rw [List.length_set]; exact h.len, fun i hi => ?_⟩
  rw [getD_setR (by rw [h.len]; exact hk)]
  split
  · exact hr
  · exact h.row i hi
def dN : List (List Int) → Int
  | [[a]] => a
  | [[a, b], [c, d]] => a * d - b * c
  | [[a, b, c], [d, e, f], [g, h, i]] => a * (e * i - f * h) - b * (d * i - f * g) + c * (d * h - e * g)
  | _ => 0
theorem lenE1 {r : List Int} (h : r.length = 1) : ∃ a, r = [a] := by
  match r, h with | [a], _ => exact ⟨a, rfl⟩
theorem lenE2 {r : List Int} (h : r.length = 2) : ∃ a b, r = [a, b] := by
  match r, h with | [a, b], _ => exact ⟨a, b, rfl⟩
theorem lenE3 {r : List Int} (h : r.length = 3) : ∃ a b c, r = [a, b, c] := by
  match r, h with | [a, b, c], _ => exact ⟨a, b, c, rfl⟩
theorem Sq.one {M : List (List Int)} (h : Sq 1 M) : ∃ a, M = [[a]] := by
  match M, h.len with
  | [r], _ =>
    obtain ⟨a, e⟩ := lenE1 (h.row 0 (by omega))
    exact ⟨a, by rw [show r = [a] from e]⟩
theorem Sq.two {M : List (List Int)} (h : Sq 2 M) : ∃ a b c d, M = [[a, b], [c, d]] := by
  match M, h.len with
  | [r, s], _ =>
    obtain ⟨a, b, e⟩ := lenE2 (h.row 0 (by omega))
    obtain ⟨c, d, e2⟩ := lenE2 (h.row 1 (by omega))
    exact ⟨a, b, c, d, by rw [show r = [a, b] from e, show s = [c, d] from e2]⟩
theorem Sq.three {M : List (List Int)} (h : Sq 3 M) : ∃ a b c d e f g i j, M = [[a, b, c], [d, e, f], [g, i, j]] := by
  match M, h.len with
  | [r, s, t], _ =>
    obtain ⟨a, b, c, e1⟩ := lenE3 (h.row 0 (by omega))
    obtain ⟨d, e, f, e2⟩ := lenE3 (h.row 1 (by omega))
    obtain ⟨g, i, j, e3⟩ := lenE3 (h.row 2 (by omega))
    exact ⟨a, b, c, d, e, f, g, i, j, by rw [show r = [a, b, c] from e1, show s = [d, e, f] from e2, show t = [g, i, j] from e3]⟩
/-- the step of Euclid on the rows k and r, by any quotient -/
def stepQ (k r : Nat) (q : Int) (M : List (List Int)) : List (List Int) := (M.set k (M.getD r [])).set r (subW (M.getD k []) (M.getD r []) q)
theorem stepQ_sq {n k r : Nat} {M : List (List Int)} (h : Sq n M) (hk : k < n) (hr : r < n) (q : Int) : Sq n (stepQ k r q M) :=
  (h.set hk (h.row r hr)).set hr (by rw [subW_len _ (by rw [h.row k hk, h.row r hr]), h.row k hk])
theorem step_d {n k r : Nat} {M : List (List Int)} (h : Sq n M) (h3 : n ≤ 3) (hk : k < r) (hr : r < n) (q : Int) : ∃ t, dN (stepQ k r q M) = -dN M + 18446744073709551616 * t := by
  rcases (show n = 1 ∨ n = 2 ∨ n = 3 by omega) with rfl | rfl | rfl
  · omega
  · obtain ⟨a, b, c, d, rfl⟩ := h.two
    obtain rfl : k = 0 := by omega
    obtain rfl : r = 1 := by omega
    obtain ⟨t1, h1⟩ := wrap_sub a (c * q)
    obtain ⟨t2, h2⟩ := wrap_sub b (d * q)
    show ∃ t, dN [[c, d], [wrap64 (a - wrap64 (c * q)), wrap64 (b - wrap64 (d * q))]] = _
    rw [h1, h2]
    exact ⟨dN [[c, d], [t1, t2]], by simp only [dN]; grind⟩
  · obtain ⟨a, b, c, d, e, f, g, i, j, rfl⟩ := h.three
    rcases (show (k = 0 ∧ r = 1) ∨ (k = 0 ∧ r = 2) ∨ (k = 1 ∧ r = 2) by omega) with ⟨rfl, rfl⟩ | ⟨rfl, rfl⟩ | ⟨rfl, rfl⟩
    · obtain ⟨t1, h1⟩ := wrap_sub a (d * q)
      obtain ⟨t2, h2⟩ := wrap_sub b (e * q)
      obtain ⟨t3, h3⟩ := wrap_sub c (f * q)
      show ∃ t, dN [[d, e, f], [wrap64 (a - wrap64 (d * q)), wrap64 (b - wrap64 (e * q)), wrap64 (c - wrap64 (f * q))], [g, i, j]] = _
      rw [h1, h2, h3]
      exact ⟨dN [[d, e, f], [t1, t2, t3], [g, i, j]], by simp only [dN]; grind⟩
    · obtain ⟨t1, h1⟩ := wrap_sub a (g * q)
      obtain ⟨t2, h2⟩ := wrap_sub b (i * q)
      obtain ⟨t3, h3⟩ := wrap_sub c (j * q)
      show ∃ t, dN [[g, i, j], [d, e, f], [wrap64 (a - wrap64 (g * q)), wrap64 (b - wrap64 (i * q)), wrap64 (c - wrap64 (j * q))]] = _
      rw [h1, h2, h3]
      exact ⟨dN [[g, i, j], [d, e, f], [t1, t2, t3]], by simp only [dN]; grind⟩
    · obtain ⟨t1, h1⟩ := wrap_sub d (g * q)
      obtain ⟨t2, h2⟩ := wrap_sub e (i * q)
      obtain ⟨t3, h3⟩ := wrap_sub f (j * q)
      show ∃ t, dN [[a, b, c], [g, i, j], [wrap64 (d - wrap64 (g * q)), wrap64 (e - wrap64 (i * q)), wrap64 (f - wrap64 (j * q))]] = _
      rw [h1, h2, h3]
      exact ⟨dN [[a, b, c], [g, i, j], [t1, t2, t3]], by simp only [dN]; grind⟩
theorem wrap_neg (x : Int) : ∃ t, wrap64 (x * -1) = -x + 18446744073709551616 * t := by
  obtain ⟨t, ht⟩ := wrap_ex (x * -1)
  exact ⟨t, by rw [ht]; omega⟩
theorem neg_d {n k : Nat} {M : List (List Int)} (h : Sq n M) (h3 : n ≤ 3) (hk : k < n) : ∃ t, dN (M.set k (neW (M.getD k []))) = -dN M + 18446744073709551616 * t := by
  rcases (show n = 1 ∨ n = 2 ∨ n = 3 by omega) with rfl | rfl | rfl
  · obtain ⟨a, rfl⟩ := h.one
    obtain rfl : k = 0 := by omega
    obtain ⟨t1, h1⟩ := wrap_neg a
    show ∃ t, dN [[wrap64 (a * -1)]] = _
    rw [h1]
    exact ⟨t1, by simp only [dN]⟩
  · obtain ⟨a, b, c, d, rfl⟩ := h.two
    rcases (show k = 0 ∨ k = 1 by omega) with rfl | rfl
    · obtain ⟨t1, h1⟩ := wrap_neg a
      obtain ⟨t2, h2⟩ := wrap_neg b
      show ∃ t, dN [[wrap64 (a * -1), wrap64 (b * -1)], [c, d]] = _
      rw [h1, h2]
      exact ⟨dN [[t1, t2], [c, d]], by simp only [dN]; grind⟩
    · obtain ⟨t1, h1⟩ := wrap_neg c
      obtain ⟨t2, h2⟩ := wrap_neg d
      show ∃ t, dN [[a, b], [wrap64 (c * -1), wrap64 (d * -1)]] = _
      rw [h1, h2]
      exact ⟨dN [[a, b], [t1, t2]], by simp only [dN]; grind⟩
  · obtain ⟨a, b, c, d, e, f, g, i, j, rfl⟩ := h.three
    rcases (show k = 0 ∨ k = 1 ∨ k = 2 by omega) with rfl | rfl | rfl
    · obtain ⟨t1, h1⟩ := wrap_neg a
      obtain ⟨t2, h2⟩ := wrap_neg b
      obtain ⟨t3, h3⟩ := wrap_neg c
      show ∃ t, dN [[wrap64 (a * -1), wrap64 (b * -1), wrap64 (c * -1)], [d, e, f], [g, i, j]] = _
      rw [h1, h2, h3]
      exact ⟨dN [[t1, t2, t3], [d, e, f], [g, i, j]], by simp only [dN]; grind⟩
    · obtain ⟨t1, h1⟩ := wrap_neg d
      obtain ⟨t2, h2⟩ := wrap_neg e
      obtain ⟨t3, h3⟩ := wrap_neg f
      show ∃ t, dN [[a, b, c], [wrap64 (d * -1), wrap64 (e * -1), wrap64 (f * -1)], [g, i, j]] = _
      rw [h1, h2, h3]
      exact ⟨dN [[a, b, c], [t1, t2, t3], [g, i, j]], by simp only [dN]; grind⟩
    · obtain ⟨t1, h1⟩ := wrap_neg g
      obtain ⟨t2, h2⟩ := wrap_neg i
      obtain ⟨t3, h3⟩ := wrap_neg j
      show ∃ t, dN [[a, b, c], [d, e, f], [wrap64 (g * -1), wrap64 (i * -1), wrap64 (j * -1)]] = _
      rw [h1, h2, h3]
      exact ⟨dN [[a, b, c], [d, e, f], [t1, t2, t3]], by simp only [dN]; grind⟩
/-- row j less a multiple of row k -/
def subR (j k : Nat) (q : Int) (M : List (List Int)) : List (List Int) := M.set j (subW (M.getD j []) (M.getD k []) q)
theorem subR_sq {n j k : Nat} {M : List (List Int)} (h : Sq n M) (hj : j < n) (hk : k < n) (q : Int) : Sq n (subR j k q M) :=
  h.set hj (by rw [subW_len _ (by rw [h.row k hk, h.row j hj]), h.row j hj])
theorem red_d {n j k : Nat} {M : List (List Int)} (h : Sq n M) (h3 : n ≤ 3) (hj : j < k) (hk : k < n) (q : Int) : ∃ t, dN (subR j k q M) = dN M + 18446744073709551616 * t := by
  rcases (show n = 1 ∨ n = 2 ∨ n = 3 by omega) with rfl | rfl | rfl
  · omega
  · obtain ⟨a, b, c, d, rfl⟩ := h.two
    obtain rfl : j = 0 := by omega
    obtain rfl : k = 1 := by omega
    obtain ⟨t1, h1⟩ := wrap_sub a (c * q)
    obtain ⟨t2, h2⟩ := wrap_sub b (d * q)
    show ∃ t, dN [[wrap64 (a - wrap64 (c * q)), wrap64 (b - wrap64 (d * q))], [c, d]] = _
    rw [h1, h2]
    exact ⟨dN [[t1, t2], [c, d]], by simp only [dN]; grind⟩
  · obtain ⟨a, b, c, d, e, f, g, i, m, rfl⟩ := h.three
    rcases (show (j = 0 ∧ k = 1) ∨ (j = 0 ∧ k = 2) ∨ (j = 1 ∧ k = 2) by omega) with ⟨rfl, rfl⟩ | ⟨rfl, rfl⟩ | ⟨rfl, rfl⟩
    · obtain ⟨t1, h1⟩ := wrap_sub a (d * q)
      obtain ⟨t2, h2⟩ := wrap_sub b (e * q)
      obtain ⟨t3, h3⟩ := wrap_sub c (f * q)
      show ∃ t, dN [[wrap64 (a - wrap64 (d * q)), wrap64 (b - wrap64 (e * q)), wrap64 (c - wrap64 (f * q))], [d, e, f], [g, i, m]] = _
      rw [h1, h2, h3]
      exact ⟨dN [[t1, t2, t3], [d, e, f], [g, i, m]], by simp only [dN]; grind⟩
    · obtain ⟨t1, h1⟩ := wrap_sub a (g * q)
      obtain ⟨t2, h2⟩ := wrap_sub b (i * q)
      obtain ⟨t3, h3⟩ := wrap_sub c (m * q)
      show ∃ t, dN [[wrap64 (a - wrap64 (g * q)), wrap64 (b - wrap64 (i * q)), wrap64 (c - wrap64 (m * q))], [d, e, f], [g, i, m]] = _
      rw [h1, h2, h3]
      exact ⟨dN [[t1, t2, t3], [d, e, f], [g, i, m]], by simp only [dN]; grind⟩
    · obtain ⟨t1, h1⟩ := wrap_sub d (g * q)
      obtain ⟨t2, h2⟩ := wrap_sub e (i * q)
      obtain ⟨t3, h3⟩ := wrap_sub f (m * q)
      show ∃ t, dN [[a, b, c], [wrap64 (d - wrap64 (g * q)), wrap64 (e - wrap64 (i * q)), wrap64 (f - wrap64 (m * q))], [g, i, m]] = _
      rw [h1, h2, h3]
      exact ⟨dN [[a, b, c], [t1, t2, t3], [g, i, m]], by simp only [dN]; grind⟩
/-- the determinant is no multiple of 2^64 -/
def NZ (M : List (List Int)) : Prop := ∀ t, dN M ≠ 18446744073709551616 * t
theorem NZ.neg {M N : List (List Int)} (h : NZ M) (e : ∃ t, dN N = -dN M + 18446744073709551616 * t) : NZ N := by
  obtain ⟨s, e⟩ := e
  intro t ht
  exact h (s - t) (by omega)
theorem NZ.same {M N : List (List Int)} (h : NZ M) (e : ∃ t, dN N = dN M + 18446744073709551616 * t) : NZ N := by
  obtain ⟨s, e⟩ := e
  intro t ht
  exact h (t - s) (by omega)
def atM (M : List (List Int)) (i j : Nat) : Int := (M.getD i []).getD j 0
/-- below the diagonal the first k columns are nought -/
def Tri (n k : Nat) (M : List (List Int)) : Prop := ∀ c, c < k → ∀ i, c < i → i < n → atM M i c = 0
theorem diag_nz {n k : Nat} {M : List (List Int)} (h : Sq n M) (h3 : n ≤ 3) (hk : k < n) (ht : Tri n (k + 1) M) (hz : NZ M) : ¬ atM M k k = 0 := by
  intro e0
  refine hz 0 ?_
  rcases (show n = 1 ∨ n = 2 ∨ n = 3 by omega) with rfl | rfl | rfl
  · obtain ⟨a, rfl⟩ := h.one
    obtain rfl : k = 0 := by omega
    obtain rfl : a = 0 := e0
    rfl
  · obtain ⟨a, b, c, d, rfl⟩ := h.two
    obtain rfl : c = 0 := ht 0 (by omega) 1 (by omega) (by omega)
    rcases (show k = 0 ∨ k = 1 by omega) with rfl | rfl
    · obtain rfl : a = 0 := e0
      simp [dN]
    · obtain rfl : d = 0 := e0
      simp [dN]
  · obtain ⟨a, b, c, d, e, f, g, i, j, rfl⟩ := h.three
    obtain rfl : d = 0 := ht 0 (by omega) 1 (by omega) (by omega)
    obtain rfl : g = 0 := ht 0 (by omega) 2 (by omega) (by omega)
    rcases (show k = 0 ∨ k = 1 ∨ k = 2 by omega) with rfl | rfl | rfl
    · obtain rfl : a = 0 := e0
      simp [dN]
    · obtain rfl : i = 0 := ht 1 (by omega) 2 (by omega) (by omega)
      obtain rfl : e = 0 := e0
      simp [dN]
    · obtain rfl : i = 0 := ht 1 (by omega) 2 (by omega) (by omega)
      obtain rfl : j = 0 := e0
      simp [dN]
def InR (M : List (List Int)) : Prop := ∀ i j, -9223372036854775808 ≤ atM M i j ∧ atM M i j ≤ 9223372036854775807
theorem subW_at (a b : List Int) (q : Int) (hl : a.length = b.length) {j : Nat} (hj : j < a.length) : (subW a b q).getD j 0 = wrap64 (a.getD j 0 - wrap64 (b.getD j 0 * q)) := by
  unfold subW
  rw [List.getD_eq_getElem?_getD, List.getElem?_zipWith, List.getElem?_eq_getElem hj, List.getElem?_eq_getElem (show j < b.length by omega)]
  simp [List.getD_eq_getElem?_getD, List.getElem?_eq_getElem hj, List.getElem?_eq_getElem (show j < b.length by omega)]
theorem subW_in (a b : List Int) (q : Int) (j : Nat) : -9223372036854775808 ≤ (subW a b q).getD j 0 ∧ (subW a b q).getD j 0 ≤ 9223372036854775807 := by
  rw [List.getD_eq_getElem?_getD]
  cases h : (subW a b q)[j]? with
  | none => simp
  | some x =>
    unfold subW at h
    rw [List.getElem?_zipWith] at h
    cases h1 : a[j]? <;> cases h2 : b[j]? <;> rw [h1, h2] at h <;> simp at h
    subst h
    exact wrap_in _
theorem neW_in (a : List Int) (j : Nat) : -9223372036854775808 ≤ (neW a).getD j 0 ∧ (neW a).getD j 0 ≤ 9223372036854775807 := by
  rw [List.getD_eq_getElem?_getD]
  unfold neW
  rw [List.getElem?_map]
  cases h : a[j]? with
  | none => simp
  | some x => exact wrap_in _
theorem atM_set {M : List (List Int)} {k i j : Nat} {r : List Int} (h : k < M.length) : atM (M.set k r) i j = if i = k then r.getD j 0 else atM M i j := by
  unfold atM; rw [getD_setR h]; split <;> rfl
theorem InR.set {M : List (List Int)} (h : InR M) {k : Nat} (hk : k < M.length) {r : List Int} (hr : ∀ j, -9223372036854775808 ≤ r.getD j 0 ∧ r.getD j 0 ≤ 9223372036854775807) : InR (M.set k r) := by
  intro i j
  rw [atM_set hk]
  split
  · exact hr j
  · exact h i j
theorem stepQ_at {n k r : Nat} {M : List (List Int)} (h : Sq n M) (hk : k < n) (hr : r < n) (hkr : k ≠ r) (q : Int) (i : Nat) {j : Nat} (hj : j < n) :
    atM (stepQ k r q M) i j = if i = r then wrap64 (atM M k j - wrap64 (atM M r j * q)) else if i = k then atM M r j else atM M i j := by
  unfold stepQ
  rw [atM_set (by rw [List.length_set, h.len]; exact hr)]
  split
  · exact subW_at _ _ _ (by rw [h.row k hk, h.row r hr]) (by rw [h.row k hk]; exact hj)
  · rw [atM_set (by rw [h.len]; exact hk)]; rfl
theorem subR_at {n s k : Nat} {M : List (List Int)} (h : Sq n M) (hs : s < n) (hk : k < n) (q : Int) (i : Nat) {j : Nat} (hj : j < n) :
    atM (subR s k q M) i j = if i = s then wrap64 (atM M s j - wrap64 (atM M k j * q)) else atM M i j := by
  unfold subR
  rw [atM_set (by rw [h.len]; exact hs)]
  split
  · exact subW_at _ _ _ (by rw [h.row k hk, h.row s hs]) (by rw [h.row s hs]; exact hj)
  · rfl
theorem euc_rem {x y : Int} (hy : ¬ y = 0) (hy2 : -9223372036854775808 ≤ y ∧ y ≤ 9223372036854775807) : wrap64 (x - wrap64 (y * wrap64 (x.tdiv y))) = x.tmod y := by
  have hb := tmod_bd x y hy
  have hm := Int.mul_tdiv_add_tmod x y
  obtain ⟨s, hs⟩ := wrap_ex (x.tdiv y)
  obtain ⟨t, ht⟩ := wrap_sub x (y * wrap64 (x.tdiv y))
  have e : wrap64 (x.tmod y) = x.tmod y := wrap_id (by omega)
  rw [← e]
  have e2 : wrap64 (wrap64 (x - wrap64 (y * wrap64 (x.tdiv y)))) = wrap64 (x - wrap64 (y * wrap64 (x.tdiv y))) := wrap_id (wrap_in _)
  rw [← e2]
  refine wrap_eq ⟨t - y * s, ?_⟩
  rw [ht, hs, Int.mul_add]
  have e3 : y * (18446744073709551616 * s) = 18446744073709551616 * (y * s) := by rw [← Int.mul_assoc, Int.mul_comm y, Int.mul_assoc]
  rw [e3, Int.mul_sub]
  omega
theorem wrap_zero (q : Int) : wrap64 (0 - wrap64 (0 * q)) = 0 := by rw [Int.zero_mul]; unfold wrap64; decide
/-- what holds at the start of the column k -/
structure HI (n k : Nat) (M : List (List Int)) : Prop where
  sq : Sq n M
  inr : InR M
  tri : Tri n k M
  nz : NZ M
def qE (k r : Nat) (M : List (List Int)) : Int := wrap64 ((atM M k k).tdiv (atM M r k))
theorem HI.step {n k r : Nat} {M : List (List Int)} (h : HI n k M) (h3 : n ≤ 3) (hk : k < r) (hr : r < n) (q : Int) : HI n k (stepQ k r q M) := by
  refine ⟨stepQ_sq h.sq (by omega) hr q, ?_, ?_, h.nz.neg (step_d h.sq h3 hk hr q)⟩
  · unfold stepQ
    exact (h.inr.set (by rw [h.sq.len]; omega) (fun j => h.inr r j)).set (by rw [List.length_set, h.sq.len]; exact hr) (subW_in _ _ _)
  · intro c hc i hi hin
    rw [stepQ_at h.sq (by omega) hr (by omega) q i (by omega)]
    split
    · rw [h.tri c hc k (by omega) (by omega), h.tri c hc r (by omega) hr]; exact wrap_zero q
    · split
      · exact h.tri c hc r (by omega) hr
      · exact h.tri c hc i hi hin
def eucM : Nat → Nat → Nat → List (List Int) → List (List Int)
  | 0, _, _, M => M
  | f + 1, k, r, M => if atM M r k = 0 then M else eucM f k r (stepQ k r (qE k r M) M)
theorem eucM_all {n k r : Nat} (h3 : n ≤ 3) (hk : k < r) (hr : r < n) : ∀ f (M : List (List Int)), HI n k M → HI n k (eucM f k r M) ∧ (∀ i, i ≠ k → i ≠ r → ∀ j, j < n → atM (eucM f k r M) i j = atM M i j) ∧ ((atM M r k).natAbs ≤ f → atM (eucM f k r M) r k = 0)
  | 0, M, h => ⟨h, fun _ _ _ _ _ => rfl, fun e => by show atM M r k = 0; omega⟩
  | f + 1, M, h => by
    unfold eucM
    by_cases e : atM M r k = 0
    · rw [if_pos e]; exact ⟨h, fun _ _ _ _ _ => rfl, fun _ => e⟩
    · rw [if_neg e]
      obtain ⟨g1, g2, g3⟩ := eucM_all h3 hk hr f (stepQ k r (qE k r M) M) (h.step h3 hk hr _)
      refine ⟨g1, fun i hi hi2 j hj => ?_, fun hf => g3 ?_⟩
      · rw [g2 i hi hi2 j hj, stepQ_at h.sq (by omega) hr (by omega) _ i hj, if_neg hi2, if_neg hi]
      · rw [stepQ_at h.sq (by omega) hr (by omega) _ r (by omega), if_pos rfl]
        unfold qE
        rw [euc_rem e (h.inr r k)]
        have := tmod_natAbs (atM M k k) (atM M r k) e
        omega
/-- the rows k+1 .. k+i of the column k -/
def colS (k : Nat) : Nat → List (List Int) → List (List Int)
  | 0, M => M
  | i + 1, M => eucM (atM (colS k i M) (k + 1 + i) k).natAbs k (k + 1 + i) (colS k i M)
theorem colS_all {n k : Nat} {M : List (List Int)} (h : HI n k M) (h3 : n ≤ 3) : ∀ i, k + 1 + i ≤ n → HI n k (colS k i M) ∧ ∀ r, k < r → r < k + 1 + i → atM (colS k i M) r k = 0
  | 0, _ => ⟨h, fun r h1 h2 => by omega⟩
  | i + 1, hi => by
    obtain ⟨g1, g2⟩ := colS_all h h3 i (by omega)
    obtain ⟨e1, e2, e3⟩ := eucM_all (n := n) (k := k) (r := k + 1 + i) h3 (by omega) (by omega) (atM (colS k i M) (k + 1 + i) k).natAbs _ g1
    refine ⟨e1, fun r h1 h2 => ?_⟩
    show atM (eucM _ _ _ _) r k = 0
    by_cases e : r = k + 1 + i
    · subst e; exact e3 (Nat.le_refl _)
    · rw [e2 r (by omega) e k (by omega)]; exact g2 r h1 (by omega)
theorem colS_end {n k : Nat} {M : List (List Int)} (h : HI n k M) (h3 : n ≤ 3) (hk : k < n) : HI n (k + 1) (colS k (n - 1 - k) M) := by
  obtain ⟨g1, g2⟩ := colS_all h h3 (n - 1 - k) (by omega)
  refine ⟨g1.sq, g1.inr, fun c hc i hi hin => ?_, g1.nz⟩
  by_cases e : c = k
  · subst e; exact g2 i hi (by omega)
  · exact g1.tri c (by omega) i hi hin
def negS (k : Nat) (M : List (List Int)) : List (List Int) := if atM M k k < 0 then M.set k (neW (M.getD k [])) else M
theorem neW_at0 {a : List Int} {j : Nat} (h : a.getD j 0 = 0) : (neW a).getD j 0 = 0 := by
  rw [List.getD_eq_getElem?_getD] at h ⊢
  unfold neW
  rw [List.getElem?_map]
  cases e : a[j]? with
  | none => rfl
  | some x => rw [e] at h; obtain rfl : x = 0 := h; show wrap64 (0 * -1) = 0; unfold wrap64; decide
theorem negS_hi {n k : Nat} {M : List (List Int)} (h : HI n (k + 1) M) (h3 : n ≤ 3) (hk : k < n) : HI n (k + 1) (negS k M) := by
  unfold negS
  split
  · have hl : k < M.length := by rw [h.sq.len]; exact hk
    refine ⟨h.sq.set hk (by rw [neW_len]; exact h.sq.row k hk), h.inr.set hl (neW_in _), fun c hc i hi hin => ?_, h.nz.neg (neg_d h.sq h3 hk)⟩
    rw [atM_set hl]
    split
    · rename_i e; subst e; exact neW_at0 (h.tri c hc i hi hin)
    · exact h.tri c hc i hi hin
  · exact h
def redS (k : Nat) : Nat → List (List Int) → List (List Int)
  | 0, M => M
  | j + 1, M => subR j k (flW (atM (redS k j M) j k) (atM (redS k j M) k k)) (redS k j M)
theorem redS_hi {n k : Nat} {M : List (List Int)} (h : HI n (k + 1) M) (h3 : n ≤ 3) (hk : k < n) : ∀ j, j ≤ k → HI n (k + 1) (redS k j M)
  | 0, _ => h
  | j + 1, hj => by
    have g := redS_hi h h3 hk j (by omega)
    have hl : j < (redS k j M).length := by rw [g.sq.len]; omega
    refine ⟨subR_sq g.sq (by omega) hk _, g.inr.set hl (subW_in _ _ _), fun c hc i hi hin => ?_, g.nz.same (red_d g.sq h3 (by omega) hk _)⟩
    show atM (subR j k _ _) i c = 0
    rw [subR_at g.sq (by omega) hk _ i (by omega)]
    split
    · rename_i e; subst e
      rw [g.tri c (by omega) i hi (by omega), g.tri c (by omega) k (by omega) hk]; exact wrap_zero _
    · exact g.tri c hc i hi hin
def herK (n k : Nat) (M : List (List Int)) : List (List Int) := redS k k (negS k (colS k (n - 1 - k) M))
theorem herK_hi {n k : Nat} {M : List (List Int)} (h : HI n k M) (h3 : n ≤ 3) (hk : k < n) : HI n (k + 1) (herK n k M) :=
  redS_hi (negS_hi (colS_end h h3 hk) h3 hk) h3 hk k (Nat.le_refl _)
def herS (n : Nat) : Nat → List (List Int) → List (List Int)
  | 0, M => M
  | k + 1, M => herK n k (herS n k M)
theorem herS_hi {n : Nat} {M : List (List Int)} (h : HI n 0 M) (h3 : n ≤ 3) : ∀ k, k ≤ n → HI n k (herS n k M)
  | 0, _ => h
  | k + 1, hk => herK_hi (herS_hi h h3 k (by omega)) h3 (by omega)
def herM (M : List (List Int)) : List (List Int) := herS M.length M.length M
end Go.Proofs.YtehhoplenloocaaGreat

/- Tetrahedra: the plain law. -/
namespace Go.Proofs.YtehhoplenloocaaGreat
set_option linter.unusedVariables false
set_option linter.unusedSimpArgs false

def tetRow (r : List Int) : Bool := decide (r.length = 3) && allIn r 0 4
/-- the determinant of three rows, laid out -/
def dd (a0 a1 a2 b0 b1 b2 c0 c1 c2 : Int) : Int := a0 * (b1 * c2 - b2 * c1) + a1 * (b2 * c0 - b0 * c2) + a2 * (b0 * c1 - b1 * c0)
def det3 (m : List (List Int)) : Int :=
  dd ((m.getD 0 []).getD 0 0) ((m.getD 0 []).getD 1 0) ((m.getD 0 []).getD 2 0) ((m.getD 1 []).getD 0 0) ((m.getD 1 []).getD 1 0) ((m.getD 1 []).getD 2 0) ((m.getD 2 []).getD 0 0) ((m.getD 2 []).getD 1 0) ((m.getD 2 []).getD 2 0)
def edgesF (p : List (List Int)) : List (List Int) := (p.drop 1).map (diff3 · (p.getD 0 []))
def tetraB (p : List (List Int)) : Bool := decide (p.length = 4) && p.all tetRow && decide (det3 (edgesF p) ≠ 0)
theorem len3 {α : Type} {r : List α} (h : r.length = 3) : ∃ a b c, r = [a, b, c] := by
  match r, h with
  | [a, b, c], _ => exact ⟨a, b, c, rfl⟩
theorem len4 {α : Type} {r : List α} (h : r.length = 4) : ∃ a b c d, r = [a, b, c, d] := by
  match r, h with
  | [a, b, c, d], _ => exact ⟨a, b, c, d, rfl⟩
theorem detF_three {m : List (List Int)} (h : SqB 3 m) : detF 3 m = det3 m := by
  obtain ⟨r0, r1, r2, rfl⟩ := len3 h.len
  obtain ⟨a0, a1, a2, rfl⟩ := len3 (h.row 0 (by omega)).1
  obtain ⟨b0, b1, b2, hb⟩ := len3 (h.row 1 (by omega)).1
  obtain ⟨c0, c1, c2, hc⟩ := len3 (h.row 2 (by omega)).1
  simp at hb hc
  subst hb hc
  simp [detF, detSum, minorL_zero, cutAt, sgnN, det3, dd]
  grind
/-- four points of space with small numbers -/
def Four (M : Int) (p : List (List Int)) : Prop := p.length = 4 ∧ ∀ i, i < p.length → (p.getD i []).length = 3 ∧ allIn (p.getD i []) (-M) M = true
theorem allIn3 {x y z lo hi : Int} (hx : lo ≤ x ∧ x ≤ hi) (hy : lo ≤ y ∧ y ≤ hi) (hz : lo ≤ z ∧ z ≤ hi) : allIn [x, y, z] lo hi = true := by
  simp [allIn, inB]; omega
theorem edgesF_sq {p : List (List Int)} (h : Four 50000 p) : SqB 3 (edgesF p) := by
  obtain ⟨r0, r1, r2, r3, rfl⟩ := len4 h.1
  have h0 := h.2 0 (by simp)
  have h1 := h.2 1 (by simp)
  have h2 := h.2 2 (by simp)
  have h3 := h.2 3 (by simp)
  simp at h0 h1 h2 h3
  have key : ∀ r : List Int, r.length = 3 ∧ allIn r (-50000) 50000 = true → (diff3 r r0).length = 3 ∧ allIn (diff3 r r0) (-100000) 100000 = true := by
    intro r ⟨hl, hr⟩
    have a0 := allIn_at h0.2 0 (by omega)
    have a1 := allIn_at h0.2 1 (by omega)
    have a2 := allIn_at h0.2 2 (by omega)
    have b0 := allIn_at hr 0 (by omega)
    have b1 := allIn_at hr 1 (by omega)
    have b2 := allIn_at hr 2 (by omega)
    exact ⟨rfl, allIn3 (by omega) (by omega) (by omega)⟩
  refine ⟨rfl, fun i hi => ?_⟩
  match i, hi with
  | 0, _ => exact key r1 h1
  | 1, _ => exact key r2 h2
  | 2, _ => exact key r3 h3
theorem allIn_wideT {r : List Int} {a b a' b' : Int} (h : allIn r a b = true) (ha : a' ≤ a) (hb : b ≤ b') : allIn r a' b' = true := by
  unfold allIn at *
  rw [List.all_eq_true] at *
  intro x hx
  have := h x hx
  unfold inB at *
  simp at *
  omega
theorem tet_four {p : List (List Int)} (h4 : p.length = 4) (h : ∀ i, i < p.length → tetRow (p.getD i []) = true) : Four 4 p := by
  refine ⟨h4, fun i hi => ?_⟩
  have := h i hi
  unfold tetRow at this
  simp only [Bool.and_eq_true, decide_eq_true_eq] at this
  exact ⟨this.1, allIn_wideT this.2 (by omega) (by omega)⟩
theorem Four.wide {a b : Int} {p : List (List Int)} (h : Four a p) (hab : a ≤ b) : Four b p :=
  ⟨h.1, fun i hi => ⟨(h.2 i hi).1, allIn_wideT (h.2 i hi).2 (by omega) hab⟩⟩
theorem all_of_getD {p : List (List Int)} {f : List Int → Bool} (h : ∀ i, i < p.length → f (p.getD i []) = true) : p.all f = true := by
  rw [List.all_eq_true]
  intro x hx
  obtain ⟨i, hi, rfl⟩ := List.getElem_of_mem hx
  have := h i hi
  rwa [List.getD_eq_getElem?_getD, List.getElem?_eq_getElem hi] at this
theorem getD_of_all {p : List (List Int)} {f : List Int → Bool} (h : p.all f = true) (i : Nat) (hi : i < p.length) : f (p.getD i []) = true := by
  rw [List.all_eq_true] at h
  rw [List.getD_eq_getElem?_getD, List.getElem?_eq_getElem hi]
  exact h _ (List.getElem_mem hi)
theorem tetraB_true {p : List (List Int)} (h : tetraB p = true) : Four 4 p ∧ det3 (edgesF p) ≠ 0 := by
  unfold tetraB at h
  simp only [Bool.and_eq_true, decide_eq_true_eq] at h
  exact ⟨tet_four h.1.1 (getD_of_all h.1.2), h.2⟩
theorem tetraB_row {p : List (List Int)} {i : Nat} (hi : i < p.length) (h : tetRow (p.getD i []) = false) : tetraB p = false := by
  unfold tetraB
  cases ha : p.all tetRow
  · simp
  · rw [getD_of_all ha i hi] at h; cases h
theorem tetraB_len {p : List (List Int)} (h : p.length ≠ 4) : tetraB p = false := by
  unfold tetraB; rw [decide_eq_false h]; rfl
theorem tetraB_eq {p : List (List Int)} (h : p.length = 4) (ha : ∀ i, i < p.length → tetRow (p.getD i []) = true) : tetraB p = (det3 (edgesF p) != 0) := by
  unfold tetraB; rw [decide_eq_true h, all_of_getD ha]
  simp [bne, Bool.beq_eq_decide_eq]
theorem Four.getD {M : Int} {p : List (List Int)} (h : Four M p) (i : Nat) (hi : i < 4) : (p.getD i []).length = 3 ∧ allIn (p.getD i []) (-M) M = true := h.2 i (by rw [h.1]; exact hi)
theorem det3_bd {m : List (List Int)} (h : SqB 3 m) : -6000000000000000 ≤ det3 m ∧ det3 m ≤ 6000000000000000 := by
  have := detF_bd 3 m h
  rw [detF_three h] at this
  simpa [detB] using this
/-- a slice of four rows: its parts -/
theorem ISSr.four {w : World} {hi : Nat} {v : Value} {ls : List (List Int)} (h : ISSr w hi v ls) (h4 : ls.length = 4) :
    ∃ b off cap, ∃ V : Nat → Value, v = .slice (some ⟨b, off, none⟩) 4 cap ∧ b < hi ∧ 4 ≤ cap ∧ (∀ i, i < 4 → w.cell? ⟨b, off + i, none⟩ = some (V i) ∧ ISr w hi (V i) (ls.getD i [])) ∧ ISSr w hi (.slice (some ⟨b, off + 1, none⟩) 3 (cap - 1)) (ls.drop 1) := by
  obtain ⟨a, cap, hv, h1, h2, h3⟩ := h
  obtain ⟨b, off, V, rfl, hb, hc⟩ := h3 (by intro e; rw [e] at h4; cases h4)
  rw [h4] at hv h1 hc
  refine ⟨b, off, cap, V, hv, hb, h1, hc, _, _, by rw [List.length_drop, h4], by rw [List.length_drop, h4]; omega, by omega, fun _ => ⟨b, off + 1, fun i => V (i + 1), rfl, hb, fun i hi => ?_⟩⟩
  rw [List.length_drop, h4] at hi
  have := hc (i + 1) (by omega)
  refine ⟨by rw [show off + 1 + i = off + (i + 1) by omega]; exact this.1, ?_⟩
  rw [List.getD_eq_getElem?_getD, List.getElem?_drop, ← List.getD_eq_getElem?_getD, show 1 + i = i + 1 by omega]
  exact this.2
theorem Four.drop {M : Int} {p : List (List Int)} (h : Four M p) : ∀ i, i < (p.drop 1).length → ((p.drop 1).getD i []).length = 3 ∧ allIn ((p.drop 1).getD i []) (-M) M = true := by
  intro i hi
  rw [List.length_drop] at hi
  rw [List.getD_eq_getElem?_getD, List.getElem?_drop, ← List.getD_eq_getElem?_getD]
  exact h.2 (1 + i) (by omega)
end Go.Proofs.YtehhoplenloocaaGreat

/- Tetrahedra: the walks of the model. -/
namespace Go.Proofs.YtehhoplenloocaaGreat
open Go.RowKit
set_option linter.unusedVariables false
set_option linter.unusedSimpArgs false

theorem ISSr.three {w : World} {hi : Nat} {v : Value} {ls : List (List Int)} (h : ISSr w hi v ls) (h3 : ls.length = 3) :
    ∃ b off cap, ∃ V : Nat → Value, v = .slice (some ⟨b, off, none⟩) 3 cap ∧ b < hi ∧ (∀ i, i < 3 → w.cell? ⟨b, off + i, none⟩ = some (V i) ∧ ISr w hi (V i) (ls.getD i [])) := by
  obtain ⟨a, cap, hv, h1, h2, h4⟩ := h
  obtain ⟨b, off, V, rfl, hb, hc⟩ := h4 (by intro e; rw [e] at h3; cases h3)
  rw [h3] at hv hc
  exact ⟨b, off, cap, V, hv, hb, hc⟩
theorem mul_bdd {a b : Int} (h1 : -100000 ≤ a ∧ a ≤ 100000) (h2 : -100000 ≤ b ∧ b ≤ 100000) : -10000000000 ≤ a * b ∧ a * b ≤ 10000000000 := by
  have := mul_abs h1.1 h1.2 h2.1 h2.2 (by omega) (by omega); omega
theorem mul_bdt {a b : Int} (h1 : -100000 ≤ a ∧ a ≤ 100000) (h2 : -20000000000 ≤ b ∧ b ≤ 20000000000) : -2000000000000000 ≤ a * b ∧ a * b ≤ 2000000000000000 := by
  have := mul_abs h1.1 h1.2 h2.1 h2.2 (by omega) (by omega); omega
def dpart (a0 a1 a2 b0 b1 b2 c0 c1 c2 : Int) : Nat → Int
  | 0 => 0
  | 1 => 0 + a0 * (b1 * c2 - b2 * c1)
  | 2 => 0 + a0 * (b1 * c2 - b2 * c1) + a1 * (b2 * c0 - b0 * c2)
  | _ => 0 + a0 * (b1 * c2 - b2 * c1) + a1 * (b2 * c0 - b0 * c2) + a2 * (b0 * c1 - b1 * c0)

set_option maxHeartbeats 4000000 in
theorem l3Det_any (m : List (List Int)) (v : Value) (hb : Nat) (w : World) (h : ISSr w hb v m) (hs : SqB 3 m) :
    Calls Tryz.prog 73 #[v] w fun e w' => e = .returned (.int .i64 (det3 m)) ∧ ∃ d, w' = w.drewN d := by
  obtain ⟨b, off, cap, V, rfl, hbb, hc⟩ := h.three hs.len
  obtain ⟨x0, i0⟩ := hc 0 (by omega)
  obtain ⟨x1, i1⟩ := hc 1 (by omega)
  obtain ⟨x2, i2⟩ := hc 2 (by omega)
  rw [Nat.add_zero] at x0
  obtain ⟨l0, r0⟩ := hs.row 0 (by omega)
  obtain ⟨l1, r1⟩ := hs.row 1 (by omega)
  obtain ⟨l2, r2⟩ := hs.row 2 (by omega)
  obtain ⟨p0, o0, k0, e0, -, y0, y1, y2⟩ := i0.three l0
  obtain ⟨p1, o1, k1, e1, -, z0, z1, z2⟩ := i1.three l1
  obtain ⟨p2, o2, k2, e2, -, t0, t1, t2⟩ := i2.three l2
  rw [e0] at x0; rw [e1] at x1; rw [e2] at x2
  have hd : det3 m = dd _ _ _ _ _ _ _ _ _ := rfl
  have a0b := allIn_at r0 0 (by omega)
  have a1b := allIn_at r0 1 (by omega)
  have a2b := allIn_at r0 2 (by omega)
  have b0b := allIn_at r1 0 (by omega)
  have b1b := allIn_at r1 1 (by omega)
  have b2b := allIn_at r1 2 (by omega)
  have c0b := allIn_at r2 0 (by omega)
  have c1b := allIn_at r2 1 (by omega)
  have c2b := allIn_at r2 2 (by omega)
  clear hc i0 i1 i2 e0 e1 e2 h hs r0 r1 r2 l0 l1 l2
  generalize (m.getD 0 []).getD 0 0 = a0 at *
  generalize (m.getD 0 []).getD 1 0 = a1 at *
  generalize (m.getD 0 []).getD 2 0 = a2 at *
  generalize (m.getD 1 []).getD 0 0 = b0 at *
  generalize (m.getD 1 []).getD 1 0 = b1 at *
  generalize (m.getD 1 []).getD 2 0 = b2 at *
  generalize (m.getD 2 []).getD 0 0 = c0 at *
  generalize (m.getD 2 []).getD 1 0 = c1 at *
  generalize (m.getD 2 []).getD 2 0 = c2 at *
  rw [hd]
  have HD := Lib.hid (show dd a0 a1 a2 b0 b1 b2 c0 c1 c2 = dpart a0 a1 a2 b0 b1 b2 c0 c1 c2 3 by simp only [dd, dpart, Int.zero_add])
  clear hd
  have w01 := mul_bdd b1b c2b
  have w02 := mul_bdd b2b c1b
  have w11 := mul_bdd b2b c0b
  have w12 := mul_bdd b0b c2b
  have w21 := mul_bdd b0b c1b
  have w22 := mul_bdd b1b c0b
  have u0 := mul_bdt a0b (b := b1 * c2 - b2 * c1) (by omega)
  have u1 := mul_bdt a1b (b := b2 * c0 - b0 * c2) (by omega)
  have u2 := mul_bdt a2b (b := b0 * c1 - b1 * c0) (by omega)
  have f0 := wr64 (b1 * c2) (by omega)
  have f1 := wr64 (b2 * c1) (by omega)
  have f2 := wr64 (b1 * c2 - b2 * c1) (by omega)
  have f3 := wr64 (a0 * (b1 * c2 - b2 * c1)) (by omega)
  have f4 := wr64 (0 + a0 * (b1 * c2 - b2 * c1)) (by omega)
  have f4' := wr64 (a0 * (b1 * c2 - b2 * c1)) (by omega)
  have g0 := wr64 (b2 * c0) (by omega)
  have g1 := wr64 (b0 * c2) (by omega)
  have g2 := wr64 (b2 * c0 - b0 * c2) (by omega)
  have g3 := wr64 (a1 * (b2 * c0 - b0 * c2)) (by omega)
  have h0 := wr64 (b0 * c1) (by omega)
  have h1 := wr64 (b1 * c0) (by omega)
  have h2 := wr64 (b0 * c1 - b1 * c0) (by omega)
  have h3 := wr64 (a2 * (b0 * c1 - b1 * c0)) (by omega)
  have HP0 := Lib.hid (show dpart a0 a1 a2 b0 b1 b2 c0 c1 c2 1 = dpart a0 a1 a2 b0 b1 b2 c0 c1 c2 0 + a0 * (b1 * c2 - b2 * c1) from rfl)
  have HP1 := Lib.hid (show dpart a0 a1 a2 b0 b1 b2 c0 c1 c2 2 = dpart a0 a1 a2 b0 b1 b2 c0 c1 c2 1 + a1 * (b2 * c0 - b0 * c2) from rfl)
  have HP2 := Lib.hid (show dpart a0 a1 a2 b0 b1 b2 c0 c1 c2 3 = dpart a0 a1 a2 b0 b1 b2 c0 c1 c2 2 + a2 * (b0 * c1 - b1 * c0) from rfl)
  have v0 : dpart a0 a1 a2 b0 b1 b2 c0 c1 c2 0 = 0 := rfl
  have s0 := wr64 (dpart a0 a1 a2 b0 b1 b2 c0 c1 c2 0 + a0 * (b1 * c2 - b2 * c1)) (by omega)
  have v1 := HP0.out
  have s1 := wr64 (dpart a0 a1 a2 b0 b1 b2 c0 c1 c2 1 + a1 * (b2 * c0 - b0 * c2)) (by omega)
  have v2 := HP1.out
  have s2 := wr64 (dpart a0 a1 a2 b0 b1 b2 c0 c1 c2 2 + a2 * (b0 * c1 - b1 * c0)) (by omega)
  have V0 := Lib.hid v0
  clear v0 v1 v2 f4 f4' w01 w02 w11 w12 w21 w22 u0 u1 u2 a0b a1b a2b b0b b1b b2b c0b c1b c2b
  generalize dpart a0 a1 a2 b0 b1 b2 c0 c1 c2 0 = d0 at *
  generalize dpart a0 a1 a2 b0 b1 b2 c0 c1 c2 1 = d1 at *
  generalize dpart a0 a1 a2 b0 b1 b2 c0 c1 c2 2 = d2 at *
  generalize dpart a0 a1 a2 b0 b1 b2 c0 c1 c2 3 = d3 at *
  have HCC := Lib.hid (show ∀ d, ((w.drewN d).cell? ⟨b, off, none⟩ = some (.slice (some ⟨p0, o0, none⟩) 3 k0) ∧ (w.drewN d).cell? ⟨b, off + 1, none⟩ = some (.slice (some ⟨p1, o1, none⟩) 3 k1) ∧ (w.drewN d).cell? ⟨b, off + 2, none⟩ = some (.slice (some ⟨p2, o2, none⟩) 3 k2)) ∧ ((w.drewN d).cell? ⟨p0, o0, none⟩ = some (.int .i64 a0) ∧ (w.drewN d).cell? ⟨p0, o0 + 1, none⟩ = some (.int .i64 a1) ∧ (w.drewN d).cell? ⟨p0, o0 + 2, none⟩ = some (.int .i64 a2)) ∧ ((w.drewN d).cell? ⟨p1, o1, none⟩ = some (.int .i64 b0) ∧ (w.drewN d).cell? ⟨p1, o1 + 1, none⟩ = some (.int .i64 b1) ∧ (w.drewN d).cell? ⟨p1, o1 + 2, none⟩ = some (.int .i64 b2)) ∧ ((w.drewN d).cell? ⟨p2, o2, none⟩ = some (.int .i64 c0) ∧ (w.drewN d).cell? ⟨p2, o2 + 1, none⟩ = some (.int .i64 c1) ∧ (w.drewN d).cell? ⟨p2, o2 + 2, none⟩ = some (.int .i64 c2)) from fun d => ⟨⟨x0, x1, x2⟩, ⟨y0, y1, y2⟩, ⟨z0, z1, z2⟩, ⟨t0, t1, t2⟩⟩)
  clear x0 x1 x2 y0 y1 y2 z0 z1 z2 t0 t1 t2
  go_enter Tryz.func73, Tryz.ntmps73
  go_wp2
  go_loopw [3, 4, 5, 6] (fun s c _ _ wr => ∃ d : Nat, Hid (wr = w.drewN d) ∧ ((c = .int .i64 0 ∧ s = .int .i64 d0) ∨ (c = .int .i64 1 ∧ s = .int .i64 d1) ∨ (c = .int .i64 2 ∧ s = .int .i64 d2) ∨ (c = .int .i64 3 ∧ s = .int .i64 d3))) (fun _ c _ _ _ => 3 - (intOf c).toNat)
  case atStart => exact ⟨0, Lib.hid rfl, .inl ⟨rfl, by rw [V0.out]⟩⟩
  case round =>
    obtain ⟨d, HW, hcs⟩ := hrel
    obtain ⟨⟨x0, x1, x2⟩, ⟨y0, y1, y2⟩, ⟨z0, z1, z2⟩, ⟨t0, t1, t2⟩⟩ := HCC.out d
    rw [← HW.out] at x0 x1 x2 y0 y1 y2 z0 z1 z2 t0 t1 t2
    rcases hcs with ⟨rfl, rfl⟩ | ⟨rfl, rfl⟩ | ⟨rfl, rfl⟩ | ⟨rfl, rfl⟩
    · clear s1 s2 g0 g1 g2 g3 h0 h1 h2 h3
      go_wp2
      go_quiet (fail)
      go_wp2
      go_roundw
      case rel => exact ⟨d + nq, Lib.hid (by rw [HW.out, World.drewN_drewN]), .inr (.inl ⟨rfl, by rw [HP0.out]⟩)⟩
      case measure => simp [intOf]
    · clear s0 s2 f0 f1 f2 f3 h0 h1 h2 h3
      go_wp2
      go_quiet (fail)
      go_wp2
      go_roundw
      case rel => exact ⟨d + nq, Lib.hid (by rw [HW.out, World.drewN_drewN]), .inr (.inr (.inl ⟨rfl, by rw [HP1.out]⟩))⟩
      case measure => simp [intOf]
    · clear s0 s1 f0 f1 f2 f3 g0 g1 g2 g3
      go_wp2
      go_quiet (fail)
      go_wp2
      go_roundw
      case rel => exact ⟨d + nq, Lib.hid (by rw [HW.out, World.drewN_drewN]), .inr (.inr (.inr ⟨rfl, by rw [HP2.out]⟩))⟩
      case measure => simp [intOf]
    · go_wp2
      go_ret
      exact ⟨ret_int HD.out.symm, d, HW.out⟩
end Go.Proofs.YtehhoplenloocaaGreat

/- Matrices: IsMatrix, DetOf, IsUnimodular: the walks. -/
namespace Go.Proofs.YtehhoplenloocaaGreat
open Go.RowKit
set_option linter.unusedVariables false
set_option linter.unusedSimpArgs false

def matRow (n : Nat) (r : List Int) : Bool := decide (r.length = n) && allIn r (-100) 100
def matK (m : List (List Int)) (k : Nat) : Bool := (List.range k).all fun j => matRow m.length (m.getD j [])
def matB (m : List (List Int)) : Bool := inB m.length 1 3 && matK m m.length
theorem matK_step (m : List (List Int)) (k : Nat) : matK m (k + 1) = (matK m k && matRow m.length (m.getD k [])) := by
  unfold matK; rw [List.range_succ, List.all_append]; simp
theorem matK_no {m : List (List Int)} {k : Nat} (hk : k < m.length) (h : matRow m.length (m.getD k []) = false) : matB m = false := by
  have : matK m m.length = false := by unfold matK; rw [List.all_eq_false]; exact ⟨k, List.mem_range.2 hk, by rw [h]; decide⟩
  unfold matB; rw [this]; simp
theorem matB_yes {m : List (List Int)} (h : matK m m.length = true) : matB m = inB m.length 1 3 := by unfold matB; rw [h]; simp
theorem matB_len {m : List (List Int)} (h : matB m = true) : 1 ≤ m.length ∧ m.length ≤ 3 := by
  unfold matB at h; simp only [Bool.and_eq_true, inB_iff] at h; omega
theorem matB_row {m : List (List Int)} (h : matB m = true) {k : Nat} (hk : k < m.length) : (m.getD k []).length = m.length ∧ allIn (m.getD k []) (-100) 100 = true := by
  unfold matB at h; simp only [Bool.and_eq_true] at h
  have := List.all_eq_true.1 h.2 k (List.mem_range.2 hk)
  unfold matRow at this; simp only [Bool.and_eq_true, decide_eq_true_eq] at this
  exact this
theorem allIn_up {l : List Int} {a b c d : Int} (h : allIn l a b = true) (h1 : c ≤ a) (h2 : b ≤ d) : allIn l c d = true := by
  unfold allIn at *
  rw [List.all_eq_true] at *
  intro x hx
  have := inB_iff.1 (h x hx)
  exact inB_iff.2 ⟨by omega, by omega⟩
theorem matB_sq {m : List (List Int)} (h : matB m = true) : SqB m.length m := ⟨rfl, fun i hi => ⟨(matB_row h hi).1, allIn_up (matB_row h hi).2 (by omega) (by omega)⟩⟩
/-- the determinant -/
def detM (m : List (List Int)) : Int := detF m.length m
def detO (m : List (List Int)) : Int := if matB m then detM m else 0
theorem detO_no {m : List (List Int)} (h : matB m = false) : detO m = 0 := by unfold detO; rw [h]; rfl
theorem detO_yes {m : List (List Int)} (h : matB m = true) : detO m = detM m := by unfold detO; rw [h]; rfl
theorem detM_bd {m : List (List Int)} (h : matB m = true) : -6000000000000000 ≤ detM m ∧ detM m ≤ 6000000000000000 := by
  have h1 := detF_bd _ _ (matB_sq h)
  have h2 := matB_len h
  unfold detM
  have h3 : detB m.length ≤ 6000000000000000 := by
    rcases (show m.length = 1 ∨ m.length = 2 ∨ m.length = 3 by omega) with e | e | e <;> rw [e] <;> decide
  omega
theorem detO_bd (m : List (List Int)) : -6000000000000000 ≤ detO m ∧ detO m ≤ 6000000000000000 := by
  cases h : matB m
  · rw [detO_no h]; omega
  · rw [detO_yes h]; exact detM_bd h
def uniB (m : List (List Int)) : Bool := decide (max (detO m) (-(detO m)) = 1)

set_option maxRecDepth 100000 in
set_option maxHeartbeats 4000000 in
theorem implIsMatrix_any (ls : List (List Int)) (v : Value) (hb : Nat) (w : World) (h : ISSr w hb v ls) :
    Calls Tryz.prog 107 #[v] w fun e w' => e = .returned (.bool (matB ls)) ∧ w = w' := by
  have hw := fun W => within_any ls.length 1 3 W
  rcases h.cases with ⟨rfl, a, cap, rfl⟩ | ⟨hpos, hlen, b, off, cap, V, rfl, hbb, hcell⟩
  · have hw := fun W => within_any 0 1 3 W
    have hm : inB 0 1 3 = false := by decide
    simp only [hm] at hw
    have hr : matB [] = false := by decide
    rw [hr]
    go_enter Tryz.func107, Tryz.ntmps107
    go_wp2_with (go_at_call 58; (with_reducible refine (hw _).mono ?_); rintro e w' ⟨rfl, rfl⟩)
    go_ret
    exact ⟨rfl, rfl⟩
  cases hi : inB ls.length 1 3
  case false =>
    have hr : matB ls = false := by unfold matB; rw [hi]; rfl
    rw [hr]
    rw [hi] at hw
    clear hcell h hr hi
    generalize ls.length = n at *
    go_enter Tryz.func107, Tryz.ntmps107
    go_wp2_with (go_at_call 58; (with_reducible refine (hw _).mono ?_); rintro e w' ⟨rfl, rfl⟩)
    go_ret
    exact ⟨rfl, rfl⟩
  rw [hi] at hw
  have HI := Lib.hid hi
  have HNO := Lib.hid (fun k (hk : k < ls.length) h => matK_no hk h)
  have HYES := Lib.hid (fun h => matB_yes (m := ls) h)
  have HST := Lib.hid (matK_step ls)
  have HMR := Lib.hid (fun r => show matRow ls.length r = (decide (r.length = ls.length) && allIn r (-100) 100) from rfl)
  obtain ⟨n, hn⟩ : ∃ n, n = ls.length := ⟨_, rfl⟩
  rw [← hn] at hlen hpos hw HI HNO HYES HMR HST ⊢
  have HN := Lib.hid hn
  have HC := Lib.hid hcell
  clear hn hcell h hi
  go_enter Tryz.func107, Tryz.ntmps107
  go_wp2_with (go_at_call 58; (with_reducible refine (hw _).mono ?_); rintro e w' ⟨rfl, rfl⟩)
  go_loop [4, 11] (fun _ i => ∃ k : Nat, k ≤ n ∧ i = .int .i64 k ∧ Hid (matK ls k = true)) (fun _ i => n - (intOf i).toNat)
  case atStart => exact ⟨0, by omega, rfl, Lib.hid rfl⟩
  case round =>
    obtain ⟨k, hk, rfl, HALL⟩ := hrel
    by_cases hlt : k < n
    · have hkl : k < ls.length := by rw [← HN.out]; exact hlt
      obtain ⟨hc, hrow⟩ := HC.out k hkl
      have Q := allWithin_any (ls.getD k []) (V k) (-100) 100 hb w hrow
      obtain ⟨a1, cp, hxk, -⟩ := id hrow
      rw [hxk] at hc Q
      have HS := Lib.hid (HST.out k)
      have HNK := Lib.hid (HNO.out k hlt)
      have HM := Lib.hid (HMR.out (ls.getD k []))
      clear hrow hkl hxk
      generalize ls.getD k [] = row at *
      by_cases h2 : row.length = n
      · rw [h2] at hc Q
        have hne : ((n : Int) != (n : Int)) = false := by simp
        cases hs : allIn row (-100) 100
        · rw [hs] at Q
          have HR := Lib.hid (HNK.out (by rw [HM.out, hs]; simp))
          clear hs h2
          go_wp2_with (go_at_call 93; (with_reducible refine Q.mono ?_); rintro e w' ⟨rfl, rfl⟩)
          go_ret
          exact ⟨ret_bool HR.out.symm, rfl⟩
        · rw [hs] at Q
          have HK := Lib.hid (show matK ls (k + 1) = true by rw [HS.out, HALL.out, HM.out, hs, decide_eq_true h2]; rfl)
          clear hs h2
          go_wp2_with (go_at_call 93; (with_reducible refine Q.mono ?_); rintro e w' ⟨rfl, rfl⟩)
          go_round
          case rel => exact ⟨k + 1, by omega, by go_num, HK⟩
          case measure => simp [intOf]; omega
      · have hne : ((row.length : Int) != (n : Int)) = true := by rw [bne_iff_ne]; omega
        have HR := Lib.hid (HNK.out (by rw [HM.out, decide_eq_false h2]; rfl))
        clear h2 Q HM HS HNK
        generalize row.length = rl at *
        go_wp2
        go_ret
        exact ⟨ret_bool HR.out.symm, rfl⟩
    · obtain rfl : k = n := by omega
      have HR := Lib.hid (show matB ls = true by rw [HYES.out HALL.out, HI.out])
      go_wp2
      go_ret
      exact ⟨ret_bool HR.out.symm, rfl⟩
set_option maxRecDepth 100000 in
set_option maxHeartbeats 4000000 in
theorem specIsMatrix_any (ls : List (List Int)) (v : Value) (hb : Nat) (w : World) (h : ISSr w hb v ls) :
    Calls Tryz.prog 75 #[v] w fun e w' => e = .returned (.bool (matB ls)) ∧ ∃ d, w' = w.drewN d := by
  have hw := fun W => l1In_any ls.length 1 3 W
  rcases h.cases with ⟨rfl, a, cap, rfl⟩ | ⟨hpos, hlen, b, off, cap, V, rfl, hbb, hcell⟩
  · have hw := fun W => l1In_any 0 1 3 W
    have hm : inB 0 1 3 = false := by decide
    simp only [hm] at hw
    have hr : matB [] = false := by decide
    rw [hr]
    go_enter Tryz.func75, Tryz.ntmps75
    go_wp2
    refine wp_loop_rounds 1 ?_
    rw [rounds_succ]
    go_wp2_with (go_at_call 64; (with_reducible refine (hw _).mono ?_); rintro e w' ⟨rfl, rfl⟩)
    go_ret
    exact ⟨rfl, 0, rfl⟩
  have HNO := Lib.hid (fun k (hk : k < ls.length) h => matK_no hk h)
  have HYES := Lib.hid (fun h => matB_yes (m := ls) h)
  have HST := Lib.hid (matK_step ls)
  have HMR := Lib.hid (fun r => show matRow ls.length r = (decide (r.length = ls.length) && allIn r (-100) 100) from rfl)
  obtain ⟨n, hn⟩ : ∃ n, n = ls.length := ⟨_, rfl⟩
  rw [← hn] at hlen hpos hw HNO HYES HMR HST ⊢
  have HN := Lib.hid hn
  have HC := Lib.hid hcell
  clear hn hcell h
  go_enter Tryz.func75, Tryz.ntmps75
  go_wp2
  go_loopw [3] (fun i wr => ∃ (d k : Nat), k ≤ n ∧ i = .int .i64 k ∧ Hid (wr = w.drewN d) ∧ Hid (matK ls k = true)) (fun i _ => n - (intOf i).toNat)
  case atStart => exact ⟨0, 0, by omega, rfl, Lib.hid rfl, Lib.hid rfl⟩
  case round =>
    obtain ⟨d, k, hk, rfl, HW, HALL⟩ := hrel
    by_cases hlt : k < n
    · have hkl : k < ls.length := by rw [← HN.out]; exact hlt
      have hc : wr.cell? ⟨b, off + k, none⟩ = some (V k) := by rw [HW.out]; exact (HC.out k hkl).1
      have hrow : ISr wr hb (V k) (ls.getD k []) := by rw [HW.out]; exact (HC.out k hkl).2
      have Q := l2Small_any (ls.getD k []) (V k) 100 hb wr hrow (by omega) (by omega)
      obtain ⟨a1, cp, hxk, -⟩ := id hrow
      rw [hxk] at hc Q
      have HS := Lib.hid (HST.out k)
      have HNK := Lib.hid (HNO.out k hlt)
      have HM := Lib.hid (HMR.out (ls.getD k []))
      clear hrow hkl hxk
      generalize ls.getD k [] = row at *
      have hkn : (k : Int) < (n : Int) := by omega
      have hk0 : (0 : Int) ≤ (k : Int) := by omega
      by_cases h2 : row.length = n
      · rw [h2] at hc Q
        have hne : ((n : Int) != (n : Int)) = false := by simp
        cases hs : allIn row (-100) 100
        · rw [hs] at Q
          have HR := Lib.hid (HNK.out (by rw [HM.out, hs]; simp))
          clear hs h2
          go_wp2_with (go_at_call 96; (with_reducible refine Q.mono ?_); rintro e w' ⟨rfl, d2, rfl⟩)
          go_ret
          exact ⟨ret_bool HR.out.symm, d + d2, by rw [HW.out, World.drewN_drewN]⟩
        · rw [hs] at Q
          have HK := Lib.hid (show matK ls (k + 1) = true by rw [HS.out, HALL.out, HM.out, hs, decide_eq_true h2]; rfl)
          clear hs h2
          go_wp2_with (go_at_call 96; (with_reducible refine Q.mono ?_); rintro e w' ⟨rfl, d2, rfl⟩)
          go_roundw
          case rel => exact ⟨d + d2, k + 1, by omega, by go_num, Lib.hid (by rw [HW.out, World.drewN_drewN]), HK⟩
          case measure => simp [intOf]; omega
      · have hne : ((row.length : Int) != (n : Int)) = true := by rw [bne_iff_ne]; omega
        have HR := Lib.hid (HNK.out (by rw [HM.out, decide_eq_false h2]; rfl))
        clear h2 Q HM HS HNK
        generalize row.length = rl at *
        go_wp2
        go_ret
        exact ⟨ret_bool HR.out.symm, _, HW.out⟩
    · obtain rfl : k = n := by omega
      have HR := Lib.hid (HYES.out HALL.out)
      generalize inB (k : Int) 1 3 = r at *
      go_wp2_with (go_at_call 64; (with_reducible refine (hw _).mono ?_); rintro e w' ⟨rfl, rfl⟩)
      go_ret
      exact ⟨ret_bool HR.out.symm, _, HW.out⟩
end Go.Proofs.YtehhoplenloocaaGreat

/- Moves as the laws copy, compare and mark them. -/
namespace Go.Proofs.YtehhoplenloocaaGreat
open Go.RowKit
set_option linter.unusedVariables false
set_option linter.unusedSimpArgs false

theorem ISS.setOther {w : World} {lo hi : Nat} {v : Value} {l : List (List Int)} (h : ISS w lo hi v l) {a : Addr} (ha : a.block < lo ∨ hi ≤ a.block) (u : Value) : ISS (w.setCell a u) lo hi v l :=
  h.of_blocks fun b h1 h2 h3 => Below.heap_setCell w a u b (by omega)
/-- a matrix and a list of the call's own, in blocks of their own -/
def MoveO (w : World) (lo hi : Nat) (u1 u2 : Value) (U : List (List Int)) (V : List Int) : Prop :=
  ∃ a b c d, ISS w a b u1 U ∧ IS w c d u2 V ∧ (b ≤ c ∨ d ≤ a) ∧ lo ≤ a ∧ b ≤ hi ∧ lo ≤ c ∧ d ≤ hi
theorem MoveO.fstR {w : World} {lo hi : Nat} {u1 u2 : Value} {U : List (List Int)} {V : List Int} (h : MoveO w lo hi u1 u2 U V) : ISSr w hi u1 U := by
  obtain ⟨a, b, c, d, h1, h2, h3, h4, h5, h6, h7⟩ := h; exact h1.read.upto h5
theorem MoveO.sndR {w : World} {lo hi : Nat} {u1 u2 : Value} {U : List (List Int)} {V : List Int} (h : MoveO w lo hi u1 u2 U V) : ISr w hi u2 V := by
  obtain ⟨a, b, c, d, h1, h2, h3, h4, h5, h6, h7⟩ := h; exact h2.read.upto h7
theorem MoveO.nil (w : World) (lo hi : Nat) (h : lo ≤ hi) : MoveO w lo hi (.slice none 0 0) (.slice none 0 0) [] [] := ⟨lo, lo, lo, lo, ISS.nil _ _ _, IS.nil _ _ _, .inl (Nat.le_refl _), Nat.le_refl _, h, Nat.le_refl _, h⟩
theorem MoveO.keep {w w' : World} {lo hi B : Nat} {u1 u2 : Value} {U : List (List Int)} {V : List Int} (h : MoveO w lo hi u1 u2 U V) (hb : Below B w w') (hB : hi ≤ B) : MoveO w' lo hi u1 u2 U V := by
  obtain ⟨a, b, c, d, h1, h2, h3, h4, h5, h6, h7⟩ := h
  exact ⟨a, b, c, d, h1.keep hb (by omega), h2.keep hb (by omega), h3, h4, h5, h6, h7⟩
theorem MoveO.only {w w' : World} {lo hi lo2 hi2 : Nat} {u1 u2 : Value} {U : List (List Int)} {V : List Int} (h : MoveO w lo2 hi2 u1 u2 U V) (ho : Only lo hi w w') (hd : hi2 ≤ lo ∨ hi ≤ lo2) : MoveO w' lo2 hi2 u1 u2 U V := by
  obtain ⟨a, b, c, d, h1, h2, h3, h4, h5, h6, h7⟩ := h
  exact ⟨a, b, c, d, h1.only ho (by omega), h2.only ho (by omega), h3, h4, h5, h6, h7⟩
theorem MoveO.of {w : World} {a b c d lo hi : Nat} {u1 u2 : Value} {U : List (List Int)} {V : List Int} (h1 : ISS w a b u1 U) (h2 : IS w c d u2 V) (h : b ≤ c ∨ d ≤ a) (ha : lo ≤ a) (hb : b ≤ hi) (hc : lo ≤ c) (hd : d ≤ hi) : MoveO w lo hi u1 u2 U V := ⟨a, b, c, d, h1, h2, h, ha, hb, hc, hd⟩
theorem MoveO.mono {w : World} {lo hi lo' hi' : Nat} {u1 u2 : Value} {U : List (List Int)} {V : List Int} (h : MoveO w lo hi u1 u2 U V) (g1 : lo' ≤ lo) (g2 : hi ≤ hi') : MoveO w lo' hi' u1 u2 U V := by
  obtain ⟨a, b, c, d, h1, h2, h3, h4, h5, h6, h7⟩ := h
  exact ⟨a, b, c, d, h1, h2, h3, by omega, by omega, by omega, by omega⟩
end Go.Proofs.YtehhoplenloocaaGreat

/- Determinants of the model, IsUnimodular, IsMove: the walks. -/
namespace Go.Proofs.YtehhoplenloocaaGreat
open Go.RowKit
set_option linter.unusedVariables false
set_option linter.unusedSimpArgs false

theorem detF_one {m : List (List Int)} (h : SqB 1 m) : detF 1 m = (m.getD 0 []).getD 0 0 := by
  match m, h.len with
  | [r], _ =>
    have := (h.row 0 (by omega)).1
    match r, this with
    | [a], _ => simp [detF, detSum, sgnN]
theorem detF_two {m : List (List Int)} (h : SqB 2 m) : detF 2 m = (m.getD 0 []).getD 0 0 * (m.getD 1 []).getD 1 0 - (m.getD 0 []).getD 1 0 * (m.getD 1 []).getD 0 0 := by
  match m, h.len with
  | [r, s], _ =>
    have h1 := (h.row 0 (by omega)).1
    have h2 := (h.row 1 (by omega)).1
    match r, s, h1, h2 with
    | [a, b], [c, d], _, _ => simp [detF, detSum, sgnN, minorL_zero, cutAt]; grind
theorem ISSr.one {w : World} {hi : Nat} {v : Value} {ls : List (List Int)} (h : ISSr w hi v ls) (h1 : ls.length = 1) :
    ∃ b off cap, ∃ V : Nat → Value, v = .slice (some ⟨b, off, none⟩) 1 cap ∧ b < hi ∧ (∀ i, i < 1 → w.cell? ⟨b, off + i, none⟩ = some (V i) ∧ ISr w hi (V i) (ls.getD i [])) := by
  obtain ⟨a, cap, hv, g1, g2, h4⟩ := h
  obtain ⟨b, off, V, rfl, hb, hc⟩ := h4 (by intro e; rw [e] at h1; cases h1)
  rw [h1] at hv hc
  exact ⟨b, off, cap, V, hv, hb, hc⟩
theorem ISSr.two {w : World} {hi : Nat} {v : Value} {ls : List (List Int)} (h : ISSr w hi v ls) (h1 : ls.length = 2) :
    ∃ b off cap, ∃ V : Nat → Value, v = .slice (some ⟨b, off, none⟩) 2 cap ∧ b < hi ∧ (∀ i, i < 2 → w.cell? ⟨b, off + i, none⟩ = some (V i) ∧ ISr w hi (V i) (ls.getD i [])) := by
  obtain ⟨a, cap, hv, g1, g2, h4⟩ := h
  obtain ⟨b, off, V, rfl, hb, hc⟩ := h4 (by intro e; rw [e] at h1; cases h1)
  rw [h1] at hv hc
  exact ⟨b, off, cap, V, hv, hb, hc⟩
theorem ISr.one1 {w : World} {hi : Nat} {v : Value} {l : List Int} (h : ISr w hi v l) (hl : l.length = 1) :
    ∃ b off cap, v = .slice (some ⟨b, off, none⟩) 1 cap ∧ b < hi ∧ w.cell? ⟨b, off, none⟩ = some (.int .i64 (l.getD 0 0)) := by
  obtain ⟨a, cap, hv, g1, g2, h4⟩ := h
  obtain ⟨b, off, rfl, hb, hc⟩ := h4 (by intro e; rw [e] at hl; cases hl)
  rw [hl] at hv
  exact ⟨b, off, cap, hv, hb, hc 0 (by omega)⟩

set_option maxRecDepth 100000 in
set_option maxHeartbeats 4000000 in
theorem l3Det1_any (m : List (List Int)) (v : Value) (hb : Nat) (w : World) (h : ISSr w hb v m) (hs : SqB 1 m) :
    Calls Tryz.prog 73 #[v] w fun e w' => e = .returned (.int .i64 (detF 1 m)) ∧ ∃ d, w' = w.drewN d := by
  rw [detF_one hs]
  obtain ⟨b, off, cap, V, rfl, hbb, hc⟩ := h.one hs.len
  obtain ⟨x0, i0⟩ := hc 0 (by omega)
  rw [Nat.add_zero] at x0
  obtain ⟨p0, o0, k0, e0, -, y0⟩ := i0.one1 (hs.row 0 (by omega)).1
  rw [e0] at x0
  clear hc i0 e0 h hs
  generalize (m.getD 0 []).getD 0 0 = a at *
  go_enter Tryz.func73, Tryz.ntmps73
  go_wp2
  all_goals try go_quiet (fail)
  go_ret
  exact ⟨rfl, 0, rfl⟩
set_option maxRecDepth 100000 in
set_option maxHeartbeats 4000000 in
theorem l3Det2_any (m : List (List Int)) (v : Value) (hb : Nat) (w : World) (h : ISSr w hb v m) (hs : SqB 2 m) :
    Calls Tryz.prog 73 #[v] w fun e w' => e = .returned (.int .i64 (detF 2 m)) ∧ ∃ d, w' = w.drewN d := by
  rw [detF_two hs]
  obtain ⟨b, off, cap, V, rfl, hbb, hc⟩ := h.two hs.len
  obtain ⟨x0, i0⟩ := hc 0 (by omega)
  obtain ⟨x1, i1⟩ := hc 1 (by omega)
  rw [Nat.add_zero] at x0
  obtain ⟨l0, r0⟩ := hs.row 0 (by omega)
  obtain ⟨l1, r1⟩ := hs.row 1 (by omega)
  obtain ⟨p0, o0, k0, e0, -, y0, y1⟩ := i0.two l0
  obtain ⟨p1, o1, k1, e1, -, z0, z1⟩ := i1.two l1
  rw [e0] at x0
  rw [e1] at x1
  have a0b := allIn_at r0 0 (by omega)
  have a1b := allIn_at r0 1 (by omega)
  have b0b := allIn_at r1 0 (by omega)
  have b1b := allIn_at r1 1 (by omega)
  clear hc i0 i1 e0 e1 h hs r0 r1 l0 l1
  generalize (m.getD 0 []).getD 0 0 = a0 at *
  generalize (m.getD 0 []).getD 1 0 = a1 at *
  generalize (m.getD 1 []).getD 0 0 = b0 at *
  generalize (m.getD 1 []).getD 1 0 = b1 at *
  have w1 := mul_bdd a0b b1b
  have w2 := mul_bdd a1b b0b
  have f0 := wr64 (a0 * b1) (by omega)
  have f1 := wr64 (a1 * b0) (by omega)
  have f2 := wr64 (a0 * b1 - a1 * b0) (by omega)
  clear a0b a1b b0b b1b w1 w2
  go_enter Tryz.func73, Tryz.ntmps73
  go_wp2
  go_quiet (fail)
  go_wp2
  go_ret
  exact ⟨rfl, nq, rfl⟩
theorem specDet_any (m : List (List Int)) (v : Value) (hb : Nat) (w : World) (h : ISSr w hb v m) (hs : SqB m.length m) (h1 : 1 ≤ m.length) (h3 : m.length ≤ 3) :
    Calls Tryz.prog 73 #[v] w fun e w' => e = .returned (.int .i64 (detM m)) ∧ ∃ d, w' = w.drewN d := by
  unfold detM
  rcases (show m.length = 1 ∨ m.length = 2 ∨ m.length = 3 by omega) with e | e | e
  · rw [e] at hs ⊢; exact l3Det1_any m v hb w h hs
  · rw [e] at hs ⊢; exact l3Det2_any m v hb w h hs
  · rw [e] at hs ⊢; rw [detF_three hs]; exact l3Det_any m v hb w h hs
set_option maxHeartbeats 1000000 in
theorem implDetOf_any (m : List (List Int)) (v : Value) (hb : Nat) (w : World) (h : ISSr w hb v m) (hhb : hb ≤ w.heap.size) :
    Calls Tryz.prog 71 #[v] w fun e w' => e = .returned (.int .i64 (detO m)) ∧ Below w.heap.size w w' := by
  have IM := implIsMatrix_any m v hb w h
  cases hm : matB m
  case false =>
    rw [detO_no hm]
    rw [hm] at IM
    clear h hm
    go_enter Tryz.func71, Tryz.ntmps71
    go_wp2_with (go_at_call 107; (with_reducible refine IM.mono ?_); rintro e w1 ⟨rfl, rfl⟩)
    go_ret
    exact ⟨rfl, Below.refl _ _⟩
  rw [detO_yes hm]
  rw [hm] at IM
  have D := det_any m.length (matB_len hm).2 m v hb w h hhb (matB_sq hm)
  rw [show detF m.length m = detM m from rfl] at D
  clear h hm
  generalize detM m = d at *
  go_enter Tryz.func71, Tryz.ntmps71
  go_wp2_with (first | (go_at_call 107; (with_reducible refine IM.mono ?_); rintro e w1 ⟨rfl, rfl⟩) | (go_at_call 105; (with_reducible refine D.mono ?_); rintro e w2 ⟨rfl, c2⟩))
  go_ret
  exact ⟨rfl, c2⟩
set_option maxHeartbeats 1000000 in
theorem specDetOf_any (m : List (List Int)) (v : Value) (hb : Nat) (w : World) (h : ISSr w hb v m) :
    Calls Tryz.prog 95 #[v] w fun e w' => e = .returned (.int .i64 (detO m)) ∧ Below w.heap.size w w' := by
  have IM := specIsMatrix_any m v hb w h
  cases hm : matB m
  case false =>
    rw [detO_no hm]
    rw [hm] at IM
    clear h hm
    go_enter Tryz.func95, Tryz.ntmps95
    go_wp2_with (go_at_call 75; (with_reducible refine IM.mono ?_); rintro e w1 ⟨rfl, d, rfl⟩)
    go_ret
    exact ⟨rfl, below_draws _ _ _⟩
  rw [detO_yes hm]
  rw [hm] at IM
  have D := fun d => specDet_any m v hb (w.drewN d) (h.draws d) (matB_sq hm) (matB_len hm).1 (matB_len hm).2
  clear h hm
  generalize detM m = d at *
  go_enter Tryz.func95, Tryz.ntmps95
  go_wp2_with (first | (go_at_call 75; (with_reducible refine IM.mono ?_); rintro e w1 ⟨rfl, d1, rfl⟩) | (go_at_call 73; (with_reducible refine (D _).mono ?_); rintro e w2 ⟨rfl, d2, rfl⟩))
  go_ret
  exact ⟨rfl, below_draws _ _ _⟩
set_option maxHeartbeats 1000000 in
theorem implIsUni_any (m : List (List Int)) (v : Value) (hb : Nat) (w : World) (h : ISSr w hb v m) (hhb : hb ≤ w.heap.size) :
    Calls Tryz.prog 47 #[v] w fun e w' => e = .returned (.bool (uniB m)) ∧ Below w.heap.size w w' := by
  have D := implDetOf_any m v hb w h hhb
  have hb2 := detO_bd m
  have MG := fun W => magnitude_any (detO m) W (by omega) (by omega)
  have HR := Lib.hid (show uniB m = decide (max (detO m) (-(detO m)) = 1) from rfl)
  clear h
  generalize detO m = d at *
  generalize max d (-d) = x at *
  go_enter Tryz.func47, Tryz.ntmps47
  go_wp2_with (first | (go_at_call 71; (with_reducible refine D.mono ?_); rintro e w1 ⟨rfl, c1⟩) | (go_at_call 92; (with_reducible refine (MG _).mono ?_); rintro e w2 ⟨rfl, rfl⟩))
  go_ret
  exact ⟨ret_bool (by rw [HR.out, Bool.eq_iff_iff]; simp), c1⟩
set_option maxHeartbeats 1000000 in
theorem specIsUni_any (m : List (List Int)) (v : Value) (hb : Nat) (w : World) (h : ISSr w hb v m) :
    Calls Tryz.prog 49 #[v] w fun e w' => e = .returned (.bool (uniB m)) ∧ Below w.heap.size w w' := by
  have D := specDetOf_any m v hb w h
  have hb2 := detO_bd m
  have MG := fun W => l1Abs_any (detO m) W (by omega) (by omega)
  have HR := Lib.hid (show uniB m = decide (max (detO m) (-(detO m)) = 1) from rfl)
  clear h
  generalize detO m = d at *
  generalize max d (-d) = x at *
  go_enter Tryz.func49, Tryz.ntmps49
  go_wp2_with (first | (go_at_call 95; (with_reducible refine D.mono ?_); rintro e w1 ⟨rfl, c1⟩) | (go_at_call 94; (with_reducible refine (MG _).mono ?_); rintro e w2 ⟨rfl, rfl⟩))
  go_ret
  exact ⟨ret_bool (by rw [HR.out, Bool.eq_iff_iff]; simp), c1⟩
def moveB (U : List (List Int)) (V : List Int) : Bool := decide (U.length = 2) && (uniB U && ptB V 1000)
theorem ptB_vec (V : List Int) : ptB V 1000 = (vecB V && decide (V.length = 2)) := by
  unfold ptB vecB
  by_cases h : V.length = 2
  · rw [h]; simp [inB]
  · simp [h]
set_option maxHeartbeats 2000000 in
theorem implIsMove_any (U : List (List Int)) (V : List Int) (v1 v2 : Value) (hb : Nat) (w : World) (i1 : ISSr w hb v1 U) (i2 : ISr w hb v2 V) (hhb : hb ≤ w.heap.size) :
    Calls Tryz.prog 19 #[.agg #[v1, v2]] w fun e w' => e = .returned (.bool (moveB U V)) ∧ Below w.heap.size w w' := by
  have B0 := below1 w (.cells #[v1, v2] 27)
  have bx := box2_new w v1 v2 27
  have IU := implIsUni_any U v1 hb _ (i1.keep B0 hhb) (Nat.le_trans hhb B0.size)
  have PT := fun W (B : Below w.heap.size w W) => isPoint_any V v2 1000 hb W (i2.keep B hhb) (by omega) (by omega)
  have x0 := bx.c0
  have x1 := bx.c1
  obtain ⟨a, cap, rfl, -⟩ := id i1
  have HR := Lib.hid (show moveB U V = (decide (U.length = 2) && (uniB U && ptB V 1000)) from rfl)
  clear i1 i2
  by_cases h2 : U.length = 2
  case neg =>
    have hr : moveB U V = false := by rw [HR.out, decide_eq_false h2]; rfl
    rw [hr]
    have hne : ((U.length : Int) == 2) = false := by rw [beq_eq_false_iff_ne]; omega
    clear HR hr PT IU bx
    generalize U.length = n at *
    go_enter Tryz.func19, Tryz.ntmps19
    go_wp2
    go_ret
    exact ⟨rfl, B0⟩
  rw [h2] at IU x0 bx B0 x1 ⊢
  cases hu : uniB U
  case false =>
    have hr : moveB U V = false := by rw [HR.out, hu]; simp
    rw [hr]
    rw [hu] at IU
    clear HR hr PT hu h2
    go_enter Tryz.func19, Tryz.ntmps19
    go_wp2_with (go_at_call 47; (with_reducible refine IU.mono ?_); rintro e w1 ⟨rfl, c1⟩)
    go_ret
    exact ⟨rfl, below_then B0 B0.size c1⟩
  have hr : moveB U V = ptB V 1000 := by rw [HR.out, hu, decide_eq_true h2]; rfl
  rw [hr]
  rw [hu] at IU
  clear HR hr hu h2
  generalize ptB V 1000 = q at *
  go_enter Tryz.func19, Tryz.ntmps19
  go_wp2_with (first | (go_at_call 47; (with_reducible refine IU.mono ?_); rintro e w1 ⟨rfl, c1⟩; have B1 := below_then B0 B0.size c1; have bx1 := bx.keep c1; have x2 := bx1.c1) | (go_at_call 48; (with_reducible refine (PT _ B1).mono ?_); rintro e w2 ⟨rfl, rfl⟩))
  go_ret
  exact ⟨rfl, B1⟩
set_option maxHeartbeats 2000000 in
theorem specIsMove_any (U : List (List Int)) (V : List Int) (v1 v2 : Value) (hb : Nat) (w : World) (i1 : ISSr w hb v1 U) (i2 : ISr w hb v2 V) (hhb : hb ≤ w.heap.size) :
    Calls Tryz.prog 20 #[.agg #[v1, v2]] w fun e w' => e = .returned (.bool (moveB U V)) ∧ Below w.heap.size w w' := by
  have B0 := below1 w (.cells #[v1, v2] 27)
  have bx := box2_new w v1 v2 27
  have IU := specIsUni_any U v1 hb _ (i1.keep B0 hhb)
  have IV := fun W (B : Below w.heap.size w W) => specIsVector_any V v2 hb W (i2.keep B hhb)
  have x0 := bx.c0
  have x1 := bx.c1
  obtain ⟨a, cap, rfl, -⟩ := id i1
  obtain ⟨a2, cap2, rfl, -⟩ := id i2
  have HR := Lib.hid (show moveB U V = (decide (U.length = 2) && (uniB U && (vecB V && decide (V.length = 2)))) by rw [← ptB_vec]; rfl)
  clear i1 i2
  by_cases h2 : U.length = 2
  case neg =>
    have hr : moveB U V = false := by rw [HR.out, decide_eq_false h2]; rfl
    rw [hr]
    have hne : ((U.length : Int) == 2) = false := by rw [beq_eq_false_iff_ne]; omega
    clear HR hr IV IU bx
    generalize U.length = n at *
    go_enter Tryz.func20, Tryz.ntmps20
    go_wp2
    go_ret
    exact ⟨rfl, B0⟩
  rw [h2] at IU x0 bx B0 x1 ⊢
  cases hu : uniB U
  case false =>
    have hr : moveB U V = false := by rw [HR.out, hu]; simp
    rw [hr]
    rw [hu] at IU
    clear HR hr IV hu h2
    go_enter Tryz.func20, Tryz.ntmps20
    go_wp2_with (go_at_call 49; (with_reducible refine IU.mono ?_); rintro e w1 ⟨rfl, c1⟩)
    go_ret
    exact ⟨rfl, below_then B0 B0.size c1⟩
  rw [hu] at IU
  have HQ := Lib.hid (show moveB U V = (vecB V && decide (V.length = 2)) by rw [HR.out, hu, decide_eq_true h2]; rfl)
  clear HR hu h2
  cases hv : vecB V
  case false =>
    have hr : moveB U V = false := by rw [HQ.out, hv]; rfl
    rw [hr]
    rw [hv] at IV
    clear HQ hr hv
    generalize V.length = n at *
    go_enter Tryz.func20, Tryz.ntmps20
    go_wp2_with (first | (go_at_call 49; (with_reducible refine IU.mono ?_); rintro e w1 ⟨rfl, c1⟩; have B1 := below_then B0 B0.size c1; have bx1 := bx.keep c1; have x2 := bx1.c1) | (go_at_call 50; (with_reducible refine (IV _ B1).mono ?_); rintro e w2 ⟨rfl, d, rfl⟩))
    go_ret
    exact ⟨rfl, B1.trans (below_draws _ _ _)⟩
  have hr : moveB U V = decide (V.length = 2) := by rw [HQ.out, hv]; rfl
  rw [hr]
  rw [hv] at IV
  clear HQ hr hv
  generalize V.length = n at *
  go_enter Tryz.func20, Tryz.ntmps20
  go_wp2_with (first | (go_at_call 49; (with_reducible refine IU.mono ?_); rintro e w1 ⟨rfl, c1⟩; have B1 := below_then B0 B0.size c1; have bx1 := bx.keep c1; have x2 := bx1.c1) | (go_at_call 50; (with_reducible refine (IV _ B1).mono ?_); rintro e w2 ⟨rfl, d, rfl⟩; have x3 := x2))
  all_goals go_ret
  all_goals refine ⟨ret_bool ?_, B1.trans (below_draws _ _ _)⟩
  all_goals first | (simp [*]; done) | (rw [Bool.eq_iff_iff]; simp [*]; done) | (rw [Bool.eq_iff_iff]; simp [*]; omega)
end Go.Proofs.YtehhoplenloocaaGreat

/- The adjugate matrix: the program's walk. -/
namespace Go.Proofs.YtehhoplenloocaaGreat
open Go.RowKit
set_option linter.unusedVariables false
set_option linter.unusedSimpArgs false

theorem minorK_lenE (m : List (List Int)) (i j : Nat) : ∀ k, (minorK m i j k).length = if i < k then k - 1 else k
  | 0 => by simp [minorK]
  | k + 1 => by
    rw [minorK]
    have ih := minorK_lenE m i j k
    by_cases h : k = i
    · rw [if_pos h, ih, if_neg (by omega), if_pos (by omega)]; omega
    · rw [if_neg h, List.length_append, ih, List.length_singleton]
      by_cases h2 : i < k
      · rw [if_pos h2, if_pos (by omega)]; omega
      · rw [if_neg h2, if_neg (by omega)]
theorem minorK_mem (m : List (List Int)) (i j : Nat) : ∀ k, ∀ r ∈ minorK m i j k, ∃ t, t < k ∧ r = cutAt (m.getD t []) j
  | 0, r, h => by simp [minorK] at h
  | k + 1, r, h => by
    rw [minorK] at h
    split at h
    · obtain ⟨t, ht, e⟩ := minorK_mem m i j k r h; exact ⟨t, by omega, e⟩
    · rcases List.mem_append.1 h with h | h
      · obtain ⟨t, ht, e⟩ := minorK_mem m i j k r h; exact ⟨t, by omega, e⟩
      · simp at h; exact ⟨k, by omega, by rw [h, List.getD_eq_getElem?_getD]⟩
theorem SqB.minorG {n : Nat} {m : List (List Int)} (h : SqB (n + 1) m) {i j : Nat} (hi : i < n + 1) (hj : j < n + 1) : SqB n (minorL m i j) := by
  have hl : (minorL m i j).length = n := by unfold minorL; rw [minorK_lenE, h.len, if_pos hi]; omega
  refine ⟨hl, fun k hk => ?_⟩
  have hm : (minorL m i j).getD k [] ∈ minorL m i j := by rw [List.getD_eq_getElem?_getD, List.getElem?_eq_getElem (by omega)]; exact List.getElem_mem _
  obtain ⟨t, ht, e⟩ := minorK_mem m i j m.length _ hm
  rw [e]
  rw [h.len] at ht
  obtain ⟨h1, h2⟩ := h.row t ht
  exact ⟨by rw [cutAt_len (by omega), h1]; omega, cutAt_in h2⟩
/-- the minor with its sign -/
def adjE (n : Nat) (m : List (List Int)) (i j : Nat) : Int := if (i + j) % 2 = 1 then -(detF (n - 1) (minorL m j i)) else detF (n - 1) (minorL m j i)
def adjRow (n : Nat) (m : List (List Int)) (i : Nat) : List Int := (List.range n).map (adjE n m i)
def adjM (n : Nat) (m : List (List Int)) : List (List Int) := (List.range n).map (adjRow n m)
theorem range_more {α : Type} (f : Nat → α) (j : Nat) : (List.range j).map f ++ [f j] = (List.range (j + 1)).map f := by rw [List.range_succ, List.map_append]; rfl
def adjFn (n : Nat) (m : List (List Int)) (k j : Nat) : Nat → Value := fun c => .int .i64 (if c < j then adjE n m k c else 0)
theorem adjRow_len (n : Nat) (m : List (List Int)) (i : Nat) : (adjRow n m i).length = n := by simp [adjRow]
theorem adjRow_at {n : Nat} {m : List (List Int)} {i j : Nat} (hj : j < n) : (adjRow n m i).getD j 0 = adjE n m i j := by
  unfold adjRow; rw [List.getD_eq_getElem?_getD, List.getElem?_map, List.getElem?_range hj]; rfl
theorem minorDet_bd {n : Nat} {m : List (List Int)} (h : SqB n m) (h1 : 1 ≤ n) (h3 : n ≤ 3) {i j : Nat} (hi : i < n) (hj : j < n) : SqB (n - 1) (minorL m i j) ∧ -20000000000 ≤ detF (n - 1) (minorL m i j) ∧ detF (n - 1) (minorL m i j) ≤ 20000000000 := by
  obtain ⟨n', rfl⟩ : ∃ n', n = n' + 1 := ⟨n - 1, by omega⟩
  rw [show n' + 1 - 1 = n' by omega]
  have hs := h.minorG hi hj
  have hb := detF_bd _ _ hs
  have hd : detB n' ≤ 20000000000 := by
    rcases (show n' = 0 ∨ n' = 1 ∨ n' = 2 by omega) with rfl | rfl | rfl <;> decide
  exact ⟨hs, by omega, by omega⟩

set_option maxRecDepth 100000 in
set_option maxHeartbeats 8000000 in
theorem adjugate_any (ls : List (List Int)) (n : Nat) (v : Value) (hb : Nat) (w : World) (h : ISSr w hb v ls) (hhb : hb ≤ w.heap.size) (hs : SqB n ls) (h1 : 1 ≤ n) (h3 : n ≤ 3) :
    Calls Tryz.prog 70 #[v] w fun e w' => ∃ u, e = .returned u ∧ OwnL w' w.heap.size u (adjM n ls) ∧ Below w.heap.size w w' := by
  obtain ⟨i0, hi0, hz0, hz1, hz2⟩ := info_parts info_ints
  have HI0 := Lib.hid hi0; clear hi0
  have HZ0 := Lib.hid hz0; clear hz0
  have HZ1 := Lib.hid hz1; clear hz1
  have HZ2 := Lib.hid hz2; clear hz2
  have hmk := run_make_row' (P := Tryz.prog) 25 3 (.int .i64 0) 8 Tryz.underlying25 info_int rfl .i64 .i64 n (by omega) (by omega)
  obtain ⟨a, cap, rfl, -, -, -⟩ := id h
  rw [hs.len] at h ⊢
  have H := Lib.hid h
  have HSQ := Lib.hid hs
  have HMI := Lib.hid (fun i j (hi : i < n) (hj : j < n) W (B : Below w.heap.size w W) => minor_any ls i j n (.slice a n cap) hb W (h.keep B hhb) (Nat.le_trans hhb B.size) hs.len.symm (by omega) hi hj (fun k hk => (hs.row k (by rw [hs.len] at hk; exact hk)).1))
  have HMB := Lib.hid (fun i j (hi : i < n) (hj : j < n) => minorDet_bd hs h1 h3 hi hj)
  have HAJ := Lib.hid (fun i j => show adjE n ls i j = if (i + j) % 2 = 1 then -(detF (n - 1) (minorL ls j i)) else detF (n - 1) (minorL ls j i) from rfl)
  clear h hs
  go_enter Tryz.func70, Tryz.ntmps70
  go_wp2
  go_loopw [3, 9] (fun ov i wr => ∃ (k : Nat), k ≤ n ∧ i = .int .i64 k ∧ Hid (OwnL wr w.heap.size ov ((List.range k).map (adjRow n ls))) ∧ Hid (Below w.heap.size w wr)) (fun _ i _ => n - (intOf i).toNat)
  case atStart => exact ⟨0, by omega, rfl, OwnL.nil w _ (Nat.le_refl _), Below.refl _ _⟩
  case round =>
    obtain ⟨k, hk, rfl, hown, hbe⟩ := hrel
    by_cases hlt : k < n
    · have hdec : decide ((k : Int) < n) = true := by simp; omega
      obtain ⟨w1, hw1⟩ : ∃ w1, w1 = wr := ⟨_, rfl⟩
      subst hw1
      have hwz := hbe.out.size
      have hnew := BK.of_rowIs (World.rowIs_made w1 (.int .i64 0) n 3)
      have hbel := Lib.hid (below1 w1 (.cells (madeCells #[.int .i64 0] n) 3))
      have HNEW := Lib.hid (hnew.congr (g := adjFn n ls k 0) (fun j _ => by simp [adjFn]))
      clear hnew
      go_wp2
      go_loopw [17] (fun i wr => ∃ (j : Nat), j ≤ n ∧ i = .int .i64 j ∧ Hid (BK wr w1.heap.size 0 n 3 (adjFn n ls k j)) ∧ Hid (Below w1.heap.size w1 wr)) (fun i _ => n - (intOf i).toNat)
      case atStart => exact ⟨0, by omega, rfl, HNEW, hbel⟩
      case round =>
        obtain ⟨j, hj, rfl, hbk, hb1⟩ := hrel
        clear HNEW hmk
        by_cases hjt : j < n
        · have hdec2 : decide ((j : Int) < n) = true := by simp; omega
          have hz1' := hb1.out.size
          have hbw : Below w.heap.size w wr := hbe.out.trans (hb1.out.mono hwz)
          have hrlt := hbk.out.lt
          have MN := HMI.out j k hjt hlt wr hbw
          obtain ⟨hsq, hd1, hd2⟩ := HMB.out j k hjt hlt
          have DT := fun u W (i : ISSr W W.heap.size u (minorL ls j k)) => det_any (n - 1) (by omega) (minorL ls j k) u W.heap.size W i (Nat.le_refl _) hsq
          have HE := Lib.hid (HAJ.out k j)
          have HDT := Lib.hid DT
          clear DT
          generalize detF (n - 1) (minorL ls j k) = t at *
          go_wp2_with fail
          with_reducible refine MN.mono ?_
          rintro e w2 ⟨u, rfl, ku, c2⟩
          have HK := Lib.hid ku.is.read
          have hbk2 := hbk.out.keep c2 hrlt
          have hb2 := below_then hb1.out hb1.out.size c2
          clear ku c2 MN
          go_wp2_with fail
          with_reducible refine (HDT.out u w2 HK.out).mono ?_
          rintro e w3 ⟨rfl, c3⟩
          have hbk3 := hbk2.keep c3 hbk2.lt
          have hb3 := below_then hb2 hb2.size c3
          have q0 := hbk3.cell hjt
          have q1 := hbk3.frozen j
          rw [Nat.zero_add] at q0
          have s1 := hbk3.set hjt (.int .i64 t)
          have sb1 := hb3.setCell (p := ⟨w1.heap.size, 0 + j, none⟩) (Nat.le_refl _) (.int .i64 t)
          rw [Nat.zero_add] at s1 sb1
          have hjn : (j : Int) < (n : Int) := by omega
          have hj0 : (0 : Int) ≤ (j : Int) := by omega
          have hkj := wr64 ((k : Int) + (j : Int)) (by omega)
          have hj7 : ((j : Int)).toNat = j := by omega
          generalize adjFn n ls k j j = y at *
          by_cases hpar : (k + j) % 2 = 1
          · have hp1 : ((k : Int) + (j : Int)) % 2 = 1 := by omega
            have hp2 : ((k : Int) + (j : Int)).tmod 2 = 1 := by rw [Int.tmod_eq_emod_of_nonneg (by omega)]; exact hp1
            have s2 := BK.set (k := j) s1 hjt (.int .i64 (-t))
            have sb2 := sb1.setCell (p := ⟨w1.heap.size, 0 + j, none⟩) (Nat.le_refl _) (.int .i64 (-t))
            rw [Nat.zero_add] at s2 sb2
            have wn := wr64 (-t) (by omega)
            have HS := Lib.hid (s2.congr (g := adjFn n ls k (j + 1)) (fun c hc => by
              show (if c = j then _ else _) = adjFn n ls k (j + 1) c
              unfold adjFn
              by_cases e : c = j
              · subst e; rw [if_pos rfl, if_pos (Nat.lt_succ_self _), HE.out, if_pos hpar]
              · rw [if_neg e]
                show (if c = j then _ else Value.int .i64 (if c < j then adjE n ls k c else 0)) = _
                rw [if_neg e]
                by_cases e2 : c < j
                · rw [if_pos e2, if_pos (by omega)]
                · rw [if_neg e2, if_neg (by omega)]))
            have HSB := Lib.hid sb2
            clear s1 s2 sb1 sb2 hbk2 hbk3 hb2 hb3 c3 hpar
            go_wp2
            go_roundw
            case rel => exact ⟨j + 1, by omega, by go_num, HS, HSB⟩
            case measure => simp [intOf]; omega
          · have hp1 : ((k : Int) + (j : Int)) % 2 = 0 := by omega
            have hp2 : ((k : Int) + (j : Int)).tmod 2 = 0 := by rw [Int.tmod_eq_emod_of_nonneg (by omega)]; exact hp1
            have HS := Lib.hid (s1.congr (g := adjFn n ls k (j + 1)) (fun c hc => by
              show (if c = j then _ else _) = adjFn n ls k (j + 1) c
              unfold adjFn
              by_cases e : c = j
              · subst e; rw [if_pos rfl, if_pos (Nat.lt_succ_self _), HE.out, if_neg hpar]
              · rw [if_neg e]
                by_cases e2 : c < j
                · rw [if_pos e2, if_pos (by omega)]
                · rw [if_neg e2, if_neg (by omega)]))
            have HSB := Lib.hid sb1
            clear s1 sb1 hbk2 hbk3 hb2 hb3 c3 hpar
            go_wp2
            go_roundw
            case rel => exact ⟨j + 1, by omega, by go_num, HS, HSB⟩
            case measure => simp [intOf]; omega
        · obtain rfl : j = n := by omega
          have hz1' := hb1.out.size
          have HIS := Lib.hid (IS.of_BK (l := adjRow j ls k) (lo := w1.heap.size) (hi := wr.heap.size) (cap := j) (b := w1.heap.size) (off := 0) (by
            rw [adjRow_len]
            exact hbk.out.congr fun c hc => by unfold adjFn; rw [if_pos hc, adjRow_at hc]) (by rw [adjRow_len]; exact Nat.le_refl _) (by unfold maxLen; omega) (Nat.le_refl _) hbk.out.lt)
          rw [adjRow_len] at HIS
          obtain ⟨V, p, hpt⟩ := hown.out.part hb1.out
          have HPT := Lib.hid hpt
          have HB2 := Lib.hid (below_then hbe.out hwz hb1.out)
          have HE := Lib.hid (range_more (adjRow j ls) k)
          have hal : ((List.range k).map (adjRow j ls)).length ≤ 3 := by simp; omega
          have HAL := Lib.hid (show ((List.range k).map (adjRow j ls)).length ≤ 3 from hal)
          clear hpt
          generalize (List.range k).map (adjRow j ls) = acc at *
          generalize adjRow j ls k = r at *
          go_wp2_with (at_builtin; refine wpList_append_own _ rfl _ _ 24 rfl w.heap.size 25 i0 (.slice none 0 0) 1 24 Tryz.underlying24 HI0.out HZ0.out HZ1.out HZ2.out rfl (by decide) _ _ _ rfl (HPT.out.alloc _) ⟨wr.heap.size, 0, none⟩ 1 1 [.slice (some ⟨w1.heap.size, 0, none⟩) j j] rfl rfl ?c1 ?c2 ?c3 ?c4 ?c5 ?_)
          case c1 => exact cell_one_new _ _ _
          case c2 => first | rfl | (intro u hu; simp at hu; subst hu; rfl)
          case c3 => unfold maxLen; omega
          case c4 => omega
          case c5 => first | omega | (simp; omega)
          intro v2 w3 hown2 hgrow _
          have HO := Lib.hid (HPT.out.push HIS.out (Nat.le_refl _) hz1' (Nat.le_refl _) hgrow hown2)
          have HBE := Lib.hid (OwnLp.below HB2.out (by omega) _ hgrow HPT.out (Nat.le_refl _))
          rw [HE.out] at HO
          clear hown2 hgrow
          go_wp2
          go_roundw
          case rel => exact ⟨k + 1, by omega, by go_num, HO, HBE⟩
          case measure => simp [intOf]; omega
    · obtain rfl : k = n := by omega
      clear hmk
      go_wp2
      go_ret
      exact ⟨_, rfl, hown.out, hbe.out⟩
end Go.Proofs.YtehhoplenloocaaGreat

/- The inverse matrix: the program's walk. -/
namespace Go.Proofs.YtehhoplenloocaaGreat
open Go.RowKit
set_option linter.unusedVariables false
set_option linter.unusedSimpArgs false

def invRow (m : List (List Int)) (i : Nat) : List Int := (List.range m.length).map fun j => adjE m.length m i j * detM m
def invM (m : List (List Int)) : List (List Int) := (List.range m.length).map (invRow m)
def invV (m : List (List Int)) : List (List Int) × Bool := if uniB m && matB (invM m) then (invM m, true) else ([], false)
theorem invV_no1 {m : List (List Int)} (h : uniB m = false) : invV m = ([], false) := by unfold invV; rw [h]; rfl
theorem invV_no2 {m : List (List Int)} (h : matB (invM m) = false) : invV m = ([], false) := by unfold invV; rw [h]; simp
theorem invV_yes {m : List (List Int)} (h1 : uniB m = true) (h2 : matB (invM m) = true) : invV m = (invM m, true) := by unfold invV; rw [h1, h2]; rfl
theorem uniB_mat {m : List (List Int)} (h : uniB m = true) : matB m = true ∧ (detM m = 1 ∨ detM m = -1) := by
  cases hm : matB m
  · unfold uniB at h; rw [detO_no hm] at h; simp at h
  · unfold uniB at h; rw [detO_yes hm] at h; simp at h; exact ⟨rfl, by omega⟩
def mixRow (m : List (List Int)) (k j : Nat) : List Int := (List.range m.length).map fun c => if c < j then adjE m.length m k c * detM m else adjE m.length m k c
def curI (m : List (List Int)) (k j : Nat) : Nat → List Int := fun i => if i < k then invRow m i else if i = k then mixRow m k j else adjRow m.length m i
theorem mixRow_len (m : List (List Int)) (k j : Nat) : (mixRow m k j).length = m.length := by simp [mixRow]
theorem mixRow_zero (m : List (List Int)) (k : Nat) : mixRow m k 0 = adjRow m.length m k := by simp [mixRow, adjRow]
theorem mixRow_full (m : List (List Int)) (k : Nat) : mixRow m k m.length = invRow m k := by
  unfold mixRow invRow
  exact List.map_congr_left fun c hc => by rw [if_pos (List.mem_range.1 hc)]
theorem mixRow_at {m : List (List Int)} {k j : Nat} (hj : j < m.length) : (mixRow m k j).getD j 0 = adjE m.length m k j := by
  unfold mixRow; rw [List.getD_eq_getElem?_getD, List.getElem?_map, List.getElem?_range hj]; simp
theorem mixRow_set {m : List (List Int)} {k j : Nat} (hj : j < m.length) : (mixRow m k j).set j (adjE m.length m k j * detM m) = mixRow m k (j + 1) := by
  apply List.ext_getElem?
  intro c
  rw [List.getElem?_set]
  unfold mixRow
  rw [List.length_map, List.length_range, List.getElem?_map, List.getElem?_map]
  by_cases e : j = c
  · subst e
    rw [if_pos rfl, if_pos hj, List.getElem?_range hj]
    simp
  · rw [if_neg e]
    by_cases hc : c < m.length
    · rw [List.getElem?_range hc]
      show some (if c < j then _ else _) = some (if c < j + 1 then _ else _)
      by_cases e2 : c < j
      · rw [if_pos e2, if_pos (by omega)]
      · rw [if_neg e2, if_neg (by omega)]
    · rw [List.getElem?_eq_none (by simp; omega)]; rfl
theorem adjE_bd {m : List (List Int)} (h : matB m = true) {i j : Nat} (hi : i < m.length) (hj : j < m.length) : -20000000000 ≤ adjE m.length m i j ∧ adjE m.length m i j ≤ 20000000000 := by
  have := (minorDet_bd (matB_sq h) (matB_len h).1 (matB_len h).2 hj hi).2
  unfold adjE; split <;> omega
theorem RowsW.keep {w w' : World} {lo hi b off n B : Nat} {V : Nat → Value} {cur : Nat → List Int} (h : RowsW w lo hi b off n V cur) (hb : Below B w w') (hh : hi ≤ B) (hbB : b < B) : RowsW w' lo hi b off n V cur :=
  ⟨h.outer.keep hb hbB, fun i hi => (h.row i hi).keep hb hh, h.apart⟩

set_option maxHeartbeats 1000000 in
theorem matrixOf_any (m : List (List Int)) (v : Value) (hb : Nat) (w : World) (h : ISSr w hb v m) :
    Calls Tryz.prog 72 #[v] w fun e w' => e = .returned (.tuple #[if matB m then v else .slice none 0 0, .bool (matB m)]) ∧ w = w' := by
  have IM := implIsMatrix_any m v hb w h
  obtain ⟨a, cap, rfl, -⟩ := id h
  generalize m.length = n at *
  cases hm : matB m
  all_goals
    rw [hm] at IM
    clear h hm
    go_enter Tryz.func72, Tryz.ntmps72
    go_wp2_with (go_at_call 107; (with_reducible refine IM.mono ?_); rintro e w1 ⟨rfl, rfl⟩)
    go_ret2
    exact ⟨rfl, rfl⟩
set_option maxRecDepth 100000 in
set_option maxHeartbeats 8000000 in
theorem implInverse_any (m : List (List Int)) (v : Value) (hb : Nat) (w : World) (h : ISSr w hb v m) (hhb : hb ≤ w.heap.size) :
    Calls Tryz.prog 34 #[v] w fun e w' => ∃ u, e = .returned (.tuple #[u, .bool (invV m).2]) ∧ ISS w' w.heap.size w'.heap.size u (invV m).1 ∧ Below w.heap.size w w' := by
  have IU := implIsUni_any m v hb w h hhb
  cases hu : uniB m
  case false =>
    rw [invV_no1 hu]
    rw [hu] at IU
    clear h hu
    go_enter Tryz.func34, Tryz.ntmps34
    go_wp2_with (go_at_call 47; (with_reducible refine IU.mono ?_); rintro e w1 ⟨rfl, c1⟩)
    go_ret2
    exact ⟨_, rfl, ISS.nil _ _ _, c1⟩
  rw [hu] at IU
  obtain ⟨hm, hd⟩ := uniB_mat hu
  obtain ⟨h1, h3⟩ := matB_len hm
  have AD := fun W (B : Below w.heap.size w W) => adjugate_any m m.length v hb W (h.keep B hhb) (Nat.le_trans hhb B.size) (matB_sq hm) h1 h3
  have DO := Lib.hid (fun W (B : Below w.heap.size w W) => implDetOf_any m v hb W (h.keep B hhb) (Nat.le_trans hhb B.size))
  rw [detO_yes hm] at DO
  have HV := Lib.hid (fun e => invV_no2 (m := m) e)
  have HY := Lib.hid (fun e => invV_yes hu (m := m) e)
  have HAB := Lib.hid (fun i j (hi : i < m.length) (hj : j < m.length) => adjE_bd hm hi hj)
  have HEND := Lib.hid (show (List.range m.length).map (curI m m.length 0) = invM m from List.map_congr_left fun i hi => by unfold curI; rw [if_pos (List.mem_range.1 hi)])
  have HCUR := Lib.hid (show ∀ k i, curI m k m.length i = curI m (k + 1) 0 i from fun k i => by
    unfold curI
    by_cases e : i = k
    · subst e; rw [if_neg (Nat.lt_irrefl _), if_pos rfl, if_pos (Nat.lt_succ_self _), mixRow_full]
    · by_cases e2 : i < k
      · rw [if_pos e2, if_pos (by omega)]
      · rw [if_neg e2, if_neg e, if_neg (by omega)]
        split
        · rename_i e3; rw [e3, mixRow_zero]
        · rfl)
  have HAL := Lib.hid (show (adjM m.length m).length = m.length by simp [adjM])
  have HAG := Lib.hid (show ∀ i, i < m.length → (adjM m.length m).getD i [] = curI m 0 0 i from fun i hi => by
    unfold adjM curI
    rw [List.getD_eq_getElem?_getD, List.getElem?_map, List.getElem?_range hi, if_neg (Nat.not_lt_zero _)]
    show adjRow m.length m i = _
    split
    · rename_i e; rw [e, mixRow_zero]
    · rfl)
  have HML := Lib.hid (fun k j => mixRow_len m k j)
  have HMA := Lib.hid (fun k j (hj : j < m.length) => mixRow_at (m := m) (k := k) hj)
  have HMS := Lib.hid (fun k j (hj : j < m.length) => mixRow_set (m := m) (k := k) hj)
  obtain ⟨a, cap, rfl, -⟩ := id h
  obtain ⟨n, hn⟩ : ∃ n, n = m.length := ⟨_, rfl⟩
  obtain ⟨dt, hdt⟩ : ∃ dt, dt = detM m := ⟨_, rfl⟩
  rw [← hdt] at DO hd HMS
  rw [← hn] at h1 h3 AD DO IU HAB HEND HCUR HAL HAG HML HMA HMS ⊢
  clear h hu hm hn hdt
  go_enter Tryz.func34, Tryz.ntmps34
  go_wp2_with (go_at_call 47; (with_reducible refine IU.mono ?_); rintro e w1 ⟨rfl, c1⟩)
  have C1 := Lib.hid c1
  have A1 := AD w1 c1
  clear IU AD c1
  go_wp2_with fail
  with_reducible refine A1.mono ?_
  rintro e w2 ⟨u, rfl, ku, c2⟩
  obtain ⟨b, off, cp, V, rfl, hlo, hhi, hnc, hcm, hrw⟩ := RowsW.of ku.is (by rw [HAL.out]; omega)
  have B2 := Lib.hid (below_then C1.out C1.out.size c2)
  have hz12 := c2.size
  have hz1 := C1.out.size
  rw [HAL.out] at hnc hrw ⊢
  have HRW := Lib.hid (hrw.congr (cur' := curI m 0 0) fun i hi => HAG.out i hi)
  clear ku c2 A1 hrw
  go_wp2
  go_loopw [6, 15] (fun _ i wr => ∃ (k : Nat), k ≤ n ∧ i = .int .i64 k ∧ Hid (RowsW wr w1.heap.size w2.heap.size b off n V (curI m k 0)) ∧ Hid (Below w.heap.size w wr) ∧ Hid (w2.heap.size ≤ wr.heap.size)) (fun _ i _ => n - (intOf i).toNat)
  case atStart => exact ⟨0, by omega, rfl, HRW, B2, Lib.hid (Nat.le_refl _)⟩
  case round =>
    obtain ⟨k, hk, rfl, hrw, hbe, hsz⟩ := hrel
    by_cases hlt : k < n
    · have hck := hrw.out.outer.cell hlt
      have hcur : curI m k 0 k = mixRow m k 0 := by unfold curI; rw [if_neg (Nat.lt_irrefl _), if_pos rfl]
      obtain ⟨br, or', cr, hV, g1, g2, g3, g4⟩ := hrw.out.at hlt (by rw [hcur, HML.out]; omega)
      rw [hcur, HML.out] at hV
      have HVV := Lib.hid hV
      rw [hV] at hck
      have hdec : decide ((k : Int) < n) = true := by simp; omega
      clear hcur g4 hV
      obtain ⟨wy, hwy⟩ : ∃ wy, wy = wr := ⟨_, rfl⟩
      subst hwy
      go_wp2
      go_loopw [7, 21] (fun _ i wr2 => ∃ (j : Nat), j ≤ n ∧ i = .int .i64 j ∧ Hid (RowsW wr2 w1.heap.size w2.heap.size b off n V (curI m k j)) ∧ Hid (Below w.heap.size w wr2) ∧ Hid (w2.heap.size ≤ wr2.heap.size)) (fun _ i _ => n - (intOf i).toNat)
      case atStart => exact ⟨0, by omega, rfl, hrw, hbe, hsz⟩
      case round =>
        obtain ⟨j, hj, rfl, hrw2, hbe2, hsz2⟩ := hrel
        clear hrw hck
        by_cases hjt : j < n
        · have hcur : curI m k j k = mixRow m k j := by unfold curI; rw [if_neg (Nat.lt_irrefl _), if_pos rfl]
          have hjl : j < (curI m k j k).length := by rw [hcur, HML.out]; exact hjt
          have hab := HAB.out k j hlt hjt
          have hmul : -20000000000 ≤ adjE n m k j * dt ∧ adjE n m k j * dt ≤ 20000000000 := by
            rcases hd with e | e <;> rw [e] <;> omega
          have hzz := hsz2.out
          have HSET := Lib.hid (show ∀ W, Below wr.heap.size wr W → RowsW (W.setCell ⟨br, or' + j, none⟩ (.int .i64 (adjE n m k j * dt))) w1.heap.size w2.heap.size b off n V (curI m k (j + 1)) ∧ W.cell? ⟨br, or' + j, none⟩ = some (.int .i64 (adjE n m k j)) ∧ W.frozen? ⟨br, or' + j, none⟩ = false from fun W B => by
            obtain ⟨s1, s2, s3, s4⟩ := (hrw2.out.keep B (by omega) (by omega)).set hlt HVV.out (c := j) hjl (adjE n m k j * dt)
            refine ⟨s1.congr fun i hi => ?_, ?_, s4⟩
            · by_cases e : i = k
              · subst e; rw [if_pos rfl, hcur, HMS.out i j hjt]; unfold curI; rw [if_neg (Nat.lt_irrefl _), if_pos rfl]
              · rw [if_neg e]; unfold curI; rw [if_neg e, if_neg e]
            · rw [s3, hcur, HMA.out k j hjt])
          have hf := wr64 _ (show _ from ⟨Int.le_trans (by decide) hmul.1, Int.le_trans hmul.2 (by decide)⟩)
          obtain ⟨-, q0, q1⟩ := HSET.out wr (Below.refl _ _)
          have Dd := Lib.hid (hbe2.out.trans (below_draws w.heap.size wr 1))
          have D1 := DO.out wr.drew Dd.out
          have hjn : (j : Int) < (n : Int) := by omega
          have hj0 : (0 : Int) ≤ (j : Int) := by omega
          have hjt0 : ((j : Int)).toNat = j := by omega
          clear hmul hcur hjl
          generalize adjE n m k j = x at *
          go_wp2_with fail
          go_region_with ((go_at_call 71; (with_reducible refine D1.mono ?_); rintro e w5 ⟨rfl, c5⟩; have c5' : Below wr.heap.size wr w5 := (below_draws _ _ 1).trans c5; obtain ⟨r5, p5, f5⟩ := HSET.out w5 c5'))
          all_goals
            have hzw := c5'.size
            go_wp2
            go_roundw
            case rel => exact ⟨j + 1, by omega, by go_num, Lib.hid r5, Lib.hid ((below_then Dd.out Dd.out.size c5).setCell (show w.heap.size ≤ br by omega) _), Lib.hid (by first | (rw [World.size_setCell]; omega) | (show _ ≤ (World.setCell _ _ _).heap.size; simp; omega))⟩
            case measure => simp [intOf]; omega
        · obtain rfl : j = n := by omega
          have R2 := Lib.hid (hrw2.out.congr (cur' := curI m (k + 1) 0) fun i _ => HCUR.out k i)
          clear hrw2
          go_wp2
          go_roundw
          case rel => exact ⟨k + 1, by omega, by go_num, R2, hbe2, hsz2⟩
          case measure => simp [intOf]; omega
    · obtain rfl : k = n := by omega
      have hzz := hsz.out
      have hs0 := hrw.out.iss hnc hcm hlo hhi
      rw [HEND.out] at hs0
      have MO := matrixOf_any (invM m) _ _ wr hs0.read
      have HSS := Lib.hid hs0
      have hz1 := C1.out.size
      clear hs0 hrw HRW
      cases hmb : matB (invM m)
      · have HVV := Lib.hid (HV.out hmb)
        rw [hmb] at MO
        clear HV HY hmb
        go_wp2_with (go_at_call 72; (with_reducible refine MO.mono ?_); rintro e w7 ⟨rfl, rfl⟩)
        go_ret2
        rw [HVV.out]
        exact ⟨_, rfl, ISS.nil _ _ _, hbe.out⟩
      · have HVV := Lib.hid (HY.out hmb)
        rw [hmb] at MO
        clear HV HY hmb
        go_wp2_with (go_at_call 72; (with_reducible refine MO.mono ?_); rintro e w7 ⟨rfl, rfl⟩)
        go_ret2
        rw [HVV.out]
        exact ⟨_, rfl, HSS.out.mono (by omega) (by omega), hbe.out⟩
end Go.Proofs.YtehhoplenloocaaGreat
