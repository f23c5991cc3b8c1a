/- Row steps with the wrap of 64 bits. -/
import Derived.Test.YtehhoplenloocaaB2
import Derived.Test.YtehhoplenloocaaPlace
import Derived.Deep.RegionHeld3
namespace Go.Proofs.Ytehhoplenloocaa
open Go.RowKit
set_option linter.unusedVariables false
set_option linter.unusedSimpArgs false

set_option maxHeartbeats 1000000 in
theorem l2ScaleW_any (l : List Int) (v : Value) (m : Int) (hb : Nat) (w : World) (h : ISr w hb v l) (hhb : hb ≤ w.heap.size) (hl : l.length ≤ 1000000) :
    Calls Try.prog 69 #[v, .int .i64 m] w fun e w' => ∃ v', e = .returned v' ∧ IS w' w.heap.size w'.heap.size v' (l.map (fun x => wrap64 (x * m))) ∧ Below w.heap.size w w' := by
  obtain ⟨i0, hi0, hz0, hz1, hz2⟩ := info_parts info_int
  have HI0 := Lib.hid hi0; clear hi0
  have HZ0 := Lib.hid hz0; clear hz0
  have HZ1 := Lib.hid hz1; clear hz1
  have HZ2 := Lib.hid hz2; clear hz2
  obtain ⟨n, hn⟩ : ∃ n, n = l.length := ⟨_, rfl⟩
  obtain ⟨a, cap, rfl, -, -, hcell⟩ := id h
  rw [← hn] at hl ⊢
  have HN := Lib.hid hn; clear hn
  have HC := Lib.hid hcell; clear hcell h
  go_enter Try.func69, Try.ntmps69
  go_wp2
  go_loopw [5, 6] (fun ov i wr => ∃ (k : Nat) (acc : List Int), k ≤ n ∧ i = .int .i64 k ∧ acc.length ≤ k ∧ Hid (acc = (l.take k).map (fun x => wrap64 (x * m))) ∧ Hid (OwnI wr w.heap.size ov acc) ∧ Hid (Below w.heap.size w wr)) (fun _ i _ => n - (intOf i).toNat)
  case atStart => exact ⟨0, [], by omega, rfl, Nat.le_refl _, Lib.hid (by simp), OwnI.lit0 w _ (Nat.le_refl _), below1 _ _⟩
  case round =>
    obtain ⟨k, acc, hk, rfl, hal, hacc, hown, hbe⟩ := hrel
    by_cases hlt : k < n
    · have hkl : k < l.length := by rw [← HN.out]; exact hlt
      obtain ⟨b, off, rfl, hbb, hcc⟩ := HC.out (by intro e; rw [e] at hkl; exact absurd hkl (Nat.not_lt_zero _))
      have hck := (hbe.out.cell (p := ⟨b, off + k, none⟩) (Nat.lt_of_lt_of_le hbb hhb)).trans (hcc k hkl)
      have HE := Lib.hid (map_step (fun x => wrap64 (x * m)) l k hkl)
      rw [← hacc.out] at HE
      clear hcc hkl
      generalize l.getD k 0 = x at *
      have hbs := hbe.out.size
      go_wp2_with (at_builtin; refine wpList_append_own _ rfl _ _ 30 rfl w.heap.size 3 i0 (.int .i64 0) 1 8 Try.underlying30 HI0.out HZ0.out HZ1.out HZ2.out rfl (by decide) _ _ _ rfl (hown.out.alloc _) ⟨wr.heap.size, 0, none⟩ 1 1 [.int .i64 (wrap64 (x * m))] rfl rfl ?c1 ?c2 ?c3 ?c4 ?c5 ?_)
      case c1 => exact cell_one_new _ _ _
      case c2 => first | rfl | (intro u hu; simp at hu; subst hu; rfl)
      case c3 => unfold maxLen; omega
      case c4 => omega
      case c5 => first | omega | (simp; omega)
      intro v2 w2 hown2 hgrow _
      have HO := Lib.hid (OwnI.push hown2); clear hown2
      have HBE := Lib.hid (OwnI.below hbe.out hbs _ hgrow hown.out (Nat.le_refl _))
      clear hgrow
      go_wp2
      go_roundw
      case rel => exact ⟨k + 1, _, by omega, by go_num, by simp; omega, HE, HO, HBE⟩
      case measure => simp [intOf]; omega
    · obtain rfl : k = n := by omega
      have hfin : acc = l.map (fun x => wrap64 (x * m)) := by rw [hacc.out, HN.out, List.take_length]
      subst hfin
      go_wp2
      go_ret
      exact ⟨_, rfl, hown.out.is, hbe.out⟩
set_option maxHeartbeats 1000000 in
theorem l2LessW0_any (l l' : List Int) (v v' : Value) (hb : Nat) (w : World) (h : ISr w hb v l) (h' : ISr w hb v' l') (hhb : hb ≤ w.heap.size) (hl : l.length ≤ 1000000) (hll : l.length ≤ l'.length) :
    Calls Try.prog 124 #[v, v'] w fun e w' => ∃ u, e = .returned u ∧ IS w' w.heap.size w'.heap.size u (List.zipWith (fun x y => IntKind.i64.wrap (x - y)) l l') ∧ Below w.heap.size w w' := by
  obtain ⟨i0, hi0, hz0, hz1, hz2⟩ := info_parts info_int
  have HI0 := Lib.hid hi0; clear hi0
  have HZ0 := Lib.hid hz0; clear hz0
  have HZ1 := Lib.hid hz1; clear hz1
  have HZ2 := Lib.hid hz2; clear hz2
  obtain ⟨n, hn⟩ : ∃ n, n = l.length := ⟨_, rfl⟩
  obtain ⟨n', hn'⟩ : ∃ n, n = l'.length := ⟨_, rfl⟩
  obtain ⟨a, cap, rfl, -, -, hcell⟩ := id h
  obtain ⟨a', cap', rfl, -, hm', hcell'⟩ := id h'
  rw [← hn] at hl hll ⊢
  rw [← hn'] at hll ⊢
  have HN := Lib.hid hn; clear hn
  have HN' := Lib.hid hn'; clear hn'
  have HC := Lib.hid hcell; clear hcell h
  have HC' := Lib.hid hcell'; clear hcell' h' hm'
  go_enter Try.func124, Try.ntmps124
  go_wp2
  go_loopw [5, 6] (fun ov i wr => ∃ (k : Nat) (acc : List Int), k ≤ n ∧ i = .int .i64 k ∧ acc.length ≤ k ∧ Hid (acc = List.zipWith (fun x y => IntKind.i64.wrap (x - y)) (l.take k) (l'.take k)) ∧ Hid (OwnI wr w.heap.size ov acc) ∧ Hid (Below w.heap.size w wr)) (fun _ i _ => n - (intOf i).toNat)
  case atStart => exact ⟨0, [], by omega, rfl, Nat.le_refl _, Lib.hid (by simp), OwnI.lit0 w _ (Nat.le_refl _), below1 _ _⟩
  case round =>
    obtain ⟨k, acc, hk, rfl, hal, hacc, hown, hbe⟩ := hrel
    by_cases hlt : k < n
    · have hkl : k < l.length := by rw [← HN.out]; exact hlt
      have hkl' : k < l'.length := by rw [← HN'.out]; omega
      obtain ⟨b, off, rfl, hbb, hcc⟩ := HC.out (by intro e; rw [e] at hkl; exact absurd hkl (Nat.not_lt_zero _))
      obtain ⟨b', off', rfl, hbb', hcc'⟩ := HC'.out (by intro e; rw [e] at hkl'; exact absurd hkl' (Nat.not_lt_zero _))
      have hck := (hbe.out.cell (p := ⟨b, off + k, none⟩) (Nat.lt_of_lt_of_le hbb hhb)).trans (hcc k hkl)
      have hck' := (hbe.out.cell (p := ⟨b', off' + k, none⟩) (Nat.lt_of_lt_of_le hbb' hhb)).trans (hcc' k hkl')
      have HE := Lib.hid (zip_step (fun x y => IntKind.i64.wrap (x - y)) l l' k hkl hkl')
      rw [← hacc.out] at HE
      clear hcc hcc' hkl hkl'
      generalize l.getD k 0 = x at *
      generalize l'.getD k 0 = y at *
      have hbs := hbe.out.size
      have hi1 : (0 : Int) ≤ (k : Int) := by omega
      have hi2 : (k : Int) < (n : Int) := by omega
      have hi3 : (k : Int) < (n' : Int) := by omega
      go_wp2_with fail
      have lg := World.block_lt_of_cell? wr _ hck
      have lg' := World.block_lt_of_cell? wr _ hck'
      have ag : u5.ownBlock ≠ some b := fun e => by have := (World.ownsRow.lt hown.out b e).1; omega
      have ag' : u5.ownBlock ≠ some b' := fun e => by have := (World.ownsRow.lt hown.out b' e).1; omega
      go_region_held3 (fun w' => w'.cell? ⟨b, off + k, none⟩ = some (.int .i64 x) ∧ w'.cell? ⟨b', off' + k, none⟩ = some (.int .i64 y))
        (first
          | go_keep
          | (go_split_ands
             refine ⟨?_, ?_⟩
             · (rw [hgrow.cell_far _ (by simp; omega) (Ne.symm ag)]; assumption)
             · (rw [hgrow.cell_far _ (by simp; omega) (Ne.symm ag')]; assumption)))
        ((refine step_append_lies _ (by rfl) _ _ _ (by rfl) w.heap.size 3 i0 _ 1 8 Try.underlying30 HI0.out HZ0.out HZ1.out HZ2.out rfl (by omega) u5 acc.length (ivs acc) (by rfl) ((hown.out.alloc _).drew)
            ⟨wr.heap.size, 0, none⟩ 1 1 [.int .i64 (IntKind.i64.wrap (x - y))] (by rfl) (by rfl) (World.news_of_block (cs := #[.int .i64 (IntKind.i64.wrap (x - y))]) (t := 3) (fr := (0, 0)) (heap_alloc_new wr _)) (by simp [Value.oneCell'])
            (by omega) (by unfold maxLen; omega) (by omega) (by simp; omega) (wr.heap.size + 1) (by simp) ?_; intro gg cap w1 hown1 hgrow hat hlt))
      have HO := Lib.hid (OwnI.push hown1); clear hown1
      have HBE := Lib.hid (OwnI.below hbe.out hbs _ (grown_undrew hgrow) hown.out (Nat.le_refl _))
      clear hgrow hat hlt lg lg' ag ag'
      go_wp2
      go_roundw
      case rel => exact ⟨k + 1, _, by omega, by go_num, by simp; omega, HE, HO, HBE⟩
      case measure => simp [intOf]; omega
    · obtain rfl : k = n := by omega
      have hfin : acc = List.zipWith (fun x y => IntKind.i64.wrap (x - y)) l l' := by
        rw [hacc.out, HN.out, List.take_length]
        exact zip_full _ _ _
      subst hfin
      go_wp2
      go_ret
      exact ⟨_, rfl, hown.out.is, hbe.out⟩
theorem wrap_64 (x : Int) : IntKind.i64.wrap x = wrap64 x := IntWalk.i64_left x
theorem l2LessW_any (l l' : List Int) (v v' : Value) (hb : Nat) (w : World) (h : ISr w hb v l) (h' : ISr w hb v' l') (hhb : hb ≤ w.heap.size) (hl : l.length ≤ 1000000) (hll : l.length ≤ l'.length) :
    Calls Try.prog 124 #[v, v'] w fun e w' => ∃ u, e = .returned u ∧ IS w' w.heap.size w'.heap.size u (List.zipWith (fun x y => wrap64 (x - y)) l l') ∧ Below w.heap.size w w' := by
  have := l2LessW0_any l l' v v' hb w h h' hhb hl hll
  simp only [wrap_64] at this
  exact this
/-- the floor of a quotient as the code reckons it -/
def flW (a b : Int) : Int := if a.tmod b < 0 then wrap64 (wrap64 (a.tdiv b) - 1) else wrap64 (a.tdiv b)
theorem l3FloorW_any (a b : Int) (w : World) (hb : ¬ b = 0) :
    Calls Try.prog 149 #[.int .i64 a, .int .i64 b] w fun e w' => e = .returned (.int .i64 (flW a b)) ∧ w = w' := by
  have hb2 : (b == 0) = false := by rw [beq_eq_false_iff_ne]; exact hb
  go_enter Try.func149, Try.ntmps149
  go_wp2
  · have h : a.tmod b < 0 := by assumption
    go_ret
    exact ⟨ret_int (by unfold flW; rw [if_pos h]), rfl⟩
  · have h : 0 ≤ a.tmod b := by assumption
    go_ret
    exact ⟨ret_int (by unfold flW; rw [if_neg (by omega)]), rfl⟩
theorem downW_any (a b : Int) (w : World) (hb : ¬ b = 0) :
    Calls Try.prog 84 #[.int .i64 a, .int .i64 b] w fun e w' => e = .returned (.int .i64 (flW a b)) ∧ w = w' := by
  have hb2 : (b == 0) = false := by rw [beq_eq_false_iff_ne]; exact hb
  go_enter Try.func84, Try.ntmps84
  go_wp2
  · have h : a.tmod b < 0 := by assumption
    go_ret
    exact ⟨ret_int (by unfold flW; rw [if_pos h]), rfl⟩
  · have h : 0 ≤ a.tmod b := by assumption
    go_ret
    exact ⟨ret_int (by unfold flW; rw [if_neg (by omega)]), rfl⟩
/-- one row less a multiple of another, with the wrap -/
def subW (a b : List Int) (q : Int) : List Int := List.zipWith (fun x y => wrap64 (x - wrap64 (y * q))) a b
def subK (a b : List Int) (q : Int) (k : Nat) : List Int := (List.range a.length).map fun i => if i < k then wrap64 (a.getD i 0 - wrap64 (q * b.getD i 0)) else a.getD i 0
theorem subK_len (a b : List Int) (q : Int) (k : Nat) : (subK a b q k).length = a.length := by simp [subK]
theorem subK_zero (a b : List Int) (q : Int) : subK a b q 0 = a := by
  apply List.ext_getElem?
  intro i
  unfold subK
  rw [List.getElem?_map]
  by_cases h : i < a.length
  · rw [List.getElem?_range h, List.getElem?_eq_getElem h]; simp [List.getD_eq_getElem?_getD, List.getElem?_eq_getElem h]
  · rw [List.getElem?_eq_none (by simp; omega), List.getElem?_eq_none (by omega)]; rfl
theorem subK_at {a : List Int} {i k : Nat} (b : List Int) (q : Int) (h : i < a.length) (hk : k ≤ i) : (subK a b q k).getD i 0 = a.getD i 0 := by
  unfold subK; rw [List.getD_eq_getElem?_getD, List.getElem?_map, List.getElem?_range h]
  show (if i < k then _ else _) = _
  rw [if_neg (by omega)]
theorem subK_set {a : List Int} {k : Nat} (b : List Int) (q : Int) (h : k < a.length) : (subK a b q k).set k (wrap64 (a.getD k 0 - wrap64 (q * b.getD k 0))) = subK a b q (k + 1) := by
  apply List.ext_getElem?
  intro c
  rw [List.getElem?_set]
  unfold subK
  rw [List.length_map, List.length_range, List.getElem?_map, List.getElem?_map]
  by_cases e : k = c
  · subst e
    rw [if_pos rfl, if_pos h, List.getElem?_range h]
    simp
  · rw [if_neg e]
    by_cases hc : c < a.length
    · rw [List.getElem?_range hc]
      show some (if c < k then _ else _) = some (if c < k + 1 then _ else _)
      by_cases e2 : c < k
      · rw [if_pos e2, if_pos (by omega)]
      · rw [if_neg e2, if_neg (by omega)]
    · rw [List.getElem?_eq_none (by simp; omega)]; rfl
theorem subK_full {a b : List Int} (q : Int) (hl : a.length = b.length) : subK a b q a.length = subW a b q := by
  apply List.ext_getElem?
  intro c
  unfold subK subW
  rw [List.getElem?_map, List.getElem?_zipWith]
  by_cases hc : c < a.length
  · rw [List.getElem?_range hc, List.getElem?_eq_getElem hc, List.getElem?_eq_getElem (by omega : c < b.length)]
    simp [List.getD_eq_getElem?_getD, hc, List.getElem?_eq_getElem hc, List.getElem?_eq_getElem (by omega : c < b.length), Int.mul_comm]
  · rw [List.getElem?_eq_none (by simp; omega), List.getElem?_eq_none (by omega : a.length ≤ c)]; rfl
set_option maxHeartbeats 2000000 in
theorem lessW_any (A B : List Int) (q : Int) (ba oa ca bb ob cb n : Nat) (w : World) (hA : A.length = n) (hB : B.length = n) (h3 : n ≤ 3) (h : BK w ba oa n 3 fun i => .int .i64 (A.getD i 0)) (hb : ∀ i, i < n → w.cell? ⟨bb, ob + i, none⟩ = some (.int .i64 (B.getD i 0))) (hne : bb ≠ ba) (hbb : bb < w.heap.size) :
    Calls Try.prog 83 #[.slice (some ⟨ba, oa, none⟩) n ca, .int .i64 q, .slice (some ⟨bb, ob, none⟩) n cb] w fun e w' => e = .returned (.tuple #[]) ∧ BK w' ba oa n 3 (fun i => .int .i64 ((subW A B q).getD i 0)) ∧ w.grownBy w' (some ba) := by
  have HF := Lib.hid (show subK A B q n = subW A B q by rw [← hA]; exact subK_full q (by rw [hA, hB]))
  have HA := Lib.hid hA
  have HB := Lib.hid hb
  have HST := Lib.hid (show BK w ba oa n 3 (fun i => .int .i64 ((subK A B q 0).getD i 0)) by rw [subK_zero]; exact h)
  clear h hb hB hA
  go_enter Try.func83, Try.ntmps83
  go_wp2
  go_loopw [6, 9] (fun _ i wr => ∃ (j : Nat), j ≤ n ∧ i = .int .i64 j ∧ Hid (BK wr ba oa n 3 (fun i => .int .i64 ((subK A B q j).getD i 0))) ∧ Hid (w.grownBy wr (some ba))) (fun _ i _ => n - (intOf i).toNat)
  case atStart => exact ⟨0, by omega, rfl, HST, Lib.hid (World.grownBy.refl _ _)⟩
  case round =>
    obtain ⟨j, hj, rfl, hbk, hgr⟩ := hrel
    by_cases hlt : j < n
    · have ck := hbk.out.cell hlt
      have fz := hbk.out.frozen (oa + j)
      rw [subK_at B q (by rw [HA.out]; exact hlt) (Nat.le_refl _)] at ck
      have cb2 := (World.cell?_of_block (hgr.out.block bb hbb (by intro e; injection e with e; exact hne e))).trans (HB.out j hlt)
      have HLE : (subK A B q j).length = n := by rw [subK_len, HA.out]
      have HCO := subK_set (a := A) (k := j) B q (by rw [HA.out]; exact hlt)
      have HSET := Lib.hid (show ∀ z, z = wrap64 (A.getD j 0 - wrap64 (q * B.getD j 0)) → BK (wr.setCell ⟨ba, oa + j, none⟩ (.int .i64 z)) ba oa n 3 (fun i => .int .i64 ((subK A B q (j + 1)).getD i 0)) from fun z hz => by
        refine (hbk.out.set hlt (.int .i64 z)).congr fun i hi => ?_
        rw [← HCO, hz]
        show (if i = j then _ else _) = _
        rw [getD_set (by rw [HLE]; exact hlt)]
        split <;> rfl)
      have HG := Lib.hid (show ∀ z, w.grownBy (wr.setCell ⟨ba, oa + j, none⟩ (.int .i64 z)) (some ba) from fun z => by
        have g := hgr.out
        exact ⟨g.os, g.tape, g.output, by simp; exact g.size, fun i hi hne' => by rw [Below.heap_setCell _ _ _ _ (by intro e; apply hne'; rw [e])]; exact g.block i hi hne'⟩)
      clear HLE HCO
      have hi1 : (0 : Int) ≤ (j : Int) := by omega
      have hi2 : (j : Int) < (n : Int) := by omega
      generalize A.getD j 0 = x at *
      generalize B.getD j 0 = y at *
      have w1 := wrap_64 (x - wrap64 (q * y))
      have w2 := wrap_64 (q * y)
      go_wp2_with fail
      go_region
      go_wp2
      go_roundw
      case rel => exact ⟨j + 1, by omega, by go_num, Lib.hid (HSET.out _ (by first | rfl | (rw [wrap_64, wrap_64]))), Lib.hid (by have g := HG.out (wrap64 (x - wrap64 (q * y))); exact ⟨g.os, g.tape, g.output, g.size, g.block⟩)⟩
      case measure => simp [intOf]; omega
    · obtain rfl : j = n := by omega
      rw [HF.out] at hbk
      go_wp2
      refine bodyPost_end (v := .tuple #[]) (by first | rfl | simp [results, Try.results83, go_sem]) rfl ⟨rfl, hbk.out, hgr.out⟩
theorem subW_len {a b : List Int} (q : Int) (hl : a.length = b.length) : (subW a b q).length = a.length := by unfold subW; simp [hl]
end Go.Proofs.Ytehhoplenloocaa
