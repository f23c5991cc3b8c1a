/- Vectors: sums, differences, multiples, copies: the walks. -/
import Derived.Test.YtchkcjpahlimjaaPt
import Derived.Test.YtchkcjpahlimjaaGen
import Derived.Deep.AppendLies
import Derived.Deep.RegionHeld3
namespace Go.Proofs.Ytchkcjpahlimjaa
open Go.RowKit
set_option linter.unusedVariables false
set_option linter.unusedSimpArgs false

theorem mul_bd6 {a b : Int} (ha : -1000000 ≤ a) (ha' : a ≤ 1000000) (hb : -1000000 ≤ b) (hb' : b ≤ 1000000) : -1000000000000 ≤ a * b ∧ a * b ≤ 1000000000000 := by
  rcases Int.le_total 0 b with h | h
  · have := mul_bd2 (a := a) (b := b) (M := 1000000) (N := 1000000) ha ha' h hb' (by omega); omega
  · have := mul_bd2 (a := a) (b := -b) (M := 1000000) (N := 1000000) ha ha' (by omega) (by omega) (by omega)
    rw [Int.mul_neg] at this; omega

/-- the cells of a list of whole numbers -/
def ivs (l : List Int) : List Value := l.map (Value.int .i64)
/-- v is a slice of the call's own, from block B on, that reads as l and may grow -/
def OwnI (w : World) (B : Nat) (v : Value) (l : List Int) : Prop := w.ownsRow B 3 1 v l.length (ivs l)
theorem OwnI.alloc {w : World} {B : Nat} {v : Value} {l : List Int} (h : OwnI w B v l) (o : Obj) : (w.alloc o).ownsRow B 3 1 v l.length (ivs l) := World.ownsRow.alloc h o
theorem OwnI.push {w : World} {B : Nat} {v : Value} {l : List Int} {x : Int} (h : w.ownsRow B 3 1 v (l.length + 1) (ivs l ++ [.int .i64 x])) : OwnI w B v (l ++ [x]) := by
  unfold OwnI; rw [List.length_append]; unfold ivs at h ⊢; rw [List.map_append]; exact h
theorem OwnI.is {w : World} {B : Nat} {v : Value} {l : List Int} (h : OwnI w B v l) : IS w B w.heap.size v l := IS.of_owned h
theorem OwnI.lit0 (w : World) (B : Nat) (h : B ≤ w.heap.size) : OwnI (w.alloc (.cells #[] 3)) B (.slice (some ⟨w.heap.size, 0, none⟩) 0 0) [] := World.ownsRow_lit w #[] 0 h (by simp [maxLen]) rfl
theorem OwnI.nil (w : World) (B : Nat) : OwnI w B (.slice none 0 0) [] := ⟨rfl, .inl ⟨rfl, rfl⟩⟩
theorem OwnI.draws {w : World} {B : Nat} {v : Value} {l : List Int} (h : OwnI w B v l) (d : Nat) : OwnI (w.drewN d) B v l := h
/-- behind an append of one number -/
theorem OwnI.below {w w1 w2 : World} {B B0 : Nat} {v : Value} {l : List Int} (hbe : Below B w w1) (hB : B ≤ w1.heap.size) (o : Obj) (hg : (w1.alloc o).grownBy w2 v.ownBlock) (hown : OwnI w1 B0 v l) (hB0 : B ≤ B0) : Below B w w2 :=
  (hbe.alloc hB o).grown hg (by simp; omega) fun k hk => Nat.le_trans hB0 (World.ownsRow.lt hown k hk).1
theorem grown_undrew {w w' : World} {row : Option Nat} (h : w.drew.grownBy w' row) : w.grownBy w' row := ⟨h.os, h.tape, h.output, h.size, h.block⟩
theorem map_step (f : Int → Int) (l : List Int) (k : Nat) (h : k < l.length) : (l.take k).map f ++ [f (l.getD k 0)] = (l.take (k + 1)).map f := by
  rw [List.take_succ_eq_append_getElem h, List.map_append, List.getD_eq_getElem?_getD, List.getElem?_eq_getElem h]; rfl
theorem zip_step (f : Int → Int → Int) (a b : List Int) (k : Nat) (h : k < a.length) (h' : k < b.length) : List.zipWith f (a.take k) (b.take k) ++ [f (a.getD k 0) (b.getD k 0)] = List.zipWith f (a.take (k + 1)) (b.take (k + 1)) := by
  rw [List.take_succ_eq_append_getElem h, List.take_succ_eq_append_getElem h', List.zipWith_append (by simp; omega), List.getD_eq_getElem?_getD, List.getD_eq_getElem?_getD, List.getElem?_eq_getElem h, List.getElem?_eq_getElem h']; rfl

theorem zip_full (f : Int → Int → Int) : ∀ (a b : List Int), List.zipWith f a (b.take a.length) = List.zipWith f a b
  | [], b => by simp
  | x :: a, [] => by simp
  | x :: a, y :: b => by simp [zip_full f a b]

set_option maxHeartbeats 1000000 in
theorem l2Scale_any (l : List Int) (v : Value) (m : Int) (hb : Nat) (w : World) (h : ISr w hb v l) (hhb : hb ≤ w.heap.size) (hl : l.length ≤ 1000000) (hp : ∀ k, k < l.length → -9223372036854775808 ≤ l.getD k 0 * m ∧ l.getD k 0 * m ≤ 9223372036854775807) :
    Calls Try.prog 95 #[v, .int .i64 m] w fun e w' => ∃ v', e = .returned v' ∧ IS w' w.heap.size w'.heap.size v' (l.map (· * m)) ∧ Below w.heap.size w w' := by
  obtain ⟨i0, hi0, hz0, hz1, hz2⟩ := info_parts info_int
  have HI0 := Lib.hid hi0; clear hi0
  have HZ0 := Lib.hid hz0; clear hz0
  have HZ1 := Lib.hid hz1; clear hz1
  have HZ2 := Lib.hid hz2; clear hz2
  obtain ⟨n, hn⟩ : ∃ n, n = l.length := ⟨_, rfl⟩
  obtain ⟨a, cap, rfl, -, -, hcell⟩ := id h
  rw [← hn] at hl ⊢
  have HN := Lib.hid hn; clear hn
  have HC := Lib.hid hcell; clear hcell h
  have HP := Lib.hid hp; clear hp
  go_enter Try.func95, Try.ntmps95
  go_wp2
  go_loopw [5, 6] (fun ov i wr => ∃ (k : Nat) (acc : List Int), k ≤ n ∧ i = .int .i64 k ∧ acc.length ≤ k ∧ Hid (acc = (l.take k).map (· * m)) ∧ Hid (OwnI wr w.heap.size ov acc) ∧ Hid (Below w.heap.size w wr)) (fun _ i _ => n - (intOf i).toNat)
  case atStart => exact ⟨0, [], by omega, rfl, Nat.le_refl _, Lib.hid (by simp), OwnI.lit0 w _ (Nat.le_refl _), below1 _ _⟩
  case round =>
    obtain ⟨k, acc, hk, rfl, hal, hacc, hown, hbe⟩ := hrel
    by_cases hlt : k < n
    · have hkl : k < l.length := by rw [← HN.out]; exact hlt
      obtain ⟨b, off, rfl, hbb, hcc⟩ := HC.out (by intro e; rw [e] at hkl; exact absurd hkl (Nat.not_lt_zero _))
      have hck := (hbe.out.cell (p := ⟨b, off + k, none⟩) (Nat.lt_of_lt_of_le hbb hhb)).trans (hcc k hkl)
      have hpk := HP.out k hkl
      have HE := Lib.hid (map_step (· * m) l k hkl)
      rw [← hacc.out] at HE
      clear hcc hkl
      generalize l.getD k 0 = x at *
      have hbs := hbe.out.size
      go_wp2_with (at_builtin; refine wpList_append_own _ rfl _ _ 22 rfl w.heap.size 3 i0 (.int .i64 0) 1 8 Try.underlying22 HI0.out HZ0.out HZ1.out HZ2.out rfl (by decide) _ _ _ rfl (hown.out.alloc _) ⟨wr.heap.size, 0, none⟩ 1 1 [.int .i64 (x * m)] rfl rfl ?c1 ?c2 ?c3 ?c4 ?c5 ?_)
      case c1 => exact cell_one_new _ _ _
      case c2 => first | rfl | (intro u hu; simp at hu; subst hu; rfl)
      case c3 => unfold maxLen; omega
      case c4 => omega
      case c5 => first | omega | (simp; omega)
      intro v2 w2 hown2 hgrow _
      have HO := Lib.hid (OwnI.push hown2); clear hown2
      have HBE := Lib.hid (OwnI.below hbe.out hbs _ hgrow hown.out (Nat.le_refl _))
      clear hgrow
      go_wp2
      go_roundw
      case rel => exact ⟨k + 1, _, by omega, by go_num, by simp; omega, HE, HO, HBE⟩
      case measure => simp [intOf]; omega
    · obtain rfl : k = n := by omega
      have hfin : acc = l.map (· * m) := by rw [hacc.out, HN.out, List.take_length]
      subst hfin
      go_wp2
      go_ret
      exact ⟨_, rfl, hown.out.is, hbe.out⟩
set_option maxHeartbeats 1000000 in
theorem l2Less_any (l l' : List Int) (v v' : Value) (hb : Nat) (w : World) (h : ISr w hb v l) (h' : ISr w hb v' l') (hhb : hb ≤ w.heap.size) (hl : l.length ≤ 1000000) (hll : l.length ≤ l'.length) (hp : ∀ k, k < l.length → -9223372036854775808 ≤ l.getD k 0 - l'.getD k 0 ∧ l.getD k 0 - l'.getD k 0 ≤ 9223372036854775807) :
    Calls Try.prog 94 #[v, v'] w fun e w' => ∃ u, e = .returned u ∧ IS w' w.heap.size w'.heap.size u (List.zipWith (· - ·) l l') ∧ Below w.heap.size w w' := by
  obtain ⟨i0, hi0, hz0, hz1, hz2⟩ := info_parts info_int
  have HI0 := Lib.hid hi0; clear hi0
  have HZ0 := Lib.hid hz0; clear hz0
  have HZ1 := Lib.hid hz1; clear hz1
  have HZ2 := Lib.hid hz2; clear hz2
  obtain ⟨n, hn⟩ : ∃ n, n = l.length := ⟨_, rfl⟩
  obtain ⟨n', hn'⟩ : ∃ n, n = l'.length := ⟨_, rfl⟩
  obtain ⟨a, cap, rfl, -, -, hcell⟩ := id h
  obtain ⟨a', cap', rfl, -, hm', hcell'⟩ := id h'
  rw [← hn] at hl hll ⊢
  rw [← hn'] at hll ⊢
  have HN := Lib.hid hn; clear hn
  have HN' := Lib.hid hn'; clear hn'
  have HC := Lib.hid hcell; clear hcell h
  have HC' := Lib.hid hcell'; clear hcell' h' hm'
  have HP := Lib.hid hp; clear hp
  go_enter Try.func94, Try.ntmps94
  go_wp2
  go_loopw [5, 6] (fun ov i wr => ∃ (k : Nat) (acc : List Int), k ≤ n ∧ i = .int .i64 k ∧ acc.length ≤ k ∧ Hid (acc = List.zipWith (· - ·) (l.take k) (l'.take k)) ∧ Hid (OwnI wr w.heap.size ov acc) ∧ Hid (Below w.heap.size w wr)) (fun _ i _ => n - (intOf i).toNat)
  case atStart => exact ⟨0, [], by omega, rfl, Nat.le_refl _, Lib.hid (by simp), OwnI.lit0 w _ (Nat.le_refl _), below1 _ _⟩
  case round =>
    obtain ⟨k, acc, hk, rfl, hal, hacc, hown, hbe⟩ := hrel
    by_cases hlt : k < n
    · have hkl : k < l.length := by rw [← HN.out]; exact hlt
      have hkl' : k < l'.length := by rw [← HN'.out]; omega
      obtain ⟨b, off, rfl, hbb, hcc⟩ := HC.out (by intro e; rw [e] at hkl; exact absurd hkl (Nat.not_lt_zero _))
      obtain ⟨b', off', rfl, hbb', hcc'⟩ := HC'.out (by intro e; rw [e] at hkl'; exact absurd hkl' (Nat.not_lt_zero _))
      have hck := (hbe.out.cell (p := ⟨b, off + k, none⟩) (Nat.lt_of_lt_of_le hbb hhb)).trans (hcc k hkl)
      have hck' := (hbe.out.cell (p := ⟨b', off' + k, none⟩) (Nat.lt_of_lt_of_le hbb' hhb)).trans (hcc' k hkl')
      have hpk := HP.out k hkl
      have HE := Lib.hid (zip_step (· - ·) l l' k hkl hkl')
      rw [← hacc.out] at HE
      clear hcc hcc' hkl hkl'
      generalize l.getD k 0 = x at *
      generalize l'.getD k 0 = y at *
      have hbs := hbe.out.size
      have hi1 : (0 : Int) ≤ (k : Int) := by omega
      have hi2 : (k : Int) < (n : Int) := by omega
      have hi3 : (k : Int) < (n' : Int) := by omega
      go_wp2_with fail
      have lg := World.block_lt_of_cell? wr _ hck
      have lg' := World.block_lt_of_cell? wr _ hck'
      have ag : u5.ownBlock ≠ some b := fun e => by have := (World.ownsRow.lt hown.out b e).1; omega
      have ag' : u5.ownBlock ≠ some b' := fun e => by have := (World.ownsRow.lt hown.out b' e).1; omega
      have hw := wr64 (x - y) hpk
      go_region_held3 (fun w' => w'.cell? ⟨b, off + k, none⟩ = some (.int .i64 x) ∧ w'.cell? ⟨b', off' + k, none⟩ = some (.int .i64 y))
        (first
          | go_keep
          | (go_split_ands
             refine ⟨?_, ?_⟩
             · (rw [hgrow.cell_far _ (by simp; omega) (Ne.symm ag)]; assumption)
             · (rw [hgrow.cell_far _ (by simp; omega) (Ne.symm ag')]; assumption)))
        ((refine step_append_lies _ (by rfl) _ _ _ (by rfl) w.heap.size 3 i0 _ 1 8 Try.underlying22 HI0.out HZ0.out HZ1.out HZ2.out rfl (by omega) u5 acc.length (ivs acc) (by rfl) ((hown.out.alloc _).drew)
            ⟨wr.heap.size, 0, none⟩ 1 1 [.int .i64 (x - y)] (by rfl) (by rfl) (World.news_of_block (cs := #[.int .i64 (x - y)]) (t := 3) (fr := (0, 0)) (heap_alloc_new wr _)) (by simp [Value.oneCell'])
            (by omega) (by unfold maxLen; omega) (by omega) (by simp; omega) (wr.heap.size + 1) (by simp) ?_; intro gg cap w1 hown1 hgrow hat hlt))
      have HO := Lib.hid (OwnI.push hown1); clear hown1
      have HBE := Lib.hid (OwnI.below hbe.out hbs _ (grown_undrew hgrow) hown.out (Nat.le_refl _))
      clear hgrow hw hat hlt lg lg' ag ag'
      go_wp2
      go_roundw
      case rel => exact ⟨k + 1, _, by omega, by go_num, by simp; omega, HE, HO, HBE⟩
      case measure => simp [intOf]; omega
    · obtain rfl : k = n := by omega
      have hfin : acc = List.zipWith (· - ·) l l' := by
        rw [hacc.out, HN.out, List.take_length]
        exact zip_full _ _ _
      subst hfin
      go_wp2
      go_ret
      exact ⟨_, rfl, hown.out.is, hbe.out⟩
set_option maxHeartbeats 1000000 in
theorem l2Add_any (l l' : List Int) (v v' : Value) (hb : Nat) (w : World) (h : ISr w hb v l) (h' : ISr w hb v' l') (hhb : hb ≤ w.heap.size) (hl : l.length ≤ 1000000) (hll : l.length ≤ l'.length) (hp : ∀ k, k < l.length → -9223372036854775808 ≤ l.getD k 0 + l'.getD k 0 ∧ l.getD k 0 + l'.getD k 0 ≤ 9223372036854775807) :
    Calls Try.prog 64 #[v, v'] w fun e w' => ∃ u, e = .returned u ∧ IS w' w.heap.size w'.heap.size u (List.zipWith (· + ·) l l') ∧ Below w.heap.size w w' := by
  obtain ⟨i0, hi0, hz0, hz1, hz2⟩ := info_parts info_int
  have HI0 := Lib.hid hi0; clear hi0
  have HZ0 := Lib.hid hz0; clear hz0
  have HZ1 := Lib.hid hz1; clear hz1
  have HZ2 := Lib.hid hz2; clear hz2
  obtain ⟨n, hn⟩ : ∃ n, n = l.length := ⟨_, rfl⟩
  obtain ⟨n', hn'⟩ : ∃ n, n = l'.length := ⟨_, rfl⟩
  obtain ⟨a, cap, rfl, -, -, hcell⟩ := id h
  obtain ⟨a', cap', rfl, -, hm', hcell'⟩ := id h'
  rw [← hn] at hl hll ⊢
  rw [← hn'] at hll ⊢
  have HN := Lib.hid hn; clear hn
  have HN' := Lib.hid hn'; clear hn'
  have HC := Lib.hid hcell; clear hcell h
  have HC' := Lib.hid hcell'; clear hcell' h' hm'
  have HP := Lib.hid hp; clear hp
  go_enter Try.func64, Try.ntmps64
  go_wp2
  go_loopw [5, 6] (fun ov i wr => ∃ (k : Nat) (acc : List Int), k ≤ n ∧ i = .int .i64 k ∧ acc.length ≤ k ∧ Hid (acc = List.zipWith (· + ·) (l.take k) (l'.take k)) ∧ Hid (OwnI wr w.heap.size ov acc) ∧ Hid (Below w.heap.size w wr)) (fun _ i _ => n - (intOf i).toNat)
  case atStart => exact ⟨0, [], by omega, rfl, Nat.le_refl _, Lib.hid (by simp), OwnI.lit0 w _ (Nat.le_refl _), below1 _ _⟩
  case round =>
    obtain ⟨k, acc, hk, rfl, hal, hacc, hown, hbe⟩ := hrel
    by_cases hlt : k < n
    · have hkl : k < l.length := by rw [← HN.out]; exact hlt
      have hkl' : k < l'.length := by rw [← HN'.out]; omega
      obtain ⟨b, off, rfl, hbb, hcc⟩ := HC.out (by intro e; rw [e] at hkl; exact absurd hkl (Nat.not_lt_zero _))
      obtain ⟨b', off', rfl, hbb', hcc'⟩ := HC'.out (by intro e; rw [e] at hkl'; exact absurd hkl' (Nat.not_lt_zero _))
      have hck := (hbe.out.cell (p := ⟨b, off + k, none⟩) (Nat.lt_of_lt_of_le hbb hhb)).trans (hcc k hkl)
      have hck' := (hbe.out.cell (p := ⟨b', off' + k, none⟩) (Nat.lt_of_lt_of_le hbb' hhb)).trans (hcc' k hkl')
      have hpk := HP.out k hkl
      have HE := Lib.hid (zip_step (· + ·) l l' k hkl hkl')
      rw [← hacc.out] at HE
      clear hcc hcc' hkl hkl'
      generalize l.getD k 0 = x at *
      generalize l'.getD k 0 = y at *
      have hbs := hbe.out.size
      have hi1 : (0 : Int) ≤ (k : Int) := by omega
      have hi2 : (k : Int) < (n : Int) := by omega
      have hi3 : (k : Int) < (n' : Int) := by omega
      go_wp2_with fail
      have lg := World.block_lt_of_cell? wr _ hck
      have lg' := World.block_lt_of_cell? wr _ hck'
      have ag : u5.ownBlock ≠ some b := fun e => by have := (World.ownsRow.lt hown.out b e).1; omega
      have ag' : u5.ownBlock ≠ some b' := fun e => by have := (World.ownsRow.lt hown.out b' e).1; omega
      have hw := wr64 (x + y) hpk
      go_region_held3 (fun w' => w'.cell? ⟨b, off + k, none⟩ = some (.int .i64 x) ∧ w'.cell? ⟨b', off' + k, none⟩ = some (.int .i64 y))
        (first
          | go_keep
          | (go_split_ands
             refine ⟨?_, ?_⟩
             · (rw [hgrow.cell_far _ (by simp; omega) (Ne.symm ag)]; assumption)
             · (rw [hgrow.cell_far _ (by simp; omega) (Ne.symm ag')]; assumption)))
        ((refine step_append_lies _ (by rfl) _ _ _ (by rfl) w.heap.size 3 i0 _ 1 8 Try.underlying22 HI0.out HZ0.out HZ1.out HZ2.out rfl (by omega) u5 acc.length (ivs acc) (by rfl) ((hown.out.alloc _).drew)
            ⟨wr.heap.size, 0, none⟩ 1 1 [.int .i64 (x + y)] (by rfl) (by rfl) (World.news_of_block (cs := #[.int .i64 (x + y)]) (t := 3) (fr := (0, 0)) (heap_alloc_new wr _)) (by simp [Value.oneCell'])
            (by omega) (by unfold maxLen; omega) (by omega) (by simp; omega) (wr.heap.size + 1) (by simp) ?_; intro gg cap w1 hown1 hgrow hat hlt))
      have HO := Lib.hid (OwnI.push hown1); clear hown1
      have HBE := Lib.hid (OwnI.below hbe.out hbs _ (grown_undrew hgrow) hown.out (Nat.le_refl _))
      clear hgrow hw hat hlt lg lg' ag ag'
      go_wp2
      go_roundw
      case rel => exact ⟨k + 1, _, by omega, by go_num, by simp; omega, HE, HO, HBE⟩
      case measure => simp [intOf]; omega
    · obtain rfl : k = n := by omega
      have hfin : acc = List.zipWith (· + ·) l l' := by
        rw [hacc.out, HN.out, List.take_length]
        exact zip_full _ _ _
      subst hfin
      go_wp2
      go_ret
      exact ⟨_, rfl, hown.out.is, hbe.out⟩
end Go.Proofs.Ytchkcjpahlimjaa
