/- The statements' own sums, products and comparisons of vectors and cones. -/
import Derived.Test.YtfncikbmdaameaaSame
import Derived.Test.YtfncikbmdaameaaB2
namespace Go.Proofs.Ytfncikbmdaameaa
open Go.RowKit
set_option linter.unusedVariables false
set_option linter.unusedSimpArgs false

set_option maxHeartbeats 1000000 in
theorem scaled_any (l : List Int) (v : Value) (m : Int) (hb : Nat) (w : World) (h : ISr w hb v l) (hhb : hb ≤ w.heap.size) (hl : l.length ≤ 1000000) (hp : ∀ k, k < l.length → -9223372036854775808 ≤ l.getD k 0 * m ∧ l.getD k 0 * m ≤ 9223372036854775807) :
    Calls Try.prog 78 #[v, .int .i64 m] w fun e w' => ∃ v', e = .returned v' ∧ IS w' w.heap.size w'.heap.size v' (l.map (· * m)) ∧ Below w.heap.size w w' := by
  obtain ⟨i0, hi0, hz0, hz1, hz2⟩ := info_parts info_int
  have HI0 := Lib.hid hi0; clear hi0
  have HZ0 := Lib.hid hz0; clear hz0
  have HZ1 := Lib.hid hz1; clear hz1
  have HZ2 := Lib.hid hz2; clear hz2
  obtain ⟨n, hn⟩ : ∃ n, n = l.length := ⟨_, rfl⟩
  obtain ⟨a, cap, rfl, -, -, hcell⟩ := id h
  rw [← hn] at hl ⊢
  have HN := Lib.hid hn; clear hn
  have HC := Lib.hid hcell; clear hcell h
  have HP := Lib.hid hp; clear hp
  go_enter Try.func78, Try.ntmps78
  go_wp2
  go_loopw [5, 6] (fun ov i wr => ∃ (k : Nat) (acc : List Int), k ≤ n ∧ i = .int .i64 k ∧ acc.length ≤ k ∧ Hid (acc = (l.take k).map (· * m)) ∧ Hid (OwnI wr w.heap.size ov acc) ∧ Hid (Below w.heap.size w wr)) (fun _ i _ => n - (intOf i).toNat)
  case atStart => exact ⟨0, [], by omega, rfl, Nat.le_refl _, Lib.hid (by simp), OwnI.lit0 w _ (Nat.le_refl _), below1 _ _⟩
  case round =>
    obtain ⟨k, acc, hk, rfl, hal, hacc, hown, hbe⟩ := hrel
    by_cases hlt : k < n
    · have hkl : k < l.length := by rw [← HN.out]; exact hlt
      obtain ⟨b, off, rfl, hbb, hcc⟩ := HC.out (by intro e; rw [e] at hkl; exact absurd hkl (Nat.not_lt_zero _))
      have hck := (hbe.out.cell (p := ⟨b, off + k, none⟩) (Nat.lt_of_lt_of_le hbb hhb)).trans (hcc k hkl)
      have hpk := HP.out k hkl
      have HE := Lib.hid (map_step (· * m) l k hkl)
      rw [← hacc.out] at HE
      clear hcc hkl
      generalize l.getD k 0 = x at *
      have hbs := hbe.out.size
      go_wp2_with (at_builtin; refine wpList_append_own _ rfl _ _ 46 rfl w.heap.size 3 i0 (.int .i64 0) 1 8 Try.underlying46 HI0.out HZ0.out HZ1.out HZ2.out rfl (by decide) _ _ _ rfl (hown.out.alloc _) ⟨wr.heap.size, 0, none⟩ 1 1 [.int .i64 (x * m)] rfl rfl ?c1 ?c2 ?c3 ?c4 ?c5 ?_)
      case c1 => exact cell_one_new _ _ _
      case c2 => first | rfl | (intro u hu; simp at hu; subst hu; rfl)
      case c3 => unfold maxLen; omega
      case c4 => omega
      case c5 => first | omega | (simp; omega)
      intro v2 w2 hown2 hgrow _
      have HO := Lib.hid (OwnI.push hown2); clear hown2
      have HBE := Lib.hid (OwnI.below hbe.out hbs _ hgrow hown.out (Nat.le_refl _))
      clear hgrow
      go_wp2
      go_roundw
      case rel => exact ⟨k + 1, _, by omega, by go_num, by simp; omega, HE, HO, HBE⟩
      case measure => simp [intOf]; omega
    · obtain rfl : k = n := by omega
      have hfin : acc = l.map (· * m) := by rw [hacc.out, HN.out, List.take_length]
      subst hfin
      go_wp2
      go_ret
      exact ⟨_, rfl, hown.out.is, hbe.out⟩
set_option maxHeartbeats 1000000 in
theorem plus_any (l l' : List Int) (v v' : Value) (hb : Nat) (w : World) (h : ISr w hb v l) (h' : ISr w hb v' l') (hhb : hb ≤ w.heap.size) (hl : l.length ≤ 1000000) (hll : l.length ≤ l'.length) (hp : ∀ k, k < l.length → -9223372036854775808 ≤ l.getD k 0 + l'.getD k 0 ∧ l.getD k 0 + l'.getD k 0 ≤ 9223372036854775807) :
    Calls Try.prog 77 #[v, v'] w fun e w' => ∃ u, e = .returned u ∧ IS w' w.heap.size w'.heap.size u (List.zipWith (· + ·) l l') ∧ Below w.heap.size w w' := by
  obtain ⟨i0, hi0, hz0, hz1, hz2⟩ := info_parts info_int
  have HI0 := Lib.hid hi0; clear hi0
  have HZ0 := Lib.hid hz0; clear hz0
  have HZ1 := Lib.hid hz1; clear hz1
  have HZ2 := Lib.hid hz2; clear hz2
  obtain ⟨n, hn⟩ : ∃ n, n = l.length := ⟨_, rfl⟩
  obtain ⟨n', hn'⟩ : ∃ n, n = l'.length := ⟨_, rfl⟩
  obtain ⟨a, cap, rfl, -, -, hcell⟩ := id h
  obtain ⟨a', cap', rfl, -, hm', hcell'⟩ := id h'
  rw [← hn] at hl hll ⊢
  rw [← hn'] at hll ⊢
  have HN := Lib.hid hn; clear hn
  have HN' := Lib.hid hn'; clear hn'
  have HC := Lib.hid hcell; clear hcell h
  have HC' := Lib.hid hcell'; clear hcell' h' hm'
  have HP := Lib.hid hp; clear hp
  go_enter Try.func77, Try.ntmps77
  go_wp2
  go_loopw [5, 6] (fun ov i wr => ∃ (k : Nat) (acc : List Int), k ≤ n ∧ i = .int .i64 k ∧ acc.length ≤ k ∧ Hid (acc = List.zipWith (· + ·) (l.take k) (l'.take k)) ∧ Hid (OwnI wr w.heap.size ov acc) ∧ Hid (Below w.heap.size w wr)) (fun _ i _ => n - (intOf i).toNat)
  case atStart => exact ⟨0, [], by omega, rfl, Nat.le_refl _, Lib.hid (by simp), OwnI.lit0 w _ (Nat.le_refl _), below1 _ _⟩
  case round =>
    obtain ⟨k, acc, hk, rfl, hal, hacc, hown, hbe⟩ := hrel
    by_cases hlt : k < n
    · have hkl : k < l.length := by rw [← HN.out]; exact hlt
      have hkl' : k < l'.length := by rw [← HN'.out]; omega
      obtain ⟨b, off, rfl, hbb, hcc⟩ := HC.out (by intro e; rw [e] at hkl; exact absurd hkl (Nat.not_lt_zero _))
      obtain ⟨b', off', rfl, hbb', hcc'⟩ := HC'.out (by intro e; rw [e] at hkl'; exact absurd hkl' (Nat.not_lt_zero _))
      have hck := (hbe.out.cell (p := ⟨b, off + k, none⟩) (Nat.lt_of_lt_of_le hbb hhb)).trans (hcc k hkl)
      have hck' := (hbe.out.cell (p := ⟨b', off' + k, none⟩) (Nat.lt_of_lt_of_le hbb' hhb)).trans (hcc' k hkl')
      have hpk := HP.out k hkl
      have HE := Lib.hid (zip_step (· + ·) l l' k hkl hkl')
      rw [← hacc.out] at HE
      clear hcc hcc' hkl hkl'
      generalize l.getD k 0 = x at *
      generalize l'.getD k 0 = y at *
      have hbs := hbe.out.size
      have hi1 : (0 : Int) ≤ (k : Int) := by omega
      have hi2 : (k : Int) < (n : Int) := by omega
      have hi3 : (k : Int) < (n' : Int) := by omega
      go_wp2_with fail
      have lg := World.block_lt_of_cell? wr _ hck
      have lg' := World.block_lt_of_cell? wr _ hck'
      have ag : u5.ownBlock ≠ some b := fun e => by have := (World.ownsRow.lt hown.out b e).1; omega
      have ag' : u5.ownBlock ≠ some b' := fun e => by have := (World.ownsRow.lt hown.out b' e).1; omega
      have hw := wr64 (x + y) hpk
      go_region_held3 (fun w' => w'.cell? ⟨b, off + k, none⟩ = some (.int .i64 x) ∧ w'.cell? ⟨b', off' + k, none⟩ = some (.int .i64 y))
        (first
          | go_keep
          | (go_split_ands
             refine ⟨?_, ?_⟩
             · (rw [hgrow.cell_far _ (by simp; omega) (Ne.symm ag)]; assumption)
             · (rw [hgrow.cell_far _ (by simp; omega) (Ne.symm ag')]; assumption)))
        ((refine step_append_lies _ (by rfl) _ _ _ (by rfl) w.heap.size 3 i0 _ 1 8 Try.underlying46 HI0.out HZ0.out HZ1.out HZ2.out rfl (by omega) u5 acc.length (ivs acc) (by rfl) ((hown.out.alloc _).drew)
            ⟨wr.heap.size, 0, none⟩ 1 1 [.int .i64 (x + y)] (by rfl) (by rfl) (World.news_of_block (cs := #[.int .i64 (x + y)]) (t := 3) (fr := (0, 0)) (heap_alloc_new wr _)) (by simp [Value.oneCell'])
            (by omega) (by unfold maxLen; omega) (by omega) (by simp; omega) (wr.heap.size + 1) (by simp) ?_; intro gg cap w1 hown1 hgrow hat hlt))
      have HO := Lib.hid (OwnI.push hown1); clear hown1
      have HBE := Lib.hid (OwnI.below hbe.out hbs _ (grown_undrew hgrow) hown.out (Nat.le_refl _))
      clear hgrow hw hat hlt lg lg' ag ag'
      go_wp2
      go_roundw
      case rel => exact ⟨k + 1, _, by omega, by go_num, by simp; omega, HE, HO, HBE⟩
      case measure => simp [intOf]; omega
    · obtain rfl : k = n := by omega
      have hfin : acc = List.zipWith (· + ·) l l' := by
        rw [hacc.out, HN.out, List.take_length]
        exact zip_full _ _ _
      subst hfin
      go_wp2
      go_ret
      exact ⟨_, rfl, hown.out.is, hbe.out⟩
set_option maxHeartbeats 1000000 in
theorem lawCross_any (a b : List Int) (va vb : Value) (ha hb : Nat) (w : World) (ia : ISr w ha va a) (ib : ISr w hb vb b) (la : a.length = 2) (lb : b.length = 2)
    (ba : allIn a (-1000000000) 1000000000 = true) (bb : allIn b (-1000000000) 1000000000 = true) :
    Calls Try.prog 76 #[va, vb] w fun e w' => e = .returned (.int .i64 (crossI a b)) ∧ ∃ d, w' = w.drewN d := by
  obtain ⟨b1, o1, c1, rfl, -, x0, x1⟩ := ia.two la
  obtain ⟨b2, o2, c2, rfl, -, y0, y1⟩ := ib.two lb
  have p0 := allIn_at ba 0 (by omega)
  have p1 := allIn_at ba 1 (by omega)
  have q0 := allIn_at bb 0 (by omega)
  have q1 := allIn_at bb 1 (by omega)
  clear ia ib la lb ba bb
  unfold crossI
  generalize a.getD 0 0 = a0 at *
  generalize a.getD 1 0 = a1 at *
  generalize b.getD 0 0 = b0 at *
  generalize b.getD 1 0 = b1' at *
  have m1 := mul_bd4 p0.1 p0.2 q1.1 q1.2
  have m2 := mul_bd4 p1.1 p1.2 q0.1 q0.2
  have e1 := wr64 (a0 * b1') (by omega)
  have e2 := wr64 (a1 * b0) (by omega)
  have e3 := wr64 (a0 * b1' - a1 * b0) (by omega)
  go_enter Try.func76, Try.ntmps76
  go_wp2
  go_quiet (fail)
  go_wp2
  go_ret
  exact ⟨rfl, nq, rfl⟩
set_option maxRecDepth 100000 in
set_option maxHeartbeats 2000000 in
theorem sameCone_any (U V U' V' : List Int) (v1 v2 v1' v2' : Value) (hb : Nat) (w : World) (i1 : ISr w hb v1 U) (i2 : ISr w hb v2 V) (i1' : ISr w hb v1' U') (i2' : ISr w hb v2' V') (hhb : hb ≤ w.heap.size) :
    Calls Try.prog 71 #[.agg #[v1, v2], .agg #[v1', v2']] w fun e w' => e = .returned (.bool (decide (U = U') && decide (V = V'))) ∧ Below w.heap.size w w' := by
  have B0 := below2 w (.cells #[v1, v2] 64) (.cells #[v1', v2'] 64)
  have j1 := i1.keep B0 hhb
  have j2 := i2.keep B0 hhb
  have j1' := i1'.keep B0 hhb
  have j2' := i2'.keep B0 hhb
  have P1 := sameInts_any U U' v1 v1' hb hb _ j1 j1'
  have P2 := fun d => sameInts_any V V' v2 v2' hb hb _ (j2.draws d) (j2'.draws d)
  obtain ⟨a1, c1, rfl, -⟩ := id i1
  obtain ⟨a2, c2, rfl, -⟩ := id i2
  obtain ⟨a3, c3, rfl, -⟩ := id i1'
  obtain ⟨a4, c4, rfl, -⟩ := id i2'
  clear i1 i2 i1' i2' j1 j2 j1' j2'
  generalize decide (U = U') = b1 at *
  generalize decide (V = V') = b2 at *
  go_enter Try.func71, Try.ntmps71
  cases b1
  · go_wp2_with (go_at_call 67; (with_reducible refine P1.mono ?_); rintro e w1 ⟨rfl, d1, rfl⟩)
    go_ret
    exact ⟨rfl, B0.trans (below_draws _ _ _)⟩
  · go_wp2_with (first | (go_at_call 67; (with_reducible refine P1.mono ?_); rintro e w1 ⟨rfl, d1, rfl⟩) | (go_at_call 67; (with_reducible refine (P2 _).mono ?_); rintro e w2 ⟨rfl, d2, rfl⟩))
    go_ret
    exact ⟨by simp, B0.trans (below_draws _ _ _)⟩
end Go.Proofs.Ytfncikbmdaameaa
