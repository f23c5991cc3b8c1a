/- Vectors divided by their common divisor: the walks. -/
import Derived.Test.YtehhoplenloocaaGreatB2
import Derived.Test.YtehhoplenloocaaGreatB1
import Derived.Deep.AppendLies
import Derived.Deep.RegionHeld3
namespace Go.Proofs.YtehhoplenloocaaGreat
open Go.RowKit
set_option linter.unusedVariables false
set_option linter.unusedSimpArgs false

def primQ (l : List Int) : List Int := l.map (·.tdiv (max (gcdL l) 1))
theorem tdiv_bdM {a q M : Int} (h : -M ≤ a ∧ a ≤ M) (hq : 1 ≤ q) : -M ≤ a.tdiv q ∧ a.tdiv q ≤ M := by
  have h1 := Int.natAbs_tdiv a q
  have h2 := Nat.div_le_self a.natAbs q.natAbs
  have h3 : (Int.tdiv a q).natAbs ≤ a.natAbs := by rw [h1]; exact h2
  omega
theorem primQ_len (l : List Int) : (primQ l).length = l.length := by simp [primQ]
theorem primQ_bd {l : List Int} {M : Int} (h : ∀ k, k < l.length → -M ≤ l.getD k 0 ∧ l.getD k 0 ≤ M) : ∀ k, k < (primQ l).length → -M ≤ (primQ l).getD k 0 ∧ (primQ l).getD k 0 ≤ M := by
  intro k hk
  rw [primQ_len] at hk
  have := h k hk
  unfold primQ
  rw [List.getD_eq_getElem?_getD, List.getElem?_map, List.getElem?_eq_getElem hk]
  rw [List.getD_eq_getElem?_getD, List.getElem?_eq_getElem hk] at this
  exact tdiv_bdM this (by omega)

theorem own2 {w : World} {B : Nat} {v : Value} {x y : Int} (h : OwnI w B v [x, y]) : ∃ g cap, v = .slice (some ⟨g, 0, none⟩) 2 cap ∧ B ≤ g ∧ 2 ≤ cap ∧ cap ≤ maxLen ∧ BK w g 0 2 3 (fun i => .int .i64 (([x, y] : List Int).getD i 0)) := by
  rcases h.2 with ⟨-, h0⟩ | ⟨g, cap, cur, rfl, hg, -, hn, hc, -⟩
  · cases h0
  obtain ⟨a, c, hv, -, -, h3⟩ := h.is
  obtain ⟨b, off, rfl, -, -, hk⟩ := h3 (by simp)
  injection hv with e1 e2 e3
  injection e1 with e1
  injection e1 with e1 e4
  subst e1 e4
  exact ⟨g, cap, rfl, hg, hn, hc, hk⟩

set_option maxHeartbeats 1000000 in
theorem implGcdOf_any (l : List Int) (v : Value) (hb : Nat) (w : World) (h : ISr w hb v l) (hv : vecB l = true) :
    Calls Tryz.prog 108 #[v] w fun e w' => e = .returned (.int .i64 (gcdL l)) ∧ Below w.heap.size w w' := by
  have IV := implIsVector_any l v hb w h
  rw [hv] at IV
  have GC := fun d => gcdAll_any l v hb (w.drewN d) (h.draws d) 1000 (by omega) (allIn_at (by unfold vecB at hv; simp only [Bool.and_eq_true] at hv; exact hv.2))
  obtain ⟨a, cap, rfl, -⟩ := id h
  clear h hv
  go_enter Tryz.func108, Tryz.ntmps108
  go_wp2_with (first | (go_at_call 122; (with_reducible refine IV.mono ?_); rintro e w1 ⟨rfl, d1, rfl⟩) | (go_at_call 123; (with_reducible refine (GC _).mono ?_); rintro e w2 ⟨rfl, d2, rfl⟩))
  go_ret
  exact ⟨rfl, below_draws _ _ _⟩
set_option maxRecDepth 100000 in
set_option maxHeartbeats 4000000 in
theorem implPrim_any (x y : Int) (v : Value) (hb : Nat) (w : World) (h : ISr w hb v [x, y]) (hhb : hb ≤ w.heap.size) (hx : -1000 ≤ x ∧ x ≤ 1000) (hy : -1000 ≤ y ∧ y ≤ 1000) (hg : 1 ≤ gcdL [x, y]) :
    Calls Tryz.prog 77 #[v] w fun e w' => ∃ u, e = .returned (.tuple #[u, .bool true]) ∧ IS w' w.heap.size w'.heap.size u (primQ [x, y]) ∧ Below w.heap.size w w' := by
  have GO := implGcdOf_any [x, y] v hb w h (by simp [vecB, allIn, inB]; omega)
  have CP := fun W (HB : Below w.heap.size w W) => copyInts_any [x, y] v hb W (h.keep HB hhb) (by simp)
  have HQ := Lib.hid (show primQ [x, y] = [x.tdiv (gcdL [x, y]), y.tdiv (gcdL [x, y])] by unfold primQ; rw [Int.max_eq_left hg]; rfl)
  obtain ⟨a, cap, rfl, -⟩ := id h
  rw [show ([x, y] : List Int).length = 2 from rfl] at GO CP ⊢
  clear h
  generalize gcdL [x, y] = g at *
  have b1 := tdiv_bdM (q := g) hx hg
  have b2 := tdiv_bdM (q := g) hy hg
  have f1 := wr64 (x.tdiv g) (by omega)
  have f2 := wr64 (y.tdiv g) (by omega)
  have g0 : ¬ g = 0 := by omega
  have g1 : ¬ g ≤ 0 := by omega
  have g2 : decide (g ≤ 0) = false := by simpa using g1
  go_enter Tryz.func77, Tryz.ntmps77
  go_wp2_with fail
  with_reducible refine GO.mono ?_
  rintro e w1 ⟨rfl, c1⟩
  go_wp2_with fail
  with_reducible refine (CP w1 c1).mono ?_
  rintro e w2 ⟨u, rfl, ku, c2⟩
  have C2 := Lib.hid (below_then c1 c1.size c2)
  have HS := Lib.hid c1.size
  obtain ⟨gg, cc, rfl, hlo, hcc, hcm, hbk⟩ := own2 ku
  have q0 := hbk.cell (i := 0) (by omega)
  have q1 := hbk.cell (i := 1) (by omega)
  simp only [Nat.zero_add, List.getD_cons_zero, List.getD_cons_succ] at q0 q1
  have z0 := hbk.frozen 0
  have z1 := hbk.frozen 1
  have HK := Lib.hid hbk
  have HLT := Lib.hid hbk.lt
  have HLO := Lib.hid hlo
  clear ku c1 c2 CP GO hbk
  go_wp2
  refine wp_loop_rounds 3 ?_
  rw [rounds_succ]
  go_wp2
  rw [rounds_succ]
  go_wp2
  rw [rounds_succ]
  go_wp2
  go_ret2
  have k1 := HK.out.set (k := 0) (by omega) (.int .i64 (x.tdiv g))
  have k2 := k1.set (k := 1) (by omega) (.int .i64 (y.tdiv g))
  have hh := HS.out
  have hl := HLO.out
  have ht := HLT.out
  refine ⟨_, rfl, ?_, ?_⟩
  · rw [HQ.out]
    refine IS.of_BK (l := [x.tdiv g, y.tdiv g]) (k2.congr fun i hi => ?_) hcc hcm (by omega) (by simp; omega)
    match i, hi with
    | 0, _ => rfl
    | 1, _ => rfl
  · exact (C2.out.setCell (by show w.heap.size ≤ gg; omega) _).setCell (by show w.heap.size ≤ gg; omega) _
set_option maxRecDepth 100000 in
set_option maxHeartbeats 4000000 in
theorem l2Prime_any (l : List Int) (v : Value) (hb : Nat) (w : World) (h : ISr w hb v l) (hhb : hb ≤ w.heap.size) (hl : l.length ≤ 1000) (hbd : ∀ k, k < l.length → -1000 ≤ l.getD k 0 ∧ l.getD k 0 ≤ 1000) :
    Calls Tryz.prog 84 #[v] w fun e w' => ∃ u, e = .returned u ∧ IS w' w.heap.size w'.heap.size u (primQ l) ∧ Below w.heap.size w w' := by
  obtain ⟨i0, hi0, hz0, hz1, hz2⟩ := info_parts info_int
  have HI0 := Lib.hid hi0; clear hi0
  have HZ0 := Lib.hid hz0; clear hz0
  have HZ1 := Lib.hid hz1; clear hz1
  have HZ2 := Lib.hid hz2; clear hz2
  have GO := l2All_any l v hb w h 1000 (by omega) hbd
  have LM := fun W => l1Max_any (gcdL l) 1 W
  have HQ := Lib.hid (show primQ l = l.map (·.tdiv (max (gcdL l) 1)) from rfl)
  have q1 : 1 ≤ max (gcdL l) 1 := by omega
  generalize max (gcdL l) 1 = q at *
  generalize gcdL l = g at *
  obtain ⟨n, hn⟩ : ∃ n, n = l.length := ⟨_, rfl⟩
  obtain ⟨a, cap, rfl, -, -, hcell⟩ := id h
  rw [← hn] at hl GO ⊢
  have HN := Lib.hid hn
  have HC := Lib.hid hcell
  have HBD := Lib.hid hbd
  clear h hn hcell hbd
  go_enter Tryz.func84, Tryz.ntmps84
  go_wp2_with (go_at_call 98; (with_reducible refine GO.mono ?_); rintro e w1 ⟨rfl, rfl⟩)
  clear GO
  go_loopw [4, 5] (fun ov i wr => ∃ (k : Nat) (acc : List Int), k ≤ n ∧ i = .int .i64 k ∧ acc.length ≤ k ∧ Hid (acc = (l.take k).map (·.tdiv q)) ∧ Hid (OwnI wr w.heap.size ov acc) ∧ Hid (Below w.heap.size w wr)) (fun _ i _ => n - (intOf i).toNat)
  case atStart => exact ⟨0, [], by omega, rfl, Nat.le_refl _, Lib.hid (by simp), OwnI.lit0 w _ (Nat.le_refl _), below1 _ _⟩
  case round =>
    obtain ⟨k, acc, hk, rfl, hal, hacc, hown, hbe⟩ := hrel
    by_cases hlt : k < n
    · have hkl : k < l.length := by rw [← HN.out]; exact hlt
      obtain ⟨b, off, rfl, hbb, hcc⟩ := HC.out (by intro e; rw [e] at hkl; exact absurd hkl (Nat.not_lt_zero _))
      have hck := (hbe.out.cell (p := ⟨b, off + k, none⟩) (Nat.lt_of_lt_of_le hbb hhb)).trans (hcc k hkl)
      have hpk := HBD.out k hkl
      have HE := Lib.hid (map_step (·.tdiv q) l k hkl)
      rw [← hacc.out] at HE
      clear hcc hkl
      generalize l.getD k 0 = x at *
      have hbs := hbe.out.size
      have hi1 : (0 : Int) ≤ (k : Int) := by omega
      have hi2 : (k : Int) < (n : Int) := by omega
      have hb2 := tdiv_bdM (q := q) hpk q1
      have g0 : ¬ q = 0 := by omega
      have g0' : (q == 0) = false := by rw [beq_eq_false_iff_ne]; omega
      go_wp2_with fail
      have lg := World.block_lt_of_cell? wr _ hck
      have ag : u4.ownBlock ≠ some b := fun e => by have := (World.ownsRow.lt hown.out b e).1; omega
      have hw := wr64 (x.tdiv q) (by omega)
      go_region_held3 (fun w' => w'.cell? ⟨b, off + k, none⟩ = some (.int .i64 x))
        (first
          | go_keep
          | (rw [hgrow.cell_far _ (by simp; omega) (Ne.symm ag)]; assumption))
        (first
          | (go_at_call 110; (with_reducible refine (LM _).mono ?_); rintro e w9 ⟨rfl, rfl⟩)
          | (refine step_append_lies _ (by rfl) _ _ _ (by rfl) w.heap.size 3 i0 _ 1 8 Tryz.underlying25 HI0.out HZ0.out HZ1.out HZ2.out rfl (by omega) u4 acc.length (ivs acc) (by rfl) ((hown.out.alloc _).drew) ⟨wr.heap.size, 0, none⟩ 1 1 [.int .i64 (x.tdiv q)] (by rfl) (by rfl) (World.news_of_block (cs := #[.int .i64 (x.tdiv q)]) (t := 3) (fr := (0, 0)) (heap_alloc_new wr _)) (by simp [Value.oneCell']) (by omega) (by unfold maxLen; omega) (by omega) (by simp; omega) (wr.heap.size + 1) (by simp) ?_; intro gg cap w1 hown1 hgrow hat hlt))
      have HO := Lib.hid (OwnI.push hown1); clear hown1
      have HBE := Lib.hid (OwnI.below hbe.out hbs _ (grown_undrew hgrow) hown.out (Nat.le_refl _))
      clear hgrow hw hat hlt lg ag
      go_wp2
      go_roundw
      case rel => exact ⟨k + 1, _, by omega, by go_num, by simp; omega, HE, HO, HBE⟩
      case measure => simp [intOf]; omega
    · obtain rfl : k = n := by omega
      have hfin : acc = primQ l := by rw [HQ.out, hacc.out, HN.out, List.take_length]
      subst hfin
      go_wp2
      go_ret
      exact ⟨_, rfl, hown.out.is, hbe.out⟩
end Go.Proofs.YtehhoplenloocaaGreat
