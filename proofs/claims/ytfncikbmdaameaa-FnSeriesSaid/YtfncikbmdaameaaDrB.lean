/- The draws of the statement on tetrahedra: l13Bent. -/
import Derived.Test.YtfncikbmdaameaaDrT
import Derived.Test.YtfncikbmdaameaaLast
namespace Go.Proofs.Ytfncikbmdaameaa
open Go.RowKit
set_option linter.unusedVariables false
set_option linter.unusedSimpArgs false

theorem RowsW.less {w : World} {lo hi b off n m : Nat} {V : Nat → Value} {cur : Nat → List Int} (h : RowsW w lo hi b off n V cur) (hm : m ≤ n) : RowsW w lo hi b off m V cur :=
  ⟨by obtain ⟨c, e, f⟩ := h.outer; exact ⟨c, e, fun i hi => f i (by omega)⟩, fun i hi => h.row i (by omega), fun i j hij hj => h.apart i j hij (by omega)⟩
theorem blw5 (w : World) (o1 o2 o3 o4 o5 : Obj) : Below w.heap.size w (((((w.alloc o1).alloc o2).alloc o3).alloc o4).alloc o5) := ((((below1 w o1).alloc (by simp) o2).alloc (by simp; omega) o3).alloc (by simp; omega) o4).alloc (by simp; omega) o5
theorem IS.lit3H (w : World) (B g : Nat) (hg : w.heap.size = g) (h : B ≤ g) (x y z : Int) : IS (w.alloc (.cells #[.int .i64 x, .int .i64 y, .int .i64 z] 3)) g (g + 1) (.slice (some ⟨g, 0, none⟩) 3 3) [x, y, z] := by
  subst hg; exact IS.lit3 w _ (Nat.le_refl _) x y z
/-- four rows, as they are laid -/
theorem lit43 (w : World) (B : Nat) (hB : B ≤ w.heap.size) {a b c d e f g h i j k l : Int} : ISS (((((w.alloc (.cells #[.int .i64 a, .int .i64 b, .int .i64 c] 3)).alloc (.cells #[.int .i64 d, .int .i64 e, .int .i64 f] 3)).alloc (.cells #[.int .i64 g, .int .i64 h, .int .i64 i] 3)).alloc (.cells #[.int .i64 j, .int .i64 k, .int .i64 l] 3)).alloc
    (.cells #[.slice (some ⟨w.heap.size, 0, none⟩) 3 3, .slice (some ⟨w.heap.size + 1, 0, none⟩) 3 3, .slice (some ⟨w.heap.size + 1 + 1, 0, none⟩) 3 3, .slice (some ⟨w.heap.size + 1 + 1 + 1, 0, none⟩) 3 3] 46)) B (w.heap.size + 1 + 1 + 1 + 1 + 1) (.slice (some ⟨w.heap.size + 1 + 1 + 1 + 1, 0, none⟩) 4 4) [[a, b, c], [d, e, f], [g, h, i], [j, k, l]] := by
  have k0 := IS.lit3H w w.heap.size _ rfl (Nat.le_refl _) a b c
  have k1 := IS.lit3H (w.alloc (.cells #[.int .i64 a, .int .i64 b, .int .i64 c] 3)) w.heap.size (w.heap.size + 1) (by simp) (by omega) d e f
  have k2 := IS.lit3H ((w.alloc (.cells #[.int .i64 a, .int .i64 b, .int .i64 c] 3)).alloc (.cells #[.int .i64 d, .int .i64 e, .int .i64 f] 3)) w.heap.size (w.heap.size + 1 + 1) (by simp) (by omega) g h i
  have k3 := IS.lit3H (((w.alloc (.cells #[.int .i64 a, .int .i64 b, .int .i64 c] 3)).alloc (.cells #[.int .i64 d, .int .i64 e, .int .i64 f] 3)).alloc (.cells #[.int .i64 g, .int .i64 h, .int .i64 i] 3)) w.heap.size (w.heap.size + 1 + 1 + 1) (by simp) (by omega) j k l
  have hb : ∀ q : Nat, blkOf (.slice (some ⟨q, 0, none⟩) 3 3) = some q := fun q => blkOf_some _ _ _ _ (by omega)
  refine ⟨some ⟨w.heap.size + 1 + 1 + 1 + 1, 0, none⟩, 4, rfl, by simp, by simp [maxLen], fun _ => ⟨w.heap.size + 1 + 1 + 1 + 1, 0, fun q => .slice (some ⟨w.heap.size + q, 0, none⟩) 3 3, rfl, by omega, by omega, ?_, fun q hq => ?_, fun q r hqr hr => ?_⟩⟩
  · refine ⟨_, by have := heap_alloc_new ((((w.alloc (.cells #[.int .i64 a, .int .i64 b, .int .i64 c] 3)).alloc (.cells #[.int .i64 d, .int .i64 e, .int .i64 f] 3)).alloc (.cells #[.int .i64 g, .int .i64 h, .int .i64 i] 3)).alloc (.cells #[.int .i64 j, .int .i64 k, .int .i64 l] 3)) (.cells #[.slice (some ⟨w.heap.size, 0, none⟩) 3 3, .slice (some ⟨w.heap.size + 1, 0, none⟩) 3 3, .slice (some ⟨w.heap.size + 1 + 1, 0, none⟩) 3 3, .slice (some ⟨w.heap.size + 1 + 1 + 1, 0, none⟩) 3 3] 46); simpa using this, fun q hq => ?_⟩
    simp at hq
    rcases (show q = 0 ∨ q = 1 ∨ q = 2 ∨ q = 3 by omega) with rfl | rfl | rfl | rfl <;> rfl
  · simp at hq
    rcases (show q = 0 ∨ q = 1 ∨ q = 2 ∨ q = 3 by omega) with rfl | rfl | rfl | rfl
    · exact ((((k0.keep (below1 _ _) (by simp)).keep (below1 _ _) (by simp)).keep (below1 _ _) (by simp)).keep (below1 _ _) (by simp)).mono hB (by omega)
    · exact (((k1.keep (below1 _ _) (by simp)).keep (below1 _ _) (by simp)).keep (below1 _ _) (by simp)).mono (by omega) (by omega)
    · exact ((k2.keep (below1 _ _) (by simp)).keep (below1 _ _) (by simp)).mono (by omega) (by omega)
    · exact (k3.keep (below1 _ _) (by simp)).mono (by omega) (by omega)
  · right
    rw [hb, hb]
    intro e; injection e with e; omega
set_option maxRecDepth 100000 in
set_option maxHeartbeats 4000000 in
theorem l13Bent_any (p hb : Nat) (w : World) (h : Cur w p hb) :
    Calls Try.prog 154 #[curP p] w fun e w' => ∃ u ls, e = .returned u ∧ ISS w' w.heap.size w'.heap.size u ls ∧ ls.length ≤ 4 ∧ Cur w' p hb ∧ w.grownBy w' (some p) := by
  have hp := h.lt
  have BB := l13Draw_any p hb w h
  clear h
  unfold curP at *
  go_enter Try.func154, Try.ntmps154
  go_wp2_with fail
  refine BB.mono ?_
  rintro e w1 ⟨u, ls, rfl, ho, hl, hr, hc, hg⟩
  have HO := Lib.hid ho
  have HR := Lib.hid hr
  have HC := Lib.hid hc
  have HG := Lib.hid hg
  have HL := Lib.hid hl
  clear BB
  have BB := l1Below_any p hb 12 w1 hc (by omega) (by omega)
  unfold curP at BB
  clear ho hr hc hg hl
  go_wp2_with fail
  refine BB.mono ?_
  rintro e w2 ⟨x, rfl, hx0, hx1, hc, hg⟩
  have HO2 := Lib.hid (HO.out.cur hg hp)
  have HC2 := Lib.hid hc
  have HG2 := Lib.hid (grown_trans HG.out hg)
  clear hc hg BB HC HG HO
  have hsz := HG2.out.size
  obtain ⟨b, off, cap, V, rfl, hlo, hbh, hnc, hcm, hrw⟩ := RowsW.of HO2.out.is (by rw [HL.out]; omega)
  rw [HL.out] at hrw hnc ⊢
  have HRW := Lib.hid hrw
  by_cases e0 : x = 0
  · subst e0
    have t0 : ((0 : Int) == 0) = true := rfl
    have hl0 : (ls.getD 0 []).length = 3 := HR.out 0 (by rw [HL.out]; omega)
    obtain ⟨br, or', cr, hV0, hblo, hbhi, hbne, hbk⟩ := HRW.out.at (k := 0) (by omega) (by omega)
    rw [hl0] at hV0
    have x0 : w2.drew.cell? ⟨b, off, none⟩ = some (.slice (some ⟨br, or', none⟩) 3 cr) := by
      have := HRW.out.outer.cell (i := 0) (by omega)
      rw [hV0] at this; exact this
    have HV0 := Lib.hid hV0
    have PK := fun (k : Nat) => pick_lit p hb [-1, 5, 4] w2.drew (show Cur w2.drew p hb from HC2.out) (by simp) (by simp)
    unfold curP at PK
    clear hV0 hbk hrw
    go_wp2_with fail
    refine wp_region_last (S := fun (w' : World) => w'.cell? ⟨b, off, none⟩ = some (.slice (some ⟨br, or', none⟩) 3 cr)) 7 _ (by kernel_rfl) rfl rfl (by kernel_rfl) ?_
    simp only [List.take_succ_cons, List.take_zero]
    have hHeld : (fun (w' : World) => w'.cell? ⟨b, off, none⟩ = some (.slice (some ⟨br, or', none⟩) 3 cr)) _ := x0
    refine wpAnyH_take (i := 0) (oi := _) (v := ?_) rfl (by kernel_rfl) (by kernel_rfl) (by kernel_rfl) (fun _ _ _ h => h) (Or.inl ⟨by rfl, (by (intro w hSw); (try dsimp only at hSw); go_simp; (try with_reducible rfl))⟩) (by assumption) ?_
    try simp only [Act.put, List.setIfInBounds_toArray, List.set_cons_zero, List.set_cons_succ]
    refine wpAnyH_take (i := 1) (oi := _) (v := ?_) rfl (by kernel_rfl) (by kernel_rfl) (by kernel_rfl) (fun _ _ _ h => h) (Or.inl ⟨by rfl, (by (intro w hSw); (try dsimp only at hSw); go_simp; (try with_reducible rfl))⟩) (by assumption) ?_
    try simp only [Act.put, List.setIfInBounds_toArray, List.set_cons_zero, List.set_cons_succ]
    refine wpAnyH_take (i := 2) (oi := _) (v := ?_) rfl (by kernel_rfl) (by kernel_rfl) (by kernel_rfl) (fun _ _ _ h => h) (Or.inl ⟨by rfl, (by (intro w hSw); (try dsimp only at hSw); go_simp; (try with_reducible rfl))⟩) (by assumption) ?_
    try simp only [Act.put, List.setIfInBounds_toArray, List.set_cons_zero, List.set_cons_succ]
    refine wpAnyH_take (i := 3) (oi := _) (v := ?_) rfl (by kernel_rfl) (by kernel_rfl) (by kernel_rfl) (fun _ _ _ h => h) (Or.inl ⟨by rfl, (by (intro w hSw); (try dsimp only at hSw); go_simp; (try with_reducible rfl))⟩) (by assumption) ?_
    try simp only [Act.put, List.setIfInBounds_toArray, List.set_cons_zero, List.set_cons_succ]
    refine wpAnyH_ready (rs := [4]) (by kernel_rfl) (by simp) ?_
    refine AllReadyH.cons (o := _) rfl (fun K hK => ?_) AllReadyH.nil
    go_simp
    skip
    refine hK.out _ _ (by exact ((below1 w2 _).cell (p := ⟨b, off, none⟩) hbh).trans x0) (fun hHeld => ?_)
    clear hK K
    try simp only [Act.put, List.setIfInBounds_toArray, List.set_cons_zero, List.set_cons_succ]
    refine wpAnyH_ready (rs := [5]) (by kernel_rfl) (by simp) ?_
    refine AllReadyH.cons (o := _) rfl (fun K hK => ?_) AllReadyH.nil
    go_simp
    refine (PK 0).mono ?_
    rintro e w4 ⟨y, rfl, hy, hc4, hg4⟩
    refine hK.out _ _ (by exact (World.cell?_of_block (a := ⟨b, off, none⟩) (hg4.block b hbh (by intro e; injection e with e; omega))).trans x0) (fun hHeld => ?_)
    clear hK K
    try simp only [Act.put, List.setIfInBounds_toArray, List.set_cons_zero, List.set_cons_succ]
    refine wpAnyH_take (i := 6) (oi := _) (v := ?_) rfl (by kernel_rfl) (by kernel_rfl) (by kernel_rfl) (fun _ _ _ h => h) (Or.inl ⟨by rfl, (by (intro w hSw); (try dsimp only at hSw); go_simp; (try with_reducible rfl))⟩) (by assumption) ?_
    try simp only [Act.put, List.setIfInBounds_toArray, List.set_cons_zero, List.set_cons_succ]
    refine wpAnyH_done (by kernel_rfl) ?_ _
    have hO4 := HO2.out.cur (grown_trans (grown_draws (World.grownBy.refl w2 (some p)) 1) hg4) hp
    obtain ⟨b', off', cap', V', e', hlo', hbh', -, -, hrw'⟩ := RowsW.of hO4.is (by rw [HL.out]; omega)
    injection e' with e1 e2 e3
    injection e1 with e1
    injection e1 with e1 e4 e5
    subst e1 e4 e3
    have hv0 : V' 0 = .slice (some ⟨br, or', none⟩) 3 cr := by
      have := hrw'.outer.cell (i := 0) (by rw [HL.out]; omega)
      rw [Nat.add_zero, hHeld] at this
      injection this with this; exact this.symm
    obtain ⟨R, O, c0, f0⟩ := hrw'.set (k := 0) (c := 0) (by rw [HL.out]; omega) hv0 (by rw [hl0]; omega) y
    rw [Nat.add_zero] at R c0 f0
    have B5 := Lib.hid ((Below.refl w.heap.size w4).setCell (p := ⟨br, or', none⟩) hblo (.int .i64 y))
    have HR := Lib.hid R
    have HC4 := Lib.hid hc4
    have HG4 := Lib.hid (grown_trans HG2.out (grown_trans (grown_draws (World.grownBy.refl w2 (some p)) 1) hg4))
    clear hO4 hrw' R O x0 hHeld PK HRW HO2 hc4 hg4
    rw [HL.out] at HR
    unfold lastQ
    go_simp
    go_wp2
    go_ret
    exact ⟨_, rfl, _, (HR.out.iss hnc hcm hlo hbh').mono (Nat.le_refl _) (by rw [World.size_setCell]; exact Nat.le_refl _), by rw [List.length_map, List.length_range]; exact Nat.le_refl _, HC4.out.below B5.out hp, grown_then HG4.out B5.out⟩
  · have t0 : (x == 0) = false := by rw [beq_eq_false_iff_ne]; exact e0
    by_cases e1 : x = 1
    · subst e1
      have t1 : ((1 : Int) == 1) = true := rfl
      go_wp2
      go_ret
      exact ⟨_, _, rfl, (HRW.out.less (show 3 ≤ 4 by omega)).iss (by omega) hcm hlo hbh, by simp, HC2.out, HG2.out⟩
    · have t1 : (x == 1) = false := by rw [beq_eq_false_iff_ne]; exact e1
      by_cases e2 : x = 2
      · subst e2
        have t2 : ((2 : Int) == 2) = true := rfl
        go_wp2
        go_ret
        exact ⟨_, _, rfl, (lit43 w2 w.heap.size hsz).mono (Nat.le_refl _) (by simp), by decide, HC2.out.below (blw5 w2 _ _ _ _ _) (by omega), grown_then HG2.out ((blw5 w2 _ _ _ _ _).mono hsz)⟩
      · have t2 : (x == 2) = false := by rw [beq_eq_false_iff_ne]; exact e2
        have HI := Lib.hid HO2.out.is
        rw [HL.out] at HI
        go_wp2
        go_ret
        exact ⟨_, ls, rfl, HI.out, by rw [HL.out]; omega, HC2.out, HG2.out⟩
end Go.Proofs.Ytfncikbmdaameaa
