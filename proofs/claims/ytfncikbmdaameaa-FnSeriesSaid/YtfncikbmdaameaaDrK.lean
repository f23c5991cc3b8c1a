/- Cones that are drawn. -/
import Derived.Test.YtfncikbmdaameaaDrE
import Derived.Test.YtfncikbmdaameaaPrm
import Derived.Test.YtfncikbmdaameaaB2
import Derived.Deep.DeepCutAuto
import Derived.Deep.RegionHeld3
namespace Go.Proofs.Ytfncikbmdaameaa
open Go.RowKit
set_option linter.unusedVariables false
set_option linter.unusedSimpArgs false

/-- block n is a cone's box -/
def CB (w : World) (n : Nat) (x y : Value) : Prop := w.heap[n]? = some (.cells #[x, y] 64 (0, 0))
theorem CB.lt {w : World} {n : Nat} {x y : Value} (h : CB w n x y) : n < w.heap.size := by
  rcases Nat.lt_or_ge n w.heap.size with h' | h'
  · exact h'
  · unfold CB at h; rw [Array.getElem?_eq_none h'] at h; cases h
theorem CB.c0 {w : World} {n : Nat} {x y : Value} (h : CB w n x y) : w.cell? ⟨n, 0, none⟩ = some x := by unfold CB at h; simp [World.cell?, h]
theorem CB.c1 {w : World} {n : Nat} {x y : Value} (h : CB w n x y) : w.cell? ⟨n, 1, none⟩ = some y := by unfold CB at h; simp [World.cell?, h]
theorem CB.fr {w : World} {n : Nat} {x y : Value} (h : CB w n x y) (i : Nat) : w.frozen? ⟨n, i, none⟩ = false := blk_frozen h i
theorem CB.cur {w w' : World} {n p : Nat} {x y : Value} (h : CB w n x y) (hg : w.grownBy w' (some p)) (hp : n ≠ p) : CB w' n x y :=
  (hg.block n h.lt (by intro e; injection e with e; exact hp e)).trans h
theorem CB.below {w w' : World} {n : Nat} {x y : Value} (h : CB w n x y) (hb : Below w.heap.size w w') : CB w' n x y := (hb.block n h.lt).trans h
theorem CB.new (w : World) (x y : Value) : CB (w.alloc (.cells #[x, y] 64)) w.heap.size x y := heap_alloc_new w _
theorem CB.set0 {w : World} {n : Nat} {x y : Value} (h : CB w n x y) (u : Value) : CB (w.setCell ⟨n, 0, none⟩ u) n u y := by
  unfold CB at *; simp [World.setCell, Array.getElem?_modify, h]
theorem CB.set1 {w : World} {n : Nat} {x y : Value} (h : CB w n x y) (u : Value) : CB (w.setCell ⟨n, 1, none⟩ u) n x u := by
  unfold CB at *; simp [World.setCell, Array.getElem?_modify, h]
theorem CB.other {w : World} {n m i : Nat} {x y : Value} (h : CB w n x y) (hm : m ≠ n) (u : Value) : CB (w.setCell ⟨m, i, none⟩ u) n x y := by
  unfold CB at *
  rw [Below.heap_setCell _ _ _ _ (fun e => hm e.symm)]; exact h
theorem below_set2 (w : World) (n : Nat) (x y : Value) : Below n w ((w.setCell ⟨n, 0, none⟩ x).setCell ⟨n, 1, none⟩ y) :=
  ((Below.refl n w).setCell (p := ⟨n, 0, none⟩) (Nat.le_refl _) x).setCell (p := ⟨n, 1, none⟩) (Nat.le_refl _) y
theorem Cur.setN {w : World} {p hb n i : Nat} (h : Cur w p hb) (hp : p < n) (x : Value) : Cur (w.setCell ⟨n, i, none⟩ x) p hb :=
  h.below (B := n) ((Below.refl n w).setCell (Nat.le_refl _) x) hp
theorem ISu.setN {w : World} {lo n i : Nat} {v : Value} {l : List Int} (h : ISu w lo v l) (hn : n < lo) (x : Value) : ISu (w.setCell ⟨n, i, none⟩ x) lo v l :=
  (IS.of_blocks h fun b h1 h2 _ => Below.heap_setCell _ _ _ _ (by intro e; have e : b = n := e; omega)).mono (Nat.le_refl _) (by simp)
theorem ISu.form {w : World} {lo : Nat} {v : Value} {l : List Int} (h : ISu w lo v l) : ∃ a cap, v = .slice a l.length cap := by
  obtain ⟨a, cap, e, -⟩ := h; exact ⟨a, cap, e⟩
theorem ISu.read {w : World} {lo : Nat} {v : Value} {l : List Int} (h : ISu w lo v l) : ISr w w.heap.size v l := IS.read h
theorem ISu.lo {w : World} {lo lo' : Nat} {v : Value} {l : List Int} (h : ISu w lo v l) (hl : lo' ≤ lo) : ISu w lo' v l := IS.mono h hl (Nat.le_refl _)
theorem ISu.nil (w : World) (lo : Nat) : ISu w lo (.slice none 0 0) [] := IS.nil _ _ _
theorem primQ_in9 {x y : Int} (hx : -6 ≤ x ∧ x ≤ 6) (hy : -6 ≤ y ∧ y ≤ 6) : allIn (primQ [x, y]) (-1000000000) 1000000000 = true := by
  have h := primQ_bd (l := [x, y]) (M := 6) (fun k hk => by
    rcases (show k = 0 ∨ k = 1 by simp at hk; omega) with rfl | rfl
    · exact hx
    · exact hy)
  obtain ⟨a, b, e⟩ : ∃ a b, primQ [x, y] = [a, b] := ⟨_, _, rfl⟩
  rw [e] at h ⊢
  have h0 := h 0 (by simp)
  have h1 := h 1 (by simp)
  simp only [List.getD_cons_zero, List.getD_cons_succ] at h0 h1
  simp [allIn, inB]; omega
theorem len2k {l : List Int} (h : l.length = 2) : ∃ a b, l = [a, b] := by
  match l, h with
  | [a, b], _ => exact ⟨a, b, rfl⟩

theorem IS.lit2K (w : World) (B g : Nat) (hg : w.heap.size = g) (h : B ≤ g) (x y : Int) : IS (w.alloc (.cells #[.int .i64 x, .int .i64 y] 3)) B (g + 1) (.slice (some ⟨g, 0, Option.none⟩) 2 2) [x, y] := by
  subst hg; exact IS.lit2 w B h x y
theorem IS.setO {w : World} {lo hi n i : Nat} {v : Value} {l : List Int} (h : IS w lo hi v l) (hn : n < lo ∨ hi ≤ n) (x : Value) : IS (w.setCell ⟨n, i, Option.none⟩ x) lo hi v l :=
  h.of_blocks fun b h1 h2 _ => Below.heap_setCell _ _ _ _ (by intro e; have e : b = n := e; omega)
set_option maxRecDepth 100000 in
set_option maxHeartbeats 8000000 in
theorem l9Draw_any (p hb : Nat) (w : World) (h : Cur w p hb) :
    Calls Try.prog 168 #[curP p] w fun e w' => ∃ u1 u2 U V, e = .returned (.agg #[u1, u2]) ∧ ISu w' w.heap.size u1 U ∧ ISu w' w.heap.size u2 V ∧ Cur w' p hb ∧ w.grownBy w' (some p) := by
  have hp := h.lt
  have HC0 := Lib.hid (h.below (below1 w (.cells #[.slice none 0 0, .slice none 0 0] 64)) hp)
  have HG0 := Lib.hid (grown_alloc (World.grownBy.refl w (some p)) (.cells #[.slice none 0 0, .slice none 0 0] 64))
  have S0 := Lib.hid (CB.new w (.slice none 0 0) (.slice none 0 0))
  have hnp : w.heap.size ≠ p := by omega
  clear h
  unfold curP at *
  go_enter Try.func168, Try.ntmps168
  go_wp2
  go_loopw [3] (fun i wr => ∃ k : Nat, k ≤ 6 ∧ i = .int .i64 k ∧ Hid (CB wr w.heap.size (.slice none 0 0) (.slice none 0 0)) ∧ Hid (Cur wr p hb) ∧ Hid (w.grownBy wr (some p))) (fun i _ => 6 - (intOf i).toNat)
  case atStart => exact ⟨0, by omega, rfl, S0, HC0, HG0⟩
  case round =>
    clear S0 HC0 HG0
    obtain ⟨k, hk, rfl, HS, HC, HG⟩ := hrel
    by_cases hlt : k < 6
    · have BB := l2Draw_any p hb 2 6 wr HC.out (by omega) (by omega)
      rw [show ((2 : Nat) : Int) = 2 from rfl, show ((6 : Nat) : Int) = 6 from rfl] at BB
      unfold curP at BB
      go_wp2_with fail
      refine BB.mono ?_
      clear BB
      rintro e w2 ⟨u, l1, rfl, ho, hl, ha, hc, hg⟩
      have hsz : w.heap.size + 1 ≤ wr.heap.size := HS.out.lt
      have O2 := Lib.hid (show ISu w2 (w.heap.size + 1) u l1 from ho.is.mono hsz (Nat.le_refl _))
      have S2 := Lib.hid (HS.out.cur hg hnp)
      have HC2 := Lib.hid hc
      have HG2 := Lib.hid (grown_trans HG.out hg)
      obtain ⟨x1, y1, rfl⟩ := len2k hl
      have b1 := allIn_at ha 0 (by simp)
      have b2 := allIn_at ha 1 (by simp)
      simp only [List.getD_cons_zero, List.getD_cons_succ] at b1 b2
      obtain ⟨a1, c1, rfl⟩ := O2.out.form
      clear ho hl ha hc hg HS HC HG hsz
      have BB := l2Draw_any p hb 2 6 w2 HC2.out (by omega) (by omega)
      rw [show ((2 : Nat) : Int) = 2 from rfl, show ((6 : Nat) : Int) = 6 from rfl] at BB
      unfold curP at BB
      go_wp2_with fail
      refine BB.mono ?_
      clear BB
      rintro e w3 ⟨u, l2, rfl, ho, hl, ha, hc, hg⟩
      have hsz : w.heap.size + 1 ≤ w2.heap.size := S2.out.lt
      have P3 := Lib.hid (show ISu w3 (w.heap.size + 1) u l2 from ho.is.mono hsz (Nat.le_refl _))
      have O3 := Lib.hid (O2.out.cur hg (by omega))
      have S3 := Lib.hid (S2.out.cur hg hnp)
      have HC3 := Lib.hid hc
      have HG3 := Lib.hid (grown_trans HG2.out hg)
      obtain ⟨x2, y2, rfl⟩ := len2k hl
      have b3 := allIn_at ha 0 (by simp)
      have b4 := allIn_at ha 1 (by simp)
      simp only [List.getD_cons_zero, List.getD_cons_succ] at b3 b4
      obtain ⟨a2, c2, rfl⟩ := P3.out.form
      clear ho hl ha hc hg S2 HC2 HG2 hsz O2
      have k1 : ∀ k, k < [x1, y1].length → -1000 ≤ [x1, y1].getD k 0 ∧ [x1, y1].getD k 0 ≤ 1000 := fun k hk => by
        rcases (show k = 0 ∨ k = 1 by simp at hk; omega) with rfl | rfl
        · show -1000 ≤ x1 ∧ x1 ≤ 1000; omega
        · show -1000 ≤ y1 ∧ y1 ≤ 1000; omega
      have k2 : ∀ k, k < [x2, y2].length → -1000 ≤ [x2, y2].getD k 0 ∧ [x2, y2].getD k 0 ≤ 1000 := fun k hk => by
        rcases (show k = 0 ∨ k = 1 by simp at hk; omega) with rfl | rfl
        · show -1000 ≤ x2 ∧ x2 ≤ 1000; omega
        · show -1000 ≤ y2 ∧ y2 ≤ 1000; omega
      have G1 := l2All_any [x1, y1] _ _ w3 O3.out.read 1000 (by omega) k1
      have G2 := l2All_any [x2, y2] _ _ w3 P3.out.read 1000 (by omega) k2
      have Q1 := l2Prime_any [x1, y1] _ _ w3 O3.out.read (Nat.le_refl _) (by simp) k1
      have Q2 := Lib.hid (fun W (B : Below w3.heap.size w3 W) => l2Prime_any [x2, y2] _ _ W (P3.out.read.keep B (Nat.le_refl _)) B.size (by simp) k2)
      have in1 := Lib.hid (primQ_in9 b1 b2)
      have in2 := Lib.hid (primQ_in9 b3 b4)
      have pl1 := Lib.hid (show (primQ [x1, y1]).length = 2 from rfl)
      have pl2 := Lib.hid (show (primQ [x2, y2]).length = 2 from rfl)
      clear k1 k2 b1 b2 b3 b4
      rw [show [x1, y1].length = 2 from rfl] at G1 Q1 O3
      rw [show [x2, y2].length = 2 from rfl] at G2 Q2 P3
      rw [show [x2, y2].length = 2 from rfl]
      generalize gcdL [x1, y1] = g1 at *
      generalize gcdL [x2, y2] = g2 at *
      generalize hpq1 : primQ [x1, y1] = q1 at *
      generalize hpq2 : primQ [x2, y2] = q2 at *
      clear hpq1 hpq2
      by_cases e1 : g1 = 0
      · subst e1
        clear Q1 Q2 G2
        have t1 : ((0 : Int) == 0) = true := rfl
        go_wp2_with (go_at_call 133; (with_reducible refine G1.mono ?_); rintro e w9 ⟨rfl, rfl⟩)
        go_roundw
        case rel => exact ⟨k + 1, by omega, by go_num, S3, HC3, HG3⟩
        case measure => simp [intOf]; omega
      have t1 : (g1 == 0) = false := by rw [beq_eq_false_iff_ne]; exact e1
      by_cases e2 : g2 = 0
      · subst e2
        clear Q1 Q2
        have t2 : ((0 : Int) == 0) = true := rfl
        go_wp2_with (first | (go_at_call 133; (with_reducible refine G1.mono ?_); rintro e w9 ⟨rfl, rfl⟩) | (go_at_call 133; (with_reducible refine G2.mono ?_); rintro e w9 ⟨rfl, rfl⟩))
        go_roundw
        case rel => exact ⟨k + 1, by omega, by go_num, S3, HC3, HG3⟩
        case measure => simp [intOf]; omega
      have t2 : (g2 == 0) = false := by rw [beq_eq_false_iff_ne]; exact e2
      go_wp2_with (first | (go_at_call 133; (with_reducible refine G1.mono ?_); rintro e w9 ⟨rfl, rfl⟩) | (go_at_call 133; (with_reducible refine G2.mono ?_); rintro e w9 ⟨rfl, rfl⟩))
      clear G1 G2 t1 t2 e1 e2
      have hw3 : w.heap.size + 1 ≤ w3.heap.size := S3.out.lt
      refine Q1.mono ?_
      clear Q1
      rintro e w4 ⟨u4, rfl, k4, c4⟩
      have A4 := Lib.hid (show ISu w4 (w.heap.size + 1) u4 q1 from k4.mono hw3 (Nat.le_refl _))
      obtain ⟨a4, p4, rfl⟩ := A4.out.form
      have Q2' := Q2.out _ c4
      have C4 := Lib.hid c4
      clear k4 Q2 O3 P3
      go_wp2_with fail
      refine Q2'.mono ?_
      clear Q2'
      rintro e w5 ⟨u5, rfl, k5, c5⟩
      have C5 := Lib.hid (below_then C4.out C4.out.size c5)
      have A5 := Lib.hid (A4.out.upb c5)
      have B5 := Lib.hid (show ISu w5 (w.heap.size + 1) u5 q2 from k5.mono (Nat.le_trans hw3 C4.out.size) (Nat.le_refl _))
      obtain ⟨a5, p5, rfl⟩ := B5.out.form
      clear k5 c4 c5 A4 C4
      rw [pl1.out] at A5
      rw [pl2.out] at B5 ⊢
      try rw [pl1.out]
      have cA := below1 w5 (.cells #[.slice a4 2 p4, .slice a5 2 p5] 64)
      have C6 := Lib.hid (below_then C5.out C5.out.size cA)
      have A6 := Lib.hid (A5.out.upb cA)
      have B6 := Lib.hid (B5.out.upb cA)
      have X6 := Lib.hid (CB.new w5 (.slice a4 2 p4) (.slice a5 2 p5))
      have hp5 : p < w5.heap.size := by have := C5.out.size; omega
      have hn5 : w.heap.size < w5.heap.size := by have := C5.out.size; have := S3.out.lt; omega
      have S6 := Lib.hid (S3.out.below C6.out)
      have HC6 := Lib.hid (HC3.out.below C6.out HC3.out.lt)
      have HG6 := Lib.hid (grown_then HG3.out (C6.out.mono (by omega)))
      clear A5 B5 C5 cA S3 HC3 HG3 C6
      have hz6 : (w5.alloc (.cells #[.slice a4 2 p4, .slice a5 2 p5] 64)).heap.size = w5.heap.size + 1 := by simp
      have CR := l7Cross_any q1 q2 _ _ _ _ _ A6.out.read B6.out.read pl1.out pl2.out in1.out in2.out
      go_upto_region 8 with fail
      generalize w5.heap.size = n6 at *
      generalize w5.alloc (.cells #[.slice a4 2 p4, .slice a5 2 p5] 64) = w6 at *
      have y0 := X6.out.c0
      have y1' := X6.out.c1
      generalize crossI q1 q2 = cr at *
      have IC := Lib.hid (fun d => specIsCone_any q1 q2 _ _ _ (w6.drewN d) (A6.out.read.draws d) (B6.out.read.draws d) (Nat.le_refl _))
      go_wp2_with fail
      refine CR.mono ?_
      rintro e w7 ⟨rfl, dd, rfl⟩
      clear CR
      have A7 := Lib.hid (show ISu (w6.drewN dd) (w.heap.size + 1) (.slice a4 2 p4) q1 from A6.out)
      have B7 := Lib.hid (show ISu (w6.drewN dd) (w.heap.size + 1) (.slice a5 2 p5) q2 from B6.out)
      have S7 := Lib.hid (show CB (w6.drewN dd) w.heap.size (.slice none 0 0) (.slice none 0 0) from S6.out)
      have X7 := Lib.hid (show CB (w6.drewN dd) n6 (.slice a4 2 p4) (.slice a5 2 p5) from X6.out)
      have HC7 := Lib.hid (show Cur (w6.drewN dd) p hb from HC6.out.below (below_draws w6.heap.size w6 dd) HC6.out.lt)
      have HG7 := Lib.hid (grown_draws HG6.out dd)
      have IC := specIsCone_any q1 q2 _ _ _ (w6.drewN dd) A7.out.read B7.out.read (Nat.le_refl _)
      clear A6 B6 S6 X6 HC6 HG6 y0 y1' hz6
      generalize w6.drewN dd = w7 at *
      have y0 := X7.out.c0
      have y1' := X7.out.c1
      by_cases hcr : cr < 0
      · clear IC
        have hcr' : decide (cr < 0) = true := by simpa using hcr
        have z0 := S7.out.c0
        have z1 := S7.out.c1
        have g0 := S7.out.fr 0
        have g1' := S7.out.fr 1
        have r0 := World.cell?_setCell_same w7 ⟨w.heap.size, 0, none⟩ (.slice a5 2 p5) z0
        have SF := (S7.out.set0 (.slice a5 2 p5)).set1 (.slice a4 2 p4)
        have r1 := SF.c1
        have HF := Lib.hid ((HC7.out.setN (i := 0) hp (.slice a5 2 p5)).setN (i := 1) hp (.slice a4 2 p4))
        have HGF := Lib.hid (grown_then HG7.out (below_set2 w7 w.heap.size (.slice a5 2 p5) (.slice a4 2 p4)))
        have HA := Lib.hid ((B7.out.setN (i := 0) (Nat.lt_succ_self _) (.slice a5 2 p5)).setN (i := 1) (Nat.lt_succ_self _) (.slice a4 2 p4))
        have HB := Lib.hid ((A7.out.setN (i := 0) (Nat.lt_succ_self _) (.slice a5 2 p5)).setN (i := 1) (Nat.lt_succ_self _) (.slice a4 2 p4))
        clear SF
        go_wp2
        refine bodyPost_ret (v := .agg #[.slice a5 2 p5, .slice a4 2 p4]) (by simp [results, Try.results168, go_sem, r0, r1]) rfl ?_
        exact ⟨_, _, _, _, rfl, HA.out.lo (Nat.le_succ _), HB.out.lo (Nat.le_succ _), HF.out, HGF.out⟩
      · have hcr' : decide (cr < 0) = false := by simpa using hcr
        go_wp2_with fail
        refine IC.mono ?_
        clear IC
        rintro e w8 ⟨rfl, c8⟩
        have A8 := Lib.hid (A7.out.upb c8)
        have B8 := Lib.hid (B7.out.upb c8)
        have S8 := Lib.hid (S7.out.below c8)
        have HC8 := Lib.hid (HC7.out.below c8 HC7.out.lt)
        have HG8 := Lib.hid (grown_then HG7.out (c8.mono (by have := S7.out.lt; omega)))
        have X8 := X7.out.below c8
        clear y0 y1' A7 B7 S7 HC7 HG7 X7 c8
        have y0 := X8.c0
        have y1' := X8.c1
        cases coneB q1 q2
        · go_wp2
          go_roundw
          case rel => exact ⟨k + 1, by omega, by go_num, S8, HC8, HG8⟩
          case measure => simp [intOf]; omega
        · skip
          have z0 := S8.out.c0
          have z1 := S8.out.c1
          have g0 := S8.out.fr 0
          have g1' := S8.out.fr 1
          have r0 := World.cell?_setCell_same w8 ⟨w.heap.size, 0, none⟩ (.slice a4 2 p4) z0
          have SF := (S8.out.set0 (.slice a4 2 p4)).set1 (.slice a5 2 p5)
          have r1 := SF.c1
          have HF := Lib.hid ((HC8.out.setN (i := 0) hp (.slice a4 2 p4)).setN (i := 1) hp (.slice a5 2 p5))
          have HGF := Lib.hid (grown_then HG8.out (below_set2 w8 w.heap.size (.slice a4 2 p4) (.slice a5 2 p5)))
          have HA := Lib.hid ((A8.out.setN (i := 0) (Nat.lt_succ_self _) (.slice a4 2 p4)).setN (i := 1) (Nat.lt_succ_self _) (.slice a5 2 p5))
          have HB := Lib.hid ((B8.out.setN (i := 0) (Nat.lt_succ_self _) (.slice a4 2 p4)).setN (i := 1) (Nat.lt_succ_self _) (.slice a5 2 p5))
          clear SF
          go_wp2
          refine bodyPost_ret (v := .agg #[.slice a4 2 p4, .slice a5 2 p5]) (by simp [results, Try.results168, go_sem, r0, r1]) rfl ?_
          exact ⟨_, _, _, _, rfl, HA.out.lo (Nat.le_succ _), HB.out.lo (Nat.le_succ _), HF.out, HGF.out⟩
    · obtain rfl : k = 6 := by omega
      have hsz : w.heap.size + 1 ≤ wr.heap.size := HS.out.lt
      have cA := below2 wr (.cells #[.int .i64 1, .int .i64 0] 3) (.cells #[.int .i64 2, .int .i64 5] 3)
      have A1 := Lib.hid (show ISu ((wr.alloc (.cells #[.int .i64 1, .int .i64 0] 3)).alloc (.cells #[.int .i64 2, .int .i64 5] 3)) (w.heap.size + 1) (.slice (some ⟨wr.heap.size, 0, none⟩) 2 2) [1, 0] from ((IS.lit2 wr (w.heap.size + 1) hsz 1 0).keep (below1 _ _) (by simp)).mono (Nat.le_refl _) (by simp))
      have A2 := Lib.hid (show ISu ((wr.alloc (.cells #[.int .i64 1, .int .i64 0] 3)).alloc (.cells #[.int .i64 2, .int .i64 5] 3)) (w.heap.size + 1) (.slice (some ⟨wr.heap.size + 1, 0, none⟩) 2 2) [2, 5] from by
        have := IS.lit2 (wr.alloc (.cells #[.int .i64 1, .int .i64 0] 3)) (w.heap.size + 1) (by simp; omega) 2 5
        rw [World.size_alloc] at this
        exact this.mono (Nat.le_refl _) (by simp))
      have S9 := Lib.hid (HS.out.below cA)
      have HC9 := Lib.hid (HC.out.below cA HC.out.lt)
      have HG9 := Lib.hid (grown_then HG.out (cA.mono (by omega)))
      clear HS HC HG cA
      go_upto_region 12 with fail
      have z0 := S9.out.c0
      have z1 := S9.out.c1
      have g0 := S9.out.fr 0
      have g1' := S9.out.fr 1
      have r0 := World.cell?_setCell_same ((wr.alloc (.cells #[.int .i64 1, .int .i64 0] 3)).alloc (.cells #[.int .i64 2, .int .i64 5] 3)) ⟨w.heap.size, 0, none⟩ (.slice (some ⟨wr.heap.size, 0, none⟩) 2 2) z0
      have SF := (S9.out.set0 (.slice (some ⟨wr.heap.size, 0, none⟩) 2 2)).set1 (.slice (some ⟨wr.heap.size + 1, 0, none⟩) 2 2)
      have r1 := SF.c1
      have HF := Lib.hid ((HC9.out.setN (i := 0) hp (.slice (some ⟨wr.heap.size, 0, none⟩) 2 2)).setN (i := 1) hp (.slice (some ⟨wr.heap.size + 1, 0, none⟩) 2 2))
      have HGF := Lib.hid (grown_then HG9.out (below_set2 ((wr.alloc (.cells #[.int .i64 1, .int .i64 0] 3)).alloc (.cells #[.int .i64 2, .int .i64 5] 3)) w.heap.size (.slice (some ⟨wr.heap.size, 0, none⟩) 2 2) (.slice (some ⟨wr.heap.size + 1, 0, none⟩) 2 2)))
      have HA := Lib.hid ((A1.out.setN (i := 0) (Nat.lt_succ_self _) (.slice (some ⟨wr.heap.size, 0, none⟩) 2 2)).setN (i := 1) (Nat.lt_succ_self _) (.slice (some ⟨wr.heap.size + 1, 0, none⟩) 2 2))
      have HB := Lib.hid ((A2.out.setN (i := 0) (Nat.lt_succ_self _) (.slice (some ⟨wr.heap.size, 0, none⟩) 2 2)).setN (i := 1) (Nat.lt_succ_self _) (.slice (some ⟨wr.heap.size + 1, 0, none⟩) 2 2))
      clear SF
      go_wp2
      refine bodyPost_ret (v := .agg #[.slice (some ⟨wr.heap.size, 0, none⟩) 2 2, .slice (some ⟨wr.heap.size + 1, 0, none⟩) 2 2]) (by simp [results, Try.results168, go_sem, r0, r1]) rfl ?_
      exact ⟨_, _, _, _, rfl, HA.out.lo (Nat.le_succ _), HB.out.lo (Nat.le_succ _), HF.out, HGF.out⟩
set_option maxRecDepth 100000 in
set_option maxHeartbeats 8000000 in
theorem l9Bent_any (p hb : Nat) (w : World) (h : Cur w p hb) :
    Calls Try.prog 139 #[curP p] w fun e w' => ∃ u1 u2 U V, e = .returned (.agg #[u1, u2]) ∧ ISu w' w.heap.size u1 U ∧ ISu w' w.heap.size u2 V ∧ Cur w' p hb ∧ w.grownBy w' (some p) := by
  have hp := h.lt
  have HC0 := Lib.hid (h.below (below1 w (.cells #[.slice none 0 0, .slice none 0 0] 64)) hp)
  have HG0 := Lib.hid (grown_alloc (World.grownBy.refl w (some p)) (.cells #[.slice none 0 0, .slice none 0 0] 64))
  have S0 := Lib.hid (CB.new w (.slice none 0 0) (.slice none 0 0))
  have hnp : w.heap.size ≠ p := by omega
  have BB := l9Draw_any p hb _ HC0.out
  clear h
  unfold curP at *
  go_enter Try.func139, Try.ntmps139
  go_wp2_with fail
  refine BB.mono ?_
  clear BB
  rintro e w1 ⟨u1, u2, U, V, rfl, i1, i2, hc, hg⟩
  rw [World.size_alloc] at i1 i2
  have S1 := Lib.hid (S0.out.cur hg hnp)
  have HC1 := Lib.hid hc
  have HG1 := Lib.hid (grown_trans HG0.out hg)
  obtain ⟨a1, c1, rfl⟩ := i1.form
  obtain ⟨a2, c2, rfl⟩ := i2.form
  have hn3 : w.heap.size < w1.heap.size := S1.out.lt
  have hn3p : w1.heap.size ≠ p := by omega
  have cA := below1 w1 (.cells #[.slice a1 U.length c1, .slice a2 V.length c2] 64)
  have I2 := Lib.hid (show IS _ _ w1.heap.size _ _ from IS.keep i1 cA (Nat.le_refl _))
  have J2 := Lib.hid (show IS _ _ w1.heap.size _ _ from IS.keep i2 cA (Nat.le_refl _))
  have X2 := Lib.hid (CB.new w1 (.slice a1 U.length c1) (.slice a2 V.length c2))
  have S2 := Lib.hid (S1.out.below cA)
  have HC2 := Lib.hid (HC1.out.below cA HC1.out.lt)
  have HG2 := Lib.hid (grown_then HG1.out (cA.mono (by omega)))
  clear i1 i2 hc hg S0 S1 HC0 HG0 HC1 HG1 cA
  go_upto_region 2 with fail
  have hz : w1.heap.size < (w1.alloc (.cells #[.slice a1 U.length c1, .slice a2 V.length c2] 64)).heap.size := by simp
  generalize w1.heap.size = n3 at *
  generalize w1.alloc (.cells #[.slice a1 U.length c1, .slice a2 V.length c2] 64) = w2 at *
  have BB := l1Below_any p hb 12 w2 HC2.out (by omega) (by omega)
  unfold curP at BB
  go_wp2_with fail
  refine BB.mono ?_
  clear BB
  rintro e w3 ⟨x, rfl, -, -, hc, hg⟩
  have I3 := Lib.hid (I2.out.cur hg (.inl (by omega)))
  have J3 := Lib.hid (J2.out.cur hg (.inl (by omega)))
  have S3 := Lib.hid (S2.out.cur hg hnp)
  have X3 := Lib.hid (X2.out.cur hg hn3p)
  have HC3 := Lib.hid hc
  have HG3 := Lib.hid (grown_trans HG2.out hg)
  clear I2 J2 S2 X2 HC2 HG2
  have hz3 := X3.out.lt
  by_cases e0 : x = 0
  · subst e0
    have t0 : ((0 : Int) == 0) = true := rfl
    have BB := l1Once_any p hb 3 w3 HC3.out (by omega) (by omega)
    unfold curP at BB
    go_wp2_with fail
    refine BB.mono ?_
    clear BB
    rintro e w4 ⟨bb, rfl, hc, hg⟩
    have I4 := Lib.hid (I3.out.cur hg (.inl (by omega)))
    have J4 := Lib.hid (J3.out.cur hg (.inl (by omega)))
    have S4 := Lib.hid (S3.out.cur hg hnp)
    have X4 := Lib.hid (X3.out.cur hg hn3p)
    have HC4 := Lib.hid hc
    have HG4 := Lib.hid (grown_trans HG3.out hg)
    clear I3 J3 S3 X3 HC3 HG3
    have LB := fun W => l1Bit_any bb W
    have hz4 := X4.out.lt
    obtain ⟨nb, hnb1, hnb2⟩ : ∃ nb : Nat, 2 + bitI bb = (nb : Int) ∧ nb ≤ 3 := by cases bb with
      | false => exact ⟨2, rfl, by omega⟩
      | true => exact ⟨3, rfl, by omega⟩
    have LB : ∀ W, Calls Try.prog 112 #[.bool bb] W fun e w' => e = .returned (.int .i64 ((nb : Int) - 2)) ∧ W = w' := fun W => by rw [show (nb : Int) - 2 = bitI bb by omega]; exact LB W
    have hb2 : (2 : Int) + ((nb : Int) - 2) = nb := by omega
    clear hnb1
    have BB := l2Draw_any p hb nb 4 w4 HC4.out (by omega) (by omega)
    rw [show ((4 : Nat) : Int) = 4 from rfl] at BB
    unfold curP at BB
    go_wp2_with (go_at_call 112; (with_reducible refine (LB _).mono ?_); rintro e w' ⟨rfl, rfl⟩)
    refine BB.mono ?_
    clear BB LB
    rintro e w5 ⟨u5, l5, rfl, ho, hl, ha, hc, hg⟩
    have K5 := Lib.hid (ho.is)
    obtain ⟨a5, c5, rfl⟩ := ISu.form K5.out
    have I5 := Lib.hid (I4.out.cur hg (.inl (by omega)))
    have J5 := Lib.hid (J4.out.cur hg (.inl (by omega)))
    have S5 := Lib.hid (S4.out.cur hg hnp)
    have X5 := Lib.hid (X4.out.cur hg hn3p)
    have HC5 := Lib.hid hc
    have HG5 := Lib.hid (grown_trans HG4.out hg)
    have hz5 := hg.size
    clear ho hl ha hc hg I4 J4 S4 X4 HC4 HG4
    have yy := X5.out.c0
    have ff := X5.out.fr 0
    have S6 := Lib.hid (S5.out.other (m := n3) (i := 0) (by omega) (.slice a5 l5.length c5))
    have X6 := Lib.hid (X5.out.set0 (.slice a5 l5.length c5))
    have HC6 := Lib.hid (HC5.out.setN (n := n3) (i := 0) (by omega) (.slice a5 l5.length c5))
    have HG6 := Lib.hid (grown_then HG5.out (show Below w.heap.size w5 (w5.setCell ⟨n3, 0, none⟩ (.slice a5 l5.length c5)) from (Below.refl _ _).setCell (p := ⟨n3, 0, none⟩) (show w.heap.size ≤ n3 by omega) _))
    have J6 := Lib.hid (J5.out.setO (n := n3) (i := 0) (.inr (Nat.le_refl _)) (.slice a5 l5.length c5))
    have K6 := Lib.hid (K5.out.setO (n := n3) (i := 0) (.inl (by omega)) (.slice a5 l5.length c5))
    go_upto_region 9 with fail
    have hz6 : w5.heap.size ≤ (w5.setCell ⟨n3, 0, none⟩ (.slice a5 l5.length c5)).heap.size := by simp
    generalize w5.setCell ⟨n3, 0, none⟩ (.slice a5 l5.length c5) = w6 at *
    clear yy ff S5 X5 HC5 HG5 I5 J5 K5
    have y0 := X6.out.c0
    have y1 := X6.out.c1
    have z0 := S6.out.c0
    have z1 := S6.out.c1
    have g0 := S6.out.fr 0
    have g1' := S6.out.fr 1
    have r0 := World.cell?_setCell_same w6 ⟨w.heap.size, 0, none⟩ (.slice a5 l5.length c5) z0
    have SF := (S6.out.set0 (.slice a5 l5.length c5)).set1 (.slice a2 V.length c2)
    have r1 := SF.c1
    have HF := Lib.hid ((HC6.out.setN (i := 0) hp (.slice a5 l5.length c5)).setN (i := 1) hp (.slice a2 V.length c2))
    have HGF := Lib.hid (grown_then HG6.out (below_set2 w6 w.heap.size (.slice a5 l5.length c5) (.slice a2 V.length c2)))
    have HA := Lib.hid (((K6.out).setO (n := w.heap.size) (i := 0) (.inl (by first | exact Nat.lt_succ_self _ | omega)) (.slice a5 l5.length c5)).setO (n := w.heap.size) (i := 1) (.inl (by first | exact Nat.lt_succ_self _ | omega)) (.slice a2 V.length c2))
    have HB := Lib.hid (((J6.out).setO (n := w.heap.size) (i := 0) (.inl (by first | exact Nat.lt_succ_self _ | omega)) (.slice a5 l5.length c5)).setO (n := w.heap.size) (i := 1) (.inl (by first | exact Nat.lt_succ_self _ | omega)) (.slice a2 V.length c2))
    have hA := (show w5.heap.size ≤ w6.heap.size by omega)
    have hB := (show n3 ≤ w6.heap.size by omega)
    clear SF 
    go_wp2
    refine bodyPost_ret (v := .agg #[.slice a5 l5.length c5, .slice a2 V.length c2]) (by simp [results, Try.results139, go_sem, r0, r1]) rfl ?_
    exact ⟨_, _, _, _, rfl, HA.out.mono (by omega) (by simp; omega), HB.out.mono (by omega) (by simp; omega), HF.out, HGF.out⟩
  have t0 : (x == 0) = false := by rw [beq_eq_false_iff_ne]; exact e0
  by_cases e1 : x = 1
  · subst e1
    have t1 : ((1 : Int) == 1) = true := rfl
    have y0 := X3.out.c0
    have y1 := X3.out.c1
    have z0 := S3.out.c0
    have z1 := S3.out.c1
    have g0 := S3.out.fr 0
    have g1' := S3.out.fr 1
    have r0 := World.cell?_setCell_same w3 ⟨w.heap.size, 0, none⟩ (.slice a2 V.length c2) z0
    have SF := (S3.out.set0 (.slice a2 V.length c2)).set1 (.slice a1 U.length c1)
    have r1 := SF.c1
    have HF := Lib.hid ((HC3.out.setN (i := 0) hp (.slice a2 V.length c2)).setN (i := 1) hp (.slice a1 U.length c1))
    have HGF := Lib.hid (grown_then HG3.out (below_set2 w3 w.heap.size (.slice a2 V.length c2) (.slice a1 U.length c1)))
    have HA := Lib.hid (((J3.out).setO (n := w.heap.size) (i := 0) (.inl (by first | exact Nat.lt_succ_self _ | omega)) (.slice a2 V.length c2)).setO (n := w.heap.size) (i := 1) (.inl (by first | exact Nat.lt_succ_self _ | omega)) (.slice a1 U.length c1))
    have HB := Lib.hid (((I3.out).setO (n := w.heap.size) (i := 0) (.inl (by first | exact Nat.lt_succ_self _ | omega)) (.slice a2 V.length c2)).setO (n := w.heap.size) (i := 1) (.inl (by first | exact Nat.lt_succ_self _ | omega)) (.slice a1 U.length c1))
    have hA := (show n3 ≤ w3.heap.size by omega)
    have hB := (show n3 ≤ w3.heap.size by omega)
    clear SF 
    go_wp2
    refine bodyPost_ret (v := .agg #[.slice a2 V.length c2, .slice a1 U.length c1]) (by simp [results, Try.results139, go_sem, r0, r1]) rfl ?_
    exact ⟨_, _, _, _, rfl, HA.out.mono (by omega) (by simp; omega), HB.out.mono (by omega) (by simp; omega), HF.out, HGF.out⟩
  have t1 : (x == 1) = false := by rw [beq_eq_false_iff_ne]; exact e1
  by_cases e2 : x = 2
  · subst e2
    have t2 : ((2 : Int) == 2) = true := rfl
    go_wp2_with fail
    have BB := pick_lit p hb [30, 31, -31] w3 HC3.out (by simp) (by simp)
    unfold curP at BB
    refine BB.mono ?_
    clear BB
    rintro e w4 ⟨z, rfl, -, hc, hg⟩
    have I4 := Lib.hid (I3.out.cur hg (.inl (by omega)))
    have J4 := Lib.hid (J3.out.cur hg (.inl (by omega)))
    have S4 := Lib.hid (S3.out.cur hg hnp)
    have X4 := Lib.hid (X3.out.cur hg hn3p)
    have HC4 := Lib.hid hc
    have HG4 := Lib.hid (grown_trans HG3.out hg)
    clear I3 J3 S3 X3 HC3 HG3
    have hz4 := X4.out.lt
    have cS : Below w.heap.size w4 (w4.setCell ⟨n3, 1, none⟩ (.slice (some ⟨w4.heap.size, 0, none⟩) 2 2)) := (Below.refl _ _).setCell (p := ⟨n3, 1, none⟩) (show w.heap.size ≤ n3 by omega) _
    have hq4 : (w4.setCell ⟨n3, 1, none⟩ (.slice (some ⟨w4.heap.size, 0, none⟩) 2 2)).heap.size = w4.heap.size := by simp
    have cA := below1 (w4.setCell ⟨n3, 1, none⟩ (.slice (some ⟨w4.heap.size, 0, none⟩) 2 2)) (.cells #[.int .i64 z, .int .i64 1] 3)
    have K6 := Lib.hid (IS.lit2K (w4.setCell ⟨n3, 1, none⟩ (.slice (some ⟨w4.heap.size, 0, none⟩) 2 2)) w4.heap.size w4.heap.size hq4 (Nat.le_refl _) z 1)
    have J6 := Lib.hid ((I4.out.setO (n := n3) (i := 1) (.inr (Nat.le_refl _)) (.slice (some ⟨w4.heap.size, 0, none⟩) 2 2)).keep cA (by rw [hq4]; omega))
    have S6 := Lib.hid ((S4.out.other (m := n3) (i := 1) (by omega) (.slice (some ⟨w4.heap.size, 0, none⟩) 2 2)).below cA)
    have X6 := Lib.hid ((X4.out.set1 (.slice (some ⟨w4.heap.size, 0, none⟩) 2 2)).below cA)
    have HC6 := Lib.hid ((HC4.out.setN (n := n3) (i := 1) (by omega) (.slice (some ⟨w4.heap.size, 0, none⟩) 2 2)).below cA (by rw [hq4]; omega))
    have HG6 := Lib.hid (grown_then (grown_then HG4.out cS) (cA.mono (by rw [hq4]; omega)))
    have yy := X4.out.c1
    have ff := X4.out.fr 1
    clear cA cS I4 J4 S4 X4 HC4 HG4
    go_upto_region 9 with fail
    have hz6 : ((w4.setCell ⟨n3, 1, none⟩ (.slice (some ⟨w4.heap.size, 0, none⟩) 2 2)).alloc (.cells #[.int .i64 z, .int .i64 1] 3)).heap.size = w4.heap.size + 1 := by simp
    generalize (w4.setCell ⟨n3, 1, none⟩ (.slice (some ⟨w4.heap.size, 0, none⟩) 2 2)).alloc (.cells #[.int .i64 z, .int .i64 1] 3) = w6 at *
    clear yy ff hq4
    have y0 := X6.out.c0
    have y1 := X6.out.c1
    have z0 := S6.out.c0
    have z1 := S6.out.c1
    have g0 := S6.out.fr 0
    have g1' := S6.out.fr 1
    have r0 := World.cell?_setCell_same w6 ⟨w.heap.size, 0, none⟩ (.slice a1 U.length c1) z0
    have SF := (S6.out.set0 (.slice a1 U.length c1)).set1 (.slice (some ⟨w4.heap.size, 0, none⟩) 2 2)
    have r1 := SF.c1
    have HF := Lib.hid ((HC6.out.setN (i := 0) hp (.slice a1 U.length c1)).setN (i := 1) hp (.slice (some ⟨w4.heap.size, 0, none⟩) 2 2))
    have HGF := Lib.hid (grown_then HG6.out (below_set2 w6 w.heap.size (.slice a1 U.length c1) (.slice (some ⟨w4.heap.size, 0, none⟩) 2 2)))
    have HA := Lib.hid (((J6.out).setO (n := w.heap.size) (i := 0) (.inl (by first | exact Nat.lt_succ_self _ | omega)) (.slice a1 U.length c1)).setO (n := w.heap.size) (i := 1) (.inl (by first | exact Nat.lt_succ_self _ | omega)) (.slice (some ⟨w4.heap.size, 0, none⟩) 2 2))
    have HB := Lib.hid (((K6.out).setO (n := w.heap.size) (i := 0) (.inl (by first | exact Nat.lt_succ_self _ | omega)) (.slice a1 U.length c1)).setO (n := w.heap.size) (i := 1) (.inl (by first | exact Nat.lt_succ_self _ | omega)) (.slice (some ⟨w4.heap.size, 0, none⟩) 2 2))
    have hA := (show n3 ≤ w6.heap.size by omega)
    have hB := (show w4.heap.size + 1 ≤ w6.heap.size by omega)
    clear SF 
    go_wp2
    refine bodyPost_ret (v := .agg #[.slice a1 U.length c1, .slice (some ⟨w4.heap.size, 0, none⟩) 2 2]) (by simp [results, Try.results139, go_sem, r0, r1]) rfl ?_
    exact ⟨_, _, _, _, rfl, HA.out.mono (by omega) (by simp; omega), HB.out.mono (by omega) (by simp; omega), HF.out, HGF.out⟩
  have t2 : (x == 2) = false := by rw [beq_eq_false_iff_ne]; exact e2
  have y0 := X3.out.c0
  have y1 := X3.out.c1
  have z0 := S3.out.c0
  have z1 := S3.out.c1
  have g0 := S3.out.fr 0
  have g1' := S3.out.fr 1
  have r0 := World.cell?_setCell_same w3 ⟨w.heap.size, 0, none⟩ (.slice a1 U.length c1) z0
  have SF := (S3.out.set0 (.slice a1 U.length c1)).set1 (.slice a2 V.length c2)
  have r1 := SF.c1
  have HF := Lib.hid ((HC3.out.setN (i := 0) hp (.slice a1 U.length c1)).setN (i := 1) hp (.slice a2 V.length c2))
  have HGF := Lib.hid (grown_then HG3.out (below_set2 w3 w.heap.size (.slice a1 U.length c1) (.slice a2 V.length c2)))
  have HA := Lib.hid (((I3.out).setO (n := w.heap.size) (i := 0) (.inl (by first | exact Nat.lt_succ_self _ | omega)) (.slice a1 U.length c1)).setO (n := w.heap.size) (i := 1) (.inl (by first | exact Nat.lt_succ_self _ | omega)) (.slice a2 V.length c2))
  have HB := Lib.hid (((J3.out).setO (n := w.heap.size) (i := 0) (.inl (by first | exact Nat.lt_succ_self _ | omega)) (.slice a1 U.length c1)).setO (n := w.heap.size) (i := 1) (.inl (by first | exact Nat.lt_succ_self _ | omega)) (.slice a2 V.length c2))
  have hA := (show n3 ≤ w3.heap.size by omega)
  have hB := (show n3 ≤ w3.heap.size by omega)
  clear SF 
  go_wp2
  refine bodyPost_ret (v := .agg #[.slice a1 U.length c1, .slice a2 V.length c2]) (by simp [results, Try.results139, go_sem, r0, r1]) rfl ?_
  exact ⟨_, _, _, _, rfl, HA.out.mono (by omega) (by simp; omega), HB.out.mono (by omega) (by simp; omega), HF.out, HGF.out⟩
end Go.Proofs.Ytfncikbmdaameaa
