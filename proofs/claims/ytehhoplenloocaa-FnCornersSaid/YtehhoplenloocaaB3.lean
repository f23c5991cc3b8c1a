/- B3: texts in one: OpenT TermL TermE TermT Term TermS HitM Hit HitS TermA TermB Pow PowW Pts PtsS TvM Tv TvS. -/
import Derived.Test.YtehhoplenloocaaB2
import Derived.Test.YtehhoplenloocaaB1
import Derived.Deep.RegionHeld3
import Derived.Deep.RegionWith
/- What comes in: terms. -/
namespace Go.Proofs.Ytehhoplenloocaa
open Go.ChangeShapes Go.WideShapes Go.ChangeAt Go.RowKit Go.Joins
set_option linter.unusedVariables false
set_option linter.unusedSimpArgs false

/-- a term that may be read -/
def TermR (w : World) (hi : Nat) (v : Value) (x : Int × List Int × List (List Int)) : Prop := ∃ v2 v3, v = .agg #[.int .i64 x.1, v2, v3] ∧ (-9223372036854775808 ≤ x.1 ∧ x.1 ≤ 9223372036854775807) ∧ ISr w hi v2 x.2.1 ∧ ISSr w hi v3 x.2.2

end Go.Proofs.Ytehhoplenloocaa

/- Terms as the laws measure and compare them. -/
namespace Go.Proofs.Ytehhoplenloocaa
open Go.RowKit
set_option linter.unusedVariables false
set_option linter.unusedSimpArgs false

/-- a box of three cells that may be written -/
structure Box3 (w : World) (n : Nat) (x y z : Value) : Prop where
  lt : n < w.heap.size
  c0 : w.cell? ⟨n, 0, none⟩ = some x
  c1 : w.cell? ⟨n, 1, none⟩ = some y
  c2 : w.cell? ⟨n, 2, none⟩ = some z
  f0 : w.frozen? ⟨n, 0, none⟩ = false
  f1 : w.frozen? ⟨n, 1, none⟩ = false
  f2 : w.frozen? ⟨n, 2, none⟩ = false
theorem box3_new (w : World) (x y z : Value) (t : TypeId) : Box3 (w.alloc (.cells #[x, y, z] t)) w.heap.size x y z :=
  ⟨by simp, by rw [World.cell?_alloc_at _ _ _ _ rfl]; rfl, by rw [World.cell?_alloc_at _ _ _ _ rfl]; rfl, by rw [World.cell?_alloc_at _ _ _ _ rfl]; rfl, World.frozen?_alloc_at _ _ _ _ rfl, World.frozen?_alloc_at _ _ _ _ rfl, World.frozen?_alloc_at _ _ _ _ rfl⟩
theorem Box3.keep {w w1 : World} {n : Nat} {x y z : Value} (h : Box3 w n x y z) (hb : Below w.heap.size w w1) : Box3 w1 n x y z :=
  ⟨Nat.lt_of_lt_of_le h.lt hb.size, (hb.cell h.lt).trans h.c0, (hb.cell h.lt).trans h.c1, (hb.cell h.lt).trans h.c2, (hb.frozen h.lt).trans h.f0, (hb.frozen h.lt).trans h.f1, (hb.frozen h.lt).trans h.f2⟩
theorem Box3.other {w : World} {n : Nat} {x y z : Value} (h : Box3 w n x y z) {a : Addr} (ha : a.block ≠ n) (u : Value) : Box3 (w.setCell a u) n x y z := by
  have e : ∀ k, (⟨n, k, none⟩ : Addr) ≠ a := fun k e => ha (by rw [← e])
  exact ⟨by simpa using h.lt, by rw [World.cell?_setCell_other _ _ _ _ (by first | exact e 0 | exact (e 0).symm)]; exact h.c0, by rw [World.cell?_setCell_other _ _ _ _ (by first | exact e 1 | exact (e 1).symm)]; exact h.c1, by rw [World.cell?_setCell_other _ _ _ _ (by first | exact e 2 | exact (e 2).symm)]; exact h.c2, by rw [World.frozen?_setCell]; exact h.f0, by rw [World.frozen?_setCell]; exact h.f1, by rw [World.frozen?_setCell]; exact h.f2⟩

end Go.Proofs.Ytehhoplenloocaa

/- Terms as the laws compare them. -/
namespace Go.Proofs.Ytehhoplenloocaa
open Go.RowKit
set_option linter.unusedVariables false
set_option linter.unusedSimpArgs false

end Go.Proofs.Ytehhoplenloocaa

/- Terms as the laws copy them. -/
namespace Go.Proofs.Ytehhoplenloocaa
open Go.RowKit
set_option linter.unusedVariables false
set_option linter.unusedSimpArgs false

theorem ISS.setOther {w : World} {lo hi : Nat} {v : Value} {l : List (List Int)} (h : ISS w lo hi v l) {a : Addr} (ha : a.block < lo ∨ hi ≤ a.block) (u : Value) : ISS (w.setCell a u) lo hi v l :=
  h.of_blocks fun b h1 h2 h3 => Below.heap_setCell w a u b (by omega)
end Go.Proofs.Ytehhoplenloocaa

/- Terms: IsTerm, the plain law and the walks. -/
namespace Go.Proofs.Ytehhoplenloocaa
open Go.RowKit
set_option linter.unusedVariables false
set_option linter.unusedSimpArgs false

def magI (a : Int) : Int := if a = -9223372036854775808 then a else max a (-a)
theorem magI_one (a : Int) : magI a = 1 ↔ (a = 1 ∨ a = -1) := by unfold magI; split <;> omega
set_option maxHeartbeats 400000 in
theorem magnitude_w (a : Int) (w : World) (ha : -9223372036854775808 ≤ a) (ha' : a ≤ 9223372036854775807) :
    Calls Try.prog 85 #[.int .i64 a] w fun e w' => e = .returned (.int .i64 (magI a)) ∧ w = w' := by
  by_cases h : a = -9223372036854775808
  · subst h
    go_enter Try.func85, Try.ntmps85
    go_wp2
    all_goals go_ret
    all_goals exact ⟨ret_int (by first | (unfold wrap64 magI; omega) | (unfold magI; omega)), rfl⟩
  · have := magnitude_any a w (by omega) ha'
    unfold magI; rw [if_neg h]; exact this

def genB (g : List Int) : Bool := ptB g 30 && decide (gcdL g ≠ 0)
def termB (s : Int) (U : List Int) (G : List (List Int)) : Bool :=
  decide (s = 1 ∨ s = -1) && ptB U 1000 && decide (G.length ≤ 2) && G.all genB && decide (G.length = 2 → crossI (G.getD 0 []) (G.getD 1 []) ≠ 0)
theorem all_getD {G : List (List Int)} {p : List Int → Bool} (h : ∀ k, k < G.length → p (G.getD k []) = true) : G.all p = true := by
  rw [List.all_eq_true]
  intro x hx
  obtain ⟨i, hi, rfl⟩ := List.mem_iff_getElem.1 hx
  have := h i hi
  rwa [List.getD_eq_getElem?_getD, List.getElem?_eq_getElem hi] at this
theorem all_getD_no {G : List (List Int)} {p : List Int → Bool} {k : Nat} (hk : k < G.length) (h : p (G.getD k []) = false) : G.all p = false := by
  rw [List.all_eq_false]
  refine ⟨G.getD k [], ?_, by rw [h]; simp⟩
  rw [List.getD_eq_getElem?_getD, List.getElem?_eq_getElem hk]; exact List.getElem_mem hk
theorem termB_no {s : Int} {U : List Int} {G : List (List Int)} {k : Nat} (hk : k < G.length) (h : genB (G.getD k []) = false) : termB s U G = false := by
  unfold termB; rw [all_getD_no hk h]; simp
theorem termB_all {s : Int} {U : List Int} {G : List (List Int)} (h1 : s = 1 ∨ s = -1) (h2 : ptB U 1000 = true) (h3 : G.length ≤ 2) (h : ∀ k, k < G.length → genB (G.getD k []) = true) : termB s U G = decide (G.length = 2 → crossI (G.getD 0 []) (G.getD 1 []) ≠ 0) := by
  unfold termB; rw [all_getD h, h2, decide_eq_true h1, decide_eq_true h3]; simp
theorem ptB_bd {g : List Int} {m : Int} (h : ptB g m = true) (hm : m ≤ 1000000000) : g.length = 2 ∧ allIn g (-1000000000) 1000000000 = true ∧ (∀ k, k < g.length → -1000000000 ≤ g.getD k 0 ∧ g.getD k 0 ≤ 1000000000) := by
  obtain ⟨h1, h2⟩ := ptB_len h
  have h3 := allIn_mono (c := -1000000000) (d := 1000000000) h2 (by omega) (by omega)
  exact ⟨h1, h3, allIn_at h3⟩

set_option maxHeartbeats 2000000 in
theorem implIsTerm_any (s : Int) (U : List Int) (G : List (List Int)) (v1 v2 : Value) (hb : Nat) (w : World) (hs : -9223372036854775808 ≤ s ∧ s ≤ 9223372036854775807) (i1 : ISr w hb v1 U) (i2 : ISSr w hb v2 G) (hhb : hb ≤ w.heap.size) :
    Calls Try.prog 112 #[.agg #[.int .i64 s, v1, v2]] w fun e w' => e = .returned (.bool (termB s U G)) ∧ Below w.heap.size w w' := by
  have B0 := below1 w (.cells #[.int .i64 s, v1, v2] 50)
  have M := fun w => magnitude_w s w hs.1 hs.2
  by_cases h1 : s = 1 ∨ s = -1
  case neg =>
    have hr : termB s U G = false := by simp [termB, h1]
    have hm : (magI s != 1) = true := by rw [bne_iff_ne]; intro h; exact h1 ((magI_one s).1 h)
    rw [hr]
    clear hr h1
    generalize magI s = m at *
    go_enter Try.func112, Try.ntmps112
    go_wp2_with (go_at_call 85; (with_reducible refine (M _).mono ?_); rintro e w' ⟨rfl, rfl⟩)
    go_ret
    exact ⟨rfl, B0⟩
  have hm : (magI s != 1) = false := by rw [bne_eq_false_iff_eq]; exact (magI_one s).2 h1
  generalize magI s = m at *
  have P := isPoint_any U v1 1000 hb _ (i1.keep B0 hhb) (by omega) (by omega)
  cases h2 : ptB U 1000
  · have hr : termB s U G = false := by simp [termB, h2]
    rw [hr]
    rw [h2] at P
    clear hr h1 h2
    go_enter Try.func112, Try.ntmps112
    go_wp2_with (first | (go_at_call 85; (with_reducible refine (M _).mono ?_); rintro e w' ⟨rfl, rfl⟩) | (go_at_call 127; (with_reducible refine P.mono ?_); rintro e w' ⟨rfl, rfl⟩))
    go_ret
    exact ⟨rfl, B0⟩
  rw [h2] at P
  have HSE := Lib.hid h1
  have HP := Lib.hid h2
  clear h1 h2
  by_cases h3 : G.length ≤ 2
  case neg =>
    have hr : termB s U G = false := by simp [termB, h3]
    rw [hr]
    obtain ⟨a, cap, rfl, -⟩ := i2
    clear hr
    have h3' : 2 < G.length := by omega
    clear h3
    generalize G.length = n at *
    go_enter Try.func112, Try.ntmps112
    go_wp2_with (first | (go_at_call 85; (with_reducible refine (M _).mono ?_); rintro e w' ⟨rfl, rfl⟩) | (go_at_call 127; (with_reducible refine P.mono ?_); rintro e w' ⟨rfl, rfl⟩))
    go_ret
    exact ⟨rfl, B0⟩
  have bx := box3_new w (.int .i64 s) v1 v2 50
  have HI2 := Lib.hid i2
  rcases i2.cases with ⟨rfl, a, cap, rfl⟩ | ⟨hpos, hlen, b, off, cap, V0, rfl, hbb, hcell⟩
  · have hr : termB s U [] = true := by rw [termB_all HSE.out HP.out (by simp) (fun k hk => absurd hk (Nat.not_lt_zero _))]; simp
    rw [hr]
    clear hr
    have x2 := bx.c2
    go_enter Try.func112, Try.ntmps112
    go_wp2_with (first | (go_at_call 85; (with_reducible refine (M _).mono ?_); rintro e w' ⟨rfl, rfl⟩) | (go_at_call 127; (with_reducible refine P.mono ?_); rintro e w' ⟨rfl, rfl⟩))
    refine wp_loop_rounds 1 ?_
    rw [rounds_succ]
    go_wp2
    go_quiet (fail)
    go_wp2
    go_ret
    exact ⟨rfl, B0.trans (below_draws _ _ _)⟩
  obtain ⟨n, hn⟩ : ∃ n, n = G.length := ⟨_, rfl⟩
  have BX := Lib.hid bx
  clear bx i2
  rw [← hn] at hlen hpos h3 P BX ⊢
  have HN := Lib.hid hn; clear hn
  have HC := Lib.hid hcell; clear hcell
  rw [← HN.out] at B0 HI2
  have HB0 := Lib.hid B0
  have x2 := BX.out.c2
  clear B0 i1
  go_enter Try.func112, Try.ntmps112
  go_wp2_with (first | (go_at_call 85; (with_reducible refine (M _).mono ?_); rintro e w' ⟨rfl, rfl⟩) | (go_at_call 127; (with_reducible refine P.mono ?_); rintro e w' ⟨rfl, rfl⟩))
  clear M P x2
  generalize w.alloc (.cells #[.int .i64 s, v1, .slice (some ⟨b, off, none⟩) n cap] 50) = w1 at *
  go_loopw [4, 24] (fun g i wr => ∃ (d k : Nat), k ≤ n ∧ i = .int .i64 k ∧ Hid (wr = w1.drewN d) ∧ Hid (∀ j, j < k → genB (G.getD j []) = true)) (fun _ i _ => n - (intOf i).toNat)
  case atStart => exact ⟨0, 0, by omega, rfl, Lib.hid rfl, fun j hj => absurd hj (Nat.not_lt_zero _)⟩
  case round =>
    obtain ⟨d, k, hk, rfl, HW, hall⟩ := hrel
    have HBW := Lib.hid (show Below w.heap.size w wr by rw [HW.out]; exact HB0.out.trans (below_draws _ _ _))
    by_cases hlt : k < n
    · have hkl : k < G.length := by rw [← HN.out]; exact hlt
      have hck := (HBW.out.cell (p := ⟨b, off + k, none⟩) (Nat.lt_of_lt_of_le hbb hhb)).trans (HC.out k hkl).1
      have hrow := (HC.out k hkl).2.keep HBW.out hhb
      have Q := isPoint_any _ _ 30 hb wr hrow (by omega) (by omega)
      cases g1 : ptB (G.getD k []) 30
      · have HR := Lib.hid (termB_no (s := s) (U := U) hkl (by simp only [genB, g1]; rfl))
        rw [g1] at Q
        clear g1 hkl hrow
        generalize V0 k = xk at *
        go_wp2_with (go_at_call 127; (with_reducible refine Q.mono ?_); rintro e w' ⟨rfl, rfl⟩)
        go_ret
        exact ⟨ret_bool HR.out.symm, HBW.out⟩
      · rw [g1] at Q
        have bd := ptB_bd g1 (by omega)
        have A := gcdAll_any _ _ hb wr hrow 1000000000 (by omega) bd.2.2
        by_cases g2 : gcdL (G.getD k []) = 0
        · have HR := Lib.hid (termB_no (s := s) (U := U) hkl (by simp only [genB, g2]; simp))
          have hz : (gcdL (G.getD k []) == 0) = true := by simpa using g2
          clear g1 g2 bd hkl hrow
          generalize gcdL (G.getD k []) = gg at *
          generalize V0 k = xk at *
          go_wp2_with (first | (go_at_call 127; (with_reducible refine Q.mono ?_); rintro e w' ⟨rfl, rfl⟩) | (go_at_call 134; (with_reducible refine A.mono ?_); rintro e w' ⟨rfl, d2, rfl⟩))
          go_ret
          exact ⟨ret_bool HR.out.symm, HBW.out.trans (below_draws _ _ _)⟩
        · have hz : (gcdL (G.getD k []) == 0) = false := by simpa using g2
          have HALL := Lib.hid (fun j (hj : j < k + 1) => show genB (G.getD j []) = true by
            by_cases e : j = k
            · subst e; simp only [genB, g1, Bool.true_and]; exact decide_eq_true g2
            · exact hall.out j (by omega))
          clear g1 g2 bd hkl hrow
          generalize gcdL (G.getD k []) = gg at *
          generalize V0 k = xk at *
          go_wp2_with (first | (go_at_call 127; (with_reducible refine Q.mono ?_); rintro e w' ⟨rfl, rfl⟩) | (go_at_call 134; (with_reducible refine A.mono ?_); rintro e w' ⟨rfl, d2, rfl⟩))
          go_roundw
          case rel => exact ⟨d + d2, k + 1, by omega, by go_num, Lib.hid (by rw [HW.out, World.drewN_drewN]), HALL⟩
          case measure => simp [intOf]; omega
    · obtain rfl : k = n := by omega
      have BXW := Lib.hid (BX.out.keep (show Below w1.heap.size w1 wr by rw [HW.out]; exact below_draws _ _ _))
      have x2 := BXW.out.c2
      have HFIN := Lib.hid (termB_all HSE.out HP.out (by rw [← HN.out]; exact h3) (fun j hj => hall.out j (by rw [HN.out]; exact hj)))
      by_cases h2 : k = 2
      · subst h2
        have c0 := (HBW.out.cell (p := ⟨b, off, none⟩) (Nat.lt_of_lt_of_le hbb hhb)).trans (HC.out 0 (by rw [← HN.out]; omega)).1
        have c1 := (HBW.out.cell (p := ⟨b, off + 1, none⟩) (Nat.lt_of_lt_of_le hbb hhb)).trans (HC.out 1 (by rw [← HN.out]; omega)).1
        have r0 := (HC.out 0 (by rw [← HN.out]; omega)).2.keep HBW.out hhb
        have r1 := (HC.out 1 (by rw [← HN.out]; omega)).2.keep HBW.out hhb
        have p0 := hall.out 0 (by omega)
        have p1 := hall.out 1 (by omega)
        simp only [genB, Bool.and_eq_true] at p0 p1
        have b0 := ptB_bd p0.1 (by omega)
        have b1 := ptB_bd p1.1 (by omega)
        have X := fun n => cross_any _ _ _ _ hb hb (wr.drewN n) (r0.draws n) (r1.draws n) b0.1 b1.1 b0.2.1 b1.2.1
        have HRR := Lib.hid (show termB s U G = (crossI (G.getD 0 []) (G.getD 1 []) != 0) by rw [HFIN.out, ← HN.out, Bool.eq_iff_iff]; simp)
        clear p0 p1 b0 b1 r0 r1
        generalize crossI (G.getD 0 []) (G.getD 1 []) = cc at *
        generalize V0 0 = x0 at *
        generalize V0 1 = x1 at *
        go_wp2
        go_quiet ((go_at_call 158; exact Calls.quiet_of (X _)))
        go_wp2
        go_ret
        exact ⟨ret_bool HRR.out.symm, HBW.out.trans (below_draws _ _ _)⟩
      · have hk1 : k = 1 := by omega
        subst hk1
        have HRR := Lib.hid (show termB s U G = true by rw [HFIN.out, ← HN.out]; simp)
        go_wp2
        go_quiet (fail)
        go_wp2
        go_ret
        exact ⟨ret_bool HRR.out.symm, HBW.out.trans (below_draws _ _ _)⟩
end Go.Proofs.Ytehhoplenloocaa

/- Terms: IsTerm of the model. -/
namespace Go.Proofs.Ytehhoplenloocaa
open Go.RowKit
set_option linter.unusedVariables false
set_option linter.unusedSimpArgs false

theorem vec_pt (U : List Int) : (vecB U && decide (U.length = 2)) = ptB U 1000 := by
  unfold vecB ptB
  by_cases h : U.length = 2
  · rw [h, decide_eq_true rfl]; simp [inB]
  · rw [decide_eq_false h]; simp

theorem vec_pt30 {g : List Int} (h : g.length = 2) : ptB g 30 = allIn g (-30) 30 := by unfold ptB; rw [decide_eq_true h]; rfl
set_option maxHeartbeats 2000000 in
theorem specIsTerm_any (s : Int) (U : List Int) (G : List (List Int)) (v1 v2 : Value) (hb : Nat) (w : World) (hs : -9223372036854775808 ≤ s ∧ s ≤ 9223372036854775807) (i1 : ISr w hb v1 U) (i2 : ISSr w hb v2 G) (hhb : hb ≤ w.heap.size) :
    Calls Try.prog 114 #[.agg #[.int .i64 s, v1, v2]] w fun e w' => e = .returned (.bool (termB s U G)) ∧ Below w.heap.size w w' := by
  have B0 := below1 w (.cells #[.int .i64 s, v1, v2] 50)
  have bx := box3_new w (.int .i64 s) v1 v2 50
  obtain ⟨n, hn⟩ : ∃ n, n = G.length := ⟨_, rfl⟩
  obtain ⟨au, cu, hvu, -, hcu, -⟩ := id i1
  obtain ⟨a, cap, hv2, hc2, hcm, hcell⟩ := id i2
  unfold maxLen at hcm hcu
  subst hvu
  subst hv2
  rw [← hn] at B0 bx hc2 ⊢
  have hlen : n ≤ 9223372036854775807 := by omega
  have HN := Lib.hid hn
  have HC := Lib.hid hcell
  have HI1 := Lib.hid i1
  have HB0 := Lib.hid B0
  have BX := Lib.hid bx
  clear hn hcell i1 i2 B0 bx hcm hcu hc2
  go_enter Try.func114, Try.ntmps114
  go_wp2
  generalize w.alloc (.cells #[.int .i64 s, .slice au U.length cu, .slice a n cap] 50) = w1 at *
  go_loopw [3] (fun i wr => ∃ (d k : Nat), k ≤ n ∧ i = .int .i64 k ∧ Hid (wr = w1.drewN d) ∧ Hid (∀ j, j < k → genB (G.getD j []) = true)) (fun i _ => n - (intOf i).toNat)
  case atStart => exact ⟨0, 0, by omega, rfl, Lib.hid rfl, fun j hj => absurd hj (Nat.not_lt_zero _)⟩
  case round =>
    obtain ⟨d, k, hk, rfl, HW, hall⟩ := hrel
    have HBW := Lib.hid (show Below w.heap.size w wr by rw [HW.out]; exact HB0.out.trans (below_draws _ _ _))
    have BXW := Lib.hid (BX.out.keep (show Below w1.heap.size w1 wr by rw [HW.out]; exact below_draws _ _ _))
    have x2 := BXW.out.c2
    by_cases hlt : k < n
    · have hkl : k < G.length := by rw [← HN.out]; exact hlt
      obtain ⟨b, off, V, rfl, hbb, hcc⟩ := HC.out (by intro e; rw [e] at hkl; exact absurd hkl (Nat.not_lt_zero _))
      have hck := (HBW.out.cell (p := ⟨b, off + k, none⟩) (Nat.lt_of_lt_of_le hbb hhb)).trans (hcc k hkl).1
      have hrow := (hcc k hkl).2.keep HBW.out hhb
      have Q := l2Small_any _ _ 30 hb wr hrow (by omega) (by omega)
      have hgp := fun (h2 : (G.getD k []).length = 2) => vec_pt30 h2
      have hno := termB_no (s := s) (U := U) hkl
      obtain ⟨ar, cr, hvr, -⟩ := id hrow
      clear hcc hkl
      generalize hgg : G.getD k [] = g at *
      generalize V k = xk at *
      by_cases h2 : g.length = 2
      case neg =>
        have HR := Lib.hid (hno (by simp [genB, ptB, h2]))
        have hne : ((g.length : Int) != 2) = true := by rw [bne_iff_ne]; omega
        clear hno h2 hgp hrow Q hgg
        subst hvr
        generalize g.length = m at *
        go_wp2
        go_ret
        exact ⟨ret_bool HR.out.symm, HBW.out⟩
      have hgp := hgp h2
      rw [h2] at hvr
      cases h3 : allIn g (-30) 30
      · have HR := Lib.hid (hno (by simp [genB, hgp, h3]))
        rw [h3] at Q
        clear hno h2 hgp hrow hgg h3
        subst hvr
        go_wp2_with (go_at_call 148; (with_reducible refine Q.mono ?_); rintro e w' ⟨rfl, d2, rfl⟩)
        go_ret
        exact ⟨ret_bool HR.out.symm, HBW.out.trans (below_draws _ _ _)⟩
      · have bd := ptB_bd (hgp.trans h3) (by omega)
        have A := fun d2 => l2All_any _ _ hb (wr.drewN d2) (hrow.draws d2) 1000000000 (by omega) bd.2.2
        rw [h3] at Q
        by_cases h4 : gcdL g = 0
        · have HR := Lib.hid (hno (by simp only [genB, h4]; simp))
          have hz : (gcdL g == 0) = true := by simpa using h4
          clear hno h2 hgp hrow hgg h3 h4 bd
          subst hvr
          generalize gcdL g = gg at *
          go_wp2_with (first | (go_at_call 148; (with_reducible refine Q.mono ?_); rintro e w' ⟨rfl, d2, rfl⟩) | (go_at_call 159; (with_reducible refine (A _).mono ?_); rintro e w' ⟨rfl, rfl⟩))
          go_ret
          exact ⟨ret_bool HR.out.symm, HBW.out.trans (below_draws _ _ _)⟩
        · have hz : (gcdL g == 0) = false := by simpa using h4
          have HALL := Lib.hid (fun j (hj : j < k + 1) => show genB (G.getD j []) = true by
            by_cases e : j = k
            · subst e; rw [hgg]; simp only [genB, hgp, h3, Bool.true_and]; exact decide_eq_true h4
            · exact hall.out j (by omega))
          clear hno h2 hgp hrow hgg h3 h4 bd
          subst hvr
          generalize gcdL g = gg at *
          go_wp2_with (first | (go_at_call 148; (with_reducible refine Q.mono ?_); rintro e w' ⟨rfl, d2, rfl⟩) | (go_at_call 159; (with_reducible refine (A _).mono ?_); rintro e w' ⟨rfl, rfl⟩))
          go_roundw
          case rel => exact ⟨d + d2, k + 1, by omega, by go_num, Lib.hid (by rw [HW.out, World.drewN_drewN]), HALL⟩
          case measure => simp [intOf]; omega
    · obtain rfl : k = n := by omega
      have x0 := BXW.out.c0
      have x1 := BXW.out.c1
      have HG := Lib.hid (all_getD (p := genB) (fun j hj => hall.out j (by rw [HN.out]; exact hj)))
      have HI := Lib.hid (HI1.out.keep HBW.out hhb)
      have IV := fun d2 => specIsVector_any U (.slice au U.length cu) hb (wr.drewN d2) (HI.out.draws d2)
      by_cases h2 : k = 2
      · subst h2
        obtain ⟨b, off, V, rfl, hbb, hcc⟩ := HC.out (by intro e; have := HN.out; rw [e] at this; cases this)
        have c0 := (HBW.out.cell (p := ⟨b, off, none⟩) (Nat.lt_of_lt_of_le hbb hhb)).trans (hcc 0 (by rw [← HN.out]; omega)).1
        have c1 := (HBW.out.cell (p := ⟨b, off + 1, none⟩) (Nat.lt_of_lt_of_le hbb hhb)).trans (hcc 1 (by rw [← HN.out]; omega)).1
        have r0 := (hcc 0 (by rw [← HN.out]; omega)).2.keep HBW.out hhb
        have r1 := (hcc 1 (by rw [← HN.out]; omega)).2.keep HBW.out hhb
        have p0 := hall.out 0 (by omega)
        have p1 := hall.out 1 (by omega)
        simp only [genB, Bool.and_eq_true] at p0 p1
        have b0 := ptB_bd p0.1 (by omega)
        have b1 := ptB_bd p1.1 (by omega)
        have X := fun n => l7Cross_any _ _ _ _ hb hb (wr.drewN n) (r0.draws n) (r1.draws n) b0.1 b1.1 b0.2.1 b1.2.1
        have HRR := Lib.hid (show termB s U G = (decide (s = 1 ∨ s = -1) && (vecB U && decide (U.length = 2)) && (crossI (G.getD 0 []) (G.getD 1 []) != 0)) by
          unfold termB; rw [HG.out, ← HN.out, vec_pt, Bool.eq_iff_iff]; simp)
        clear p0 p1 b0 b1 r0 r1 hcc
        generalize crossI (G.getD 0 []) (G.getD 1 []) = cc at *
        generalize V 0 = y0 at *
        generalize V 1 = y1 at *
        by_cases hc : cc = 0
        · subst hc
          go_wp2
          go_quiet ((go_at_call 133; exact Calls.quiet_of (X _)))
          go_wp2
          go_ret
          exact ⟨ret_bool (by rw [HRR.out]; simp), HBW.out.trans (below_draws _ _ _)⟩
        · have hz : (cc == 0) = false := by simpa using hc
          have hc' : (cc != 0) = true := by simpa using hc
          rw [hc'] at HRR
          clear hc hc'
          generalize vecB U = vu at *
          generalize U.length = lu at *
          go_wp2
          go_quiet ((go_at_call 133; exact Calls.quiet_of (X _)))
          go_wp2_with (go_at_call 93; (with_reducible refine (IV _).mono ?_); rintro e w' ⟨rfl, d2, rfl⟩)
          all_goals go_ret
          all_goals refine ⟨ret_bool ?_, HBW.out.trans (below_draws _ _ _)⟩
          all_goals rw [HRR.out]
          all_goals clear HRR X IV HC
          all_goals first | (simp [*]; done) | (simp [*]; omega)
      · have HRR := Lib.hid (show termB s U G = (decide (s = 1 ∨ s = -1) && (vecB U && decide (U.length = 2)) && decide (k ≤ 2)) by
          unfold termB; rw [HG.out, ← HN.out, vec_pt, Bool.eq_iff_iff]; simp [h2])
        have h2' : ((k : Int) == 2) = false := by rw [beq_eq_false_iff_ne]; omega
        clear HC h2
        generalize vecB U = vu at *
        generalize U.length = lu at *
        go_wp2
        go_quiet (fail)
        go_wp2_with (go_at_call 93; (with_reducible refine (IV _).mono ?_); rintro e w' ⟨rfl, d2, rfl⟩)
        all_goals go_ret
        all_goals refine ⟨ret_bool ?_, HBW.out.trans (below_draws _ _ _)⟩
        all_goals rw [HRR.out]
        all_goals clear HRR IV
        all_goals first | (simp [*]; done) | (rw [Bool.eq_iff_iff]; simp [*]; omega)
end Go.Proofs.Ytehhoplenloocaa

/- Sums of generators: the plain law. No program in sight. -/
namespace Go.Proofs.Ytehhoplenloocaa
set_option linter.unusedVariables false
set_option linter.unusedSimpArgs false

def hit1 (g x : List Int) : Bool :=
  let i := if g.getD 0 0 = 0 then 1 else 0
  decide (0 ≤ (x.getD i 0).tdiv (g.getD i 0)) && decide (g.map (· * (x.getD i 0).tdiv (g.getD i 0)) = x)
def hit2 (d a b : Int) : Bool := decide (a.tmod d = 0) && decide (b.tmod d = 0) && decide (0 ≤ a.tdiv d) && decide (0 ≤ b.tdiv d)
def hitsB (G : List (List Int)) (x : List Int) : Bool :=
  if G.length = 0 then decide (x.getD 0 0 = 0) && decide (x.getD 1 0 = 0)
  else if G.length = 1 then hit1 (G.getD 0 []) x
  else hit2 (crossI (G.getD 0 []) (G.getD 1 [])) (crossI x (G.getD 1 [])) (crossI (G.getD 0 []) x)

theorem gcdL_two {x : List Int} (h : x.length = 2) : gcdL x = (Int.gcd (x.getD 0 0) (x.getD 1 0) : Int) := by
  rw [two_list h]
  show gcdI (gcdI 0 _) _ = _
  unfold gcdI
  simp [Int.gcd]
theorem gcdL_zero {x : List Int} (h : x.length = 2) : gcdL x = 0 ↔ (x.getD 0 0 = 0 ∧ x.getD 1 0 = 0) := by
  rw [gcdL_two h]
  constructor
  · intro e
    have : Int.gcd (x.getD 0 0) (x.getD 1 0) = 0 := by omega
    exact Int.gcd_eq_zero_iff.1 this
  · rintro ⟨h1, h2⟩; rw [h1, h2]; rfl

theorem bezN (a b : Nat) : ∃ u v : Int, u * a + v * b = (Nat.gcd a b : Int) := by
  induction a, b using Nat.gcd.induction with
  | H0 n => exact ⟨0, 1, by simp⟩
  | H1 m n hm ih =>
    obtain ⟨u, v, h⟩ := ih
    refine ⟨v - u * ((n / m : Nat) : Int), u, ?_⟩
    rw [Nat.gcd_rec m n, ← h]
    have e : (n : Int) = (m : Int) * ((n / m : Nat) : Int) + ((n % m : Nat) : Int) := by
      have := Nat.div_add_mod n m
      rw [← Int.natCast_mul, ← Int.natCast_add, this]
    generalize ((n / m : Nat) : Int) = d at *
    generalize ((n % m : Nat) : Int) = r at *
    rw [e]; grind
theorem bez (p q : Int) : ∃ u v : Int, u * p + v * q = (Int.gcd p q : Int) := by
  obtain ⟨u, v, h⟩ := bezN p.natAbs q.natAbs
  rcases Int.natAbs_eq p with hp | hp <;> rcases Int.natAbs_eq q with hq | hq
  · exact ⟨u, v, by rw [← hp, ← hq] at h; exact h⟩
  · exact ⟨u, -v, by rw [← hp] at h; rw [show (q.natAbs : Int) = -q by omega] at h; rw [← Int.neg_mul_comm] at h; exact h⟩
  · exact ⟨-u, v, by rw [← hq] at h; rw [show (p.natAbs : Int) = -p by omega] at h; rw [← Int.neg_mul_comm] at h; exact h⟩
  · exact ⟨-u, -v, by rw [show (q.natAbs : Int) = -q by omega, show (p.natAbs : Int) = -p by omega] at h; rw [← Int.neg_mul_comm, ← Int.neg_mul_comm] at h; exact h⟩
theorem sq_nonneg (a : Int) : 0 ≤ a * a := by
  rcases Int.le_total 0 a with h | h
  · exact Int.mul_nonneg h h
  · exact Int.mul_nonneg_of_nonpos_of_nonpos h h
theorem sq_pos {a : Int} (h : a ≠ 0) : 0 < a * a := by
  rcases Int.lt_or_gt_of_ne h with g | g
  · exact Int.mul_pos_of_neg_of_neg g g
  · exact Int.mul_pos g g
/-- a multiple of a vector, by cross and dot -/
theorem multiple_iff (p q x y : Int) (h : p ≠ 0 ∨ q ≠ 0) :
    (∃ n : Int, 0 ≤ n ∧ x = p * n ∧ y = q * n) ↔ (p * y - q * x = 0 ∧ 0 ≤ p * x + q * y ∧ (Int.gcd p q : Int) ∣ (Int.gcd x y : Int)) := by
  have hpos : 0 < p * p + q * q := by
    have h1 := sq_nonneg p
    have h2 := sq_nonneg q
    rcases h with h | h
    · have := sq_pos h; omega
    · have := sq_pos h; omega
  constructor
  · rintro ⟨n, hn, rfl, rfl⟩
    refine ⟨by grind, ?_, ?_⟩
    · have : p * (p * n) + q * (q * n) = (p * p + q * q) * n := by grind
      rw [this]; exact Int.mul_nonneg (by omega) hn
    · exact Int.dvd_coe_gcd (Int.dvd_mul_of_dvd_left (Int.gcd_dvd_left ..)) (Int.dvd_mul_of_dvd_left (Int.gcd_dvd_right ..))
  · rintro ⟨hc, hd, hg⟩
    obtain ⟨u, v, hb⟩ := bez p q
    have hh : (Int.gcd p q : Int) ≠ 0 := by
      intro e
      have : Int.gcd p q = 0 := by omega
      have := Int.gcd_eq_zero_iff.1 this
      omega
    obtain ⟨x', hx⟩ := Int.dvd_trans hg (Int.gcd_dvd_left x y)
    obtain ⟨y', hy⟩ := Int.dvd_trans hg (Int.gcd_dvd_right x y)
    generalize (Int.gcd p q : Int) = d at *
    have e1 : p * (u * x' + v * y') = x := by
      have : d * (p * (u * x' + v * y')) = d * x := by grind
      exact Int.eq_of_mul_eq_mul_left hh this
    have e2 : q * (u * x' + v * y') = y := by
      have : d * (q * (u * x' + v * y')) = d * y := by grind
      exact Int.eq_of_mul_eq_mul_left hh this
    refine ⟨u * x' + v * y', ?_, e1.symm, e2.symm⟩
    generalize u * x' + v * y' = n at *
    rcases Int.le_total 0 n with g | g
    · exact g
    · have : (p * p + q * q) * n = p * x + q * y := by rw [← e1, ← e2]; grind
      by_cases hn : n = 0
      · omega
      · have := Int.mul_neg_of_pos_of_neg hpos (show n < 0 by omega); omega

theorem hit1_def (g x : List Int) : (g.getD 0 0 = 0 → hit1 g x = (decide (0 ≤ (x.getD 1 0).tdiv (g.getD 1 0)) && decide (g.map (· * (x.getD 1 0).tdiv (g.getD 1 0)) = x))) ∧
    (g.getD 0 0 ≠ 0 → hit1 g x = (decide (0 ≤ (x.getD 0 0).tdiv (g.getD 0 0)) && decide (g.map (· * (x.getD 0 0).tdiv (g.getD 0 0)) = x))) := by
  unfold hit1
  constructor
  · intro h; rw [if_pos h]
  · intro h; rw [if_neg h]
theorem hit1_iff {g x : List Int} (hg : g.length = 2) (hx : x.length = 2) (h : g.getD 0 0 ≠ 0 ∨ g.getD 1 0 ≠ 0) :
    hit1 g x = true ↔ ∃ n : Int, 0 ≤ n ∧ x.getD 0 0 = g.getD 0 0 * n ∧ x.getD 1 0 = g.getD 1 0 * n := by
  unfold hit1
  rw [two_list hg, two_list hx]
  generalize g.getD 0 0 = p at *
  generalize g.getD 1 0 = q at *
  generalize x.getD 0 0 = a at *
  generalize x.getD 1 0 = b at *
  by_cases hp : p = 0
  · subst hp
    have hq : q ≠ 0 := by omega
    simp
    constructor
    · rintro ⟨h1, h2, h3⟩; exact ⟨_, h1, h2.symm, h3.symm⟩
    · rintro ⟨n, hn, rfl, rfl⟩
      rw [Int.mul_tdiv_cancel_left _ hq]; exact ⟨hn, rfl, rfl⟩
  · simp [hp]
    constructor
    · rintro ⟨h1, h2, h3⟩; exact ⟨_, h1, h2.symm, h3.symm⟩
    · rintro ⟨n, hn, rfl, rfl⟩
      rw [Int.mul_tdiv_cancel_left _ hp]; exact ⟨hn, rfl, rfl⟩
/-- the program's test for one generator -/
theorem hit1_prog {g x : List Int} (hg : g.length = 2) (hx : x.length = 2) (h : gcdL g ≠ 0) :
    hit1 g x = (decide (crossI g x = 0) && decide (0 ≤ dotI g x) && decide ((gcdL x).tmod (gcdL g) = 0)) := by
  have h0 : g.getD 0 0 ≠ 0 ∨ g.getD 1 0 ≠ 0 := by
    rcases Classical.em (g.getD 0 0 = 0) with e | e
    · right; intro e2; exact h ((gcdL_zero hg).2 ⟨e, e2⟩)
    · exact .inl e
  rw [Bool.eq_iff_iff, hit1_iff hg hx h0, multiple_iff _ _ _ _ h0]
  rw [gcdL_two hg, gcdL_two hx]
  have hdot : dotI g x = g.getD 0 0 * x.getD 0 0 + g.getD 1 0 * x.getD 1 0 := by
    unfold dotI; rw [hg]; simp only [dotK]; omega
  rw [hdot]
  have hcr : crossI g x = g.getD 0 0 * x.getD 1 0 - g.getD 1 0 * x.getD 0 0 := rfl
  rw [hcr]
  generalize g.getD 0 0 * x.getD 1 0 - g.getD 1 0 * x.getD 0 0 = A
  generalize g.getD 0 0 * x.getD 0 0 + g.getD 1 0 * x.getD 1 0 = B
  simp [and_assoc, Int.dvd_iff_tmod_eq_zero]
end Go.Proofs.Ytehhoplenloocaa

/- Sums of generators: the walks. -/
namespace Go.Proofs.Ytehhoplenloocaa
open Go.RowKit
set_option linter.unusedVariables false
set_option linter.unusedSimpArgs false

/-- the generators of a right term -/
structure GensOk (G : List (List Int)) : Prop where
  len : G.length ≤ 2
  gen : ∀ k, k < G.length → genB (G.getD k []) = true
  two : G.length = 2 → crossI (G.getD 0 []) (G.getD 1 []) ≠ 0
theorem GensOk.at {G : List (List Int)} (h : GensOk G) {k : Nat} (hk : k < G.length) : (G.getD k []).length = 2 ∧ allIn (G.getD k []) (-30) 30 = true ∧ allIn (G.getD k []) (-1000000000) 1000000000 = true ∧ gcdL (G.getD k []) ≠ 0 := by
  have := h.gen k hk
  simp only [genB, Bool.and_eq_true, decide_eq_true_eq] at this
  have b := ptB_bd this.1 (by omega)
  exact ⟨b.1, (ptB_len this.1).2, b.2.1, this.2⟩
theorem gens_of_term {s : Int} {U : List Int} {G : List (List Int)} (h : termB s U G = true) : GensOk G ∧ ptB U 1000 = true ∧ (s = 1 ∨ s = -1) := by
  unfold termB at h
  simp only [Bool.and_eq_true, decide_eq_true_eq] at h
  obtain ⟨⟨⟨⟨h1, h2⟩, h3⟩, h4⟩, h5⟩ := h
  refine ⟨⟨h3, fun k hk => ?_, h5⟩, h2, h1⟩
  rw [List.all_eq_true] at h4
  rw [List.getD_eq_getElem?_getD, List.getElem?_eq_getElem hk]
  exact h4 _ (List.getElem_mem hk)
theorem tdiv_bd (a d : Int) (hd : d ≠ 0) (M : Int) (h1 : -M ≤ a) (h2 : a ≤ M) : -M ≤ a.tdiv d ∧ a.tdiv d ≤ M := by
  have : (a.tdiv d).natAbs ≤ a.natAbs := by rw [Int.natAbs_tdiv]; exact Nat.div_le_self _ _
  omega
theorem cross_small {a b : List Int} (la : a.length = 2) (lb : b.length = 2) (ha : allIn a (-1000000) 1000000 = true) (hb : allIn b (-1000000) 1000000 = true) : -2000000000000 ≤ crossI a b ∧ crossI a b ≤ 2000000000000 := by
  have p0 := allIn_at ha 0 (by omega)
  have p1 := allIn_at ha 1 (by omega)
  have q0 := allIn_at hb 0 (by omega)
  have q1 := allIn_at hb 1 (by omega)
  have key : ∀ {x y : Int}, -1000000 ≤ x → x ≤ 1000000 → -1000000 ≤ y → y ≤ 1000000 → -1000000000000 ≤ x * y ∧ x * y ≤ 1000000000000 := by
    intro x y h1 h2 h3 h4
    rcases Int.le_total 0 y with h | h
    · have := mul_bd2 (a := x) (b := y) (M := 1000000) (N := 1000000) h1 h2 h h4 (by omega); omega
    · have := mul_bd2 (a := x) (b := -y) (M := 1000000) (N := 1000000) h1 h2 (by omega) (by omega) (by omega)
      rw [Int.mul_neg] at this; omega
  have h1 := key p0.1 p0.2 q1.1 q1.2
  have h2 := key p1.1 p1.2 q0.1 q0.2
  unfold crossI; omega

end Go.Proofs.Ytehhoplenloocaa

/- Sums of generators: the model's walk. -/
namespace Go.Proofs.Ytehhoplenloocaa
open Go.RowKit
set_option linter.unusedVariables false
set_option linter.unusedSimpArgs false

end Go.Proofs.Ytehhoplenloocaa

/- TermAt: the walks. -/
namespace Go.Proofs.Ytehhoplenloocaa
open Go.RowKit
set_option linter.unusedVariables false
set_option linter.unusedSimpArgs false

def termAt (s : Int) (U : List Int) (G : List (List Int)) (x : List Int) : Int :=
  if termB s U G && vecB x && decide (x.length = 2) && hitsB G (minusI x U) then s else 0
theorem vecB_bd {x : List Int} (h : vecB x = true) : allIn x (-1000) 1000 = true := by
  unfold vecB at h; simp only [Bool.and_eq_true] at h; exact h.2
theorem allIn_two {x y m : Int} (hx : -m ≤ x ∧ x ≤ m) (hy : -m ≤ y ∧ y ≤ m) : allIn [x, y] (-m) m = true := by
  simp [allIn, inB]; omega
theorem minusI_bd {x U : List Int} (lx : x.length = 2) (lU : U.length = 2) (hx : allIn x (-1000) 1000 = true) (hU : allIn U (-1000) 1000 = true) : allIn (minusI x U) (-1000000) 1000000 = true := by
  have a0 := allIn_at hx 0 (by omega)
  have a1 := allIn_at hx 1 (by omega)
  have b0 := allIn_at hU 0 (by omega)
  have b1 := allIn_at hU 1 (by omega)
  exact allIn_two (by omega) (by omega)

end Go.Proofs.Ytehhoplenloocaa

/- TermAt of the model: the walk. -/
namespace Go.Proofs.Ytehhoplenloocaa
open Go.RowKit
set_option linter.unusedVariables false
set_option linter.unusedSimpArgs false

end Go.Proofs.Ytehhoplenloocaa

/- Powers modulo 10007: Fermat's theorem by calculation, exponents modulo 10006. No program in sight. -/
namespace Go.Proofs.Ytehhoplenloocaa

/-- a power of a whole number, modulo 10007 -/
def pmN (a n : Nat) : Nat := a ^ n % 10007
def chkP : Nat → Bool
  | 0 => true
  | n + 1 => Nat.beq (pmN (n + 1) 10006) 1 && chkP n
theorem chkP_all : chkP 10006 = true := by decide +kernel
theorem chkP_at (N : Nat) (hN : chkP N = true) (a : Nat) (h : 1 ≤ a) (h' : a ≤ N) : pmN a 10006 = 1 := by
  generalize he : 10006 = E at *
  induction N with
  | zero => omega
  | succ N ih =>
    unfold chkP at hN
    rw [he] at hN
    rw [Bool.and_eq_true] at hN
    by_cases e : a = N + 1
    · rw [e]; exact Nat.eq_of_beq_eq_true hN.1
    · exact ih hN.2 (by omega)
theorem fermatN (a : Nat) (h : 1 ≤ a) (h' : a ≤ 10006) : pmN a 10006 = 1 := chkP_at 10006 chkP_all a h h'
theorem pmN_add (a i j : Nat) : pmN a (i + j) = pmN a i * pmN a j % 10007 := by
  unfold pmN; rw [Nat.pow_add, Nat.mul_mod]
theorem pmN_mul (a i j : Nat) : pmN a (i * j) = pmN (pmN a i) j := by
  unfold pmN; rw [Nat.pow_mul, Nat.pow_mod]
theorem pmN_lt (a n : Nat) : pmN a n < 10007 := Nat.mod_lt _ (by omega)
theorem pmN_mod (a n : Nat) : pmN (a % 10007) n = pmN a n := by
  unfold pmN; rw [← Nat.pow_mod]
theorem pmN_period (a k r : Nat) (h : 1 ≤ a) (h' : a ≤ 10006) : pmN a (10006 * k + r) = pmN a r := by
  rw [pmN_add, pmN_mul]
  rw [fermatN a h h']
  have e : pmN 1 k = 1 := by unfold pmN; simp
  rw [e, Nat.one_mul]; exact Nat.mod_eq_of_lt (pmN_lt a r)
theorem pmN_cong (a i j : Nat) (h : 1 ≤ a) (h' : a ≤ 10006) (hij : i % 10006 = j % 10006) : pmN a i = pmN a j := by
  have e1 : i = 10006 * (i / 10006) + i % 10006 := by omega
  have e2 : j = 10006 * (j / 10006) + j % 10006 := by omega
  rw [e1, e2, pmN_period _ _ _ h h', pmN_period _ _ _ h h', hij]
theorem pmN_sq (a n : Nat) : pmN (a * a % 10007) n = pmN a (2 * n) := by
  rw [pmN_mod, pmN_mul]; show pmN (a * a) n = _
  have : pmN a 2 = a * a % 10007 := by unfold pmN; rw [Nat.pow_succ, Nat.pow_one]
  rw [this, pmN_mod]

/-- the power modulo 10007 of a number from 1 to 10006 with a whole exponent of either sign -/
def powP (a n : Int) : Int := if inB a 1 10006 && inB n (-1000000) 1000000 then (pmN a.toNat (n % 10006).toNat : Int) else 0
theorem powP_pos (a n : Int) (ha : 1 ≤ a) (ha' : a ≤ 10006) (hn : 0 ≤ n) : pmN a.toNat n.toNat = pmN a.toNat (n % 10006).toNat :=
  pmN_cong _ _ _ (by omega) (by omega) (by omega)
theorem powP_neg (a n : Int) (ha : 1 ≤ a) (ha' : a ≤ 10006) (hn : n < 0) : pmN (pmN a.toNat 10005) (-n).toNat = pmN a.toNat (n % 10006).toNat := by
  rw [← pmN_mul]
  refine pmN_cong _ _ _ (by omega) (by omega) ?_
  obtain ⟨m, rfl⟩ : ∃ m : Nat, n = -((m : Int) + 1) := ⟨(-n).toNat - 1, by omega⟩
  have e : (-(-((m : Int) + 1))).toNat = m + 1 := by omega
  rw [e]
  omega

theorem pm_odd (o x k : Nat) (hk : k % 2 = 1) : o * x % 10007 * pmN (x * x % 10007) (k / 2) % 10007 = o * pmN x k % 10007 := by
  have e : k = 1 + 2 * (k / 2) := by omega
  have h : pmN x k = pmN x 1 * pmN x (2 * (k / 2)) % 10007 := by
    rw [← pmN_add]; exact congrArg (pmN x) e
  rw [pmN_sq, h, Nat.mul_mod (o * x % 10007), Nat.mod_mod, ← Nat.mul_mod, Nat.mul_mod o, Nat.mod_mod, ← Nat.mul_mod]
  have h1 : pmN x 1 = x % 10007 := by unfold pmN; rw [Nat.pow_one]
  rw [h1, ← Nat.mul_assoc]
  rw [Nat.mul_mod (o * x), Nat.mul_mod (o * (x % 10007))]
  rw [Nat.mul_mod o x, Nat.mul_mod o (x % 10007), Nat.mod_mod]
theorem pm_even (o x k : Nat) (hk : k % 2 = 0) : o * pmN (x * x % 10007) (k / 2) % 10007 = o * pmN x k % 10007 := by
  have e : 2 * (k / 2) = k := by omega
  rw [pmN_sq, e]
end Go.Proofs.Ytehhoplenloocaa

/- Powers modulo 10007: the walks. -/
namespace Go.Proofs.Ytehhoplenloocaa
open Go.RowKit
set_option linter.unusedVariables false
set_option linter.unusedSimpArgs false

theorem loop_bd {x y : Nat} (hx : x < 10007) (hy : y < 10007) : 0 ≤ (x : Int) * y ∧ (x : Int) * y ≤ 100140049 := by
  have := Nat.mul_le_mul (Nat.le_of_lt hx) (Nat.le_of_lt hy)
  have e : (x : Int) * y = ((x * y : Nat) : Int) := by simp
  rw [e]; omega

set_option maxHeartbeats 1000000 in
theorem l11Power_any (a n : Nat) (w : World) (ha : a < 10007) (hn : n ≤ 9000000) :
    Calls Try.prog 117 #[.int .i64 a, .int .i64 n] w fun e w' => e = .returned (.int .i64 (pmN a n)) ∧ w = w' := by
  go_enter Try.func117, Try.ntmps117
  go_wp2
  go_loop [0, 1, 5] (fun x k o => ∃ (X K O : Nat), x = .int .i64 X ∧ k = .int .i64 K ∧ o = .int .i64 O ∧ X < 10007 ∧ K ≤ 9000000 ∧ O < 10007 ∧ O * pmN X K % 10007 = pmN a n)
    (fun _ k _ => (intOf k).toNat)
  case atStart => exact ⟨a, n, 1, rfl, rfl, rfl, ha, hn, by omega, by rw [Nat.one_mul]; exact Nat.mod_eq_of_lt (pmN_lt _ _)⟩
  case round =>
    obtain ⟨X, K, O, rfl, rfl, rfl, h1, h2, h3, hg⟩ := hrel
    have HG := Lib.hid hg; clear hg
    have b1 := loop_bd h3 h1
    have b2 := loop_bd h1 h1
    by_cases hk : K = 0
    · subst hk
      go_wp2
      go_ret
      refine ⟨ret_int ?_, rfl⟩
      have := HG.out
      unfold pmN at this ⊢
      rw [Nat.pow_zero, Nat.mod_eq_of_lt (show 1 < 10007 by omega), Nat.mul_one, Nat.mod_eq_of_lt h3] at this
      exact congrArg Int.ofNat this
    · by_cases hodd : K % 2 = 1
      · have ho : ((K : Int) % 2 == 1) = true := by rw [beq_iff_eq]; omega
        go_wp2
        go_round
        case rel => exact ⟨X * X % 10007, K / 2, O * X % 10007, by go_num, by go_num, by go_num, Nat.mod_lt _ (by omega), by omega, Nat.mod_lt _ (by omega), by rw [pm_odd _ _ _ hodd]; exact HG.out⟩
        case measure => simp [intOf]; omega
      · have ho : ((K : Int) % 2 == 1) = false := by rw [beq_eq_false_iff_ne]; omega
        go_wp2
        go_round
        case rel => exact ⟨X * X % 10007, K / 2, O, by go_num, by go_num, rfl, Nat.mod_lt _ (by omega), by omega, h3, by rw [pm_even _ _ _ (by omega)]; exact HG.out⟩
        case measure => simp [intOf]; omega

theorem l11Power_inv (a : Nat) (w : World) (ha : a < 10007) :
    Calls Try.prog 117 #[.int .i64 a, .int .i64 10005] w fun e w' => e = .returned (.int .i64 (pmN a 10005)) ∧ w = w' :=
  l11Power_any a 10005 w ha (by omega)

set_option maxHeartbeats 1000000 in
theorem specPowerMod_any (a n : Int) (w : World) :
    Calls Try.prog 60 #[.int .i64 a, .int .i64 n] w fun e w' => e = .returned (.int .i64 (powP a n)) ∧ w = w' := by
  by_cases h1 : inB a 1 10006 = true
  · by_cases h2 : inB n (-1000000) 1000000 = true
    · obtain ⟨ha, ha'⟩ := inB_iff.1 h1
      obtain ⟨hn, hn'⟩ := inB_iff.1 h2
      have hv : powP a n = (pmN a.toNat (n % 10006).toNat : Int) := by simp [powP, h1, h2]
      obtain ⟨A, rfl⟩ : ∃ A : Nat, a = A := ⟨a.toNat, by omega⟩
      rw [hv]; clear hv
      by_cases hs : n < 0
      · have hf := powP_neg A n ha ha' hs
        obtain ⟨M, rfl⟩ : ∃ M : Nat, n = -(M : Int) := ⟨(-n).toNat, by omega⟩
        rw [← hf]; clear hf
        rw [show (-(-(M : Int))).toNat = M from by omega, Int.toNat_natCast]
        have hlt := pmN_lt A 10005
        have HF := Lib.hid hlt
        go_enter Try.func60, Try.ntmps60
        go_wp2_with (first | (go_at_call 68; (with_reducible refine (l1In_any _ _ _ _).mono ?_); rintro e w' ⟨rfl, rfl⟩) | (go_at_call 117; first | ((with_reducible refine (l11Power_inv A _ (by omega)).mono ?_); rintro e w' ⟨rfl, rfl⟩) | ((with_reducible refine (l11Power_any (pmN A 10005) M _ HF.out (by omega)).mono ?_); rintro e w' ⟨rfl, rfl⟩)))
        go_ret
        exact ⟨rfl, rfl⟩
      · have hf := powP_pos A n ha ha' (by omega)
        obtain ⟨M, rfl⟩ : ∃ M : Nat, n = M := ⟨n.toNat, by omega⟩
        rw [← hf]; clear hf
        rw [Int.toNat_natCast, Int.toNat_natCast]
        go_enter Try.func60, Try.ntmps60
        go_wp2_with (first | (go_at_call 68; (with_reducible refine (l1In_any _ _ _ _).mono ?_); rintro e w' ⟨rfl, rfl⟩) | (go_at_call 117; ((with_reducible refine (l11Power_any A M _ (by omega) (by omega)).mono ?_); rintro e w' ⟨rfl, rfl⟩)))
        go_ret
        exact ⟨rfl, rfl⟩
    · have hv : powP a n = 0 := by simp [powP, h2]
      rw [hv]; clear hv
      go_enter Try.func60, Try.ntmps60
      go_wp2_with (go_at_call 68; (with_reducible refine (l1In_any _ _ _ _).mono ?_); rintro e w' ⟨rfl, rfl⟩)
      go_ret
      exact ⟨rfl, rfl⟩
  · have hv : powP a n = 0 := by simp [powP, h1]
    rw [hv]; clear hv
    go_enter Try.func60, Try.ntmps60
    go_wp2_with (go_at_call 68; (with_reducible refine (l1In_any _ _ _ _).mono ?_); rintro e w' ⟨rfl, rfl⟩)
    go_ret
    exact ⟨rfl, rfl⟩

theorem exp_red (n : Int) (hn : -1000000 ≤ n) (hn' : n ≤ 1000000) : 0 ≤ n.tmod 10006 + 10007 - 1 ∧ n.tmod 10006 + 10007 - 1 ≤ 20012 ∧ (n.tmod 10006 + 10007 - 1) % 10006 = n % 10006 := by
  have h := tmod_bd n 10006 (by omega)
  have h1 := Int.tmod_add_mul_tdiv n 10006
  have h2 : ((10006 : Int).natAbs : Int) = 10006 := rfl
  rw [h2] at h
  generalize n.tmod 10006 = r at *
  generalize n.tdiv 10006 = q at *
  omega

set_option maxHeartbeats 1000000 in
theorem power_any (A : Nat) (n : Int) (w : World) (hA : A < 10007) (hn : -1000000 ≤ n) (hn' : n ≤ 1000000) :
    Calls Try.prog 113 #[.int .i64 A, .int .i64 n] w fun e w' => e = .returned (.int .i64 (pmN A (n % 10006).toNat)) ∧ w = w' := by
  obtain ⟨e1, e2, e3⟩ := exp_red n hn hn'
  obtain ⟨N, hN⟩ : ∃ N : Nat, n % 10006 = N := ⟨(n % 10006).toNat, by omega⟩
  rw [hN] at e3 ⊢
  have hN6 : N < 10006 := by omega
  rw [Int.toNat_natCast]
  clear hN
  have e4 := tmod_bd n 10006 (by omega)
  simp at e4
  have E3 := Lib.hid e3; clear e3
  go_enter Try.func113, Try.ntmps113
  go_wp2
  go_loop [0, 1, 5] (fun x k o => ∃ (X K O : Nat), x = .int .i64 X ∧ k = .int .i64 K ∧ o = .int .i64 O ∧ X < 10007 ∧ K < 10006 ∧ O < 10007 ∧ O * pmN X K % 10007 = pmN A N)
    (fun _ k _ => (intOf k).toNat)
  case atStart => exact ⟨A, N, 1, rfl, congrArg (Value.int .i64) E3.out, rfl, hA, hN6, by omega, by rw [Nat.one_mul]; exact Nat.mod_eq_of_lt (pmN_lt _ _)⟩
  case round =>
    obtain ⟨X, K, O, rfl, rfl, rfl, h1, h2, h3, hg⟩ := hrel
    have HG := Lib.hid hg; clear hg
    have b1 := loop_bd h3 h1
    have b2 := loop_bd h1 h1
    by_cases hk : K = 0
    · subst hk
      go_wp2
      go_ret
      refine ⟨ret_int ?_, rfl⟩
      have := HG.out
      unfold pmN at this ⊢
      rw [Nat.pow_zero, Nat.mod_eq_of_lt (show 1 < 10007 by omega), Nat.mul_one, Nat.mod_eq_of_lt h3] at this
      exact congrArg Int.ofNat this
    · by_cases hodd : K % 2 = 1
      · have ho : ((K : Int) % 2 == 1) = true := by rw [beq_iff_eq]; omega
        go_wp2
        go_round
        case rel => exact ⟨X * X % 10007, K / 2, O * X % 10007, by go_num, by go_num, by go_num, Nat.mod_lt _ (by omega), by omega, Nat.mod_lt _ (by omega), by rw [pm_odd _ _ _ hodd]; exact HG.out⟩
        case measure => simp [intOf]; omega
      · have ho : ((K : Int) % 2 == 1) = false := by rw [beq_eq_false_iff_ne]; omega
        go_wp2
        go_round
        case rel => exact ⟨X * X % 10007, K / 2, O, by go_num, by go_num, rfl, Nat.mod_lt _ (by omega), by omega, h3, by rw [pm_even _ _ _ (by omega)]; exact HG.out⟩
        case measure => simp [intOf]; omega

end Go.Proofs.Ytehhoplenloocaa

/- PointsValue: the plain law and the walks. -/
namespace Go.Proofs.Ytehhoplenloocaa
open Go.RowKit
set_option linter.unusedVariables false
set_option linter.unusedSimpArgs false

def goodR (X : List Int) : Bool := vecB X && decide (X.length = 2)
def monI (X : List Int) (s u : Int) : Int := powP s (X.getD 0 0) * powP u (X.getD 1 0)
def accP (ls : List (List Int)) (s u : Int) : Nat → Int
  | 0 => 0
  | k + 1 => (accP ls s u k + monI (ls.getD k []) s u) % 10007
def ptsV (ls : List (List Int)) (s u : Int) : Int × Bool :=
  if inB s 1 10006 && inB u 1 10006 && ls.all goodR then (accP ls s u ls.length, true) else (0, false)
theorem ret_pts {p : Int × Bool} {a : Int} {b : Bool} (h : p = (a, b)) : Ending.returned (.tuple #[.int .i64 a, .bool b]) = Ending.returned (.tuple #[.int .i64 p.1, .bool p.2]) := by rw [h]
theorem powP_bd (a n : Int) : 0 ≤ powP a n ∧ powP a n < 10007 := by
  unfold powP
  split
  · unfold pmN
    have := Nat.mod_lt (a.toNat ^ (n % 10006).toNat) (show 0 < 10007 by omega)
    omega
  · omega
theorem monI_bd (X : List Int) (s u : Int) : 0 ≤ monI X s u ∧ monI X s u ≤ 100140049 := by
  have h1 := powP_bd s (X.getD 0 0)
  have h2 := powP_bd u (X.getD 1 0)
  unfold monI
  have := mul_bd2 (a := powP s (X.getD 0 0)) (b := powP u (X.getD 1 0)) (M := 10007) (N := 10007) (by omega) (by omega) h2.1 (by omega) (by omega)
  exact ⟨Int.mul_nonneg h1.1 h2.1, by omega⟩
theorem goodR_of {X : List Int} (h : goodR X = true) : X.length = 2 ∧ allIn X (-1000) 1000 = true := by
  simp only [goodR, vecB, Bool.and_eq_true, decide_eq_true_eq] at h
  exact ⟨h.2, h.1.2⟩
theorem ptsV_bad {ls : List (List Int)} {s u : Int} {k : Nat} (hk : k < ls.length) (h : goodR (ls.getD k []) = false) : ptsV ls s u = (0, false) := by
  unfold ptsV
  rw [if_neg]
  intro hc
  simp only [Bool.and_eq_true, List.all_eq_true] at hc
  have := hc.2 (ls.getD k []) (by rw [List.getD_eq_getElem?_getD, List.getElem?_eq_getElem hk]; exact List.getElem_mem hk)
  rw [h] at this; cases this
theorem ptsV_good {ls : List (List Int)} {s u : Int} (hs : inB s 1 10006 = true) (hu : inB u 1 10006 = true) (h : ∀ j, j < ls.length → goodR (ls.getD j []) = true) : ptsV ls s u = (accP ls s u ls.length, true) := by
  unfold ptsV
  rw [if_pos]
  simp only [Bool.and_eq_true, List.all_eq_true]
  refine ⟨⟨hs, hu⟩, fun x hx => ?_⟩
  obtain ⟨i, hi, rfl⟩ := List.mem_iff_getElem.1 hx
  have := h i hi
  rwa [List.getD_eq_getElem?_getD, List.getElem?_eq_getElem hi] at this

set_option maxHeartbeats 1000000 in
theorem power_P (a n : Int) (w : World) (ha : 1 ≤ a) (ha' : a ≤ 10006) (hn : -1000 ≤ n) (hn' : n ≤ 1000) :
    Calls Try.prog 113 #[.int .i64 a, .int .i64 n] w fun e w' => e = .returned (.int .i64 (powP a n)) ∧ w = w' := by
  obtain ⟨A, rfl⟩ : ∃ A : Nat, a = A := ⟨a.toNat, by omega⟩
  have hv : powP (A : Int) n = (pmN A (n % 10006).toNat : Int) := by
    unfold powP
    rw [if_pos]
    · simp
    · rw [inB_iff.2 ⟨by omega, by omega⟩, inB_iff.2 ⟨by omega, by omega⟩]; rfl
  rw [hv]
  exact power_any A n w (by omega) (by omega) (by omega)

set_option maxHeartbeats 800000 in
theorem implPointsValue_any (ls : List (List Int)) (v : Value) (s u : Int) (hb : Nat) (w : World) (h : ISSr w hb v ls) :
    Calls Try.prog 51 #[v, .int .i64 s, .int .i64 u] w fun e w' => e = .returned (.tuple #[.int .i64 (ptsV ls s u).1, .bool (ptsV ls s u).2]) ∧ ∃ d, w' = w.drewN d := by
  cases hs : inB s 1 10006
  · have hv : ptsV ls s u = (0, false) := by unfold ptsV; rw [hs]; rfl
    have W1 := fun w => within_any s 1 10006 w
    simp only [hs] at W1
    rw [hv]
    obtain ⟨a, cap, rfl, -⟩ := h
    clear hv hs
    generalize ls.length = n at *
    go_enter Try.func51, Try.ntmps51
    go_wp2_with (go_at_call 65; (with_reducible refine (W1 _).mono ?_); rintro e w' ⟨rfl, rfl⟩)
    go_ret2
    exact ⟨rfl, 0, rfl⟩
  cases hu : inB u 1 10006
  · have hv : ptsV ls s u = (0, false) := by unfold ptsV; rw [hu, Bool.and_false]; rfl
    have W1 := fun w => within_any s 1 10006 w
    have W2 := fun w => within_any u 1 10006 w
    simp only [hs] at W1
    simp only [hu] at W2
    rw [hv]
    obtain ⟨a, cap, rfl, -⟩ := h
    clear hv hs hu
    generalize ls.length = n at *
    go_enter Try.func51, Try.ntmps51
    go_wp2_with (first | (go_at_call 65; (with_reducible refine (W1 _).mono ?_); rintro e w' ⟨rfl, rfl⟩) | (go_at_call 65; (with_reducible refine (W2 _).mono ?_); rintro e w' ⟨rfl, rfl⟩))
    go_ret2
    exact ⟨rfl, 0, rfl⟩
  have W1 := fun w => within_any s 1 10006 w
  have W2 := fun w => within_any u 1 10006 w
  simp only [hs] at W1
  simp only [hu] at W2
  have BS := inB_iff.1 hs
  have BU := inB_iff.1 hu
  rcases h.cases with ⟨rfl, a, cap, rfl⟩ | ⟨hpos, hlen, b, off, cap, V0, rfl, hbb, hcell⟩
  · have hv : ptsV [] s u = (0, true) := ptsV_good hs hu (fun j hj => absurd hj (Nat.not_lt_zero _))
    rw [hv]
    clear hv hs hu BS BU
    go_enter Try.func51, Try.ntmps51
    go_wp2_with (first | (go_at_call 65; (with_reducible refine (W1 _).mono ?_); rintro e w' ⟨rfl, rfl⟩) | (go_at_call 65; (with_reducible refine (W2 _).mono ?_); rintro e w' ⟨rfl, rfl⟩))
    refine wp_loop_rounds 1 ?_
    rw [rounds_succ]
    go_wp2
    go_ret2
    exact ⟨rfl, 0, rfl⟩
  obtain ⟨n, hn⟩ : ∃ n, n = ls.length := ⟨_, rfl⟩
  rw [← hn] at hlen hpos ⊢
  have HN := Lib.hid hn; clear hn h
  have HC := Lib.hid hcell; clear hcell
  have HS := Lib.hid hs; clear hs
  have HU := Lib.hid hu; clear hu
  have HBS := Lib.hid BS; clear BS
  have HBU := Lib.hid BU; clear BU
  go_enter Try.func51, Try.ntmps51
  go_wp2_with (first | (go_at_call 65; (with_reducible refine (W1 _).mono ?_); rintro e w' ⟨rfl, rfl⟩) | (go_at_call 65; (with_reducible refine (W2 _).mono ?_); rintro e w' ⟨rfl, rfl⟩))
  clear W1 W2
  go_loopw [8, 21] (fun m i wr => ∃ (d k : Nat) (r : Int), wr = w.drewN d ∧ k ≤ n ∧ i = .int .i64 k ∧ m = .int .i64 r ∧ 0 ≤ r ∧ r < 10007 ∧ Hid (r = accP ls s u k) ∧ Hid (∀ j, j < k → goodR (ls.getD j []) = true)) (fun _ i _ => n - (intOf i).toNat)
  case atStart => exact ⟨0, 0, 0, rfl, by omega, rfl, rfl, by omega, by omega, Lib.hid rfl, fun j hj => absurd hj (Nat.not_lt_zero _)⟩
  case round =>
    obtain ⟨d, k, r, hw, hk, rfl, rfl, hr0, hr1, hr, hall⟩ := hrel
    have HW := Lib.hid hw; clear hw
    by_cases hlt : k < n
    · have hkl : k < ls.length := by rw [← HN.out]; exact hlt
      have hck : wr.cell? ⟨b, off + k, none⟩ = some (V0 k) := by rw [HW.out]; exact (HC.out k hkl).1
      have hrow : ISr wr hb (V0 k) (ls.getD k []) := by rw [HW.out]; exact (HC.out k hkl).2
      have HV := implIsVector_any (ls.getD k []) (V0 k) hb wr hrow
      cases hg : goodR (ls.getD k [])
      · have HB := Lib.hid (ptsV_bad (s := s) (u := u) hkl hg)
        cases hv : vecB (ls.getD k [])
        · rw [hv] at HV
          clear hkl hv hg hrow
          generalize V0 k = xk at *
          go_wp2_with (go_at_call 90; (with_reducible refine HV.mono ?_); rintro e w' ⟨rfl, d2, rfl⟩)
          go_ret2
          exact ⟨ret_pts HB.out, _, by rw [HW.out, World.drewN_drewN]⟩
        · have h2 : (ls.getD k []).length ≠ 2 := by intro e; rw [goodR, hv, e] at hg; simp at hg
          have hne : (((ls.getD k []).length : Int) != 2) = true := by rw [bne_iff_ne]; omega
          rw [hv] at HV
          obtain ⟨a1, c1, e1, -⟩ := hrow
          rw [e1] at hck HV
          clear hkl hv hg h2 e1
          generalize (ls.getD k []).length = m at *
          go_wp2_with (go_at_call 90; (with_reducible refine HV.mono ?_); rintro e w' ⟨rfl, d2, rfl⟩)
          go_ret2
          exact ⟨ret_pts HB.out, _, by rw [HW.out, World.drewN_drewN]⟩
      · obtain ⟨g1, g2⟩ := goodR_of hg
        have hvv : vecB (ls.getD k []) = true := by simp only [goodR, Bool.and_eq_true] at hg; exact hg.1
        have p0 := allIn_at g2 0 (by omega)
        have p1 := allIn_at g2 1 (by omega)
        obtain ⟨b1, o1, c1, e1, -, y0, y1⟩ := hrow.two g1
        have HALL := Lib.hid (fun j (hj : j < k + 1) => show goodR (ls.getD j []) = true by
          by_cases e : j = k
          · subst e; exact hg
          · exact hall.out j (by omega))
        have HACC := Lib.hid (show ∀ x : Int, x = (r + powP s ((ls.getD k []).getD 0 0) * powP u ((ls.getD k []).getD 1 0)) % 10007 → x = accP ls s u (k + 1) by intro x hx; rw [accP, monI, ← hr.out]; exact hx)
        have mb := monI_bd (ls.getD k []) s u
        rw [monI] at mb
        rw [hvv] at HV
        rw [e1] at hck HV
        clear hkl hg g1 g2 hvv hrow e1 hr hall
        generalize (ls.getD k []).getD 0 0 = X0 at *
        generalize (ls.getD k []).getD 1 0 = X1 at *
        have P1 := fun w => power_P s X0 w HBS.out.1 HBS.out.2 p0.1 p0.2
        have P2 := fun w => power_P u X1 w HBU.out.1 HBU.out.2 p1.1 p1.2
        generalize powP s X0 = m1 at *
        generalize powP u X1 = m2 at *
        have q1 := wr64 (m1 * m2) (by omega)
        have q2 := wr64 (r + m1 * m2) (by omega)
        have HM := Lib.hid (show 0 ≤ r + m1 * m2 by omega)
        have y0' : ∀ n', (wr.drewN n').cell? ⟨b1, o1, none⟩ = some (.int .i64 X0) := fun n' => y0
        have y1' : ∀ n', (wr.drewN n').cell? ⟨b1, o1 + 1, none⟩ = some (.int .i64 X1) := fun n' => y1
        go_wp2_with (go_at_call 90; (with_reducible refine HV.mono ?_); rintro e w' ⟨rfl, d2, rfl⟩)
        have z0 := y0' d2
        have z1 := y1' d2
        clear y0' y1' y0 y1 HV mb hck
        have HW2 := Lib.hid (show wr.drewN d2 = w.drewN (d + d2) by rw [HW.out, World.drewN_drewN])
        clear HW
        generalize wr.drewN d2 = w2 at *
        have q3 := wr64 ((r + m1 * m2).tmod 10007) (by rw [Int.tmod_eq_emod_of_nonneg HM.out]; have := Int.emod_nonneg (r + m1 * m2) (show (10007 : Int) ≠ 0 by omega); have := Int.emod_lt_of_pos (r + m1 * m2) (show (0 : Int) < 10007 by omega); omega)
        clear p0 p1 hr0 hr1 HBS HBU HC HN HS HU
        go_quiet (first | (go_at_call 113; with_reducible exact quiet_eq (P1 _)) | (go_at_call 113; with_reducible exact quiet_eq (P2 _)))
        go_wp2
        go_round
        case rel => exact ⟨d + d2 + nq, k + 1, (r + m1 * m2) % 10007, by rw [HW2.out, World.drewN_drewN], by omega, by go_num, by rw [Int.tmod_eq_emod_of_nonneg HM.out], Int.emod_nonneg _ (by omega), Int.emod_lt_of_pos _ (by omega), Lib.hid (HACC.out _ rfl), HALL.out⟩
        case measure => simp [intOf]; omega
    · obtain rfl : k = n := by omega
      have hv := ptsV_good HS.out HU.out (fun j hj => hall.out j (by rw [HN.out]; exact hj))
      have HVV := Lib.hid hv; clear hv
      go_wp2
      go_ret2
      exact ⟨ret_pts (HVV.out.trans (by rw [← HN.out, hr.out])), _, HW.out⟩
end Go.Proofs.Ytehhoplenloocaa

/- PointsValue of the model: the walks. -/
namespace Go.Proofs.Ytehhoplenloocaa
open Go.RowKit
set_option linter.unusedVariables false
set_option linter.unusedSimpArgs false

set_option maxHeartbeats 400000 in
theorem l11Fine_any (s u : Int) (w : World) :
    Calls Try.prog 115 #[.int .i64 s, .int .i64 u] w fun e w' => e = .returned (.bool (inB s 1 10006 && inB u 1 10006)) ∧ w = w' := by
  have W1 := fun w => l1In_any s 1 10006 w
  have W2 := fun w => l1In_any u 1 10006 w
  cases hs : inB s 1 10006
  · simp only [hs] at W1
    go_enter Try.func115, Try.ntmps115
    go_wp2_with (go_at_call 68; (with_reducible refine (W1 _).mono ?_); rintro e w' ⟨rfl, rfl⟩)
    go_ret
    exact ⟨rfl, rfl⟩
  · simp only [hs] at W1
    go_enter Try.func115, Try.ntmps115
    go_wp2_with (first | (go_at_call 68; (with_reducible refine (W1 _).mono ?_); rintro e w' ⟨rfl, rfl⟩) | (go_at_call 68; (with_reducible refine (W2 _).mono ?_); rintro e w' ⟨rfl, rfl⟩))
    go_ret
    exact ⟨rfl, rfl⟩

set_option maxHeartbeats 400000 in
theorem l11Monomial_any (X : List Int) (v : Value) (s u : Int) (hb : Nat) (w : World) (h : ISr w hb v X) (h2 : X.length = 2) :
    Calls Try.prog 116 #[v, .int .i64 s, .int .i64 u] w fun e w' => e = .returned (.int .i64 (monI X s u % 10007)) ∧ ∃ d, w' = w.drewN d := by
  obtain ⟨b1, o1, c1, rfl, -, y0, y1⟩ := h.two h2
  have mb := monI_bd X s u
  unfold monI at mb ⊢
  generalize X.getD 0 0 = X0 at *
  generalize X.getD 1 0 = X1 at *
  have P1 := fun w => specPowerMod_any s X0 w
  have P2 := fun w => specPowerMod_any u X1 w
  clear h h2
  generalize powP s X0 = m1 at *
  generalize powP u X1 = m2 at *
  have q1 := wr64 (m1 * m2) (by omega)
  have HM := Lib.hid mb.1
  have q3 := wr64 ((m1 * m2).tmod 10007) (by rw [Int.tmod_eq_emod_of_nonneg HM.out]; have := Int.emod_nonneg (m1 * m2) (show (10007 : Int) ≠ 0 by omega); have := Int.emod_lt_of_pos (m1 * m2) (show (0 : Int) < 10007 by omega); omega)
  clear mb
  go_enter Try.func116, Try.ntmps116
  go_wp2
  go_quiet (first | (go_at_call 60; with_reducible exact quiet_eq (P1 _)) | (go_at_call 60; with_reducible exact quiet_eq (P2 _)))
  go_wp2
  go_ret
  exact ⟨ret_int (Int.tmod_eq_emod_of_nonneg HM.out), _, rfl⟩

set_option maxHeartbeats 800000 in
theorem specPointsValue_any (ls : List (List Int)) (v : Value) (s u : Int) (hb : Nat) (w : World) (h : ISSr w hb v ls) :
    Calls Try.prog 52 #[v, .int .i64 s, .int .i64 u] w fun e w' => e = .returned (.tuple #[.int .i64 (ptsV ls s u).1, .bool (ptsV ls s u).2]) ∧ ∃ d, w' = w.drewN d := by
  have F1 := fun w => l11Fine_any s u w
  by_cases hf : (inB s 1 10006 && inB u 1 10006) = false
  · have hv : ptsV ls s u = (0, false) := by unfold ptsV; rw [if_neg]; rw [hf]; simp
    simp only [hf] at F1
    rw [hv]
    obtain ⟨a, cap, rfl, -⟩ := h
    clear hv hf
    generalize ls.length = n at *
    go_enter Try.func52, Try.ntmps52
    go_wp2_with (go_at_call 115; (with_reducible refine (F1 _).mono ?_); rintro e w' ⟨rfl, rfl⟩)
    go_ret2
    exact ⟨rfl, 0, rfl⟩
  have hf : (inB s 1 10006 && inB u 1 10006) = true := by simpa using hf
  simp only [hf] at F1
  obtain ⟨hs, hu⟩ : inB s 1 10006 = true ∧ inB u 1 10006 = true := by simpa using hf
  clear hf
  rcases h.cases with ⟨rfl, a, cap, rfl⟩ | ⟨hpos, hlen, b, off, cap, V0, rfl, hbb, hcell⟩
  · have hv : ptsV [] s u = (0, true) := ptsV_good hs hu (fun j hj => absurd hj (Nat.not_lt_zero _))
    rw [hv]
    clear hv hs hu
    go_enter Try.func52, Try.ntmps52
    go_wp2_with (go_at_call 115; (with_reducible refine (F1 _).mono ?_); rintro e w' ⟨rfl, rfl⟩)
    refine wp_loop_rounds 1 ?_
    rw [rounds_succ]
    go_wp2
    go_ret2
    exact ⟨rfl, 0, rfl⟩
  obtain ⟨n, hn⟩ : ∃ n, n = ls.length := ⟨_, rfl⟩
  rw [← hn] at hlen hpos ⊢
  have HN := Lib.hid hn; clear hn h
  have HC := Lib.hid hcell; clear hcell
  have HS := Lib.hid hs; clear hs
  have HU := Lib.hid hu; clear hu
  go_enter Try.func52, Try.ntmps52
  go_wp2_with (go_at_call 115; (with_reducible refine (F1 _).mono ?_); rintro e w' ⟨rfl, rfl⟩)
  clear F1
  go_loopw [8, 9] (fun m i wr => ∃ (d k : Nat) (r : Int), wr = w.drewN d ∧ k ≤ n ∧ i = .int .i64 k ∧ m = .int .i64 r ∧ 0 ≤ r ∧ r < 10007 ∧ Hid (r = accP ls s u k) ∧ Hid (∀ j, j < k → goodR (ls.getD j []) = true)) (fun _ i _ => n - (intOf i).toNat)
  case atStart => exact ⟨0, 0, 0, rfl, by omega, rfl, rfl, by omega, by omega, Lib.hid rfl, fun j hj => absurd hj (Nat.not_lt_zero _)⟩
  case round =>
    obtain ⟨d, k, r, hw, hk, rfl, rfl, hr0, hr1, hr, hall⟩ := hrel
    have HW := Lib.hid hw; clear hw
    by_cases hlt : k < n
    · have hkl : k < ls.length := by rw [← HN.out]; exact hlt
      have hck : wr.cell? ⟨b, off + k, none⟩ = some (V0 k) := by rw [HW.out]; exact (HC.out k hkl).1
      have hrow : ISr wr hb (V0 k) (ls.getD k []) := by rw [HW.out]; exact (HC.out k hkl).2
      have HV := specIsVector_any (ls.getD k []) (V0 k) hb wr hrow
      have HCK := Lib.hid (show ∀ n', (wr.drewN n').cell? ⟨b, off + k, none⟩ = some (V0 k) from fun n' => hck)
      cases hg : goodR (ls.getD k [])
      · have HB := Lib.hid (ptsV_bad (s := s) (u := u) hkl hg)
        cases hv : vecB (ls.getD k [])
        · rw [hv] at HV
          clear hkl hv hg hrow HCK
          generalize V0 k = xk at *
          go_wp2_with (go_at_call 93; (with_reducible refine HV.mono ?_); rintro e w' ⟨rfl, d2, rfl⟩)
          go_ret2
          exact ⟨ret_pts HB.out, _, by rw [HW.out, World.drewN_drewN]⟩
        · have h2 : (ls.getD k []).length ≠ 2 := by intro e; rw [goodR, hv, e] at hg; simp at hg
          have hne : (((ls.getD k []).length : Int) != 2) = true := by rw [bne_iff_ne]; omega
          rw [hv] at HV
          obtain ⟨a1, c1, e1, -⟩ := hrow
          rw [e1] at hck HV HCK
          clear hkl hv hg h2 e1
          generalize (ls.getD k []).length = m at *
          go_wp2_with fail
          refine HV.mono ?_
          rintro e w' ⟨rfl, d2, rfl⟩
          have hc2 := HCK.out d2
          go_wp2
          go_ret2
          exact ⟨ret_pts HB.out, _, by rw [HW.out, World.drewN_drewN]⟩
      · obtain ⟨g1, g2⟩ := goodR_of hg
        have hvv : vecB (ls.getD k []) = true := by simp only [goodR, Bool.and_eq_true] at hg; exact hg.1
        have HALL := Lib.hid (fun j (hj : j < k + 1) => show goodR (ls.getD j []) = true by
          by_cases e : j = k
          · subst e; exact hg
          · exact hall.out j (by omega))
        have mb := monI_bd (ls.getD k []) s u
        have HACC := Lib.hid (show ∀ x : Int, x = (r + monI (ls.getD k []) s u % 10007) % 10007 → x = accP ls s u (k + 1) by intro x hx; rw [accP, ← hr.out, hx]; omega)
        obtain ⟨a1, c1, e1, -⟩ := id hrow
        have HM2 := fun n' => l11Monomial_any (ls.getD k []) (V0 k) s u hb (wr.drewN n') hrow g1
        rw [hvv] at HV
        rw [g1] at e1
        rw [e1] at hck HV HCK HM2
        have mb2 : 0 ≤ monI (ls.getD k []) s u % 10007 ∧ monI (ls.getD k []) s u % 10007 < 10007 := by omega
        clear hkl hg g1 g2 hvv hrow e1 hr hall mb
        generalize monI (ls.getD k []) s u % 10007 = p at *
        have q2 := wr64 (r + p) (by omega)
        have HM := Lib.hid (show 0 ≤ r + p by omega)
        have q3 := wr64 ((r + p).tmod 10007) (by rw [Int.tmod_eq_emod_of_nonneg HM.out]; have := Int.emod_nonneg (r + p) (show (10007 : Int) ≠ 0 by omega); have := Int.emod_lt_of_pos (r + p) (show (0 : Int) < 10007 by omega); omega)
        clear hr0 hr1 mb2
        go_wp2_with fail
        refine HV.mono ?_
        rintro e w' ⟨rfl, d2, rfl⟩
        have hc2 := HCK.out d2
        go_wp2_with fail
        refine (HM2 d2).mono ?_
        rintro e w' ⟨rfl, d3, rfl⟩
        go_wp2
        go_round
        case rel => exact ⟨d + d2 + d3, k + 1, (r + p) % 10007, by rw [HW.out]; simp only [World.drewN_drewN, Nat.add_assoc], by omega, by go_num, by rw [Int.tmod_eq_emod_of_nonneg HM.out], Int.emod_nonneg _ (by omega), Int.emod_lt_of_pos _ (by omega), Lib.hid (HACC.out _ rfl), HALL.out⟩
        case measure => simp [intOf]; omega
    · obtain rfl : k = n := by omega
      have hv := ptsV_good HS.out HU.out (fun j hj => hall.out j (by rw [HN.out]; exact hj))
      have HVV := Lib.hid hv; clear hv
      go_wp2
      go_ret2
      exact ⟨ret_pts (HVV.out.trans (by rw [← HN.out, hr.out])), _, HW.out⟩
end Go.Proofs.Ytehhoplenloocaa

/- Values of terms: the plain law. -/
namespace Go.Proofs.Ytehhoplenloocaa
open Go.RowKit
set_option linter.unusedVariables false
set_option linter.unusedSimpArgs false

def tv0 (s : Int) (U : List Int) (a b : Int) : Int := if s < 0 then (10007 - monI U a b % 10007) % 10007 else monI U a b % 10007
def facI (g : List Int) (a b : Int) : Int := (10008 - monI g a b % 10007) % 10007
def tvK (s : Int) (U : List Int) (G : List (List Int)) (a b : Int) : Nat → Int
  | 0 => tv0 s U a b
  | k + 1 => tvK s U G a b k * powP (facI (G.getD k []) a b) (-1) % 10007
def termV (s : Int) (U : List Int) (G : List (List Int)) (a b : Int) : Int × Bool :=
  if termB s U G && inB a 1 10006 && inB b 1 10006 && G.all (fun g => decide (facI g a b ≠ 0)) then (tvK s U G a b G.length, true) else (0, false)
theorem facI_bd (g : List Int) (a b : Int) : 0 ≤ facI g a b ∧ facI g a b < 10007 := by unfold facI; omega
theorem tvK_bd (s : Int) (U : List Int) (G : List (List Int)) (a b : Int) : ∀ k, 0 ≤ tvK s U G a b k ∧ tvK s U G a b k < 10007
  | 0 => by rw [tvK]; unfold tv0; split <;> omega
  | k + 1 => by rw [tvK]; omega
theorem termV_no1 {s : Int} {U : List Int} {G : List (List Int)} {a b : Int} (h : termB s U G = false) : termV s U G a b = (0, false) := by unfold termV; rw [h]; rfl
theorem termV_no2 {s : Int} {U : List Int} {G : List (List Int)} {a b : Int} (h : inB a 1 10006 = false) : termV s U G a b = (0, false) := by unfold termV; rw [h, Bool.and_false]; rfl
theorem termV_no3 {s : Int} {U : List Int} {G : List (List Int)} {a b : Int} (h : inB b 1 10006 = false) : termV s U G a b = (0, false) := by unfold termV; rw [h, Bool.and_false]; rfl
theorem termV_no4 {s : Int} {U : List Int} {G : List (List Int)} {a b : Int} {k : Nat} (hk : k < G.length) (h : facI (G.getD k []) a b = 0) : termV s U G a b = (0, false) := by
  unfold termV; rw [all_getD_no (p := fun g => decide (facI g a b ≠ 0)) hk (by simp only [h]; simp), Bool.and_false]; rfl
theorem termV_yes {s : Int} {U : List Int} {G : List (List Int)} {a b : Int} (h1 : termB s U G = true) (h2 : inB a 1 10006 = true) (h3 : inB b 1 10006 = true) (h : ∀ k, k < G.length → facI (G.getD k []) a b ≠ 0) : termV s U G a b = (tvK s U G a b G.length, true) := by
  unfold termV
  rw [h1, h2, h3, all_getD (p := fun g => decide (facI g a b ≠ 0)) (fun k hk => by simp only [decide_eq_true_eq]; exact h k hk)]; rfl
/-- the program's first value -/
theorem tv0_prog {s : Int} (hs : s = 1 ∨ s = -1) (U : List Int) (a b : Int) :
    (((s + 10007).tmod 10007 * powP a (U.getD 0 0)).tmod 10007 * powP b (U.getD 1 0)).tmod 10007 = tv0 s U a b := by
  have h1 := powP_bd a (U.getD 0 0)
  have h2 := powP_bd b (U.getD 1 0)
  unfold tv0 monI
  generalize powP a (U.getD 0 0) = p at *
  generalize powP b (U.getD 1 0) = q at *
  rcases hs with rfl | rfl
  · have e1 : ((1 : Int) + 10007).tmod 10007 = 1 := by decide
    rw [e1, Int.one_mul, Int.tmod_eq_emod_of_nonneg h1.1, Int.emod_eq_of_lt h1.1 h1.2, Int.tmod_eq_emod_of_nonneg (Int.mul_nonneg h1.1 h2.1)]
    simp
  · have e1 : ((-1 : Int) + 10007).tmod 10007 = 10006 := by decide
    rw [e1, Int.tmod_eq_emod_of_nonneg (by omega : 0 ≤ 10006 * p)]
    have hm : 0 ≤ 10006 * p % 10007 := by omega
    rw [Int.tmod_eq_emod_of_nonneg (Int.mul_nonneg hm h2.1), if_pos (by omega)]
    have hk : 10006 * p % 10007 = 10006 * p - 10007 * (10006 * p / 10007) := by omega
    rw [hk]
    generalize 10006 * p / 10007 = k
    have e : (10006 * p - 10007 * k) * q = 10006 * (p * q) - 10007 * (k * q) := by grind
    rw [e]
    generalize p * q = r
    generalize k * q = z
    omega
end Go.Proofs.Ytehhoplenloocaa

/- TermValue: the program's walk. -/
namespace Go.Proofs.Ytehhoplenloocaa
open Go.RowKit
set_option linter.unusedVariables false
set_option linter.unusedSimpArgs false

theorem mul_lt7 {p q : Int} (h1 : 0 ≤ p ∧ p < 10007) (h2 : 0 ≤ q ∧ q < 10007) : 0 ≤ p * q ∧ p * q ≤ 100140049 := by
  have := mul_bd2 (a := p) (b := q) (M := 10007) (N := 10007) (by omega) (by omega) h2.1 (by omega) (by omega)
  exact ⟨Int.mul_nonneg h1.1 h2.1, by omega⟩
theorem tm7 {x : Int} (h : 0 ≤ x) : 0 ≤ x.tmod 10007 ∧ x.tmod 10007 < 10007 := by
  rw [Int.tmod_eq_emod_of_nonneg h]; omega
/-- the factor as the program reckons it -/
theorem facI_prog (g : List Int) (a b : Int) : (1 - (powP a (g.getD 0 0) * powP b (g.getD 1 0)).tmod 10007 + 10007).tmod 10007 = facI g a b := by
  have := monI_bd g a b
  unfold facI
  rw [show monI g a b = powP a (g.getD 0 0) * powP b (g.getD 1 0) from rfl] at *
  generalize powP a (g.getD 0 0) * powP b (g.getD 1 0) = m at *
  rw [Int.tmod_eq_emod_of_nonneg this.1, Int.tmod_eq_emod_of_nonneg (by omega)]; omega

set_option maxHeartbeats 4000000 in
theorem implTermValue_any (s : Int) (U : List Int) (G : List (List Int)) (v1 v2 : Value) (a b : Int) (hb : Nat) (w : World) (hs : -9223372036854775808 ≤ s ∧ s ≤ 9223372036854775807) (i1 : ISr w hb v1 U) (i2 : ISSr w hb v2 G) (hhb : hb ≤ w.heap.size) :
    Calls Try.prog 45 #[.agg #[.int .i64 s, v1, v2], .int .i64 a, .int .i64 b] w fun e w' => e = .returned (.tuple #[.int .i64 (termV s U G a b).1, .bool (termV s U G a b).2]) ∧ Below w.heap.size w w' := by
  have b1 := below1 w (.cells #[.int .i64 s, v1, v2] 50)
  have bx := box3_new w (.int .i64 s) v1 v2 50
  have P1 := fun W (B : Below w.heap.size w W) => implIsTerm_any s U G v1 v2 hb W hs (i1.keep B hhb) (i2.keep B hhb) (Nat.le_trans hhb B.size)
  have W1 := fun w => within_any a 1 10006 w
  have W2 := fun w => within_any b 1 10006 w
  have HB := Lib.hid b1
  have BX := Lib.hid bx
  clear b1 bx
  cases ht : termB s U G
  · rw [termV_no1 ht]
    simp only [ht] at P1
    clear ht i1 i2 W1 W2
    go_enter Try.func45, Try.ntmps45
    go_wp2_with (go_at_call 112; (with_reducible refine (P1 _ HB.out).mono ?_); rintro e w2 ⟨rfl, c2⟩)
    go_ret2
    exact ⟨rfl, below_then HB.out HB.out.size c2⟩
  obtain ⟨hG, hU, hse⟩ := gens_of_term ht
  simp only [ht] at P1
  cases ha : inB a 1 10006
  · rw [termV_no2 ha]
    simp only [ha] at W1
    clear ha ht i1 i2 W2 hG hU hse
    go_enter Try.func45, Try.ntmps45
    go_wp2_with (first | (go_at_call 112; (with_reducible refine (P1 _ HB.out).mono ?_); rintro e w2 ⟨rfl, c2⟩) | (go_at_call 65; (with_reducible refine (W1 _).mono ?_); rintro e w' ⟨rfl, rfl⟩))
    go_ret2
    exact ⟨rfl, below_then HB.out HB.out.size c2⟩
  simp only [ha] at W1
  cases hbq : inB b 1 10006
  · rw [termV_no3 hbq]
    simp only [hbq] at W2
    clear hbq ha ht i1 i2 hG hU hse
    go_enter Try.func45, Try.ntmps45
    go_wp2_with (first | (go_at_call 112; (with_reducible refine (P1 _ HB.out).mono ?_); rintro e w2 ⟨rfl, c2⟩) | (go_at_call 65; (with_reducible refine (W1 _).mono ?_); rintro e w' ⟨rfl, rfl⟩) | (go_at_call 65; (with_reducible refine (W2 _).mono ?_); rintro e w' ⟨rfl, rfl⟩))
    go_ret2
    exact ⟨rfl, below_then HB.out HB.out.size c2⟩
  simp only [hbq] at W2
  have BA := inB_iff.1 ha
  have BB := inB_iff.1 hbq
  have lU := ptB_len hU
  have HV0 := Lib.hid (tv0_prog hse U a b)
  have u0 := allIn_at lU.2 0 (by omega)
  have u1 := allIn_at lU.2 1 (by omega)
  have PW1 := fun w => power_P a (U.getD 0 0) w BA.1 BA.2 u0.1 u0.2
  have PW2 := fun w => power_P b (U.getD 1 0) w BB.1 BB.2 u1.1 u1.2
  have pb1 := powP_bd a (U.getD 0 0)
  have pb2 := powP_bd b (U.getD 1 0)
  obtain ⟨bu, ou, cu, hvu, hbu, y0, y1⟩ := i1.two lU.1
  obtain ⟨n, hn⟩ : ∃ n, n = G.length := ⟨_, rfl⟩
  obtain ⟨ag, cg, hvg, hcg, hmg, hcell⟩ := id i2
  unfold maxLen at hmg
  rw [← hn] at hvg hcg
  have hlen : n ≤ 9223372036854775807 := by omega
  have HY := Lib.hid (And.intro y0 y1)
  have HN := Lib.hid hn
  have HC := Lib.hid hcell
  have HTB := Lib.hid ht
  have HA := Lib.hid ha
  have HBQ := Lib.hid hbq
  have HG := Lib.hid hG
  have HBA := Lib.hid BA
  have HBB := Lib.hid BB
  have hsg : 0 ≤ s + 10007 ∧ s + 10007 ≤ 10008 := by omega
  have sm := tm7 hsg.1
  have m1 := mul_lt7 sm pb1
  have sm2 := tm7 m1.1
  have m2 := mul_lt7 sm2 pb2
  have sm3 := tm7 m2.1
  clear hn hcell ht ha hbq hG BA BB hU hse lU i1 i2 y0 y1 u0 u1 hcg hmg
  generalize U.getD 0 0 = U0 at *
  generalize U.getD 1 0 = U1 at *
  generalize powP a U0 = p at *
  generalize powP b U1 = q at *
  subst hvu
  subst hvg
  go_enter Try.func45, Try.ntmps45
  go_wp2_with (first | (go_at_call 112; (with_reducible refine (P1 _ HB.out).mono ?_); rintro e w2 ⟨rfl, c2⟩) | (go_at_call 65; (with_reducible refine (W1 _).mono ?_); rintro e w' ⟨rfl, rfl⟩) | (go_at_call 65; (with_reducible refine (W2 _).mono ?_); rintro e w' ⟨rfl, rfl⟩))
  have B2 := Lib.hid (below_then HB.out HB.out.size c2)
  have X2 := Lib.hid (BX.out.keep c2)
  clear c2 P1 W1 W2 HB BX
  have x0 := X2.out.c0
  have x1 := X2.out.c1
  have y0 := (B2.out.cell (p := ⟨bu, ou, none⟩) (by exact Nat.lt_of_lt_of_le hbu hhb)).trans HY.out.1
  have y1 := (B2.out.cell (p := ⟨bu, ou + 1, none⟩) (by exact Nat.lt_of_lt_of_le hbu hhb)).trans HY.out.2
  have k1 := wr64 (s + 10007) (by omega)
  have k2 := wr64 ((s + 10007).tmod 10007) (by omega)
  have k3 := wr64 ((s + 10007).tmod 10007 * p) (by omega)
  have k4 := wr64 (((s + 10007).tmod 10007 * p).tmod 10007) (by omega)
  have k5 := wr64 (((s + 10007).tmod 10007 * p).tmod 10007 * q) (by omega)
  have k6 := wr64 ((((s + 10007).tmod 10007 * p).tmod 10007 * q).tmod 10007) (by omega)
  have hsg' := Lib.hid hsg
  have HPB := Lib.hid (And.intro pb1 pb2)
  clear hsg sm m1 sm2 m2 sm3 pb1 pb2
  go_quiet (first | (go_at_call 113; with_reducible exact quiet_eq (PW1 _)) | (go_at_call 113; with_reducible exact quiet_eq (PW2 _)))
  clear k1 k2 k3 k4 k5 k6 PW1 PW2 x0 x1 y0 y1
  have x2 := X2.out.c2
  go_wp2
  have HR0 := Lib.hid (tm7 (mul_lt7 (tm7 (mul_lt7 (tm7 hsg'.out.1) (HPB.out.1)).1) HPB.out.2).1)
  go_loopw [8, 10, 11, 48] (fun m _ _ i wr => ∃ (d k : Nat) (r : Int), k ≤ n ∧ i = .int .i64 k ∧ m = .int .i64 r ∧ 0 ≤ r ∧ r < 10007 ∧ Hid (r = tvK s U G a b k) ∧ Hid (∀ j, j < k → facI (G.getD j []) a b ≠ 0) ∧ Hid (wr = w2.drewN d)) (fun _ _ _ i _ => n - (intOf i).toNat)
  case atStart => exact ⟨nq, 0, _, by omega, rfl, rfl, HR0.out.1, HR0.out.2, HV0, fun j hj => absurd hj (Nat.not_lt_zero _), Lib.hid rfl⟩
  case round =>
    obtain ⟨d, k, r, hk, rfl, rfl, hr0, hr1, hr, hall, HW⟩ := hrel
    have HBW := Lib.hid (show Below w.heap.size w wr by rw [HW.out]; exact B2.out.trans (below_draws _ _ _))
    by_cases hlt : k < n
    · have hkl : k < G.length := by rw [← HN.out]; exact hlt
      obtain ⟨bg, og, V, rfl, hbb, hcc⟩ := HC.out (by intro e; rw [e] at hkl; exact absurd hkl (Nat.not_lt_zero _))
      have hck := (HBW.out.cell (p := ⟨bg, og + k, none⟩) (Nat.lt_of_lt_of_le hbb hhb)).trans (hcc k hkl).1
      have hrow := (hcc k hkl).2.keep HBW.out hhb
      obtain ⟨lg, sg, -, -⟩ := HG.out.at hkl
      have g0 := allIn_at sg 0 (by omega)
      have g1 := allIn_at sg 1 (by omega)
      obtain ⟨br, or', cr, hvr, -, z0, z1⟩ := hrow.two lg
      have HF := Lib.hid (facI_prog (G.getD k []) a b)
      have hfb := facI_bd (G.getD k []) a b
      have hno := fun (h : facI (G.getD k []) a b = 0) => termV_no4 (s := s) (U := U) hkl h
      have HNO := Lib.hid hno
      have PW1 := fun w => power_P a ((G.getD k []).getD 0 0) w HBA.out.1 HBA.out.2 (by omega) (by omega)
      have PW2 := fun w => power_P b ((G.getD k []).getD 1 0) w HBB.out.1 HBB.out.2 (by omega) (by omega)
      have pb1 := powP_bd a ((G.getD k []).getD 0 0)
      have pb2 := powP_bd b ((G.getD k []).getD 1 0)
      have HSTEP := Lib.hid (show ∀ f, f = facI (G.getD k []) a b → r * powP f (-1) % 10007 = tvK s U G a b (k + 1) by
        intro f hf; rw [tvK, ← hr.out, hf])
      have HALL := Lib.hid (show facI (G.getD k []) a b ≠ 0 → ∀ j, j < k + 1 → facI (G.getD j []) a b ≠ 0 by
        intro h j hj
        by_cases e : j = k
        · subst e; exact h
        · exact hall.out j (by omega))
      clear hcc hkl sg lg hrow hno hall hr
      generalize V k = xk at *
      subst hvr
      generalize facI (G.getD k []) a b = ff at *
      generalize (G.getD k []).getD 0 0 = g0' at *
      generalize (G.getD k []).getD 1 0 = g1' at *
      generalize powP a g0' = m1 at *
      generalize powP b g1' = m2 at *
      have mm := mul_lt7 pb1 pb2
      have mt := tm7 mm.1
      have k1 := wr64 (m1 * m2) (by omega)
      have k2 := wr64 ((m1 * m2).tmod 10007) (by omega)
      have k3 := wr64 (1 - (m1 * m2).tmod 10007) (by omega)
      have k4 := wr64 (1 - (m1 * m2).tmod 10007 + 10007) (by omega)
      have k5 := wr64 ((1 - (m1 * m2).tmod 10007 + 10007).tmod 10007) (by rw [HF.out]; omega)
      clear g0 g1 pb1 pb2 mm mt
      go_wp2
      go_quiet (first | (go_at_call 113; with_reducible exact quiet_eq (PW1 _)) | (go_at_call 113; with_reducible exact quiet_eq (PW2 _)))
      clear k1 k2 k3 k4 k5 PW1 PW2 z0 z1
      rw [HF.out]
      by_cases h0 : ff = 0
      · have HFIN := Lib.hid (HNO.out h0)
        subst h0
        go_wp2
        go_ret2
        exact ⟨ret_pts HFIN.out, HBW.out.trans (below_draws _ _ _)⟩
      · have hz : (ff == 0) = false := by simpa using h0
        have PW3 := fun w => power_P ff (-1) w (by omega) (by omega) (by omega) (by omega)
        have pb3 := powP_bd ff (-1)
        have HS := Lib.hid (HSTEP.out ff rfl)
        have HA2 := Lib.hid (HALL.out h0)
        clear HSTEP HALL HNO HF h0
        generalize powP ff (-1) = m3 at *
        have mm := mul_lt7 ⟨hr0, hr1⟩ pb3
        have HM := Lib.hid mm
        go_wp2_with (go_at_call 113; (with_reducible refine (PW3 _).mono ?_); rintro e w' ⟨rfl, rfl⟩)
        go_roundw
        case rel => exact ⟨d + nq, k + 1, _, by omega, by go_num, rfl, by omega, by omega, HS, HA2, Lib.hid (by rw [HW.out, World.drewN_drewN])⟩
        case measure => simp [intOf]; omega
    · obtain rfl : k = n := by omega
      have HFIN := Lib.hid (termV_yes HTB.out HA.out HBQ.out (fun j hj => hall.out j (by rw [HN.out]; exact hj)))
      go_wp2
      go_ret2
      exact ⟨ret_pts (HFIN.out.trans (by rw [← HN.out, hr.out])), HBW.out⟩
end Go.Proofs.Ytehhoplenloocaa

/- TermValue: the model's walk. -/
namespace Go.Proofs.Ytehhoplenloocaa
open Go.RowKit
set_option linter.unusedVariables false
set_option linter.unusedSimpArgs false

set_option maxHeartbeats 400000 in
theorem l11Power_P (f : Int) (w : World) (h1 : 1 ≤ f) (h2 : f ≤ 10006) :
    Calls Try.prog 117 #[.int .i64 f, .int .i64 10005] w fun e w' => e = .returned (.int .i64 (powP f (-1))) ∧ w = w' := by
  obtain ⟨A, rfl⟩ : ∃ A : Nat, f = A := ⟨f.toNat, by omega⟩
  have hv : powP (A : Int) (-1) = (pmN A 10005 : Int) := by
    unfold powP
    rw [if_pos]
    · simp
    · rw [inB_iff.2 ⟨by omega, by omega⟩]; rfl
  rw [hv]
  exact l11Power_inv A w (by omega)

set_option maxHeartbeats 4000000 in
theorem specTermValue_any (s : Int) (U : List Int) (G : List (List Int)) (v1 v2 : Value) (a b : Int) (hb : Nat) (w : World) (hs : -9223372036854775808 ≤ s ∧ s ≤ 9223372036854775807) (i1 : ISr w hb v1 U) (i2 : ISSr w hb v2 G) (hhb : hb ≤ w.heap.size) :
    Calls Try.prog 46 #[.agg #[.int .i64 s, v1, v2], .int .i64 a, .int .i64 b] w fun e w' => e = .returned (.tuple #[.int .i64 (termV s U G a b).1, .bool (termV s U G a b).2]) ∧ Below w.heap.size w w' := by
  have b1 := below1 w (.cells #[.int .i64 s, v1, v2] 50)
  have bx := box3_new w (.int .i64 s) v1 v2 50
  have P1 := fun W (B : Below w.heap.size w W) => specIsTerm_any s U G v1 v2 hb W hs (i1.keep B hhb) (i2.keep B hhb) (Nat.le_trans hhb B.size)
  have F1 := fun w => l11Fine_any a b w
  have HB := Lib.hid b1
  have BX := Lib.hid bx
  clear b1 bx
  cases ht : termB s U G
  · rw [termV_no1 ht]
    simp only [ht] at P1
    clear ht i1 i2 F1
    go_enter Try.func46, Try.ntmps46
    go_wp2_with (go_at_call 114; (with_reducible refine (P1 _ HB.out).mono ?_); rintro e w2 ⟨rfl, c2⟩)
    go_ret2
    exact ⟨rfl, below_then HB.out HB.out.size c2⟩
  obtain ⟨hG, hU, hse⟩ := gens_of_term ht
  simp only [ht] at P1
  cases hf : (inB a 1 10006 && inB b 1 10006)
  · have hr : termV s U G a b = (0, false) := by
      rcases Bool.and_eq_false_iff.1 hf with h | h
      · exact termV_no2 h
      · exact termV_no3 h
    rw [hr]
    simp only [hf] at F1
    clear hf ht i1 i2 hG hU hse hr
    go_enter Try.func46, Try.ntmps46
    go_wp2_with (first | (go_at_call 114; (with_reducible refine (P1 _ HB.out).mono ?_); rintro e w2 ⟨rfl, c2⟩) | (go_at_call 115; (with_reducible refine (F1 _).mono ?_); rintro e w' ⟨rfl, rfl⟩))
    go_ret2
    exact ⟨rfl, below_then HB.out HB.out.size c2⟩
  simp only [hf] at F1
  obtain ⟨ha, hbq⟩ : inB a 1 10006 = true ∧ inB b 1 10006 = true := by simpa using hf
  have lU := ptB_len hU
  have M1 := fun W (B : Below w.heap.size w W) => l11Monomial_any U v1 a b hb W (i1.keep B hhb) lU.1
  obtain ⟨n, hn⟩ : ∃ n, n = G.length := ⟨_, rfl⟩
  obtain ⟨ag, cg, hvg, hcg, hmg, hcell⟩ := id i2
  unfold maxLen at hmg
  rw [← hn] at hvg hcg
  have hlen : n ≤ 9223372036854775807 := by omega
  have HN := Lib.hid hn
  have HC := Lib.hid hcell
  have HTB := Lib.hid ht
  have HA := Lib.hid ha
  have HBQ := Lib.hid hbq
  have HG := Lib.hid hG
  have mb : 0 ≤ monI U a b % 10007 ∧ monI U a b % 10007 < 10007 := by omega
  have HT0 := Lib.hid (show tv0 s U a b = if s < 0 then (10007 - monI U a b % 10007) % 10007 else monI U a b % 10007 from rfl)
  clear hn hcell ht ha hbq hG hf hU lU i1 i2 hcg hmg
  generalize monI U a b % 10007 = mU at *
  subst hvg
  have HSE := Lib.hid hse
  have L0 : ∃ r0 : Int, (0 ≤ r0 ∧ r0 < 10007) ∧ r0 = tv0 s U a b := ⟨_, (tvK_bd s U G a b 0), rfl⟩
  clear hse
  by_cases hneg : s < 0
  case' pos => have hdec : decide (s < 0) = true := by simpa using hneg
  case' neg => have hdec : decide (s < 0) = false := by simpa using hneg
  all_goals
    go_enter Try.func46, Try.ntmps46
    go_wp2_with (first | (go_at_call 114; (with_reducible refine (P1 _ HB.out).mono ?_); rintro e w2 ⟨rfl, c2⟩; have B2 := Lib.hid (below_then HB.out HB.out.size c2); have X2 := Lib.hid (BX.out.keep c2); have x0 := X2.out.c0; have x1 := X2.out.c1) | (go_at_call 115; (with_reducible refine (F1 _).mono ?_); rintro e w' ⟨rfl, rfl⟩))
    clear c2 P1 F1 HB BX
    refine (M1 w2 B2.out).mono ?_
    rintro e w' ⟨rfl, dm, rfl⟩
    clear M1
    go_wp2
    clear x0 x1
    have hib : 0 ≤ (10007 - mU) % 10007 ∧ (10007 - mU) % 10007 < 10007 := by omega
    generalize (10007 - mU) % 10007 = ini at *
    go_loopw [8, 9, 10] (fun m i _ wr => ∃ (d k : Nat) (r : Int), k ≤ n ∧ i = .int .i64 k ∧ m = .int .i64 r ∧ 0 ≤ r ∧ r < 10007 ∧ Hid (r = tvK s U G a b k) ∧ Hid (∀ j, j < k → facI (G.getD j []) a b ≠ 0) ∧ Hid (wr = w2.drewN d)) (fun _ i _ _ => n - (intOf i).toNat)
    case atStart =>
      refine ⟨dm, 0, _, by omega, rfl, rfl, ?_, ?_, Lib.hid (show _ = tv0 s U a b from ?_), fun j hj => absurd hj (Nat.not_lt_zero _), Lib.hid rfl⟩
      case refine_3 => rw [HT0.out]; first | (rw [if_pos (by omega)]; done) | (rw [if_neg (by omega)]; done) | (rw [if_pos (by omega)]; rfl) | (rw [if_neg (by omega)]; rfl)
      all_goals omega
    case round =>
      obtain ⟨d, k, r, hk, rfl, rfl, hr0, hr1, hr, hall, HW⟩ := hrel
      have HBW := Lib.hid (show Below w.heap.size w wr by rw [HW.out]; exact B2.out.trans (below_draws _ _ _))
      have XW := Lib.hid (X2.out.keep (show Below w2.heap.size w2 wr by rw [HW.out]; exact below_draws _ _ _))
      have x2 := XW.out.c2
      by_cases hlt : k < n
      · have hkl : k < G.length := by rw [← HN.out]; exact hlt
        obtain ⟨bg, og, V, rfl, hbb, hcc⟩ := HC.out (by intro e; rw [e] at hkl; exact absurd hkl (Nat.not_lt_zero _))
        have hck := (HBW.out.cell (p := ⟨bg, og + k, none⟩) (Nat.lt_of_lt_of_le hbb hhb)).trans (hcc k hkl).1
        have hrow := (hcc k hkl).2.keep HBW.out hhb
        obtain ⟨lg, -, -, -⟩ := HG.out.at hkl
        have M2 := l11Monomial_any (G.getD k []) (V k) a b hb wr hrow lg
        have HF := Lib.hid (show (10008 - monI (G.getD k []) a b % 10007) % 10007 = facI (G.getD k []) a b from rfl)
        have hfb := facI_bd (G.getD k []) a b
        have HNO := Lib.hid (fun (h : facI (G.getD k []) a b = 0) => termV_no4 (s := s) (U := U) hkl h)
        have mb2 : 0 ≤ monI (G.getD k []) a b % 10007 ∧ monI (G.getD k []) a b % 10007 < 10007 := by omega
        have HSTEP := Lib.hid (show ∀ f, f = facI (G.getD k []) a b → r * powP f (-1) % 10007 = tvK s U G a b (k + 1) by
          intro f hf; rw [tvK, ← hr.out, hf])
        have HALL := Lib.hid (show facI (G.getD k []) a b ≠ 0 → ∀ j, j < k + 1 → facI (G.getD j []) a b ≠ 0 by
          intro h j hj
          by_cases e : j = k
          · subst e; exact h
          · exact hall.out j (by omega))
        clear hcc hkl lg hrow hall hr
        generalize V k = xk at *
        generalize monI (G.getD k []) a b % 10007 = mm at *
        by_cases h0 : facI (G.getD k []) a b = 0
        · have HFIN := Lib.hid (HNO.out h0)
          have hz : ((10008 - mm) % 10007 == 0) = true := by rw [HF.out, h0]; rfl
          clear HSTEP HALL HNO HF h0 hfb
          go_wp2_with (go_at_call 116; (with_reducible refine M2.mono ?_); rintro e w' ⟨rfl, d2, rfl⟩)
          go_ret2
          exact ⟨ret_pts HFIN.out, HBW.out.trans (below_draws _ _ _)⟩
        · have HA2 := Lib.hid (HALL.out h0)
          have PW3 := fun w => l11Power_P (facI (G.getD k []) a b) w (by omega) (by omega)
          have hz : (facI (G.getD k []) a b == 0) = false := by simpa using h0
          have pb3 := powP_bd (facI (G.getD k []) a b) (-1)
          have HS := Lib.hid (HSTEP.out _ rfl)
          rw [← HF.out] at PW3 hz pb3 HS
          clear HSTEP HALL HNO HF h0 hfb
          generalize powP ((10008 - mm) % 10007) (-1) = m3 at *
          have mmb := mul_lt7 ⟨hr0, hr1⟩ pb3
          go_wp2_with (first | (go_at_call 116; (with_reducible refine M2.mono ?_); rintro e w' ⟨rfl, d2, rfl⟩) | (go_at_call 117; (with_reducible refine (PW3 _).mono ?_); rintro e w' ⟨rfl, rfl⟩))
          go_roundw
          case rel => first | exact ⟨d + d2, k + 1, _, by omega, by go_num, rfl, by omega, by omega, HS, HA2, Lib.hid (by rw [HW.out, World.drewN_drewN])⟩ | ((repeat apply Exists.intro); exact ⟨⟨d + d2, k + 1, _, by omega, by go_num, rfl, by omega, by omega, HS, HA2, Lib.hid (by rw [HW.out, World.drewN_drewN])⟩, rfl⟩)
          case measure => simp [intOf]; omega
      · obtain rfl : k = n := by omega
        have HFIN := Lib.hid (termV_yes HTB.out HA.out HBQ.out (fun j hj => hall.out j (by rw [HN.out]; exact hj)))
        go_wp2
        go_ret2
        exact ⟨ret_pts (HFIN.out.trans (by rw [← HN.out, hr.out])), HBW.out⟩
end Go.Proofs.Ytehhoplenloocaa
