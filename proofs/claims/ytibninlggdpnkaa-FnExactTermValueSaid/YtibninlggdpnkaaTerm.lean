/- Terms: IsTerm, the plain law and the walks. -/
import Derived.Test.YtibninlggdpnkaaTermT
import Derived.Test.YtibninlggdpnkaaConeN
namespace Go.Proofs.Ytibninlggdpnkaa
open Go.RowKit
set_option linter.unusedVariables false
set_option linter.unusedSimpArgs false

def magI (a : Int) : Int := if a = -9223372036854775808 then a else max a (-a)
theorem magI_one (a : Int) : magI a = 1 ↔ (a = 1 ∨ a = -1) := by unfold magI; split <;> omega
set_option maxHeartbeats 400000 in
theorem magnitude_w (a : Int) (w : World) (ha : -9223372036854775808 ≤ a) (ha' : a ≤ 9223372036854775807) :
    Calls Try.prog 80 #[.int .i64 a] w fun e w' => e = .returned (.int .i64 (magI a)) ∧ w = w' := by
  by_cases h : a = -9223372036854775808
  · subst h
    go_enter Try.func80, Try.ntmps80
    go_wp2
    all_goals go_ret
    all_goals exact ⟨ret_int (by first | (unfold wrap64 magI; omega) | (unfold magI; omega)), rfl⟩
  · have := magnitude_any a w (by omega) ha'
    unfold magI; rw [if_neg h]; exact this

def genB (g : List Int) : Bool := ptB g 30 && decide (gcdL g ≠ 0)
def termB (s : Int) (U : List Int) (G : List (List Int)) : Bool :=
  decide (s = 1 ∨ s = -1) && ptB U 1000 && decide (G.length ≤ 2) && G.all genB && decide (G.length = 2 → crossI (G.getD 0 []) (G.getD 1 []) ≠ 0)
theorem all_getD {G : List (List Int)} {p : List Int → Bool} (h : ∀ k, k < G.length → p (G.getD k []) = true) : G.all p = true := by
  rw [List.all_eq_true]
  intro x hx
  obtain ⟨i, hi, rfl⟩ := List.mem_iff_getElem.1 hx
  have := h i hi
  rwa [List.getD_eq_getElem?_getD, List.getElem?_eq_getElem hi] at this
theorem all_getD_no {G : List (List Int)} {p : List Int → Bool} {k : Nat} (hk : k < G.length) (h : p (G.getD k []) = false) : G.all p = false := by
  rw [List.all_eq_false]
  refine ⟨G.getD k [], ?_, by rw [h]; simp⟩
  rw [List.getD_eq_getElem?_getD, List.getElem?_eq_getElem hk]; exact List.getElem_mem hk
theorem termB_no {s : Int} {U : List Int} {G : List (List Int)} {k : Nat} (hk : k < G.length) (h : genB (G.getD k []) = false) : termB s U G = false := by
  unfold termB; rw [all_getD_no hk h]; simp
theorem termB_all {s : Int} {U : List Int} {G : List (List Int)} (h1 : s = 1 ∨ s = -1) (h2 : ptB U 1000 = true) (h3 : G.length ≤ 2) (h : ∀ k, k < G.length → genB (G.getD k []) = true) : termB s U G = decide (G.length = 2 → crossI (G.getD 0 []) (G.getD 1 []) ≠ 0) := by
  unfold termB; rw [all_getD h, h2, decide_eq_true h1, decide_eq_true h3]; simp
theorem ptB_bd {g : List Int} {m : Int} (h : ptB g m = true) (hm : m ≤ 1000000000) : g.length = 2 ∧ allIn g (-1000000000) 1000000000 = true ∧ (∀ k, k < g.length → -1000000000 ≤ g.getD k 0 ∧ g.getD k 0 ≤ 1000000000) := by
  obtain ⟨h1, h2⟩ := ptB_len h
  have h3 := allIn_mono (c := -1000000000) (d := 1000000000) h2 (by omega) (by omega)
  exact ⟨h1, h3, allIn_at h3⟩

set_option maxHeartbeats 2000000 in
theorem implIsTerm_any (s : Int) (U : List Int) (G : List (List Int)) (v1 v2 : Value) (hb : Nat) (w : World) (hs : -9223372036854775808 ≤ s ∧ s ≤ 9223372036854775807) (i1 : ISr w hb v1 U) (i2 : ISSr w hb v2 G) (hhb : hb ≤ w.heap.size) :
    Calls Try.prog 50 #[.agg #[.int .i64 s, v1, v2]] w fun e w' => e = .returned (.bool (termB s U G)) ∧ Below w.heap.size w w' := by
  have B0 := below1 w (.cells #[.int .i64 s, v1, v2] 61)
  have M := fun w => magnitude_w s w hs.1 hs.2
  by_cases h1 : s = 1 ∨ s = -1
  case neg =>
    have hr : termB s U G = false := by simp [termB, h1]
    have hm : (magI s != 1) = true := by rw [bne_iff_ne]; intro h; exact h1 ((magI_one s).1 h)
    rw [hr]
    clear hr h1
    generalize magI s = m at *
    go_enter Try.func50, Try.ntmps50
    go_wp2_with (go_at_call 80; (with_reducible refine (M _).mono ?_); rintro e w' ⟨rfl, rfl⟩)
    go_ret
    exact ⟨rfl, B0⟩
  have hm : (magI s != 1) = false := by rw [bne_eq_false_iff_eq]; exact (magI_one s).2 h1
  generalize magI s = m at *
  have P := isPoint_any U v1 1000 hb _ (i1.keep B0 hhb) (by omega) (by omega)
  cases h2 : ptB U 1000
  · have hr : termB s U G = false := by simp [termB, h2]
    rw [hr]
    rw [h2] at P
    clear hr h1 h2
    go_enter Try.func50, Try.ntmps50
    go_wp2_with (first | (go_at_call 80; (with_reducible refine (M _).mono ?_); rintro e w' ⟨rfl, rfl⟩) | (go_at_call 73; (with_reducible refine P.mono ?_); rintro e w' ⟨rfl, rfl⟩))
    go_ret
    exact ⟨rfl, B0⟩
  rw [h2] at P
  have HSE := Lib.hid h1
  have HP := Lib.hid h2
  clear h1 h2
  by_cases h3 : G.length ≤ 2
  case neg =>
    have hr : termB s U G = false := by simp [termB, h3]
    rw [hr]
    obtain ⟨a, cap, rfl, -⟩ := i2
    clear hr
    have h3' : 2 < G.length := by omega
    clear h3
    generalize G.length = n at *
    go_enter Try.func50, Try.ntmps50
    go_wp2_with (first | (go_at_call 80; (with_reducible refine (M _).mono ?_); rintro e w' ⟨rfl, rfl⟩) | (go_at_call 73; (with_reducible refine P.mono ?_); rintro e w' ⟨rfl, rfl⟩))
    go_ret
    exact ⟨rfl, B0⟩
  have bx := box3_new w (.int .i64 s) v1 v2 61
  have HI2 := Lib.hid i2
  rcases i2.cases with ⟨rfl, a, cap, rfl⟩ | ⟨hpos, hlen, b, off, cap, V0, rfl, hbb, hcell⟩
  · have hr : termB s U [] = true := by rw [termB_all HSE.out HP.out (by simp) (fun k hk => absurd hk (Nat.not_lt_zero _))]; simp
    rw [hr]
    clear hr
    have x2 := bx.c2
    go_enter Try.func50, Try.ntmps50
    go_wp2_with (first | (go_at_call 80; (with_reducible refine (M _).mono ?_); rintro e w' ⟨rfl, rfl⟩) | (go_at_call 73; (with_reducible refine P.mono ?_); rintro e w' ⟨rfl, rfl⟩))
    refine wp_loop_rounds 1 ?_
    rw [rounds_succ]
    go_wp2
    go_quiet (fail)
    go_wp2
    go_ret
    exact ⟨rfl, B0.trans (below_draws _ _ _)⟩
  obtain ⟨n, hn⟩ : ∃ n, n = G.length := ⟨_, rfl⟩
  have BX := Lib.hid bx
  clear bx i2
  rw [← hn] at hlen hpos h3 P BX ⊢
  have HN := Lib.hid hn; clear hn
  have HC := Lib.hid hcell; clear hcell
  rw [← HN.out] at B0 HI2
  have HB0 := Lib.hid B0
  have x2 := BX.out.c2
  clear B0 i1
  go_enter Try.func50, Try.ntmps50
  go_wp2_with (first | (go_at_call 80; (with_reducible refine (M _).mono ?_); rintro e w' ⟨rfl, rfl⟩) | (go_at_call 73; (with_reducible refine P.mono ?_); rintro e w' ⟨rfl, rfl⟩))
  clear M P x2
  generalize w.alloc (.cells #[.int .i64 s, v1, .slice (some ⟨b, off, none⟩) n cap] 61) = w1 at *
  go_loopw [4, 24] (fun g i wr => ∃ (d k : Nat), k ≤ n ∧ i = .int .i64 k ∧ Hid (wr = w1.drewN d) ∧ Hid (∀ j, j < k → genB (G.getD j []) = true)) (fun _ i _ => n - (intOf i).toNat)
  case atStart => exact ⟨0, 0, by omega, rfl, Lib.hid rfl, fun j hj => absurd hj (Nat.not_lt_zero _)⟩
  case round =>
    obtain ⟨d, k, hk, rfl, HW, hall⟩ := hrel
    have HBW := Lib.hid (show Below w.heap.size w wr by rw [HW.out]; exact HB0.out.trans (below_draws _ _ _))
    by_cases hlt : k < n
    · have hkl : k < G.length := by rw [← HN.out]; exact hlt
      have hck := (HBW.out.cell (p := ⟨b, off + k, none⟩) (Nat.lt_of_lt_of_le hbb hhb)).trans (HC.out k hkl).1
      have hrow := (HC.out k hkl).2.keep HBW.out hhb
      have Q := isPoint_any _ _ 30 hb wr hrow (by omega) (by omega)
      cases g1 : ptB (G.getD k []) 30
      · have HR := Lib.hid (termB_no (s := s) (U := U) hkl (by simp only [genB, g1]; rfl))
        rw [g1] at Q
        clear g1 hkl hrow
        generalize V0 k = xk at *
        go_wp2_with (go_at_call 73; (with_reducible refine Q.mono ?_); rintro e w' ⟨rfl, rfl⟩)
        go_ret
        exact ⟨ret_bool HR.out.symm, HBW.out⟩
      · rw [g1] at Q
        have bd := ptB_bd g1 (by omega)
        have A := gcdAll_any _ _ hb wr hrow 1000000000 (by omega) bd.2.2
        by_cases g2 : gcdL (G.getD k []) = 0
        · have HR := Lib.hid (termB_no (s := s) (U := U) hkl (by simp only [genB, g2]; simp))
          have hz : (gcdL (G.getD k []) == 0) = true := by simpa using g2
          clear g1 g2 bd hkl hrow
          generalize gcdL (G.getD k []) = gg at *
          generalize V0 k = xk at *
          go_wp2_with (first | (go_at_call 73; (with_reducible refine Q.mono ?_); rintro e w' ⟨rfl, rfl⟩) | (go_at_call 63; (with_reducible refine A.mono ?_); rintro e w' ⟨rfl, d2, rfl⟩))
          go_ret
          exact ⟨ret_bool HR.out.symm, HBW.out.trans (below_draws _ _ _)⟩
        · have hz : (gcdL (G.getD k []) == 0) = false := by simpa using g2
          have HALL := Lib.hid (fun j (hj : j < k + 1) => show genB (G.getD j []) = true by
            by_cases e : j = k
            · subst e; simp only [genB, g1, Bool.true_and]; exact decide_eq_true g2
            · exact hall.out j (by omega))
          clear g1 g2 bd hkl hrow
          generalize gcdL (G.getD k []) = gg at *
          generalize V0 k = xk at *
          go_wp2_with (first | (go_at_call 73; (with_reducible refine Q.mono ?_); rintro e w' ⟨rfl, rfl⟩) | (go_at_call 63; (with_reducible refine A.mono ?_); rintro e w' ⟨rfl, d2, rfl⟩))
          go_roundw
          case rel => exact ⟨d + d2, k + 1, by omega, by go_num, Lib.hid (by rw [HW.out, World.drewN_drewN]), HALL⟩
          case measure => simp [intOf]; omega
    · obtain rfl : k = n := by omega
      have BXW := Lib.hid (BX.out.keep (show Below w1.heap.size w1 wr by rw [HW.out]; exact below_draws _ _ _))
      have x2 := BXW.out.c2
      have HFIN := Lib.hid (termB_all HSE.out HP.out (by rw [← HN.out]; exact h3) (fun j hj => hall.out j (by rw [HN.out]; exact hj)))
      by_cases h2 : k = 2
      · subst h2
        have c0 := (HBW.out.cell (p := ⟨b, off, none⟩) (Nat.lt_of_lt_of_le hbb hhb)).trans (HC.out 0 (by rw [← HN.out]; omega)).1
        have c1 := (HBW.out.cell (p := ⟨b, off + 1, none⟩) (Nat.lt_of_lt_of_le hbb hhb)).trans (HC.out 1 (by rw [← HN.out]; omega)).1
        have r0 := (HC.out 0 (by rw [← HN.out]; omega)).2.keep HBW.out hhb
        have r1 := (HC.out 1 (by rw [← HN.out]; omega)).2.keep HBW.out hhb
        have p0 := hall.out 0 (by omega)
        have p1 := hall.out 1 (by omega)
        simp only [genB, Bool.and_eq_true] at p0 p1
        have b0 := ptB_bd p0.1 (by omega)
        have b1 := ptB_bd p1.1 (by omega)
        have X := fun n => cross_any _ _ _ _ hb hb (wr.drewN n) (r0.draws n) (r1.draws n) b0.1 b1.1 b0.2.1 b1.2.1
        have HRR := Lib.hid (show termB s U G = (crossI (G.getD 0 []) (G.getD 1 []) != 0) by rw [HFIN.out, ← HN.out, Bool.eq_iff_iff]; simp)
        clear p0 p1 b0 b1 r0 r1
        generalize crossI (G.getD 0 []) (G.getD 1 []) = cc at *
        generalize V0 0 = x0 at *
        generalize V0 1 = x1 at *
        go_wp2
        go_quiet ((go_at_call 74; exact Calls.quiet_of (X _)))
        go_wp2
        go_ret
        exact ⟨ret_bool HRR.out.symm, HBW.out.trans (below_draws _ _ _)⟩
      · have hk1 : k = 1 := by omega
        subst hk1
        have HRR := Lib.hid (show termB s U G = true by rw [HFIN.out, ← HN.out]; simp)
        go_wp2
        go_quiet (fail)
        go_wp2
        go_ret
        exact ⟨ret_bool HRR.out.symm, HBW.out.trans (below_draws _ _ _)⟩
end Go.Proofs.Ytibninlggdpnkaa
