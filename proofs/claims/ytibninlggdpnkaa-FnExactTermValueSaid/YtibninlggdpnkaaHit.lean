/- Sums of generators: the walks. -/
import Derived.Test.YtibninlggdpnkaaHitM
import Derived.Test.YtibninlggdpnkaaTerm
namespace Go.Proofs.Ytibninlggdpnkaa
open Go.RowKit
set_option linter.unusedVariables false
set_option linter.unusedSimpArgs false

/-- the generators of a right term -/
structure GensOk (G : List (List Int)) : Prop where
  len : G.length ≤ 2
  gen : ∀ k, k < G.length → genB (G.getD k []) = true
  two : G.length = 2 → crossI (G.getD 0 []) (G.getD 1 []) ≠ 0
theorem GensOk.at {G : List (List Int)} (h : GensOk G) {k : Nat} (hk : k < G.length) : (G.getD k []).length = 2 ∧ allIn (G.getD k []) (-30) 30 = true ∧ allIn (G.getD k []) (-1000000000) 1000000000 = true ∧ gcdL (G.getD k []) ≠ 0 := by
  have := h.gen k hk
  simp only [genB, Bool.and_eq_true, decide_eq_true_eq] at this
  have b := ptB_bd this.1 (by omega)
  exact ⟨b.1, (ptB_len this.1).2, b.2.1, this.2⟩
theorem gens_of_term {s : Int} {U : List Int} {G : List (List Int)} (h : termB s U G = true) : GensOk G ∧ ptB U 1000 = true ∧ (s = 1 ∨ s = -1) := by
  unfold termB at h
  simp only [Bool.and_eq_true, decide_eq_true_eq] at h
  obtain ⟨⟨⟨⟨h1, h2⟩, h3⟩, h4⟩, h5⟩ := h
  refine ⟨⟨h3, fun k hk => ?_, h5⟩, h2, h1⟩
  rw [List.all_eq_true] at h4
  rw [List.getD_eq_getElem?_getD, List.getElem?_eq_getElem hk]
  exact h4 _ (List.getElem_mem hk)
theorem tdiv_bd (a d : Int) (hd : d ≠ 0) (M : Int) (h1 : -M ≤ a) (h2 : a ≤ M) : -M ≤ a.tdiv d ∧ a.tdiv d ≤ M := by
  have : (a.tdiv d).natAbs ≤ a.natAbs := by rw [Int.natAbs_tdiv]; exact Nat.div_le_self _ _
  omega
theorem cross_small {a b : List Int} (la : a.length = 2) (lb : b.length = 2) (ha : allIn a (-1000000) 1000000 = true) (hb : allIn b (-1000000) 1000000 = true) : -2000000000000 ≤ crossI a b ∧ crossI a b ≤ 2000000000000 := by
  have p0 := allIn_at ha 0 (by omega)
  have p1 := allIn_at ha 1 (by omega)
  have q0 := allIn_at hb 0 (by omega)
  have q1 := allIn_at hb 1 (by omega)
  have key : ∀ {x y : Int}, -1000000 ≤ x → x ≤ 1000000 → -1000000 ≤ y → y ≤ 1000000 → -1000000000000 ≤ x * y ∧ x * y ≤ 1000000000000 := by
    intro x y h1 h2 h3 h4
    rcases Int.le_total 0 y with h | h
    · have := mul_bd2 (a := x) (b := y) (M := 1000000) (N := 1000000) h1 h2 h h4 (by omega); omega
    · have := mul_bd2 (a := x) (b := -y) (M := 1000000) (N := 1000000) h1 h2 (by omega) (by omega) (by omega)
      rw [Int.mul_neg] at this; omega
  have h1 := key p0.1 p0.2 q1.1 q1.2
  have h2 := key p1.1 p1.2 q0.1 q0.2
  unfold crossI; omega

set_option maxHeartbeats 2000000 in
theorem isSum_any (G : List (List Int)) (x : List Int) (vg vx : Value) (hb : Nat) (w : World) (ig : ISSr w hb vg G) (ix : ISr w hb vx x) (hG : GensOk G) (lx : x.length = 2) (bx : allIn x (-1000000) 1000000 = true) :
    Calls Try.prog 83 #[vg, vx] w fun e w' => e = .returned (.bool (hitsB G x)) ∧ ∃ d, w' = w.drewN d := by
  have bx9 := allIn_mono (c := -1000000000) (d := 1000000000) bx (by omega) (by omega)
  have GX := fun d => gcdAll_any x vx hb (w.drewN d) (ix.draws d) 1000000000 (by omega) (allIn_at bx9)
  obtain ⟨ag, cg, rfl, -, -, hcell⟩ := id ig
  by_cases h0 : G.length = 0
  · have hr : hitsB G x = decide (gcdL x = 0) := by
      unfold hitsB; rw [if_pos h0, Bool.eq_iff_iff, decide_eq_true_eq, gcdL_zero lx]; simp
    rw [hr, h0]
    have GX0 := gcdAll_any x vx hb w ix 1000000000 (by omega) (allIn_at bx9)
    clear hcell hr h0 GX
    generalize gcdL x = gg at *
    go_enter Try.func83, Try.ntmps83
    go_wp2_with (go_at_call 63; (with_reducible refine GX0.mono ?_); rintro e w' ⟨rfl, d, rfl⟩)
    all_goals go_ret
    all_goals exact ⟨ret_bool (by first | rfl | (simp; done)), _, rfl⟩
  obtain ⟨b, off, V, rfl, hbb, hcc⟩ := hcell (by intro e; rw [e] at h0; exact h0 rfl)
  by_cases h1 : G.length = 1
  · obtain ⟨l0, s0, b0, g0⟩ := hG.at (k := 0) (by omega)
    have hr : hitsB G x = hit1 (G.getD 0 []) x := by unfold hitsB; rw [if_neg h0, if_pos h1]
    rw [hr, hit1_prog l0 lx g0, h1]
    have c0 := (hcc 0 (by omega)).1
    have r0 := (hcc 0 (by omega)).2
    rw [Nat.add_zero] at c0
    have X0 := cross_any _ _ _ _ hb hb w r0 ix l0 lx b0 bx9
    have D := fun d => dot_any _ _ _ _ hb hb (w.drewN d) (r0.draws d) (ix.draws d) (by omega) (by omega) b0 bx9
    have GG := fun d => gcdAll_any _ _ hb (w.drewN d) (r0.draws d) 1000000000 (by omega) (allIn_at b0)
    have gn : 1 ≤ gcdL (G.getD 0 []) := by rw [gcdL_two l0] at g0 ⊢; omega
    have gx : 0 ≤ gcdL x := by rw [gcdL_two lx]; omega
    have hmod : (gcdL x).tmod (gcdL (G.getD 0 [])) = gcdL x % gcdL (G.getD 0 []) := Int.tmod_eq_emod_of_nonneg gx
    rw [hmod]
    clear hmod hr h0 h1 hcc hcell l0 s0 b0 r0 g0
    generalize gcdL (G.getD 0 []) = g at *
    generalize gcdL x = gg at *
    generalize crossI (G.getD 0 []) x = cr at *
    generalize dotI (G.getD 0 []) x = dt at *
    generalize V 0 = v0 at *
    have hg0 : (g == 0) = false := by rw [beq_eq_false_iff_ne]; omega
    go_enter Try.func83, Try.ntmps83
    go_wp2_with (first | (go_at_call 74; (with_reducible refine X0.mono ?_); rintro e w' ⟨rfl, d, rfl⟩) | (go_at_call 89; (with_reducible refine (D _).mono ?_); rintro e w' ⟨rfl, d2, rfl⟩) | (go_at_call 63; (with_reducible refine (GX _).mono ?_); rintro e w' ⟨rfl, d3, rfl⟩) | (go_at_call 63; (with_reducible refine (GG _).mono ?_); rintro e w' ⟨rfl, d4, rfl⟩))
    all_goals go_ret
    all_goals refine ⟨ret_bool ?_, _, rfl⟩
    all_goals first | (simp [*]; done) | (rw [Bool.eq_iff_iff]; simp [*]; done) | (rw [Bool.eq_iff_iff]; simp [*]; omega)
  · have h2 : G.length = 2 := by have := hG.len; omega
    obtain ⟨l0, s0, b0, g0⟩ := hG.at (k := 0) (by omega)
    obtain ⟨l1, s1, b1, g1⟩ := hG.at (k := 1) (by omega)
    have hd := hG.two h2
    have hr : hitsB G x = hit2 (crossI (G.getD 0 []) (G.getD 1 [])) (crossI x (G.getD 1 [])) (crossI (G.getD 0 []) x) := by unfold hitsB; rw [if_neg h0, if_neg h1]
    rw [hr, h2]
    have c0 := (hcc 0 (by omega)).1
    have r0 := (hcc 0 (by omega)).2
    have c1 := (hcc 1 (by omega)).1
    have r1 := (hcc 1 (by omega)).2
    rw [Nat.add_zero] at c0
    have X1 := fun d => cross_any _ _ _ _ hb hb (w.drewN d) (r0.draws d) (r1.draws d) l0 l1 b0 b1
    have X2 := fun d => cross_any _ _ _ _ hb hb (w.drewN d) (ix.draws d) (r1.draws d) lx l1 bx9 b1
    have X3 := fun d => cross_any _ _ _ _ hb hb (w.drewN d) (r0.draws d) (ix.draws d) l0 lx b0 bx9
    have q2 := cross_small lx l1 bx (allIn_mono s1 (by omega) (by omega))
    have q3 := cross_small l0 lx (allIn_mono s0 (by omega) (by omega)) bx
    clear hr h0 h1 hcc hcell l0 s0 b0 r0 g0 l1 s1 b1 r1 g1 GX hG lx bx bx9 h2 ix ig
    generalize crossI (G.getD 0 []) (G.getD 1 []) = d at *
    generalize crossI x (G.getD 1 []) = a at *
    generalize crossI (G.getD 0 []) x = bb at *
    generalize V 0 = v0 at *
    generalize V 1 = v1 at *
    have t2 := tdiv_bd a d hd 2000000000000 q2.1 q2.2
    have t3 := tdiv_bd bb d hd 2000000000000 q3.1 q3.2
    have hd0 : (d == 0) = false := by simpa using hd
    unfold hit2
    clear q2 q3
    go_enter Try.func83, Try.ntmps83
    go_wp2
    go_quiet ((go_at_call 74; with_reducible exact Calls.quiet_of (X1 _)))
    have X2' := fun n => X2 (nq + n)
    have X3' := fun n => X3 (nq + n)
    simp only [← World.drewN_drewN] at X2' X3'
    clear X1 X2 X3
    have HW := Lib.hid (show ∃ d, w.drewN nq = w.drewN d from ⟨_, rfl⟩)
    have c0' : (w.drewN nq).cell? ⟨b, off, none⟩ = some v0 := c0
    have c1' : (w.drewN nq).cell? ⟨b, off + 1, none⟩ = some v1 := c1
    clear c0 c1
    generalize w.drewN nq = w2 at *
    go_wp2
    go_quiet (first | (go_at_call 74; with_reducible exact Calls.quiet_of (X2' _)) | (go_at_call 74; with_reducible exact Calls.quiet_of (X3' _)))
    clear X2' X3'
    have HW2 := Lib.hid (show ∃ d, w2.drewN nq = w.drewN d by obtain ⟨d, e⟩ := HW.out; exact ⟨_, by rw [e, World.drewN_drewN]⟩)
    clear HW
    go_wp2
    all_goals go_ret
    all_goals refine ⟨ret_bool ?_, HW2.out⟩
    all_goals first | (simp [*]; done) | (rw [Bool.eq_iff_iff]; simp [*]; done) | (rw [Bool.eq_iff_iff]; simp [*]; omega)
end Go.Proofs.Ytibninlggdpnkaa
