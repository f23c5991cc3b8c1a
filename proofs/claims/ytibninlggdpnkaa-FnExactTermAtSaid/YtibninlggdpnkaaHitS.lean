/- Sums of generators: the model's walk. -/
import Derived.Test.YtibninlggdpnkaaHit
namespace Go.Proofs.Ytibninlggdpnkaa
open Go.RowKit
set_option linter.unusedVariables false
set_option linter.unusedSimpArgs false

theorem mul_bd6 {a b : Int} (ha : -1000000 ≤ a) (ha' : a ≤ 1000000) (hb : -1000000 ≤ b) (hb' : b ≤ 1000000) : -1000000000000 ≤ a * b ∧ a * b ≤ 1000000000000 := by
  rcases Int.le_total 0 b with h | h
  · have := mul_bd2 (a := a) (b := b) (M := 1000000) (N := 1000000) ha ha' h hb' (by omega); omega
  · have := mul_bd2 (a := a) (b := -b) (M := 1000000) (N := 1000000) ha ha' (by omega) (by omega) (by omega)
    rw [Int.mul_neg] at this; omega

set_option maxHeartbeats 2000000 in
theorem l10Hits_any (G : List (List Int)) (x : List Int) (vg vx : Value) (hb : Nat) (w : World) (ig : ISSr w hb vg G) (ix : ISr w hb vx x) (hhb : hb ≤ w.heap.size) (hG : GensOk G) (lx : x.length = 2) (bx : allIn x (-1000000) 1000000 = true) :
    Calls Try.prog 82 #[vg, vx] w fun e w' => e = .returned (.bool (hitsB G x)) ∧ Below w.heap.size w w' := by
  have bx9 := allIn_mono (c := -1000000000) (d := 1000000000) bx (by omega) (by omega)
  obtain ⟨ag, cg, rfl, -, -, hcell⟩ := id ig
  by_cases h0 : G.length = 0
  · have hr : hitsB G x = (decide (x.getD 0 0 = 0) && decide (x.getD 1 0 = 0)) := by unfold hitsB; rw [if_pos h0]
    rw [hr, h0]
    obtain ⟨b1, o1, c1, rfl, -, x0, x1⟩ := ix.two lx
    clear hr hcell ig ix bx bx9 lx h0 hG
    generalize x.getD 0 0 = p at *
    generalize x.getD 1 0 = q at *
    go_enter Try.func82, Try.ntmps82
    go_wp2
    all_goals go_ret
    all_goals refine ⟨ret_bool ?_, Below.refl _ _⟩
    all_goals first | (simp [*]; done) | (rw [Bool.eq_iff_iff]; simp [*]; done) | (rw [Bool.eq_iff_iff]; simp [*]; omega)
  obtain ⟨b, off, V, rfl, hbb, hcc⟩ := hcell (by intro e; rw [e] at h0; exact h0 rfl)
  by_cases h1 : G.length = 1
  · obtain ⟨l0, s0, b0, g0⟩ := hG.at (k := 0) (by omega)
    have hr : hitsB G x = hit1 (G.getD 0 []) x := by unfold hitsB; rw [if_neg h0, if_pos h1]
    rw [hr, h1]
    have c0 := (hcc 0 (by omega)).1
    have r0 := (hcc 0 (by omega)).2
    rw [Nat.add_zero] at c0
    have gz : ¬ ((G.getD 0 []).getD 0 0 = 0 ∧ (G.getD 0 []).getD 1 0 = 0) := fun e => g0 ((gcdL_zero l0).2 e)
    clear hr h0 h1 hcc hcell g0 hG ig b0
    generalize hg : G.getD 0 [] = g at *
    generalize V 0 = v0 at *
    obtain ⟨b1, o1, k1, hv0, -, y0, y1⟩ := r0.two l0
    obtain ⟨b2, o2, k2, hvx, -, x0, x1⟩ := ix.two lx
    have p0 := allIn_at s0 0 (by omega)
    have p1 := allIn_at s0 1 (by omega)
    have q0 := allIn_at bx 0 (by omega)
    have q1 := allIn_at bx 1 (by omega)
    have SC : ∀ n, -1000000 ≤ n → n ≤ 1000000 → ∀ d, _ := fun (n : Int) hn hn' d => l2Scale_any g v0 n hb (w.drewN d) (r0.draws d) hhb (by omega) (fun k hk => by
      have := allIn_at s0 k hk
      have := mul_bd6 (a := g.getD k 0) (b := n) (by omega) (by omega) hn hn'; omega)
    have hit := hit1_def g x
    have IX := Lib.hid ix
    have R0 := Lib.hid r0
    clear ix r0
    obtain ⟨i, gi, xi, hi1, hbit, hgi, hy, hx, hxb, hform⟩ : ∃ (i : Nat) (gi xi : Int), i ≤ 1 ∧ bitI (g.getD 0 0 == 0) = (i : Int) ∧ gi ≠ 0 ∧ w.cell? ⟨b1, o1 + i, none⟩ = some (.int .i64 gi) ∧ w.cell? ⟨b2, o2 + i, none⟩ = some (.int .i64 xi) ∧ (-1000000 ≤ xi ∧ xi ≤ 1000000) ∧ hit1 g x = (decide (0 ≤ xi.tdiv gi) && decide (g.map (· * xi.tdiv gi) = x)) := by
      by_cases hp : g.getD 0 0 = 0
      · exact ⟨1, g.getD 1 0, x.getD 1 0, by omega, by rw [hp]; rfl, fun e => gz ⟨hp, e⟩, y1, x1, q1, hit.1 hp⟩
      · refine ⟨0, g.getD 0 0, x.getD 0 0, by omega, ?_, hp, y0, x0, q0, hit.2 hp⟩
        rw [show (g.getD 0 0 == 0) = false by simpa using hp]; rfl
    have tb := tdiv_bd xi gi hgi 1000000 hxb.1 hxb.2
    have SC := SC _ tb.1 tb.2
    rw [hform]
    have BT := fun w => l1Bit_any (g.getD 0 0 == 0) w
    simp only [hbit] at BT
    have hgz : (gi == 0) = false := by simpa using hgi
    have j1 : (0 : Int) ≤ (i : Int) := by omega
    have j2 : (i : Int) < 2 := by omega
    clear hform hit gz p0 q0 p1 q1 hbit y1 x1 x0 hxb
    generalize hm : g.map (· * xi.tdiv gi) = gm at *
    clear hm
    generalize g.getD 0 0 = p at *
    subst hv0
    subst hvx
    have HSC := Lib.hid SC; clear SC
    go_enter Try.func82, Try.ntmps82
    go_wp2_with (go_at_call 64; (with_reducible refine (BT _).mono ?_); rintro e w' ⟨rfl, rfl⟩)
    go_quiet (fail)
    clear BT y0 hy hx c0
    have HW := Lib.hid (show ∃ d, w.drewN nq = w.drewN d from ⟨_, rfl⟩)
    have HS := Lib.hid (HSC.out nq)
    have HX := Lib.hid (IX.out.draws nq)
    have HB := Lib.hid (below_draws w.heap.size w nq)
    have hsz : w.heap.size ≤ (w.drewN nq).heap.size := Nat.le_refl _
    clear HSC
    generalize w.drewN nq = w2 at *
    generalize hn : xi.tdiv gi = n at *
    have HN := Lib.hid hn; clear hn
    by_cases hneg : 0 ≤ n
    · go_wp2_with fail
      refine HS.out.mono ?_
      rintro e w3 ⟨u, rfl, ku, c3⟩
      have E := l2Same_any gm x u (.slice (some ⟨b2, o2, none⟩) 2 k2) _ hb w3 ku.read (HX.out.keep c3 (Nat.le_trans hhb hsz))
      have HB3 := Lib.hid (below_then HB.out hsz c3)
      clear ku c3 HS HX
      go_wp2_with (go_at_call 88; (with_reducible refine E.mono ?_); rintro e w' ⟨rfl, d, rfl⟩)
      go_ret
      exact ⟨ret_bool (by rw [HN.out]; simp [hneg]), HB3.out.trans (below_draws _ _ _)⟩
    · go_wp2
      go_ret
      exact ⟨ret_bool (by rw [HN.out, decide_eq_false (show ¬ 0 ≤ n by omega)]; rfl), HB.out⟩
  · have h2 : G.length = 2 := by have := hG.len; omega
    obtain ⟨l0, s0, b0, g0⟩ := hG.at (k := 0) (by omega)
    obtain ⟨l1, s1, b1, g1⟩ := hG.at (k := 1) (by omega)
    have hd := hG.two h2
    have hr : hitsB G x = hit2 (crossI (G.getD 0 []) (G.getD 1 [])) (crossI x (G.getD 1 [])) (crossI (G.getD 0 []) x) := by unfold hitsB; rw [if_neg h0, if_neg h1]
    rw [hr, h2]
    have c0 := (hcc 0 (by omega)).1
    have r0 := (hcc 0 (by omega)).2
    have c1 := (hcc 1 (by omega)).1
    have r1 := (hcc 1 (by omega)).2
    rw [Nat.add_zero] at c0
    have X1 := fun d => l7Cross_any _ _ _ _ hb hb (w.drewN d) (r0.draws d) (r1.draws d) l0 l1 b0 b1
    have X2 := fun d => l7Cross_any _ _ _ _ hb hb (w.drewN d) (ix.draws d) (r1.draws d) lx l1 bx9 b1
    have X3 := fun d => l7Cross_any _ _ _ _ hb hb (w.drewN d) (r0.draws d) (ix.draws d) l0 lx b0 bx9
    have q2 := cross_small lx l1 bx (allIn_mono s1 (by omega) (by omega))
    have q3 := cross_small l0 lx (allIn_mono s0 (by omega) (by omega)) bx
    clear hr h0 h1 hcc hcell l0 s0 b0 r0 g0 l1 s1 b1 r1 g1 hG lx bx bx9 h2 ix ig
    generalize crossI (G.getD 0 []) (G.getD 1 []) = d at *
    generalize crossI x (G.getD 1 []) = a at *
    generalize crossI (G.getD 0 []) x = bb at *
    generalize V 0 = v0 at *
    generalize V 1 = v1 at *
    have t2 := tdiv_bd a d hd 2000000000000 q2.1 q2.2
    have t3 := tdiv_bd bb d hd 2000000000000 q3.1 q3.2
    have hd0 : (d == 0) = false := by simpa using hd
    unfold hit2
    clear q2 q3
    go_enter Try.func82, Try.ntmps82
    go_wp2
    go_quiet ((go_at_call 72; with_reducible exact Calls.quiet_of (X1 _)))
    clear X1
    go_wp2_with fail
    refine (X2 nq).mono ?_
    rintro e w' ⟨rfl, d2, hw2⟩
    rw [World.drewN_drewN] at hw2
    subst hw2
    go_wp2_with fail
    refine (X3 (nq + d2)).mono ?_
    rintro e w' ⟨rfl, d3, hw3⟩
    rw [World.drewN_drewN] at hw3
    subst hw3
    clear X2 X3
    go_wp2
    all_goals go_ret
    all_goals refine ⟨ret_bool ?_, below_draws _ _ _⟩
    all_goals first | (simp [*]; done) | (rw [Bool.eq_iff_iff]; simp [*]; done) | (rw [Bool.eq_iff_iff]; simp [*]; omega)
end Go.Proofs.Ytibninlggdpnkaa
