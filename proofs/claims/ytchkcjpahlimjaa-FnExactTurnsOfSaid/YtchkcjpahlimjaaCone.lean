/- Cones: the walks of IsCone. -/
import Derived.Test.YtchkcjpahlimjaaPt
namespace Go.Proofs.Ytchkcjpahlimjaa
open Go.RowKit
set_option linter.unusedVariables false
set_option linter.unusedSimpArgs false

def coneB (U V : List Int) : Bool := ptB U 30 && ptB V 30 && decide (gcdL U = 1) && decide (gcdL V = 1) && decide (0 < crossI U V)
theorem coneB_of {U V : List Int} (h : coneB U V = true) : ptB U 30 = true ∧ ptB V 30 = true ∧ gcdL U = 1 ∧ gcdL V = 1 ∧ 0 < crossI U V := by
  simpa [coneB, and_assoc] using h
theorem allIn_mono {l : List Int} {a b c d : Int} (h : allIn l a b = true) (h1 : c ≤ a) (h2 : b ≤ d) : allIn l c d = true := by
  unfold allIn at *
  rw [List.all_eq_true] at *
  intro x hx
  have := inB_iff.1 (h x hx)
  exact inB_iff.2 ⟨by omega, by omega⟩
theorem pt_gcd_bd {l : List Int} {m : Int} (h : ptB l m = true) : ∀ k, k < l.length → -m ≤ l.getD k 0 ∧ l.getD k 0 ≤ m := allIn_at (ptB_len h).2

set_option maxHeartbeats 1000000 in
theorem implIsCone_any (U V : List Int) (v1 v2 : Value) (hb : Nat) (w : World) (i1 : ISr w hb v1 U) (i2 : ISr w hb v2 V) (hhb : hb ≤ w.heap.size) :
    Calls Try.prog 58 #[.agg #[v1, v2]] w fun e w' => e = .returned (.bool (coneB U V)) ∧ Below w.heap.size w w' := by
  have B0 := below1 w (.cells #[v1, v2] 28)
  have j1 := i1.keep B0 hhb
  have j2 := i2.keep B0 hhb
  have x0 : (w.alloc (.cells #[v1, v2] 28)).cell? ⟨w.heap.size, 0, none⟩ = some v1 := by rw [World.cell?_alloc_at _ _ _ _ rfl]; rfl
  have x1 : (w.alloc (.cells #[v1, v2] 28)).cell? ⟨w.heap.size, 1, none⟩ = some v2 := by rw [World.cell?_alloc_at _ _ _ _ rfl]; rfl
  obtain ⟨wo, hwo⟩ : ∃ wo, wo = w.alloc (.cells #[v1, v2] 28) := ⟨_, rfl⟩
  have P1 := isPoint_any U v1 30 hb _ j1 (by omega) (by omega)
  have P2 := isPoint_any V v2 30 hb _ j2 (by omega) (by omega)
  by_cases a1 : ptB U 30 = true
  · have G1 := gcdAll_any U v1 hb _ j1 30 (by omega) (pt_gcd_bd a1)
    rw [a1] at P1
    by_cases a2 : ptB V 30 = true
    · have G2 := fun n => gcdAll_any V v2 hb _ (j2.draws n) 30 (by omega) (pt_gcd_bd a2)
      rw [a2] at P2
      by_cases a3 : gcdL U = 1
      · have a3' : (gcdL U == 1) = true := by rw [beq_iff_eq]; exact a3
        by_cases a4 : gcdL V = 1
        · have a4' : (gcdL V == 1) = true := by rw [beq_iff_eq]; exact a4
          have hc : coneB U V = decide (0 < crossI U V) := by simp [coneB, a1, a2, a3, a4]
          have C := fun n => cross_any U V v1 v2 hb hb _ (j1.draws n) (j2.draws n) (ptB_len a1).1 (ptB_len a2).1 (allIn_mono (ptB_len a1).2 (by omega) (by omega)) (allIn_mono (ptB_len a2).2 (by omega) (by omega))
          rw [hc]
          clear hc a3 a4 a1 a2 i1 i2 j1 j2 hwo
          go_enter Try.func58, Try.ntmps58
          go_wp2_with (first | (go_at_call 97; (with_reducible refine P1.mono ?_); rintro e w' ⟨rfl, rfl⟩) | (go_at_call 97; (with_reducible refine P2.mono ?_); rintro e w' ⟨rfl, rfl⟩) | (go_at_call 98; (with_reducible refine G1.mono ?_); rintro e w' ⟨rfl, d1, rfl⟩) | (go_at_call 98; (with_reducible refine (G2 _).mono ?_); rintro e w' ⟨rfl, d2, rfl⟩) | (go_at_call 60; (with_reducible refine (C _).mono ?_); rintro e w' ⟨rfl, d3, rfl⟩))
          go_ret
          exact ⟨rfl, B0.trans (below_draws _ _ _)⟩
        · have a4' : (gcdL V == 1) = false := by rw [beq_eq_false_iff_ne]; exact a4
          have hc : coneB U V = false := by simp [coneB, a4]
          rw [hc]
          clear hc a3 a4 a1 a2 i1 i2 j1 j2 hwo
          go_enter Try.func58, Try.ntmps58
          go_wp2_with (first | (go_at_call 97; (with_reducible refine P1.mono ?_); rintro e w' ⟨rfl, rfl⟩) | (go_at_call 97; (with_reducible refine P2.mono ?_); rintro e w' ⟨rfl, rfl⟩) | (go_at_call 98; (with_reducible refine G1.mono ?_); rintro e w' ⟨rfl, d1, rfl⟩) | (go_at_call 98; (with_reducible refine (G2 _).mono ?_); rintro e w' ⟨rfl, d2, rfl⟩))
          go_ret
          exact ⟨rfl, B0.trans (below_draws _ _ _)⟩
      · have a3' : (gcdL U == 1) = false := by rw [beq_eq_false_iff_ne]; exact a3
        have hc : coneB U V = false := by simp [coneB, a3]
        rw [hc]
        clear hc a3 a1 a2 i1 i2 j1 j2 hwo
        go_enter Try.func58, Try.ntmps58
        go_wp2_with (first | (go_at_call 97; (with_reducible refine P1.mono ?_); rintro e w' ⟨rfl, rfl⟩) | (go_at_call 97; (with_reducible refine P2.mono ?_); rintro e w' ⟨rfl, rfl⟩) | (go_at_call 98; (with_reducible refine G1.mono ?_); rintro e w' ⟨rfl, d1, rfl⟩))
        go_ret
        exact ⟨rfl, B0.trans (below_draws _ _ _)⟩
    · have hc : coneB U V = false := by simp [coneB, a2]
      have a2 : ptB V 30 = false := by simpa using a2
      rw [a2] at P2
      rw [hc]
      clear hc a1 a2 i1 i2 j1 j2 hwo
      go_enter Try.func58, Try.ntmps58
      go_wp2_with (first | (go_at_call 97; (with_reducible refine P1.mono ?_); rintro e w' ⟨rfl, rfl⟩) | (go_at_call 97; (with_reducible refine P2.mono ?_); rintro e w' ⟨rfl, rfl⟩))
      go_ret
      exact ⟨rfl, B0⟩
  · have hc : coneB U V = false := by simp [coneB, a1]
    have a1 : ptB U 30 = false := by simpa using a1
    rw [a1] at P1
    rw [hc]
    clear hc a1 i1 i2 j1 j2 hwo P2
    go_enter Try.func58, Try.ntmps58
    go_wp2_with (go_at_call 97; (with_reducible refine P1.mono ?_); rintro e w' ⟨rfl, rfl⟩)
    go_ret
    exact ⟨rfl, B0⟩

theorem coneB_ray (U V : List Int) : coneB U V = (rayB U && rayB V && decide (0 < crossI U V)) := by
  unfold coneB rayB
  cases ptB U 30 <;> cases ptB V 30 <;> cases decide (gcdL U = 1) <;> simp

set_option maxHeartbeats 1000000 in
theorem l9Ray_any (l : List Int) (v : Value) (hb : Nat) (w : World) (h : ISr w hb v l) :
    Calls Try.prog 92 #[v] w fun e w' => e = .returned (.bool (rayB l)) ∧ ∃ d, w' = w.drewN d := by
  have P1 := l2Small_any l v 30 hb w h (by omega) (by omega)
  by_cases hl : l.length = 2
  · by_cases a1 : allIn l (-30) 30 = true
    · have hp : ptB l 30 = true := by simp [ptB, hl, a1]
      have G1 := fun n => l2All_any l v hb _ (h.draws n) 30 (by omega) (pt_gcd_bd hp)
      rw [a1] at P1
      obtain ⟨a, cap, rfl, -, -, -⟩ := h
      rw [hl] at P1 G1 ⊢
      by_cases a3 : gcdL l = 1
      · have a3' : (gcdL l == 1) = true := by rw [beq_iff_eq]; exact a3
        have hr : rayB l = true := by simp [rayB, hp, a3]
        rw [hr]
        clear hr a3 hl a1 hp
        go_enter Try.func92, Try.ntmps92
        go_wp2_with (first | (go_at_call 107; (with_reducible refine P1.mono ?_); rintro e w' ⟨rfl, d1, rfl⟩) | (go_at_call 114; (with_reducible refine (G1 _).mono ?_); rintro e w' ⟨rfl, rfl⟩))
        go_ret
        exact ⟨rfl, _, rfl⟩
      · have a3' : (gcdL l == 1) = false := by rw [beq_eq_false_iff_ne]; exact a3
        have hr : rayB l = false := by simp [rayB, a3]
        rw [hr]
        clear hr a3 hl a1 hp
        go_enter Try.func92, Try.ntmps92
        go_wp2_with (first | (go_at_call 107; (with_reducible refine P1.mono ?_); rintro e w' ⟨rfl, d1, rfl⟩) | (go_at_call 114; (with_reducible refine (G1 _).mono ?_); rintro e w' ⟨rfl, rfl⟩))
        go_ret
        exact ⟨rfl, _, rfl⟩
    · have hr : rayB l = false := by simp [rayB, ptB, a1]
      have a1 : allIn l (-30) 30 = false := by simpa using a1
      rw [a1] at P1
      obtain ⟨a, cap, rfl, -, -, -⟩ := h
      rw [hl] at P1 ⊢
      rw [hr]
      clear hr hl a1
      go_enter Try.func92, Try.ntmps92
      go_wp2_with (go_at_call 107; (with_reducible refine P1.mono ?_); rintro e w' ⟨rfl, d1, rfl⟩)
      go_ret
      exact ⟨rfl, _, rfl⟩
  · have hr : rayB l = false := by simp [rayB, ptB, hl]
    rw [hr]
    have hne : ((l.length : Int) == 2) = false := by rw [beq_eq_false_iff_ne]; omega
    obtain ⟨a, cap, rfl, -, -, -⟩ := h
    generalize l.length = n at *
    clear P1 hr
    go_enter Try.func92, Try.ntmps92
    go_wp2
    go_ret
    exact ⟨rfl, 0, rfl⟩

set_option maxHeartbeats 1000000 in
theorem specIsCone_any (U V : List Int) (v1 v2 : Value) (hb : Nat) (w : World) (i1 : ISr w hb v1 U) (i2 : ISr w hb v2 V) (hhb : hb ≤ w.heap.size) :
    Calls Try.prog 55 #[.agg #[v1, v2]] w fun e w' => e = .returned (.bool (coneB U V)) ∧ Below w.heap.size w w' := by
  have B0 := below1 w (.cells #[v1, v2] 28)
  have j1 := i1.keep B0 hhb
  have j2 := i2.keep B0 hhb
  have x0 : (w.alloc (.cells #[v1, v2] 28)).cell? ⟨w.heap.size, 0, none⟩ = some v1 := by rw [World.cell?_alloc_at _ _ _ _ rfl]; rfl
  have x1 : (w.alloc (.cells #[v1, v2] 28)).cell? ⟨w.heap.size, 1, none⟩ = some v2 := by rw [World.cell?_alloc_at _ _ _ _ rfl]; rfl
  have P1 := l9Ray_any U v1 hb _ j1
  have P2 := fun n => l9Ray_any V v2 hb _ (j2.draws n)
  rw [coneB_ray]
  by_cases a1 : rayB U = true
  · by_cases a2 : rayB V = true
    · have p1 : ptB U 30 = true := by simp only [rayB, Bool.and_eq_true] at a1; exact a1.1
      have p2 : ptB V 30 = true := by simp only [rayB, Bool.and_eq_true] at a2; exact a2.1
      have C := fun n => l7Cross_any U V v1 v2 hb hb _ (j1.draws n) (j2.draws n) (ptB_len p1).1 (ptB_len p2).1 (allIn_mono (ptB_len p1).2 (by omega) (by omega)) (allIn_mono (ptB_len p2).2 (by omega) (by omega))
      rw [a1] at P1 ⊢
      simp only [a2] at P2 ⊢
      simp only [Bool.true_and]
      clear a1 a2 p1 p2 i1 i2 j1 j2
      go_enter Try.func55, Try.ntmps55
      go_wp2_with (first | (go_at_call 92; (with_reducible refine P1.mono ?_); rintro e w' ⟨rfl, d1, rfl⟩) | (go_at_call 92; (with_reducible refine (P2 _).mono ?_); rintro e w' ⟨rfl, d2, rfl⟩) | (go_at_call 56; (with_reducible refine (C _).mono ?_); rintro e w' ⟨rfl, d3, rfl⟩))
      go_ret
      exact ⟨rfl, B0.trans (below_draws _ _ _)⟩
    · have a2 : rayB V = false := by simpa using a2
      rw [a1] at P1
      simp only [a2] at P2 ⊢
      simp only [Bool.and_false, Bool.false_and]
      clear a1 a2 i1 i2 j1 j2
      go_enter Try.func55, Try.ntmps55
      go_wp2_with (first | (go_at_call 92; (with_reducible refine P1.mono ?_); rintro e w' ⟨rfl, d1, rfl⟩) | (go_at_call 92; (with_reducible refine (P2 _).mono ?_); rintro e w' ⟨rfl, d2, rfl⟩))
      go_ret
      exact ⟨rfl, B0.trans (below_draws _ _ _)⟩
  · have a1 : rayB U = false := by simpa using a1
    rw [a1] at P1 ⊢
    simp only [Bool.false_and]
    clear a1 i1 i2 j1 j2 P2
    go_enter Try.func55, Try.ntmps55
    go_wp2_with (go_at_call 92; (with_reducible refine P1.mono ?_); rintro e w' ⟨rfl, d1, rfl⟩)
    go_ret
    exact ⟨rfl, B0.trans (below_draws _ _ _)⟩
end Go.Proofs.Ytchkcjpahlimjaa
