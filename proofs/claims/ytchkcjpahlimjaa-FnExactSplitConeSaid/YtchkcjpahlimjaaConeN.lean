/- Cones: the walks of IsVector and InCone. -/
import Derived.Test.YtchkcjpahlimjaaConeL
namespace Go.Proofs.Ytchkcjpahlimjaa
open Go.RowKit
set_option linter.unusedVariables false
set_option linter.unusedSimpArgs false

def vecB (l : List Int) : Bool := inB l.length 1 3 && allIn l (-1000) 1000
def inC (U V X : List Int) : Bool := coneB U V && vecB X && decide (X.length = 2) && decide (0 ≤ crossI U X) && decide (0 ≤ crossI X V)

set_option maxHeartbeats 1000000 in
theorem implIsVector_any (l : List Int) (v : Value) (hb : Nat) (w : World) (h : ISr w hb v l) :
    Calls Try.prog 77 #[v] w fun e w' => e = .returned (.bool (vecB l)) ∧ ∃ d, w' = w.drewN d := by
  have H1 := allWithin_any l v (-1000) 1000 hb w h
  obtain ⟨a, cap, rfl, -, -, -⟩ := h
  have hw := within_any l.length 1 3
  cases h1 : inB l.length 1 3
  · have hv : vecB l = false := by simp [vecB, h1]
    rw [hv]
    simp only [h1] at hw
    clear hv h1 H1
    generalize l.length = n at *
    go_enter Try.func77, Try.ntmps77
    go_wp2_with (go_at_call 87; (with_reducible refine (hw _).mono ?_); rintro e w' ⟨rfl, rfl⟩)
    go_ret
    exact ⟨rfl, 0, rfl⟩
  · have hv : vecB l = allIn l (-1000) 1000 := by simp [vecB, h1]
    rw [hv]
    simp only [h1] at hw
    clear hv h1
    generalize allIn l (-1000) 1000 = r at *
    generalize l.length = n at *
    go_enter Try.func77, Try.ntmps77
    go_wp2_with (first | (go_at_call 87; (with_reducible refine (hw _).mono ?_); rintro e w' ⟨rfl, rfl⟩) | (go_at_call 81; (with_reducible refine H1.mono ?_); rintro e w' ⟨rfl, rfl⟩))
    go_ret
    exact ⟨rfl, 0, rfl⟩

set_option maxHeartbeats 1000000 in
theorem specIsVector_any (l : List Int) (v : Value) (hb : Nat) (w : World) (h : ISr w hb v l) :
    Calls Try.prog 75 #[v] w fun e w' => e = .returned (.bool (vecB l)) ∧ ∃ d, w' = w.drewN d := by
  have H1 := l2Small_any l v 1000 hb w h (by omega) (by omega)
  obtain ⟨a, cap, rfl, -, -, -⟩ := h
  have hw := l1In_any l.length 1 3
  cases h1 : inB l.length 1 3
  · have hv : vecB l = false := by simp [vecB, h1]
    rw [hv]
    simp only [h1] at hw
    clear hv h1 H1
    generalize l.length = n at *
    go_enter Try.func75, Try.ntmps75
    go_wp2_with (go_at_call 78; (with_reducible refine (hw _).mono ?_); rintro e w' ⟨rfl, rfl⟩)
    go_ret
    exact ⟨rfl, 0, rfl⟩
  · have hv : vecB l = allIn l (-1000) 1000 := by simp [vecB, h1]
    rw [hv]
    simp only [h1] at hw
    clear hv h1
    generalize allIn l (-1000) 1000 = r at *
    generalize l.length = n at *
    go_enter Try.func75, Try.ntmps75
    go_wp2_with (first | (go_at_call 78; (with_reducible refine (hw _).mono ?_); rintro e w' ⟨rfl, rfl⟩) | (go_at_call 107; (with_reducible refine H1.mono ?_); rintro e w' ⟨rfl, d, rfl⟩))
    go_ret
    exact ⟨rfl, _, rfl⟩



end Go.Proofs.Ytchkcjpahlimjaa
