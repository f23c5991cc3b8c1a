/- HermiteOf: the program's walk. -/
import Derived.Test.YtehhoplenloocaaHerA
namespace Go.Proofs.Ytehhoplenloocaa
open Go.RowKit
set_option linter.unusedVariables false
set_option linter.unusedSimpArgs false

def hofV (M : List (List Int)) : List (List Int) × Bool := if detO M = 0 then ([], false) else if matB (herM M) then (herM M, true) else ([], false)
theorem hofV_no {M : List (List Int)} (h : detO M = 0) : hofV M = ([], false) := by unfold hofV; rw [if_pos h]
theorem hofV_no2 {M : List (List Int)} (h : ¬ detO M = 0) (h2 : matB (herM M) = false) : hofV M = ([], false) := by unfold hofV; rw [if_neg h, h2]; rfl
theorem hofV_yes {M : List (List Int)} (h : ¬ detO M = 0) (h2 : matB (herM M) = true) : hofV M = (herM M, true) := by unfold hofV; rw [if_neg h, h2]; rfl
set_option maxHeartbeats 1000000 in
theorem implHermiteOf_any (M : List (List Int)) (v : Value) (hb : Nat) (w : World) (h : ISSr w hb v M) (hhb : hb ≤ w.heap.size) :
    Calls Try.prog 88 #[v] w fun e w' => ∃ u, e = .returned (.tuple #[u, .bool (hofV M).2]) ∧ ISS w' w.heap.size w'.heap.size u (hofV M).1 ∧ Below w.heap.size w w' := by
  have DO := implDetOf_any M v hb w h hhb
  by_cases hd : detO M = 0
  · rw [hofV_no hd]
    rw [hd] at DO
    clear h hd
    go_enter Try.func88, Try.ntmps88
    go_wp2_with (go_at_call 105; (with_reducible refine DO.mono ?_); rintro e w1 ⟨rfl, c1⟩)
    go_ret2
    exact ⟨_, rfl, ISS.nil _ _ _, c1⟩
  · have hm : matB M = true := by
      cases hm : matB M
      · exact absurd (detO_no hm) hd
      · rfl
    have hl := matB_len hm
    have HE := fun W (B : Below w.heap.size w W) => hermite_any M M.length v hb W (h.keep B hhb) (Nat.le_trans hhb B.size) (hi_start hm hd) hl.1 hl.2
    have HV := Lib.hid (fun e => hofV_no2 hd e)
    have HY := Lib.hid (fun e => hofV_yes hd e)
    generalize detO M = d at *
    clear h hm hl
    go_enter Try.func88, Try.ntmps88
    go_wp2_with fail
    with_reducible refine DO.mono ?_
    rintro e w1 ⟨rfl, c1⟩
    have H1 := HE w1 c1
    have hdd : (d == 0) = false := by rw [beq_eq_false_iff_ne]; exact hd
    go_wp2_with fail
    with_reducible refine H1.mono ?_
    rintro e w2 ⟨u, rfl, ku, c2⟩
    have B2 := Lib.hid (below_then c1 c1.size c2)
    have MO := matrixOf_any (herM M) u w2.heap.size w2 ku.read
    have KU := Lib.hid (show ISS w2 w.heap.size w2.heap.size u (herM M) from ku.mono c1.size (Nat.le_refl _))
    clear H1 HE ku c2 c1
    cases hmb : matB (herM M)
    all_goals
      rw [hmb] at MO
    · have HVV := Lib.hid (HV.out hmb)
      go_wp2_with (go_at_call 146; (with_reducible refine MO.mono ?_); rintro e w7 ⟨rfl, rfl⟩)
      go_ret2
      rw [HVV.out]
      exact ⟨_, rfl, ISS.nil _ _ _, B2.out⟩
    · have HVV := Lib.hid (HY.out hmb)
      go_wp2_with (go_at_call 146; (with_reducible refine MO.mono ?_); rintro e w7 ⟨rfl, rfl⟩)
      go_ret2
      rw [HVV.out]
      exact ⟨_, rfl, KU.out, B2.out⟩
end Go.Proofs.Ytehhoplenloocaa
