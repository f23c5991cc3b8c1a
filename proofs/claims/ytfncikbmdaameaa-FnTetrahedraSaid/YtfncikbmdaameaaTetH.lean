/- TetraHas: the walks. -/
import Derived.Test.YtfncikbmdaameaaTeq
import Derived.Test.YtfncikbmdaameaaB2
namespace Go.Proofs.Ytfncikbmdaameaa
open Go.RowKit
set_option linter.unusedVariables false
set_option linter.unusedSimpArgs false

def thF (ls : List (List Int)) (x : List Int) (t : Int) : Int := if tetraB ls && vecB x && decide (x.length = 3) && inB t 1 4 then placeN (sS ls x t) 4 else -1
theorem vec_in {x : List Int} (h : vecB x = true) : allIn x (-1000) 1000 = true := by
  unfold vecB at h; simp only [Bool.and_eq_true] at h; exact h.2
theorem inB_of {t a b : Int} (h : inB t a b = true) : a ≤ t ∧ t ≤ b := by unfold inB at h; simp at h; omega
theorem Four.times {ls : List (List Int)} (h : Four 4 ls) {t : Int} (h0 : 0 ≤ t) (h1 : t ≤ 4) : Four 50000 (timesL ls t) ∧ ∀ i, i < ls.length → (ls.getD i []).length = 3 ∧ ∀ j, j < 3 → -9223372036854775808 ≤ (ls.getD i []).getD j 0 * t ∧ (ls.getD i []).getD j 0 * t ≤ 9223372036854775807 := by
  have key : ∀ i, i < ls.length → ∀ j, j < 3 → -16 ≤ (ls.getD i []).getD j 0 * t ∧ (ls.getD i []).getD j 0 * t ≤ 16 := by
    intro i hi j hj
    obtain ⟨li, bi⟩ := h.2 i hi
    have p := allIn_at bi j (by omega)
    have := mul_bd2 (a := (ls.getD i []).getD j 0) (b := t) (M := 4) (N := 4) (by omega) (by omega) (by omega) (by omega) (by omega)
    omega
  refine ⟨⟨by unfold timesL; rw [List.length_map]; exact h.1, fun i hi => ?_⟩, fun i hi => ⟨(h.2 i hi).1, fun j hj => by have := key i hi j hj; omega⟩⟩
  unfold timesL at hi
  rw [List.length_map] at hi
  have e : (timesL ls t).getD i [] = (ls.getD i []).map (· * t) := by
    unfold timesL
    rw [List.getD_eq_getElem?_getD, List.getElem?_map, List.getD_eq_getElem?_getD, List.getElem?_eq_getElem hi]; rfl
  rw [e, List.length_map]
  refine ⟨(h.2 i hi).1, ?_⟩
  have hl := (h.2 i hi).1
  have k0 := key i hi 0 (by omega)
  have k1 := key i hi 1 (by omega)
  have k2 := key i hi 2 (by omega)
  obtain ⟨a, b, c, hr⟩ := len3 hl
  rw [hr] at k0 k1 k2 ⊢
  simp at k0 k1 k2
  show allIn [a * t, b * t, c * t] _ _ = true
  exact allIn3 (by omega) (by omega) (by omega)

set_option maxRecDepth 100000 in
set_option maxHeartbeats 8000000 in
theorem implTetraHas_any (ls : List (List Int)) (x : List Int) (t : Int) (v vx : Value) (hb : Nat) (w : World) (h : ISSr w hb v ls) (ix : ISr w hb vx x) (hhb : hb ≤ w.heap.size) :
    Calls Try.prog 84 #[v, vx, .int .i64 t] w fun e w' => e = .returned (.int .i64 (thF ls x t)) ∧ Below w.heap.size w w' := by
  have IT := implIsTetra_any ls v hb w h hhb
  have IV := fun W (B : Below w.heap.size w W) => toBelow (implIsVector_any x vx hb W (ix.keep B hhb))
  have IN := fun W => within_any t 1 4 W
  obtain ⟨av, cv, hv, -⟩ := id h
  obtain ⟨ax, cx, hvx, -⟩ := id ix
  cases ht : tetraB ls
  · have hr : thF ls x t = -1 := by unfold thF; rw [ht]; rfl
    rw [ht] at IT
    rw [hr]
    subst hv hvx
    clear hr ht h ix IV IN
    go_enter Try.func84, Try.ntmps84
    go_wp2_with fail
    refine IT.mono ?_
    rintro e w2 ⟨rfl, c2⟩
    go_wp2
    go_ret
    exact ⟨rfl, c2⟩
  cases hvb : vecB x
  · have hr : thF ls x t = -1 := by unfold thF; rw [ht, hvb]; rfl
    rw [ht] at IT
    simp only [hvb] at IV
    rw [hr]
    subst hv hvx
    clear hr ht h ix IN hvb
    go_enter Try.func84, Try.ntmps84
    go_wp2_with fail
    refine IT.mono ?_
    rintro e w2 ⟨rfl, c2⟩
    have B2 := Lib.hid c2
    clear c2 IT
    go_wp2_with fail
    refine (IV _ B2.out).mono ?_
    rintro e w3 ⟨rfl, c3⟩
    have B3 := Lib.hid (below_then B2.out B2.out.size c3)
    clear c3
    go_wp2
    go_ret
    exact ⟨rfl, B3.out⟩
  by_cases hl : x.length = 3
  case neg =>
    have hr : thF ls x t = -1 := by unfold thF; rw [ht, hvb, decide_eq_false hl]; rfl
    have hne : ((x.length : Int) != 3) = true := by rw [bne_iff_ne]; omega
    rw [ht] at IT
    simp only [hvb] at IV
    rw [hr]
    subst hv hvx
    clear hr ht h ix IN hvb hl
    generalize x.length = xl at *
    go_enter Try.func84, Try.ntmps84
    go_wp2_with fail
    refine IT.mono ?_
    rintro e w2 ⟨rfl, c2⟩
    have B2 := Lib.hid c2
    clear c2 IT
    go_wp2_with fail
    refine (IV _ B2.out).mono ?_
    rintro e w3 ⟨rfl, c3⟩
    have B3 := Lib.hid (below_then B2.out B2.out.size c3)
    clear c3
    go_wp2
    go_ret
    exact ⟨rfl, B3.out⟩
  cases hin : inB t 1 4
  · have hr : thF ls x t = -1 := by unfold thF; rw [ht, hvb, decide_eq_true hl, hin]; rfl
    rw [ht] at IT
    simp only [hvb] at IV
    rw [hin] at IN
    rw [hr]
    rw [hl] at hvx
    subst hv hvx
    clear hr ht h ix hvb hl hin
    go_enter Try.func84, Try.ntmps84
    go_wp2_with fail
    refine IT.mono ?_
    rintro e w2 ⟨rfl, c2⟩
    have B2 := Lib.hid c2
    clear c2 IT
    go_wp2_with fail
    refine (IV _ B2.out).mono ?_
    rintro e w3 ⟨rfl, c3⟩
    have B3 := Lib.hid (below_then B2.out B2.out.size c3)
    clear c3
    go_wp2_with fail
    refine (IN _).mono ?_
    rintro e w4 ⟨rfl, rfl⟩
    go_wp2
    go_ret
    exact ⟨rfl, B3.out⟩
  · have hF := (tetraB_true ht).1
    have hti := inB_of hin
    obtain ⟨hF5, hpr⟩ := hF.times (t := t) (by omega) (by omega)
    have HR := Lib.hid (show thF ls x t = placeN (tS (timesL ls t) x) 4 by
      unfold thF; rw [ht, hvb, decide_eq_true hl, hin, tet_place hF.1 (fun i hi => (hF.getD i hi).1) hl (by omega)]; rfl)
    have TM := fun W (B : Below w.heap.size w W) => times_any ls t v hb W (h.keep B hhb) (Nat.le_trans hhb B.size) (by rw [hF.1]; omega) (by rw [hF.1]; omega) hpr
    have TH := fun W u (B : Below w.heap.size w W) (hu : ISSr W W.heap.size u (timesL ls t)) => tetraHas_any (timesL ls t) x u vx W.heap.size W hu ((ix.keep B hhb).upto (Nat.le_trans hhb B.size)) (Nat.le_refl _) hF5 ⟨hl, allIn_wideT (vec_in hvb) (by omega) (by omega)⟩
    rw [ht] at IT
    simp only [hvb] at IV
    rw [hin] at IN
    rw [hl] at hvx
    subst hv hvx
    clear ht h ix hvb hl hin hF hF5 hpr hti
    go_enter Try.func84, Try.ntmps84
    go_wp2_with fail
    refine IT.mono ?_
    rintro e w2 ⟨rfl, c2⟩
    have B2 := Lib.hid c2
    clear c2 IT
    go_wp2_with fail
    refine (IV _ B2.out).mono ?_
    rintro e w3 ⟨rfl, c3⟩
    have B3 := Lib.hid (below_then B2.out B2.out.size c3)
    clear c3
    go_wp2_with fail
    refine (IN _).mono ?_
    rintro e w4 ⟨rfl, rfl⟩
    go_wp2_with fail
    refine (TM _ B3.out).mono ?_
    rintro e w5 ⟨u, rfl, ku, c5⟩
    have KU := Lib.hid ku.read
    have B5 := Lib.hid (below_then B3.out B3.out.size c5)
    clear ku c5
    go_wp2_with fail
    refine (TH _ _ B5.out KU.out).mono ?_
    rintro e w6 ⟨rfl, c6⟩
    have B6 := Lib.hid (below_then B5.out B5.out.size c6)
    clear c6
    go_wp2
    go_ret
    exact ⟨ret_int HR.out.symm, B6.out⟩
set_option maxRecDepth 100000 in
set_option maxHeartbeats 8000000 in
theorem specTetraHas_any (ls : List (List Int)) (x : List Int) (t : Int) (v vx : Value) (hb : Nat) (w : World) (h : ISSr w hb v ls) (ix : ISr w hb vx x) (hhb : hb ≤ w.heap.size) :
    Calls Try.prog 85 #[v, vx, .int .i64 t] w fun e w' => e = .returned (.int .i64 (thF ls x t)) ∧ Below w.heap.size w w' := by
  have IT := specIsTetra_any ls v hb w h hhb
  have IV := fun W (B : Below w.heap.size w W) => toBelow (specIsVector_any x vx hb W (ix.keep B hhb))
  have IN := fun W => l1In_any t 1 4 W
  obtain ⟨av, cv, hv, -⟩ := id h
  obtain ⟨ax, cx, hvx, -⟩ := id ix
  cases ht : tetraB ls
  · have hr : thF ls x t = -1 := by unfold thF; rw [ht]; rfl
    rw [ht] at IT
    rw [hr]
    subst hv hvx
    clear hr ht h ix IV IN
    go_enter Try.func85, Try.ntmps85
    go_wp2_with fail
    refine IT.mono ?_
    rintro e w2 ⟨rfl, c2⟩
    go_wp2
    go_ret
    exact ⟨rfl, c2⟩
  cases hvb : vecB x
  · have hr : thF ls x t = -1 := by unfold thF; rw [ht, hvb]; rfl
    rw [ht] at IT
    simp only [hvb] at IV
    rw [hr]
    subst hv hvx
    clear hr ht h ix IN hvb
    go_enter Try.func85, Try.ntmps85
    go_wp2_with fail
    refine IT.mono ?_
    rintro e w2 ⟨rfl, c2⟩
    have B2 := Lib.hid c2
    clear c2 IT
    go_wp2_with fail
    refine (IV _ B2.out).mono ?_
    rintro e w3 ⟨rfl, c3⟩
    have B3 := Lib.hid (below_then B2.out B2.out.size c3)
    clear c3
    go_wp2
    go_ret
    exact ⟨rfl, B3.out⟩
  by_cases hl : x.length = 3
  case neg =>
    have hr : thF ls x t = -1 := by unfold thF; rw [ht, hvb, decide_eq_false hl]; rfl
    have hne : ((x.length : Int) != 3) = true := by rw [bne_iff_ne]; omega
    rw [ht] at IT
    simp only [hvb] at IV
    rw [hr]
    subst hv hvx
    clear hr ht h ix IN hvb hl
    generalize x.length = xl at *
    go_enter Try.func85, Try.ntmps85
    go_wp2_with fail
    refine IT.mono ?_
    rintro e w2 ⟨rfl, c2⟩
    have B2 := Lib.hid c2
    clear c2 IT
    go_wp2_with fail
    refine (IV _ B2.out).mono ?_
    rintro e w3 ⟨rfl, c3⟩
    have B3 := Lib.hid (below_then B2.out B2.out.size c3)
    clear c3
    go_wp2
    go_ret
    exact ⟨rfl, B3.out⟩
  cases hin : inB t 1 4
  · have hr : thF ls x t = -1 := by unfold thF; rw [ht, hvb, decide_eq_true hl, hin]; rfl
    rw [ht] at IT
    simp only [hvb] at IV
    rw [hin] at IN
    rw [hr]
    rw [hl] at hvx
    subst hv hvx
    clear hr ht h ix hvb hl hin
    go_enter Try.func85, Try.ntmps85
    go_wp2_with fail
    refine IT.mono ?_
    rintro e w2 ⟨rfl, c2⟩
    have B2 := Lib.hid c2
    clear c2 IT
    go_wp2_with fail
    refine (IV _ B2.out).mono ?_
    rintro e w3 ⟨rfl, c3⟩
    have B3 := Lib.hid (below_then B2.out B2.out.size c3)
    clear c3
    go_wp2_with fail
    refine (IN _).mono ?_
    rintro e w4 ⟨rfl, rfl⟩
    go_wp2
    go_ret
    exact ⟨rfl, B3.out⟩
  · have hF := (tetraB_true ht).1
    have hti := inB_of hin
    have HR := Lib.hid (show thF ls x t = placeN (sS ls x t) 4 by unfold thF; rw [ht, hvb, decide_eq_true hl, hin]; rfl)
    have TH := fun W (B : Below w.heap.size w W) => l13Place_any ls x t v vx hb W (h.keep B hhb) (ix.keep B hhb) (Nat.le_trans hhb B.size) hF ⟨hl, vec_in hvb⟩ (by omega) (by omega)
    rw [ht] at IT
    simp only [hvb] at IV
    rw [hin] at IN
    rw [hl] at hvx
    subst hv hvx
    clear ht h ix hvb hl hin hF hti
    go_enter Try.func85, Try.ntmps85
    go_wp2_with fail
    refine IT.mono ?_
    rintro e w2 ⟨rfl, c2⟩
    have B2 := Lib.hid c2
    clear c2 IT
    go_wp2_with fail
    refine (IV _ B2.out).mono ?_
    rintro e w3 ⟨rfl, c3⟩
    have B3 := Lib.hid (below_then B2.out B2.out.size c3)
    clear c3
    go_wp2_with fail
    refine (IN _).mono ?_
    rintro e w4 ⟨rfl, rfl⟩
    go_wp2_with fail
    refine (TH _ B3.out).mono ?_
    rintro e w6 ⟨rfl, c6⟩
    have B6 := Lib.hid (below_then B3.out B3.out.size c6)
    clear c6
    go_wp2
    go_ret
    exact ⟨ret_int HR.out.symm, B6.out⟩
end Go.Proofs.Ytfncikbmdaameaa
