/- VolumeSix: the walks. -/
import Derived.Test.YtfncikbmdaameaaTet
import Derived.Test.YtfncikbmdaameaaTetE
namespace Go.Proofs.Ytfncikbmdaameaa
open Go.RowKit
set_option linter.unusedVariables false
set_option linter.unusedSimpArgs false
def volF (ls : List (List Int)) : Int := if tetraB ls then max (det3 (edgesF ls)) (-(det3 (edgesF ls))) else 0
set_option maxHeartbeats 4000000 in
theorem implVolumeSix_any (ls : List (List Int)) (v : Value) (hb : Nat) (w : World) (h : ISSr w hb v ls) (hhb : hb ≤ w.heap.size) :
    Calls Try.prog 90 #[v] w fun e w' => e = .returned (.int .i64 (volF ls)) ∧ Below w.heap.size w w' := by
  have IT := implIsTetra_any ls v hb w h hhb
  have HI := Lib.hid h
  obtain ⟨av, cv, hv, -⟩ := id h
  cases ht : tetraB ls
  · have hr : volF ls = 0 := by unfold volF; rw [ht]; rfl
    rw [ht] at IT
    rw [hr]
    subst hv
    clear hr ht h
    try clear HI
    go_enter Try.func90, Try.ntmps90
    go_wp2_with fail
    refine IT.mono ?_
    rintro e w2 ⟨rfl, c2⟩
    go_wp2
    go_ret
    exact ⟨rfl, c2⟩
  · have HR := Lib.hid (show volF ls = max (det3 (edgesF ls)) (-(det3 (edgesF ls))) by unfold volF; rw [ht]; rfl)
    have hF := (tetraB_true ht).1.wide (b := 50000) (by omega)
    obtain ⟨b, off, cap, V, hv', hbb, hcap, hcell, h1⟩ := h.four hF.1
    have hcap1 : ¬ cap = 1 := by omega
    have hc0 := (hcell 0 (by omega)).1
    rw [Nat.add_zero] at hc0
    have PD := DiffCalls (ls := ls) (B := w.heap.size) hF h1 (hcell 0 (by omega)).2 hhb
    have PE := fun W u B ku => DetCall hF W u B ku
    have db := det3_bd (edgesF_sq hF)
    have PM := fun W => magnitude_any (det3 (edgesF ls)) W (by omega) (by omega)
    rw [ht] at IT
    clear ht h hcell h1 hF hv db
    subst hv'
    generalize V 0 = x0 at *
    go_enter Try.func90, Try.ntmps90
    go_wp2_with fail
    refine IT.mono ?_
    rintro e w1 ⟨rfl, c1⟩
    have B1 := Lib.hid c1
    clear c1 IT
    go_wp2_with fail
    have Bd : Below w.heap.size w w1.drew := B1.out.trans (below_draws _ w1 1)
    have z1 := (Bd.cell (p := ⟨b, off, none⟩) (Nat.lt_of_lt_of_le hbb hhb)).trans hc0
    go_region_held3 (fun w' => w'.cell? ⟨b, off, none⟩ = some x0) (first | exact z1 | exact z0 | exact y0 | exact y1) (first | (go_at_call 162; (with_reducible refine (PD _ Bd Bd.size).mono ?_); rintro e w2 ⟨u, rfl, ku, c2⟩; have B2 := below_then Bd Bd.size c2; have z0 := (B2.cell (p := ⟨b, off, none⟩) (Nat.lt_of_lt_of_le hbb hhb)).trans hc0) | (go_at_call 161; (with_reducible refine (PE _ _ _ ku).mono ?_); rintro e w3 ⟨rfl, c3⟩; have B3 := below_then B2 B2.size c3; have y0 := (B3.cell (p := ⟨b, off, none⟩) (Nat.lt_of_lt_of_le hbb hhb)).trans hc0) | (go_at_call 160; (with_reducible refine (PM _).mono ?_); rintro e w4 ⟨rfl, c4⟩; subst c4))
    clear z1 z0 y0
    go_wp2
    go_ret
    exact ⟨ret_int HR.out.symm, B3⟩
set_option maxHeartbeats 4000000 in
theorem specVolumeSix_any (ls : List (List Int)) (v : Value) (hb : Nat) (w : World) (h : ISSr w hb v ls) (hhb : hb ≤ w.heap.size) :
    Calls Try.prog 91 #[v] w fun e w' => e = .returned (.int .i64 (volF ls)) ∧ Below w.heap.size w w' := by
  have IT := specIsTetra_any ls v hb w h hhb
  obtain ⟨av, cv, hv, -⟩ := id h
  cases ht : tetraB ls
  · have hr : volF ls = 0 := by unfold volF; rw [ht]; rfl
    rw [ht] at IT
    rw [hr]
    subst hv
    clear hr ht h
    try clear HI
    go_enter Try.func91, Try.ntmps91
    go_wp2_with fail
    refine IT.mono ?_
    rintro e w2 ⟨rfl, c2⟩
    go_wp2
    go_ret
    exact ⟨rfl, c2⟩
  · have HR := Lib.hid (show volF ls = max (det3 (edgesF ls)) (-(det3 (edgesF ls))) by unfold volF; rw [ht]; rfl)
    have hF := (tetraB_true ht).1.wide (b := 50000) (by omega)
    have P1 := fun W (B : Below w.heap.size w W) => l13Edges_any ls v hb W (h.keep B hhb) (Nat.le_trans hhb B.size) hF
    have P2 := fun W u hu => toBelow (l3Det_any _ u W.heap.size W hu (edgesF_sq hF))
    have db := det3_bd (edgesF_sq hF)
    have PM := fun W => l1Abs_any (det3 (edgesF ls)) W (by omega) (by omega)
    rw [ht] at IT
    clear ht h hF db
    subst hv
    go_enter Try.func91, Try.ntmps91
    go_wp2_with fail
    refine IT.mono ?_
    rintro e w1 ⟨rfl, c1⟩
    have B1 := Lib.hid c1
    clear c1 IT
    go_wp2_with fail
    refine (P1 _ B1.out).mono ?_
    rintro e w2 ⟨u, rfl, ku, c2⟩
    have KU := Lib.hid ku
    have B2 := Lib.hid (below_then B1.out B1.out.size c2)
    clear ku P1 c2
    go_wp2_with fail
    refine (P2 _ _ KU.out).mono ?_
    rintro e w3 ⟨rfl, c3⟩
    have B3 := Lib.hid (below_then B2.out B2.out.size c3)
    clear c3
    go_wp2_with fail
    refine (PM _).mono ?_
    rintro e w4 ⟨rfl, rfl⟩
    go_wp2
    go_ret
    exact ⟨ret_int HR.out.symm, B3.out⟩
end Go.Proofs.Ytfncikbmdaameaa
