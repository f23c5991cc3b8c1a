/- TetraCount, TetraInner: the walks. -/
import Derived.Test.YtfncikbmdaameaaTCnt
namespace Go.Proofs.Ytfncikbmdaameaa
open Go.RowKit
set_option linter.unusedVariables false
set_option linter.unusedSimpArgs false

def tcF (ls : List (List Int)) (t : Int) : Int := if tetraB ls && inB t 0 4 then (if t = 0 then 1 else sumK (gP ls t 0) (allK 0 (4 * t) 3) (allK 0 (4 * t) 3).length) else -1
def tiF (ls : List (List Int)) (t : Int) : Int := if tetraB ls && inB t 0 4 then (if t = 0 then 0 else sumK (gP ls t 1) (allK 0 (4 * t) 3) (allK 0 (4 * t) 3).length) else -1
set_option maxRecDepth 100000 in
set_option maxHeartbeats 8000000 in
theorem implTetraCount_any (ls : List (List Int)) (v : Value) (t : Int) (hb : Nat) (w : World) (h : ISSr w hb v ls) (hhb : hb ≤ w.heap.size) :
    Calls Try.prog 86 #[v, .int .i64 t] w fun e w' => e = .returned (.int .i64 (tcF ls t)) ∧ Below w.heap.size w w' := by
  have IT := implIsTetra_any ls v hb w h hhb
  have IN := fun W => within_any t 0 4 W
  obtain ⟨av, cv, hv, -⟩ := id h
  cases ht : tetraB ls
  · have hr : tcF ls t = -1 := by unfold tcF; rw [ht]; rfl
    rw [ht] at IT
    rw [hr]
    subst hv
    clear hr ht h IN
    go_enter Try.func86, Try.ntmps86
    go_wp2_with fail
    refine IT.mono ?_
    rintro e w2 ⟨rfl, c2⟩
    go_wp2
    go_ret
    exact ⟨rfl, c2⟩
  rw [ht] at IT
  cases hin : inB t 0 4
  · have hr : tcF ls t = -1 := by unfold tcF; rw [ht, hin]; rfl
    rw [hin] at IN
    rw [hr]
    subst hv
    clear hr ht h hin
    go_enter Try.func86, Try.ntmps86
    go_wp2_with fail
    refine IT.mono ?_
    rintro e w2 ⟨rfl, c2⟩
    have B2 := Lib.hid c2
    clear c2 IT
    go_wp2_with fail
    refine (IN _).mono ?_
    rintro e w4 ⟨rfl, rfl⟩
    go_wp2
    go_ret
    exact ⟨rfl, B2.out⟩
  rw [hin] at IN
  by_cases h0 : t = 0
  · subst h0
    have hr : tcF ls 0 = 1 := by unfold tcF; rw [ht, hin]; rfl
    rw [hr]
    subst hv
    clear hr ht h hin
    go_enter Try.func86, Try.ntmps86
    go_wp2_with fail
    refine IT.mono ?_
    rintro e w2 ⟨rfl, c2⟩
    have B2 := Lib.hid c2
    clear c2 IT
    go_wp2_with fail
    refine (IN _).mono ?_
    rintro e w4 ⟨rfl, rfl⟩
    go_wp2
    go_ret
    exact ⟨rfl, B2.out⟩
  · have hti := inB_of hin
    have hF := (tetraB_true ht).1
    have hne : (t == 0) = false := by simpa using h0
    have HR := Lib.hid (show tcF ls t = sumK (gP ls t 0) (allK 0 (4 * t) 3) (allK 0 (4 * t) 3).length by unfold tcF; rw [ht, hin, if_neg h0]; rfl)
    have TP := fun W (B : Below w.heap.size w W) => tetraPoints_any ls t 0 v hb W (h.keep B hhb) (Nat.le_trans hhb B.size) hF (by omega) (by omega)
    subst hv
    clear ht h hin hF h0 hti
    go_enter Try.func86, Try.ntmps86
    go_wp2_with fail
    refine IT.mono ?_
    rintro e w2 ⟨rfl, c2⟩
    have B2 := Lib.hid c2
    clear c2 IT
    go_wp2_with fail
    refine (IN _).mono ?_
    rintro e w4 ⟨rfl, rfl⟩
    go_wp2_with fail
    refine (TP _ B2.out).mono ?_
    rintro e w6 ⟨rfl, c6⟩
    have B6 := Lib.hid (below_then B2.out B2.out.size c6)
    clear c6 TP
    go_wp2
    go_ret
    exact ⟨ret_int HR.out.symm, B6.out⟩
set_option maxRecDepth 100000 in
set_option maxHeartbeats 8000000 in
theorem specTetraCount_any (ls : List (List Int)) (v : Value) (t : Int) (hb : Nat) (w : World) (h : ISSr w hb v ls) (hhb : hb ≤ w.heap.size) :
    Calls Try.prog 87 #[v, .int .i64 t] w fun e w' => e = .returned (.int .i64 (tcF ls t)) ∧ Below w.heap.size w w' := by
  have IT := specIsTetra_any ls v hb w h hhb
  have IN := fun W => l1In_any t 0 4 W
  obtain ⟨av, cv, hv, -⟩ := id h
  cases ht : tetraB ls
  · have hr : tcF ls t = -1 := by unfold tcF; rw [ht]; rfl
    rw [ht] at IT
    rw [hr]
    subst hv
    clear hr ht h IN
    go_enter Try.func87, Try.ntmps87
    go_wp2_with fail
    refine IT.mono ?_
    rintro e w2 ⟨rfl, c2⟩
    go_wp2
    go_ret
    exact ⟨rfl, c2⟩
  rw [ht] at IT
  cases hin : inB t 0 4
  · have hr : tcF ls t = -1 := by unfold tcF; rw [ht, hin]; rfl
    rw [hin] at IN
    rw [hr]
    subst hv
    clear hr ht h hin
    go_enter Try.func87, Try.ntmps87
    go_wp2_with fail
    refine IT.mono ?_
    rintro e w2 ⟨rfl, c2⟩
    have B2 := Lib.hid c2
    clear c2 IT
    go_wp2_with fail
    refine (IN _).mono ?_
    rintro e w4 ⟨rfl, rfl⟩
    go_wp2
    go_ret
    exact ⟨rfl, B2.out⟩
  rw [hin] at IN
  by_cases h0 : t = 0
  · subst h0
    have hr : tcF ls 0 = 1 := by unfold tcF; rw [ht, hin]; rfl
    rw [hr]
    subst hv
    clear hr ht h hin
    go_enter Try.func87, Try.ntmps87
    go_wp2_with fail
    refine IT.mono ?_
    rintro e w2 ⟨rfl, c2⟩
    have B2 := Lib.hid c2
    clear c2 IT
    go_wp2_with fail
    refine (IN _).mono ?_
    rintro e w4 ⟨rfl, rfl⟩
    go_wp2
    go_ret
    exact ⟨rfl, B2.out⟩
  · have hti := inB_of hin
    have hF := (tetraB_true ht).1
    have hne : (t == 0) = false := by simpa using h0
    have TP := fun W (B : Below w.heap.size w W) => l13Count_any ls t v hb W (h.keep B hhb) (Nat.le_trans hhb B.size) hF (by omega) (by omega)
    have hbig := allK_big (t := t) (by omega) (by omega) 3 (Nat.le_refl _)
    have s1 := sumK_bd (l := allK 0 (4 * t) 3) (eP_bd ls t 1) (allK 0 (4 * t) 3).length
    have s0 := sumK_bd (l := allK 0 (4 * t) 3) (eP_bd ls t 0) (allK 0 (4 * t) 3).length
    have HR := Lib.hid (show tcF ls t = sumK (eP ls t 1) (allK 0 (4 * t) 3) (allK 0 (4 * t) 3).length + sumK (eP ls t 0) (allK 0 (4 * t) 3) (allK 0 (4 * t) 3).length by unfold tcF; rw [ht, hin, if_neg h0, gP_zero]; rfl)
    generalize sumK (eP ls t 1) (allK 0 (4 * t) 3) (allK 0 (4 * t) 3).length = A at *
    generalize sumK (eP ls t 0) (allK 0 (4 * t) 3) (allK 0 (4 * t) 3).length = C at *
    generalize (allK 0 (4 * t) 3).length = n at *
    have hw := wr64 (A + C) (by omega)
    clear s0 s1 hbig
    subst hv
    clear ht h hin hF h0 hti
    go_enter Try.func87, Try.ntmps87
    go_wp2_with fail
    refine IT.mono ?_
    rintro e w2 ⟨rfl, c2⟩
    have B2 := Lib.hid c2
    clear c2 IT
    go_wp2_with fail
    refine (IN _).mono ?_
    rintro e w4 ⟨rfl, rfl⟩
    go_wp2_with fail
    refine (TP _ B2.out).mono ?_
    rintro e w6 ⟨rfl, c6⟩
    have B6 := Lib.hid (below_then B2.out B2.out.size c6)
    clear c6 TP
    go_wp2
    go_ret
    exact ⟨ret_int HR.out.symm, B6.out⟩
set_option maxRecDepth 100000 in
set_option maxHeartbeats 8000000 in
theorem implTetraInner_any (ls : List (List Int)) (v : Value) (t : Int) (hb : Nat) (w : World) (h : ISSr w hb v ls) (hhb : hb ≤ w.heap.size) :
    Calls Try.prog 88 #[v, .int .i64 t] w fun e w' => e = .returned (.int .i64 (tiF ls t)) ∧ Below w.heap.size w w' := by
  have IT := implIsTetra_any ls v hb w h hhb
  have IN := fun W => within_any t 0 4 W
  obtain ⟨av, cv, hv, -⟩ := id h
  cases ht : tetraB ls
  · have hr : tiF ls t = -1 := by unfold tiF; rw [ht]; rfl
    rw [ht] at IT
    rw [hr]
    subst hv
    clear hr ht h IN
    go_enter Try.func88, Try.ntmps88
    go_wp2_with fail
    refine IT.mono ?_
    rintro e w2 ⟨rfl, c2⟩
    go_wp2
    go_ret
    exact ⟨rfl, c2⟩
  rw [ht] at IT
  cases hin : inB t 0 4
  · have hr : tiF ls t = -1 := by unfold tiF; rw [ht, hin]; rfl
    rw [hin] at IN
    rw [hr]
    subst hv
    clear hr ht h hin
    go_enter Try.func88, Try.ntmps88
    go_wp2_with fail
    refine IT.mono ?_
    rintro e w2 ⟨rfl, c2⟩
    have B2 := Lib.hid c2
    clear c2 IT
    go_wp2_with fail
    refine (IN _).mono ?_
    rintro e w4 ⟨rfl, rfl⟩
    go_wp2
    go_ret
    exact ⟨rfl, B2.out⟩
  rw [hin] at IN
  by_cases h0 : t = 0
  · subst h0
    have hr : tiF ls 0 = 0 := by unfold tiF; rw [ht, hin]; rfl
    rw [hr]
    subst hv
    clear hr ht h hin
    go_enter Try.func88, Try.ntmps88
    go_wp2_with fail
    refine IT.mono ?_
    rintro e w2 ⟨rfl, c2⟩
    have B2 := Lib.hid c2
    clear c2 IT
    go_wp2_with fail
    refine (IN _).mono ?_
    rintro e w4 ⟨rfl, rfl⟩
    go_wp2
    go_ret
    exact ⟨rfl, B2.out⟩
  · have hti := inB_of hin
    have hF := (tetraB_true ht).1
    have hne : (t == 0) = false := by simpa using h0
    have HR := Lib.hid (show tiF ls t = sumK (gP ls t 1) (allK 0 (4 * t) 3) (allK 0 (4 * t) 3).length by unfold tiF; rw [ht, hin, if_neg h0]; rfl)
    have TP := fun W (B : Below w.heap.size w W) => tetraPoints_any ls t 1 v hb W (h.keep B hhb) (Nat.le_trans hhb B.size) hF (by omega) (by omega)
    subst hv
    clear ht h hin hF h0 hti
    go_enter Try.func88, Try.ntmps88
    go_wp2_with fail
    refine IT.mono ?_
    rintro e w2 ⟨rfl, c2⟩
    have B2 := Lib.hid c2
    clear c2 IT
    go_wp2_with fail
    refine (IN _).mono ?_
    rintro e w4 ⟨rfl, rfl⟩
    go_wp2_with fail
    refine (TP _ B2.out).mono ?_
    rintro e w6 ⟨rfl, c6⟩
    have B6 := Lib.hid (below_then B2.out B2.out.size c6)
    clear c6 TP
    go_wp2
    go_ret
    exact ⟨ret_int HR.out.symm, B6.out⟩
set_option maxRecDepth 100000 in
set_option maxHeartbeats 8000000 in
theorem specTetraInner_any (ls : List (List Int)) (v : Value) (t : Int) (hb : Nat) (w : World) (h : ISSr w hb v ls) (hhb : hb ≤ w.heap.size) :
    Calls Try.prog 89 #[v, .int .i64 t] w fun e w' => e = .returned (.int .i64 (tiF ls t)) ∧ Below w.heap.size w w' := by
  have IT := specIsTetra_any ls v hb w h hhb
  have IN := fun W => l1In_any t 0 4 W
  obtain ⟨av, cv, hv, -⟩ := id h
  cases ht : tetraB ls
  · have hr : tiF ls t = -1 := by unfold tiF; rw [ht]; rfl
    rw [ht] at IT
    rw [hr]
    subst hv
    clear hr ht h IN
    go_enter Try.func89, Try.ntmps89
    go_wp2_with fail
    refine IT.mono ?_
    rintro e w2 ⟨rfl, c2⟩
    go_wp2
    go_ret
    exact ⟨rfl, c2⟩
  rw [ht] at IT
  cases hin : inB t 0 4
  · have hr : tiF ls t = -1 := by unfold tiF; rw [ht, hin]; rfl
    rw [hin] at IN
    rw [hr]
    subst hv
    clear hr ht h hin
    go_enter Try.func89, Try.ntmps89
    go_wp2_with fail
    refine IT.mono ?_
    rintro e w2 ⟨rfl, c2⟩
    have B2 := Lib.hid c2
    clear c2 IT
    go_wp2_with fail
    refine (IN _).mono ?_
    rintro e w4 ⟨rfl, rfl⟩
    go_wp2
    go_ret
    exact ⟨rfl, B2.out⟩
  rw [hin] at IN
  by_cases h0 : t = 0
  · subst h0
    have hr : tiF ls 0 = 0 := by unfold tiF; rw [ht, hin]; rfl
    rw [hr]
    subst hv
    clear hr ht h hin
    go_enter Try.func89, Try.ntmps89
    go_wp2_with fail
    refine IT.mono ?_
    rintro e w2 ⟨rfl, c2⟩
    have B2 := Lib.hid c2
    clear c2 IT
    go_wp2_with fail
    refine (IN _).mono ?_
    rintro e w4 ⟨rfl, rfl⟩
    go_wp2
    go_ret
    exact ⟨rfl, B2.out⟩
  · have hti := inB_of hin
    have hF := (tetraB_true ht).1
    have hne : (t == 0) = false := by simpa using h0
    have TP := fun W (B : Below w.heap.size w W) => l13Count_any ls t v hb W (h.keep B hhb) (Nat.le_trans hhb B.size) hF (by omega) (by omega)
    have hbig := allK_big (t := t) (by omega) (by omega) 3 (Nat.le_refl _)
    have s1 := sumK_bd (l := allK 0 (4 * t) 3) (eP_bd ls t 1) (allK 0 (4 * t) 3).length
    have s0 := sumK_bd (l := allK 0 (4 * t) 3) (eP_bd ls t 0) (allK 0 (4 * t) 3).length
    have HR := Lib.hid (show tiF ls t = sumK (eP ls t 1) (allK 0 (4 * t) 3) (allK 0 (4 * t) 3).length by unfold tiF; rw [ht, hin, if_neg h0, gP_one]; rfl)
    generalize sumK (eP ls t 1) (allK 0 (4 * t) 3) (allK 0 (4 * t) 3).length = A at *
    generalize sumK (eP ls t 0) (allK 0 (4 * t) 3) (allK 0 (4 * t) 3).length = C at *
    generalize (allK 0 (4 * t) 3).length = n at *
    have hw := wr64 (A + C) (by omega)
    clear s0 s1 hbig
    subst hv
    clear ht h hin hF h0 hti
    go_enter Try.func89, Try.ntmps89
    go_wp2_with fail
    refine IT.mono ?_
    rintro e w2 ⟨rfl, c2⟩
    have B2 := Lib.hid c2
    clear c2 IT
    go_wp2_with fail
    refine (IN _).mono ?_
    rintro e w4 ⟨rfl, rfl⟩
    go_wp2_with fail
    refine (TP _ B2.out).mono ?_
    rintro e w6 ⟨rfl, c6⟩
    have B6 := Lib.hid (below_then B2.out B2.out.size c6)
    clear c6 TP
    go_wp2
    go_ret
    exact ⟨ret_int HR.out.symm, B6.out⟩
end Go.Proofs.Ytfncikbmdaameaa
