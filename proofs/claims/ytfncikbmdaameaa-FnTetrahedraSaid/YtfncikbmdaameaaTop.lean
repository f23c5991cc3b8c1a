/- TetraTop: the walks. -/
import Derived.Test.YtfncikbmdaameaaTCi
import Derived.Test.YtfncikbmdaameaaLat
namespace Go.Proofs.Ytfncikbmdaameaa
open Go.RowKit
set_option linter.unusedVariables false
set_option linter.unusedSimpArgs false

def ttF (ls : List (List Int)) : List Int := if tetraB ls then [1, tcF ls 1 - 4, tcF ls 2 - 4 * tcF ls 1 + 6, tiF ls 1] else []
theorem ttF_len (ls : List (List Int)) : (ttF ls).length ≤ 4 := by unfold ttF; split <;> simp
theorem tc_bd (ls : List (List Int)) {t : Int} (h1 : 1 ≤ t) (h4 : t ≤ 4) : -1 ≤ tcF ls t ∧ tcF ls t ≤ 1000000 := by
  have hbig := allK_big h1 h4 3 (Nat.le_refl _)
  have := sumK_bd (l := allK 0 (4 * t) 3) (gP_bd ls t 0) (allK 0 (4 * t) 3).length
  unfold tcF
  split
  · rw [if_neg (by omega)]; omega
  · omega
theorem IS.lit4 (w : World) (B : Nat) (h : B ≤ w.heap.size) (x y z u : Int) : IS (w.alloc (.cells #[.int .i64 x, .int .i64 y, .int .i64 z, .int .i64 u] 3)) B (w.heap.size + 1) (.slice (some ⟨w.heap.size, 0, Option.none⟩) 4 4) [x, y, z, u] := by
  refine IS.of_BK (l := [x, y, z, u]) ⟨_, heap_alloc_new w _, fun i hi => ?_⟩ (Nat.le_refl _) (by simp [maxLen]) h (by omega)
  match i, hi with
  | 0, _ => rfl
  | 1, _ => rfl
  | 2, _ => rfl
  | 3, _ => rfl
set_option maxRecDepth 100000 in
set_option maxHeartbeats 8000000 in
theorem implTetraTop_any (ls : List (List Int)) (v : Value) (hb : Nat) (w : World) (h : ISSr w hb v ls) (hhb : hb ≤ w.heap.size) :
    Calls Try.prog 80 #[v] w fun e w' => ∃ u, e = .returned u ∧ IS w' w.heap.size w'.heap.size u (ttF ls) ∧ Below w.heap.size w w' := by
  have IT := implIsTetra_any ls v hb w h hhb
  obtain ⟨av, cv, hv, -⟩ := id h
  cases ht : tetraB ls
  · have hr : ttF ls = [] := by unfold ttF; rw [ht]; rfl
    rw [ht] at IT
    rw [hr]
    subst hv
    clear hr ht h
    go_enter Try.func80, Try.ntmps80
    go_wp2_with fail
    refine IT.mono ?_
    rintro e w2 ⟨rfl, c2⟩
    have B2 := Lib.hid c2
    clear c2 IT
    go_wp2
    go_ret
    exact ⟨_, rfl, IS.nil _ _ _, B2.out⟩
  have HR := Lib.hid (show ttF ls = [1, tcF ls 1 - 4, tcF ls 2 - 4 * tcF ls 1 + 6, tiF ls 1] by unfold ttF; rw [ht]; rfl)
  rw [ht] at IT
  have T1 := fun W (B : Below w.heap.size w W) => implTetraCount_any ls v 1 hb W (h.keep B hhb) (Nat.le_trans hhb B.size)
  have T2 := fun W (B : Below w.heap.size w W) => implTetraCount_any ls v 2 hb W (h.keep B hhb) (Nat.le_trans hhb B.size)
  have TI := fun W (B : Below w.heap.size w W) => implTetraInner_any ls v 1 hb W (h.keep B hhb) (Nat.le_trans hhb B.size)
  obtain ⟨x1, x2⟩ := tc_bd ls (t := 1) (by omega) (by omega)
  obtain ⟨y1, y2⟩ := tc_bd ls (t := 2) (by omega) (by omega)
  subst hv
  clear ht h
  generalize tcF ls 1 = A at *
  generalize tcF ls 2 = C at *
  generalize tiF ls 1 = D at *
  have e1 := wr64 (A - 4) (by omega)
  have e2 := wr64 (4 * A) (by omega)
  have e3 := wr64 (C - 4 * A) (by omega)
  have e4 := wr64 (C - 4 * A + 6) (by omega)
  go_enter Try.func80, Try.ntmps80
  go_wp2_with fail
  refine IT.mono ?_
  rintro e w2 ⟨rfl, c2⟩
  have B2 := Lib.hid c2
  clear c2 IT
  go_wp2_with fail
  refine (T1 _ B2.out).mono ?_
  rintro e w3 ⟨rfl, c3⟩
  have B3 := Lib.hid (below_then B2.out B2.out.size c3)
  clear c3
  go_wp2_with fail
  refine (T2 _ B3.out).mono ?_
  rintro e w4 ⟨rfl, c4⟩
  have B4 := Lib.hid (below_then B3.out B3.out.size c4)
  clear c4
  go_wp2_with fail
  refine (T1 _ B4.out).mono ?_
  rintro e w5 ⟨rfl, c5⟩
  have B5 := Lib.hid (below_then B4.out B4.out.size c5)
  clear c5
  go_wp2_with fail
  refine (TI _ B5.out).mono ?_
  rintro e w6 ⟨rfl, c6⟩
  have B6 := Lib.hid (below_then B5.out B5.out.size c6)
  clear c6
  have HI := Lib.hid (IS.lit4 w6 w.heap.size B6.out.size 1 (A - 4) (C - 4 * A + 6) D)
  have HB := Lib.hid (B6.out.alloc B6.out.size (.cells #[.int .i64 1, .int .i64 (A - 4), .int .i64 (C - 4 * A + 6), .int .i64 D] 3))
  go_wp2
  go_ret
  refine ⟨_, rfl, ?_, HB.out⟩
  rw [HR.out, World.size_alloc]
  exact HI.out
set_option maxRecDepth 100000 in
set_option maxHeartbeats 8000000 in
theorem specTetraTop_any (ls : List (List Int)) (v : Value) (hb : Nat) (w : World) (h : ISSr w hb v ls) (hhb : hb ≤ w.heap.size) :
    Calls Try.prog 83 #[v] w fun e w' => ∃ u, e = .returned u ∧ IS w' w.heap.size w'.heap.size u (ttF ls) ∧ Below w.heap.size w w' := by
  have IT := specIsTetra_any ls v hb w h hhb
  obtain ⟨av, cv, hv, -⟩ := id h
  cases ht : tetraB ls
  · have hr : ttF ls = [] := by unfold ttF; rw [ht]; rfl
    rw [ht] at IT
    rw [hr]
    subst hv
    clear hr ht h
    go_enter Try.func83, Try.ntmps83
    go_wp2_with fail
    refine IT.mono ?_
    rintro e w2 ⟨rfl, c2⟩
    have B2 := Lib.hid c2
    clear c2 IT
    go_wp2
    go_ret
    exact ⟨_, rfl, IS.none _ _ _ _ _ (Nat.zero_le _), B2.out.alloc B2.out.size _⟩
  have HR := Lib.hid (show ttF ls = [1, tcF ls 1 - 4, tcF ls 2 - 4 * tcF ls 1 + 6, tiF ls 1] by unfold ttF; rw [ht]; rfl)
  rw [ht] at IT
  have T1 := fun W (B : Below w.heap.size w W) => specTetraCount_any ls v 1 hb W (h.keep B hhb) (Nat.le_trans hhb B.size)
  have T2 := fun W (B : Below w.heap.size w W) => specTetraCount_any ls v 2 hb W (h.keep B hhb) (Nat.le_trans hhb B.size)
  have TI := fun W (B : Below w.heap.size w W) => specTetraInner_any ls v 1 hb W (h.keep B hhb) (Nat.le_trans hhb B.size)
  obtain ⟨x1, x2⟩ := tc_bd ls (t := 1) (by omega) (by omega)
  obtain ⟨y1, y2⟩ := tc_bd ls (t := 2) (by omega) (by omega)
  subst hv
  clear ht h
  generalize tcF ls 1 = A at *
  generalize tcF ls 2 = C at *
  generalize tiF ls 1 = D at *
  have e1 := wr64 (A - 4) (by omega)
  have e2 := wr64 (4 * A) (by omega)
  have e3 := wr64 (C - 4 * A) (by omega)
  have e4 := wr64 (C - 4 * A + 6) (by omega)
  go_enter Try.func83, Try.ntmps83
  go_wp2_with fail
  refine IT.mono ?_
  rintro e w2 ⟨rfl, c2⟩
  have B2 := Lib.hid c2
  clear c2 IT
  go_wp2_with fail
  refine (T1 _ B2.out).mono ?_
  rintro e w3 ⟨rfl, c3⟩
  have B3 := Lib.hid (below_then B2.out B2.out.size c3)
  clear c3
  go_wp2_with fail
  refine (T2 _ B3.out).mono ?_
  rintro e w4 ⟨rfl, c4⟩
  have B4 := Lib.hid (below_then B3.out B3.out.size c4)
  clear c4
  go_wp2_with fail
  refine (TI _ B4.out).mono ?_
  rintro e w6 ⟨rfl, c6⟩
  have B6 := Lib.hid (below_then B4.out B4.out.size c6)
  clear c6
  have HI := Lib.hid (IS.lit4 w6 w.heap.size B6.out.size 1 (A - 4) (C - 4 * A + 6) D)
  have HB := Lib.hid (B6.out.alloc B6.out.size (.cells #[.int .i64 1, .int .i64 (A - 4), .int .i64 (C - 4 * A + 6), .int .i64 D] 3))
  go_wp2
  go_ret
  refine ⟨_, rfl, ?_, HB.out⟩
  rw [HR.out, World.size_alloc]
  exact HI.out
end Go.Proofs.Ytfncikbmdaameaa
