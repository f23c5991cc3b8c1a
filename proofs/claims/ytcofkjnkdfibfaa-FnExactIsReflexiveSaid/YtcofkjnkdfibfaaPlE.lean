/- SeriesTop of polygons: the walks. -/
import Derived.Test.YtcofkjnkdfibfaaPlD
namespace Go.Proofs.Ytcofkjnkdfibfaa
open Go.RowKit
set_option linter.unusedVariables false
set_option linter.unusedSimpArgs false

set_option maxHeartbeats 4000000 in
theorem implSeriesTop_any (ls : List (List Int)) (v : Value) (hb : Nat) (w : World) (h : ISSr w hb v ls) (hhb : hb ≤ w.heap.size) :
    Calls Try.prog 33 #[v] w fun e w' => ∃ u, e = .returned u ∧ IS w' w.heap.size w'.heap.size u (stF ls) ∧ Below w.heap.size w w' := by
  have IP := implIsPolygon_any ls v hb w h hhb
  cases hp : isPolyB ls
  case false =>
    have hr : stF ls = [] := by unfold stF; rw [hp]; rfl
    rw [hr]
    rw [hp] at IP
    clear h hr hp
    go_enter Try.func33, Try.ntmps33
    go_wp2_with (go_at_call 49; (with_reducible refine IP.mono ?_); rintro e w1 ⟨rfl, c1⟩)
    go_ret
    exact ⟨_, rfl, IS.nil _ _ _, c1⟩
  have HR := Lib.hid (show stF ls = [1, ehI ls 1 - 3, inV ls] by unfold stF; rw [hp]; rfl)
  rw [hp] at IP
  have BD := fun W (HB : Below w.heap.size w W) => implEhrhartAt_any ls 1 v hb W (h.keep HB hhb) (Nat.le_trans hhb HB.size)
  have AR := fun W (HB : Below w.heap.size w W) => implInner_any ls v hb W (h.keep HB hhb) (Nat.le_trans hhb HB.size)
  rw [ehV_one ls hp] at BD
  have hB := ehI_bd ls hp (t := 1) (by omega)
  clear h hp hhb
  generalize ehI ls 1 = B at *
  generalize inV ls = A at *
  have e1 := wr64 (B - 3) (by omega)
  go_enter Try.func33, Try.ntmps33
  go_wp2_with fail
  with_reducible refine IP.mono ?_
  rintro e w2 ⟨rfl, c2⟩
  have B2 := Lib.hid c2
  clear c2 IP
  go_wp2_with fail
  with_reducible refine (BD _ B2.out).mono ?_
  rintro e w3 ⟨rfl, c3⟩
  have B3 := Lib.hid (below_then B2.out B2.out.size c3)
  clear c3
  go_wp2_with fail
  with_reducible refine (AR _ B3.out).mono ?_
  rintro e w4 ⟨rfl, c4⟩
  have B4 := Lib.hid (below_then B3.out B3.out.size c4)
  clear c4
  have HI := Lib.hid (IS.lit3 w4 w.heap.size B4.out.size 1 (B - 3) A)
  have HB := Lib.hid (B4.out.alloc B4.out.size (.cells #[.int .i64 1, .int .i64 (B - 3), .int .i64 A] 3))
  go_wp2
  go_ret
  refine ⟨_, rfl, ?_, HB.out⟩
  rw [HR.out, World.size_alloc]
  exact HI.out
set_option maxHeartbeats 4000000 in
theorem specSeriesTop_any (ls : List (List Int)) (v : Value) (hb : Nat) (w : World) (h : ISSr w hb v ls) (hhb : hb ≤ w.heap.size) :
    Calls Try.prog 32 #[v] w fun e w' => ∃ u, e = .returned u ∧ IS w' w.heap.size w'.heap.size u (stF ls) ∧ Below w.heap.size w w' := by
  have IP := specIsPolygon_any ls v hb w h hhb
  cases hp : isPolyB ls
  case false =>
    have hr : stF ls = [] := by unfold stF; rw [hp]; rfl
    rw [hr]
    rw [hp] at IP
    clear h hr hp
    go_enter Try.func32, Try.ntmps32
    go_wp2_with (go_at_call 45; (with_reducible refine IP.mono ?_); rintro e w1 ⟨rfl, c1⟩)
    go_ret
    exact ⟨_, rfl, IS.none' _ _ _ _ _ (Nat.zero_le _), c1.alloc c1.size _⟩
  have HR := Lib.hid (show stF ls = [1, ehI ls 1 - 3, inV ls] by unfold stF; rw [hp]; rfl)
  rw [hp] at IP
  have BD := fun W (HB : Below w.heap.size w W) => specEhrhartAt_any ls 1 v hb W (h.keep HB hhb) (Nat.le_trans hhb HB.size)
  have AR := fun W (HB : Below w.heap.size w W) => specInner_any ls v hb W (h.keep HB hhb) (Nat.le_trans hhb HB.size)
  rw [ehV_one ls hp] at BD
  have hB := ehI_bd ls hp (t := 1) (by omega)
  clear h hp hhb
  generalize ehI ls 1 = B at *
  generalize inV ls = A at *
  have e1 := wr64 (B - 3) (by omega)
  go_enter Try.func32, Try.ntmps32
  go_wp2_with fail
  with_reducible refine IP.mono ?_
  rintro e w2 ⟨rfl, c2⟩
  have B2 := Lib.hid c2
  clear c2 IP
  go_wp2_with fail
  with_reducible refine (BD _ B2.out).mono ?_
  rintro e w3 ⟨rfl, c3⟩
  have B3 := Lib.hid (below_then B2.out B2.out.size c3)
  clear c3
  go_wp2_with fail
  with_reducible refine (AR _ B3.out).mono ?_
  rintro e w4 ⟨rfl, c4⟩
  have B4 := Lib.hid (below_then B3.out B3.out.size c4)
  clear c4
  have HI := Lib.hid (IS.lit3 w4 w.heap.size B4.out.size 1 (B - 3) A)
  have HB := Lib.hid (B4.out.alloc B4.out.size (.cells #[.int .i64 1, .int .i64 (B - 3), .int .i64 A] 3))
  go_wp2
  go_ret
  refine ⟨_, rfl, ?_, HB.out⟩
  rw [HR.out, World.size_alloc]
  exact HI.out
end Go.Proofs.Ytcofkjnkdfibfaa
