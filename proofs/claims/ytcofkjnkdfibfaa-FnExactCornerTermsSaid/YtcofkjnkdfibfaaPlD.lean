/- EhrhartOf, InnerCount, SeriesTop: the walks. -/
import Derived.Test.YtcofkjnkdfibfaaPlC
namespace Go.Proofs.Ytcofkjnkdfibfaa
open Go.RowKit
set_option linter.unusedVariables false
set_option linter.unusedSimpArgs false

theorem IS.none' (w : World) (lo hi : Nat) (a : Option Addr) (cap : Nat) (h : cap ≤ maxLen) : IS w lo hi (.slice a 0 cap) [] := ⟨a, cap, rfl, Nat.zero_le _, h, fun h => absurd rfl h⟩
def eoF (ls : List (List Int)) : List Int := if isPolyB ls then [2, bdV ls, arV ls] else []
theorem eoF_len (ls : List (List Int)) : (eoF ls).length ≤ 3 := by unfold eoF; split <;> simp
def stF (ls : List (List Int)) : List Int := if isPolyB ls then [1, ehI ls 1 - 3, inV ls] else []
theorem stF_len (ls : List (List Int)) : (stF ls).length ≤ 3 := by unfold stF; split <;> simp
theorem inV_poly (ls : List (List Int)) (hp : isPolyB ls = true) : inV ls = (arV ls - bdV ls + 2).tdiv 2 := by unfold inV arV bdV; simp [hp]
theorem arL_V (ls : List (List Int)) (hp : isPolyB ls = true) : arL ls = arV ls := by unfold arV; simp [hp]
theorem ehV_one (ls : List (List Int)) (hp : isPolyB ls = true) : ehV ls 1 = ehI ls 1 := by unfold ehV; rw [hp]; rfl
theorem ehI_bd (ls : List (List Int)) (hp : isPolyB ls = true) {t : Int} (ht : -10000 ≤ t ∧ t ≤ 10000) : -7000000000000 ≤ ehI ls t ∧ ehI ls t ≤ 7000000000000 := by
  have hB := bdV_bd ls hp
  have hA := arV_bd ls hp
  unfold ehI
  obtain ⟨m1, m2, m3⟩ := eh_prods hB hA ht
  exact tdiv2_bd (M := 7000000000000) (by omega)

set_option maxHeartbeats 4000000 in
theorem implInner_any (ls : List (List Int)) (v : Value) (hb : Nat) (w : World) (h : ISSr w hb v ls) (hhb : hb ≤ w.heap.size) :
    Calls Try.prog 62 #[v] w fun e w' => e = .returned (.int .i64 (inV ls)) ∧ Below w.heap.size w w' := by
  have IP := implIsPolygon_any ls v hb w h hhb
  cases hp : isPolyB ls
  case false =>
    have hr : inV ls = -1 := by unfold inV; rw [hp]; rfl
    rw [hr]
    rw [hp] at IP
    clear h hr hp
    go_enter Try.func62, Try.ntmps62
    go_wp2_with (go_at_call 49; (with_reducible refine IP.mono ?_); rintro e w1 ⟨rfl, c1⟩)
    go_ret
    exact ⟨rfl, c1⟩
  rw [inV_poly ls hp]
  rw [hp] at IP
  have BD := fun W (HB : Below w.heap.size w W) => implBoundary_any ls v hb W (h.keep HB hhb) (Nat.le_trans hhb HB.size)
  have AR := fun W (HB : Below w.heap.size w W) => implAreaTwice_any ls v hb W (h.keep HB hhb) (Nat.le_trans hhb HB.size)
  have hB := bdV_bd ls hp
  have hA := arV_bd ls hp
  clear h hp hhb
  generalize bdV ls = B at *
  generalize arV ls = A at *
  have e1 := wr64 (A - B) (by omega)
  have e2 := wr64 (A - B + 2) (by omega)
  have e3 := tdiv2_bd (a := A - B + 2) (M := 70000) (by omega)
  obtain ⟨q, hq⟩ : ∃ q, q = (A - B + 2).tdiv 2 := ⟨_, rfl⟩
  have e4 : IntKind.i64.wrap ((A - B + 2).tdiv 2) = q := by rw [← hq]; exact wr64 _ (by omega)
  rw [← hq]
  clear hq
  go_enter Try.func62, Try.ntmps62
  go_wp2_with (first | (go_at_call 49; (with_reducible refine IP.mono ?_); rintro e w1 ⟨rfl, c1⟩) | (go_at_call 59; (with_reducible refine (AR _ c1).mono ?_); rintro e w2 ⟨rfl, c2⟩; have C2 := below_then c1 c1.size c2) | (go_at_call 58; (with_reducible refine (BD _ C2).mono ?_); rintro e w3 ⟨rfl, c3⟩))
  go_ret
  exact ⟨rfl, below_then C2 C2.size c3⟩
set_option maxHeartbeats 4000000 in
theorem specInner_any (ls : List (List Int)) (v : Value) (hb : Nat) (w : World) (h : ISSr w hb v ls) (hhb : hb ≤ w.heap.size) :
    Calls Try.prog 60 #[v] w fun e w' => e = .returned (.int .i64 (inV ls)) ∧ Below w.heap.size w w' := by
  have IP := specIsPolygon_any ls v hb w h hhb
  cases hp : isPolyB ls
  case false =>
    have hr : inV ls = -1 := by unfold inV; rw [hp]; rfl
    rw [hr]
    rw [hp] at IP
    clear h hr hp
    go_enter Try.func60, Try.ntmps60
    go_wp2_with (go_at_call 45; (with_reducible refine IP.mono ?_); rintro e w1 ⟨rfl, c1⟩)
    go_ret
    exact ⟨rfl, c1⟩
  rw [inV_poly ls hp]
  rw [hp] at IP
  obtain ⟨h3, h12, hf⟩ := isPoly_parts hp
  have BD := fun W (HB : Below w.heap.size w W) => specBoundary_any ls v hb W (h.keep HB hhb) (Nat.le_trans hhb HB.size)
  have AR := fun W (HB : Below w.heap.size w W) => l7Area_any ls v hb W (h.keep HB hhb) h12 hf
  rw [arL_V ls hp] at AR
  have hB := bdV_bd ls hp
  have hA := arV_bd ls hp
  clear h hp hhb hf h3 h12
  generalize bdV ls = B at *
  generalize arV ls = A at *
  have e1 := wr64 (A - B) (by omega)
  have e2 := wr64 (A - B + 2) (by omega)
  have e3 := tdiv2_bd (a := A - B + 2) (M := 70000) (by omega)
  obtain ⟨q, hq⟩ : ∃ q, q = (A - B + 2).tdiv 2 := ⟨_, rfl⟩
  have e4 : IntKind.i64.wrap ((A - B + 2).tdiv 2) = q := by rw [← hq]; exact wr64 _ (by omega)
  rw [← hq]
  clear hq
  go_enter Try.func60, Try.ntmps60
  go_wp2_with (first | (go_at_call 45; (with_reducible refine IP.mono ?_); rintro e w1 ⟨rfl, c1⟩) | (go_at_call 56; (with_reducible refine (AR _ c1).mono ?_); rintro e w2 ⟨rfl, d, rfl⟩; have C2 := c1.trans (below_draws w.heap.size w1 d)) | (go_at_call 55; (with_reducible refine (BD _ C2).mono ?_); rintro e w3 ⟨rfl, c3⟩))
  go_ret
  exact ⟨rfl, below_then C2 C2.size c3⟩
set_option maxHeartbeats 4000000 in
theorem implEhrhartOf_any (ls : List (List Int)) (v : Value) (hb : Nat) (w : World) (h : ISSr w hb v ls) (hhb : hb ≤ w.heap.size) :
    Calls Try.prog 29 #[v] w fun e w' => ∃ u, e = .returned u ∧ IS w' w.heap.size w'.heap.size u (eoF ls) ∧ Below w.heap.size w w' := by
  have IP := implIsPolygon_any ls v hb w h hhb
  cases hp : isPolyB ls
  case false =>
    have hr : eoF ls = [] := by unfold eoF; rw [hp]; rfl
    rw [hr]
    rw [hp] at IP
    clear h hr hp
    go_enter Try.func29, Try.ntmps29
    go_wp2_with (go_at_call 49; (with_reducible refine IP.mono ?_); rintro e w1 ⟨rfl, c1⟩)
    go_ret
    exact ⟨_, rfl, IS.nil _ _ _, c1⟩
  have HR := Lib.hid (show eoF ls = [2, bdV ls, arV ls] by unfold eoF; rw [hp]; rfl)
  rw [hp] at IP
  have BD := fun W (HB : Below w.heap.size w W) => implBoundary_any ls v hb W (h.keep HB hhb) (Nat.le_trans hhb HB.size)
  have AR := fun W (HB : Below w.heap.size w W) => implAreaTwice_any ls v hb W (h.keep HB hhb) (Nat.le_trans hhb HB.size)
  clear h hp hhb
  generalize bdV ls = B at *
  generalize arV ls = A at *
  go_enter Try.func29, Try.ntmps29
  go_wp2_with fail
  with_reducible refine IP.mono ?_
  rintro e w2 ⟨rfl, c2⟩
  have B2 := Lib.hid c2
  clear c2 IP
  go_wp2_with fail
  with_reducible refine (BD _ B2.out).mono ?_
  rintro e w3 ⟨rfl, c3⟩
  have B3 := Lib.hid (below_then B2.out B2.out.size c3)
  clear c3
  go_wp2_with fail
  with_reducible refine (AR _ B3.out).mono ?_
  rintro e w4 ⟨rfl, c4⟩
  have B4 := Lib.hid (below_then B3.out B3.out.size c4)
  clear c4
  have HI := Lib.hid (IS.lit3 w4 w.heap.size B4.out.size 2 B A)
  have HB := Lib.hid (B4.out.alloc B4.out.size (.cells #[.int .i64 2, .int .i64 B, .int .i64 A] 3))
  go_wp2
  go_ret
  refine ⟨_, rfl, ?_, HB.out⟩
  rw [HR.out, World.size_alloc]
  exact HI.out
set_option maxHeartbeats 4000000 in
theorem specEhrhartOf_any (ls : List (List Int)) (v : Value) (hb : Nat) (w : World) (h : ISSr w hb v ls) (hhb : hb ≤ w.heap.size) :
    Calls Try.prog 28 #[v] w fun e w' => ∃ u, e = .returned u ∧ IS w' w.heap.size w'.heap.size u (eoF ls) ∧ Below w.heap.size w w' := by
  have IP := specIsPolygon_any ls v hb w h hhb
  cases hp : isPolyB ls
  case false =>
    have hr : eoF ls = [] := by unfold eoF; rw [hp]; rfl
    rw [hr]
    rw [hp] at IP
    clear h hr hp
    go_enter Try.func28, Try.ntmps28
    go_wp2_with (go_at_call 45; (with_reducible refine IP.mono ?_); rintro e w1 ⟨rfl, c1⟩)
    go_ret
    exact ⟨_, rfl, IS.none' _ _ _ _ _ (Nat.zero_le _), c1.alloc c1.size _⟩
  have HR := Lib.hid (show eoF ls = [2, bdV ls, arV ls] by unfold eoF; rw [hp]; rfl)
  rw [hp] at IP
  obtain ⟨h3, h12, hf⟩ := isPoly_parts hp
  have BD := fun W (HB : Below w.heap.size w W) => specBoundary_any ls v hb W (h.keep HB hhb) (Nat.le_trans hhb HB.size)
  have AR := fun W (HB : Below w.heap.size w W) => l7Area_any ls v hb W (h.keep HB hhb) h12 hf
  rw [arL_V ls hp] at AR
  clear h hp hhb h3 h12 hf
  generalize bdV ls = B at *
  generalize arV ls = A at *
  go_enter Try.func28, Try.ntmps28
  go_wp2_with fail
  with_reducible refine IP.mono ?_
  rintro e w2 ⟨rfl, c2⟩
  have B2 := Lib.hid c2
  clear c2 IP
  go_wp2_with fail
  with_reducible refine (BD _ B2.out).mono ?_
  rintro e w3 ⟨rfl, c3⟩
  have B3 := Lib.hid (below_then B2.out B2.out.size c3)
  clear c3
  go_wp2_with fail
  with_reducible refine (AR _ B3.out).mono ?_
  rintro e w4 ⟨rfl, d, rfl⟩
  have B4 := Lib.hid (B3.out.trans (below_draws w.heap.size w3 d))
  have HI := Lib.hid (IS.lit3 (w3.drewN d) w.heap.size B4.out.size 2 B A)
  have HB := Lib.hid (B4.out.alloc B4.out.size (.cells #[.int .i64 2, .int .i64 B, .int .i64 A] 3))
  go_wp2
  go_ret
  refine ⟨_, rfl, ?_, HB.out⟩
  rw [HR.out, World.size_alloc]
  exact HI.out
end Go.Proofs.Ytcofkjnkdfibfaa
