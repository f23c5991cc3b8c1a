/- Inner counts and Ehrhart's numbers of polygons: the walks. -/
import Derived.Test.YtcofkjnkdfibfaaPlB
namespace Go.Proofs.Ytcofkjnkdfibfaa
open Go.RowKit
set_option linter.unusedVariables false
set_option linter.unusedSimpArgs false

theorem bdV_bd (ls : List (List Int)) (hp : isPolyB ls = true) : 0 ≤ bdV ls ∧ bdV ls ≤ 1200 := by
  obtain ⟨h3, h12, hf⟩ := isPoly_parts hp
  have := bdK_bd hf ls.length (Nat.le_refl _)
  unfold bdV bdL; rw [hp]; simp only [if_true]; omega
theorem arV_bd (ls : List (List Int)) (hp : isPolyB ls = true) : -60000 ≤ arV ls ∧ arV ls ≤ 60000 := by
  obtain ⟨h3, h12, hf⟩ := isPoly_parts hp
  have := arK_bd hf ls.length (Nat.le_refl _)
  unfold arV arL; rw [hp]; simp only [if_true]; omega
def ehI (ls : List (List Int)) (t : Int) : Int := (2 + bdV ls * t + arV ls * t * t).tdiv 2
def ehV (ls : List (List Int)) (t : Int) : Int := if isPolyB ls && inB t (-1000) 1000 then ehI ls t else -1
theorem mul_bdE {a b M N : Int} (ha : -M ≤ a) (ha' : a ≤ M) (hb : -N ≤ b) (hb' : b ≤ N) (hM : 0 ≤ M) (hN : 0 ≤ N) : -(M * N) ≤ a * b ∧ a * b ≤ M * N := by
  have h1 : a.natAbs * b.natAbs ≤ M.natAbs * N.natAbs := Nat.mul_le_mul (by omega) (by omega)
  rw [← Int.natAbs_mul, ← Int.natAbs_mul] at h1
  have : 0 ≤ M * N := Int.mul_nonneg hM hN
  omega
theorem tdiv2_bd {a M : Int} (h : -M ≤ a ∧ a ≤ M) : -M ≤ a.tdiv 2 ∧ a.tdiv 2 ≤ M := by
  have := Int.natAbs_tdiv_le_natAbs a 2
  omega
theorem eh_prods {B A t : Int} (hB : 0 ≤ B ∧ B ≤ 1200) (hA : -60000 ≤ A ∧ A ≤ 60000) (ht : -10000 ≤ t ∧ t ≤ 10000) :
    (-12000000 ≤ B * t ∧ B * t ≤ 12000000) ∧ (-600000000 ≤ A * t ∧ A * t ≤ 600000000) ∧ (-6000000000000 ≤ A * t * t ∧ A * t * t ≤ 6000000000000) := by
  have m1 := mul_bdE (a := B) (b := t) (M := 1200) (N := 10000) (by omega) hB.2 ht.1 ht.2 (by omega) (by omega)
  have m2 := mul_bdE (a := A) (b := t) (M := 60000) (N := 10000) hA.1 hA.2 ht.1 ht.2 (by omega) (by omega)
  have m3 := mul_bdE (a := A * t) (b := t) (M := 600000000) (N := 10000) (by omega) (by omega) ht.1 ht.2 (by omega) (by omega)
  omega

set_option maxRecDepth 100000 in
set_option maxHeartbeats 4000000 in
theorem specBoundary_any (ls : List (List Int)) (v : Value) (hb : Nat) (w : World) (h : ISSr w hb v ls) (hhb : hb ≤ w.heap.size) :
    Calls Try.prog 55 #[v] w fun e w' => e = .returned (.int .i64 (bdV ls)) ∧ Below w.heap.size w w' := by
  have IP := specIsPolygon_any ls v hb w h hhb
  cases hp : isPolyB ls
  case false =>
    have hr : bdV ls = -1 := by unfold bdV; rw [hp]; rfl
    rw [hr]
    rw [hp] at IP
    clear h hr hp
    go_enter Try.func55, Try.ntmps55
    go_wp2_with (go_at_call 45; (with_reducible refine IP.mono ?_); rintro e w1 ⟨rfl, c1⟩)
    go_ret
    exact ⟨rfl, c1⟩
  have hr : bdV ls = bdL ls := by unfold bdV; rw [hp]; rfl
  rw [hr]
  rw [hp] at IP
  obtain ⟨h3, h12, hf⟩ := isPoly_parts hp
  have SD := Lib.hid (fun k W (HB : Below w.heap.size w W) hk => l7Side_any ls v hb W (h.keep HB hhb) (Nat.le_trans hhb HB.size) h12 hf k hk)
  obtain ⟨a, cap, rfl, hcap, hm, hcell⟩ := id h
  obtain ⟨n, hn⟩ : ∃ n, n = ls.length := ⟨_, rfl⟩
  have HBD := Lib.hid (fun k hk => bdK_bd hf k hk)
  have HTB := Lib.hid (fun k hk => sdI_bd hf (k := k) hk)
  rw [← hn] at h12 h3 IP ⊢
  have HN := Lib.hid hn; clear hn
  clear hcell h hf hp hr hhb hcap hm
  have n1 : (1 : Int) ≤ (n : Int) := by omega
  go_enter Try.func55, Try.ntmps55
  go_wp2_with (go_at_call 45; (with_reducible refine IP.mono ?_); rintro e w1 ⟨rfl, c1⟩)
  have C1 := Lib.hid c1
  clear IP c1
  go_loopw [3, 4] (fun s i wr => ∃ (k : Nat) (z : Int), k ≤ n ∧ i = .int .i64 k ∧ s = .int .i64 z ∧ Hid (Below w.heap.size w wr) ∧ Hid (z = bdK ls k)) (fun _ i _ => n - (intOf i).toNat)
  case atStart => exact ⟨0, 0, by omega, rfl, rfl, C1, Lib.hid rfl⟩
  case round =>
    obtain ⟨k, z, hk, rfl, rfl, HB, HZ⟩ := hrel
    by_cases hlt : k < n
    · have hkl : k < ls.length := by rw [← HN.out]; exact hlt
      have MI := SD.out k wr HB.out hkl
      have HS := Lib.hid (show bdK ls (k + 1) = bdK ls k + sdI ls k from rfl)
      have b1 := HBD.out k (by omega)
      have b2 := HTB.out k hkl
      rw [← HZ.out] at b1
      rw [← HN.out] at MI
      clear hkl
      generalize sdI ls k = t at *
      go_wp2_with (go_at_call 52; (with_reducible refine MI.mono ?_); rintro e w2 ⟨rfl, c2⟩)
      have HB2 := Lib.hid (below_then HB.out HB.out.size c2)
      clear MI c2
      go_roundw
      case rel => exact ⟨k + 1, z + t, by omega, by go_num, by go_num, HB2, Lib.hid (by rw [HS.out, HZ.out])⟩
      case measure => simp [intOf]; omega
    · obtain rfl : k = n := by omega
      have HR := Lib.hid (show z = bdL ls by rw [HZ.out, bdL, ← HN.out])
      go_wp2
      go_ret
      exact ⟨ret_int HR.out, HB.out⟩
set_option maxHeartbeats 4000000 in
theorem ehrhart_any (ls : List (List Int)) (v : Value) (hb : Nat) (w : World) (h : ISSr w hb v ls) (hhb : hb ≤ w.heap.size) (hp : isPolyB ls = true) (t : Int) (ht : -10000 ≤ t ∧ t ≤ 10000) :
    Calls Try.prog 57 #[v, .int .i64 t] w fun e w' => e = .returned (.int .i64 (ehI ls t)) ∧ Below w.heap.size w w' := by
  have BD := implBoundary_any ls v hb w h hhb
  have AR := fun W (HB : Below w.heap.size w W) => implAreaTwice_any ls v hb W (h.keep HB hhb) (Nat.le_trans hhb HB.size)
  have hB := bdV_bd ls hp
  have hA := arV_bd ls hp
  unfold ehI
  clear h hhb hp
  generalize bdV ls = B at *
  generalize arV ls = A at *
  obtain ⟨m1, m2, m3⟩ := eh_prods hB hA ht
  have e1 := wr64 (B * t) (by omega)
  have e2 := wr64 (A * t) (by omega)
  have e3 := wr64 (A * t * t) (by omega)
  have e4 := wr64 (2 + B * t) (by omega)
  have e5 := wr64 (2 + B * t + A * t * t) (by omega)
  obtain ⟨q, hq⟩ : ∃ q, q = (2 + B * t + A * t * t).tdiv 2 := ⟨_, rfl⟩
  have e7 := tdiv2_bd (a := 2 + B * t + A * t * t) (M := 7000000000000) (by omega)
  have e6 : IntKind.i64.wrap ((2 + B * t + A * t * t).tdiv 2) = q := by rw [← hq]; exact wr64 _ (by omega)
  rw [← hq]
  clear hq
  go_enter Try.func57, Try.ntmps57
  go_wp2_with (first | (go_at_call 58; (with_reducible refine BD.mono ?_); rintro e w1 ⟨rfl, c1⟩) | (go_at_call 59; (with_reducible refine (AR _ c1).mono ?_); rintro e w2 ⟨rfl, c2⟩))
  go_ret
  exact ⟨rfl, below_then c1 c1.size c2⟩
set_option maxHeartbeats 4000000 in
theorem implEhrhartAt_any (ls : List (List Int)) (t : Int) (v : Value) (hb : Nat) (w : World) (h : ISSr w hb v ls) (hhb : hb ≤ w.heap.size) :
    Calls Try.prog 25 #[v, .int .i64 t] w fun e w' => e = .returned (.int .i64 (ehV ls t)) ∧ Below w.heap.size w w' := by
  have IP := implIsPolygon_any ls v hb w h hhb
  have WI := fun W => within_any t (-1000) 1000 W
  cases hp : isPolyB ls
  case false =>
    have hr : ehV ls t = -1 := by unfold ehV; rw [hp]; rfl
    rw [hr]
    rw [hp] at IP
    clear h hr hp
    go_enter Try.func25, Try.ntmps25
    go_wp2_with (go_at_call 49; (with_reducible refine IP.mono ?_); rintro e w1 ⟨rfl, c1⟩)
    go_ret
    exact ⟨rfl, c1⟩
  rw [hp] at IP
  cases ht : inB t (-1000) 1000
  case false =>
    have hr : ehV ls t = -1 := by unfold ehV; rw [hp, ht]; rfl
    rw [hr]
    rw [ht] at WI
    clear h hr hp ht
    go_enter Try.func25, Try.ntmps25
    go_wp2_with (first | (go_at_call 49; (with_reducible refine IP.mono ?_); rintro e w1 ⟨rfl, c1⟩) | (go_at_call 50; (with_reducible refine (WI _).mono ?_); rintro e w2 ⟨rfl, rfl⟩))
    go_ret
    exact ⟨rfl, c1⟩
  have hr : ehV ls t = ehI ls t := by unfold ehV; rw [hp, ht]; rfl
  rw [hr]
  rw [ht] at WI
  have htt := inB_iff.1 ht
  have EH := fun W (HB : Below w.heap.size w W) => ehrhart_any ls v hb W (h.keep HB hhb) (Nat.le_trans hhb HB.size) hp t (by omega)
  clear h hr hp ht hhb
  generalize ehI ls t = q at *
  go_enter Try.func25, Try.ntmps25
  go_wp2_with (first | (go_at_call 49; (with_reducible refine IP.mono ?_); rintro e w1 ⟨rfl, c1⟩) | (go_at_call 50; (with_reducible refine (WI _).mono ?_); rintro e w2 ⟨rfl, rfl⟩) | (go_at_call 57; (with_reducible refine (EH _ c1).mono ?_); rintro e w3 ⟨rfl, c3⟩))
  go_ret
  exact ⟨rfl, below_then c1 c1.size c3⟩
set_option maxHeartbeats 4000000 in
theorem specEhrhartAt_any (ls : List (List Int)) (t : Int) (v : Value) (hb : Nat) (w : World) (h : ISSr w hb v ls) (hhb : hb ≤ w.heap.size) :
    Calls Try.prog 24 #[v, .int .i64 t] w fun e w' => e = .returned (.int .i64 (ehV ls t)) ∧ Below w.heap.size w w' := by
  have IP := specIsPolygon_any ls v hb w h hhb
  have WI := fun W => l1In_any t (-1000) 1000 W
  cases hp : isPolyB ls
  case false =>
    have hr : ehV ls t = -1 := by unfold ehV; rw [hp]; rfl
    rw [hr]
    rw [hp] at IP
    clear h hr hp
    go_enter Try.func24, Try.ntmps24
    go_wp2_with (go_at_call 45; (with_reducible refine IP.mono ?_); rintro e w1 ⟨rfl, c1⟩)
    go_ret
    exact ⟨rfl, c1⟩
  rw [hp] at IP
  cases ht : inB t (-1000) 1000
  case false =>
    have hr : ehV ls t = -1 := by unfold ehV; rw [hp, ht]; rfl
    rw [hr]
    rw [ht] at WI
    clear h hr hp ht
    go_enter Try.func24, Try.ntmps24
    go_wp2_with (first | (go_at_call 45; (with_reducible refine IP.mono ?_); rintro e w1 ⟨rfl, c1⟩) | (go_at_call 46; (with_reducible refine (WI _).mono ?_); rintro e w2 ⟨rfl, rfl⟩))
    go_ret
    exact ⟨rfl, c1⟩
  have hr : ehV ls t = ehI ls t := by unfold ehV; rw [hp, ht]; rfl
  rw [hr]
  rw [ht] at WI
  have htt := inB_iff.1 ht
  obtain ⟨h3, h12, hf⟩ := isPoly_parts hp
  have BD := fun W (HB : Below w.heap.size w W) => specBoundary_any ls v hb W (h.keep HB hhb) (Nat.le_trans hhb HB.size)
  have AR := fun W (HB : Below w.heap.size w W) => l7Area_any ls v hb W (h.keep HB hhb) h12 hf
  have hB := bdV_bd ls hp
  have hA := arV_bd ls hp
  have ha : arL ls = arV ls := by unfold arV; rw [hp]; rfl
  rw [ha] at AR
  unfold ehI
  clear h hr hp ht hhb hf h3 h12 ha
  generalize bdV ls = B at *
  generalize arV ls = A at *
  obtain ⟨m1, m2, m3⟩ := eh_prods hB hA (show -10000 ≤ t ∧ t ≤ 10000 by omega)
  have e1 := wr64 (B * t) (by omega)
  have e2 := wr64 (A * t) (by omega)
  have e3 := wr64 (A * t * t) (by omega)
  have e4 := wr64 (2 + B * t) (by omega)
  have e5 := wr64 (2 + B * t + A * t * t) (by omega)
  obtain ⟨q, hq⟩ : ∃ q, q = (2 + B * t + A * t * t).tdiv 2 := ⟨_, rfl⟩
  have e7 := tdiv2_bd (a := 2 + B * t + A * t * t) (M := 7000000000000) (by omega)
  have e6 : IntKind.i64.wrap ((2 + B * t + A * t * t).tdiv 2) = q := by rw [← hq]; exact wr64 _ (by omega)
  rw [← hq]
  clear hq
  go_enter Try.func24, Try.ntmps24
  go_wp2_with (first | (go_at_call 45; (with_reducible refine IP.mono ?_); rintro e w1 ⟨rfl, c1⟩) | (go_at_call 46; (with_reducible refine (WI _).mono ?_); rintro e w2 ⟨rfl, rfl⟩) | (go_at_call 55; (with_reducible refine (BD _ c1).mono ?_); rintro e w3 ⟨rfl, c3⟩; have C3 := below_then c1 c1.size c3) | (go_at_call 56; (with_reducible refine (AR _ C3).mono ?_); rintro e w4 ⟨rfl, d, rfl⟩))
  go_ret
  exact ⟨rfl, C3.trans (below_draws _ _ _)⟩
end Go.Proofs.Ytcofkjnkdfibfaa
