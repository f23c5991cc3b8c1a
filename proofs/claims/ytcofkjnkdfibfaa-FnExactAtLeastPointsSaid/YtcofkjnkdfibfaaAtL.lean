/- AtLeastPoints: the plain law and the walks. -/
import Derived.Test.YtcofkjnkdfibfaaArea
namespace Go.Proofs.Ytcofkjnkdfibfaa
open Go.RowKit
set_option linter.unusedVariables false
set_option linter.unusedSimpArgs false

def alT (ls : List (List Int)) (n : Int) : Nat := ((List.range 1500).find? fun t => decide (n ≤ ehI ls (t : Nat))).getD 0
def alV (ls : List (List Int)) (n : Int) : Int := if isPolyB ls && inB n 0 1000000 then (alT ls n : Int) else -1
theorem alT_eq {ls : List (List Int)} {n : Int} {t : Nat} (ht : t < 1500) (h1 : ∀ j : Nat, j < t → ehI ls j < n) (h2 : n ≤ ehI ls t) : alT ls n = t := by
  unfold alT
  have : (List.range 1500).find? (fun t => decide (n ≤ ehI ls (t : Nat))) = some t := by
    rw [List.find?_range_eq_some]
    refine ⟨by simpa using h2, by rw [List.mem_range]; exact ht, fun j hj => ?_⟩
    have := h1 j hj
    simp; omega
  rw [this]; rfl
theorem eh_big {ls : List (List Int)} (hp : isPolyB ls = true) : 1000000 ≤ ehI ls 1415 := by
  have hB := bdV_bd ls hp
  have hA := arV_pos ls hp
  unfold ehI
  generalize bdV ls = B at *
  generalize arV ls = A at *
  rw [Int.tdiv_eq_ediv_of_nonneg (by omega)]
  omega

set_option maxRecDepth 100000 in
set_option maxHeartbeats 4000000 in
theorem implAtLeast_any (ls : List (List Int)) (n : Int) (v : Value) (hb : Nat) (w : World) (h : ISSr w hb v ls) (hhb : hb ≤ w.heap.size) :
    Calls Try.prog 27 #[v, .int .i64 n] w fun e w' => e = .returned (.int .i64 (alV ls n)) ∧ Below w.heap.size w w' := by
  have IP := implIsPolygon_any ls v hb w h hhb
  have WI := fun W => within_any n 0 1000000 W
  cases hp : isPolyB ls
  case false =>
    have hr : alV ls n = -1 := by unfold alV; rw [hp]; rfl
    rw [hr]
    rw [hp] at IP
    clear h hr hp
    go_enter Try.func27, Try.ntmps27
    go_wp2_with (go_at_call 49; (with_reducible refine IP.mono ?_); rintro e w1 ⟨rfl, c1⟩)
    go_ret
    exact ⟨rfl, c1⟩
  rw [hp] at IP
  cases ht : inB n 0 1000000
  case false =>
    have hr : alV ls n = -1 := by unfold alV; rw [hp, ht]; rfl
    rw [hr]
    rw [ht] at WI
    clear h hr hp ht
    go_enter Try.func27, Try.ntmps27
    go_wp2_with (first | (go_at_call 49; (with_reducible refine IP.mono ?_); rintro e w1 ⟨rfl, c1⟩) | (go_at_call 50; (with_reducible refine (WI _).mono ?_); rintro e w2 ⟨rfl, rfl⟩))
    go_ret
    exact ⟨rfl, c1⟩
  have HR := Lib.hid (show alV ls n = (alT ls n : Int) by unfold alV; rw [hp, ht]; rfl)
  rw [ht] at WI
  have htt := inB_iff.1 ht
  have HBIG := Lib.hid (eh_big hp)
  have EH := Lib.hid (fun (t : Int) (ht : -10000 ≤ t ∧ t ≤ 10000) W (HB : Below w.heap.size w W) => ehrhart_any ls v hb W (h.keep HB hhb) (Nat.le_trans hhb HB.size) hp t ht)
  have HEB := Lib.hid (fun (t : Int) (ht : -10000 ≤ t ∧ t ≤ 10000) => ehI_bd ls hp (t := t) ht)
  clear h hp ht hhb
  go_enter Try.func27, Try.ntmps27
  go_wp2_with (first | (go_at_call 49; (with_reducible refine IP.mono ?_); rintro e w1 ⟨rfl, c1⟩) | (go_at_call 50; (with_reducible refine (WI _).mono ?_); rintro e w2 ⟨rfl, rfl⟩))
  have C1 := Lib.hid c1
  clear IP WI c1
  go_loopw [5] (fun i wr => ∃ (k : Nat), k ≤ 1415 ∧ i = .int .i64 k ∧ Hid (∀ j : Nat, j < k → ehI ls j < n) ∧ Hid (Below w.heap.size w wr)) (fun i _ => 1415 - (intOf i).toNat)
  case atStart => exact ⟨0, by omega, rfl, Lib.hid (fun j hj => absurd hj (by omega)), C1⟩
  case round =>
    obtain ⟨k, hk, rfl, HA, HB⟩ := hrel
    have EK := EH.out k (by omega) wr HB.out
    have HK := Lib.hid (show ehI ls 1415 < n → False from fun h => by have := HBIG.out; omega)
    by_cases hlt : ehI ls k < n
    · have hk' : k < 1415 := by
        rcases Nat.lt_or_ge k 1415 with h | h
        · exact h
        · exfalso
          have : k = 1415 := by omega
          rw [this] at hlt
          exact HK.out hlt
      have HA2 := Lib.hid (show ∀ j : Nat, j < k + 1 → ehI ls j < n from fun j hj => by
        rcases Nat.lt_or_ge j k with h | h
        · exact HA.out j h
        · have : j = k := by omega
          rw [this]; exact hlt)
      generalize ehI ls k = q at *
      go_wp2_with (go_at_call 57; (with_reducible refine EK.mono ?_); rintro e w2 ⟨rfl, c2⟩)
      have HB2 := Lib.hid (below_then HB.out HB.out.size c2)
      go_roundw
      case rel => exact ⟨k + 1, by omega, by go_num, HA2, HB2⟩
      case measure => simp [intOf]; omega
    · have HT := Lib.hid (show alT ls n = k from alT_eq (by omega) HA.out (by omega))
      generalize ehI ls k = q at *
      go_wp2_with (go_at_call 57; (with_reducible refine EK.mono ?_); rintro e w2 ⟨rfl, c2⟩)
      go_ret
      exact ⟨ret_int (by rw [HR.out, HT.out]), below_then HB.out HB.out.size c2⟩
set_option maxRecDepth 100000 in
set_option maxHeartbeats 4000000 in
theorem specAtLeast_any (ls : List (List Int)) (n : Int) (v : Value) (hb : Nat) (w : World) (h : ISSr w hb v ls) (hhb : hb ≤ w.heap.size) :
    Calls Try.prog 26 #[v, .int .i64 n] w fun e w' => e = .returned (.int .i64 (alV ls n)) ∧ Below w.heap.size w w' := by
  have IP := specIsPolygon_any ls v hb w h hhb
  have WI := fun W => l1In_any n 0 1000000 W
  cases hp : isPolyB ls
  case false =>
    have hr : alV ls n = -1 := by unfold alV; rw [hp]; rfl
    rw [hr]
    rw [hp] at IP
    clear h hr hp
    go_enter Try.func26, Try.ntmps26
    go_wp2_with (go_at_call 45; (with_reducible refine IP.mono ?_); rintro e w1 ⟨rfl, c1⟩)
    go_ret
    exact ⟨rfl, c1⟩
  rw [hp] at IP
  cases ht : inB n 0 1000000
  case false =>
    have hr : alV ls n = -1 := by unfold alV; rw [hp, ht]; rfl
    rw [hr]
    rw [ht] at WI
    clear h hr hp ht
    go_enter Try.func26, Try.ntmps26
    go_wp2_with (first | (go_at_call 45; (with_reducible refine IP.mono ?_); rintro e w1 ⟨rfl, c1⟩) | (go_at_call 46; (with_reducible refine (WI _).mono ?_); rintro e w2 ⟨rfl, rfl⟩))
    go_ret
    exact ⟨rfl, c1⟩
  have HR := Lib.hid (show alV ls n = (alT ls n : Int) by unfold alV; rw [hp, ht]; rfl)
  rw [ht] at WI
  have htt := inB_iff.1 ht
  have HBIG := Lib.hid (eh_big hp)
  obtain ⟨h3, h12, hf⟩ := isPoly_parts hp
  have BD := fun W (HB : Below w.heap.size w W) => specBoundary_any ls v hb W (h.keep HB hhb) (Nat.le_trans hhb HB.size)
  have AR := fun W (HB : Below w.heap.size w W) => l7Area_any ls v hb W (h.keep HB hhb) h12 hf
  rw [arL_V ls hp] at AR
  have hB := bdV_bd ls hp
  have hA := arV_bd ls hp
  have HEQ := Lib.hid (fun t : Int => show ehI ls t = (2 + bdV ls * t + arV ls * t * t).tdiv 2 from rfl)
  clear h hp ht hhb hf h3 h12
  generalize bdV ls = B at *
  generalize arV ls = A at *
  go_enter Try.func26, Try.ntmps26
  go_wp2_with (first | (go_at_call 45; (with_reducible refine IP.mono ?_); rintro e w1 ⟨rfl, c1⟩) | (go_at_call 46; (with_reducible refine (WI _).mono ?_); rintro e w2 ⟨rfl, rfl⟩) | (go_at_call 56; (with_reducible refine (AR _ c1).mono ?_); rintro e w3 ⟨rfl, d, rfl⟩; have C3 := c1.trans (below_draws w.heap.size w1 d)) | (go_at_call 55; (with_reducible refine (BD _ C3).mono ?_); rintro e w4 ⟨rfl, c4⟩; have C4 := Lib.hid (below_then C3 C3.size c4)))
  clear IP WI c1 BD AR C3 c4
  go_loopw [5] (fun i wr => ∃ (k : Nat), k ≤ 1415 ∧ i = .int .i64 k ∧ Hid (∀ j : Nat, j < k → ehI ls j < n) ∧ Hid (Below w.heap.size w wr)) (fun i _ => 1415 - (intOf i).toNat)
  case atStart => exact ⟨0, by omega, rfl, Lib.hid (fun j hj => absurd hj (by omega)), C4⟩
  case round =>
    obtain ⟨k, hk, rfl, HA, HB⟩ := hrel
    have HK := Lib.hid (show ehI ls 1415 < n → False from fun h => by have := HBIG.out; omega)
    obtain ⟨m1, m2, m3⟩ := eh_prods hB hA (show -10000 ≤ (k : Int) ∧ (k : Int) ≤ 10000 by omega)
    have e1 := wr64 (B * k) (by omega)
    have e2 := wr64 (A * k) (by omega)
    have e3 := wr64 (A * k * k) (by omega)
    have e4 := wr64 (2 + B * k) (by omega)
    have e5 := wr64 (2 + B * k + A * k * k) (by omega)
    have e7 := tdiv2_bd (a := 2 + B * k + A * k * k) (M := 7000000000000) (by omega)
    have e6 : IntKind.i64.wrap ((2 + B * k + A * k * k).tdiv 2) = ehI ls k := by rw [HEQ.out k]; exact wr64 _ (by omega)
    clear e7
    by_cases hlt : ehI ls k < n
    · have hk' : k < 1415 := by
        rcases Nat.lt_or_ge k 1415 with h | h
        · exact h
        · exfalso
          have : k = 1415 := by omega
          rw [this] at hlt
          exact HK.out hlt
      have HA2 := Lib.hid (show ∀ j : Nat, j < k + 1 → ehI ls j < n from fun j hj => by
        rcases Nat.lt_or_ge j k with h | h
        · exact HA.out j h
        · have : j = k := by omega
          rw [this]; exact hlt)
      generalize ehI ls k = q at *
      go_wp2
      go_roundw
      case rel => exact ⟨k + 1, by omega, by go_num, HA2, HB⟩
      case measure => simp [intOf]; omega
    · have HT := Lib.hid (show alT ls n = k from alT_eq (by omega) HA.out (by omega))
      generalize ehI ls k = q at *
      go_wp2
      go_ret
      exact ⟨ret_int (by rw [HR.out, HT.out]), HB.out⟩
end Go.Proofs.Ytcofkjnkdfibfaa
