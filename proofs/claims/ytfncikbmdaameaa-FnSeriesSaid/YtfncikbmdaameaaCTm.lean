/- CountTerms: the walks. -/
import Derived.Test.YtfncikbmdaameaaB6
import Derived.Test.YtfncikbmdaameaaB2
namespace Go.Proofs.Ytfncikbmdaameaa
open Go.RowKit
set_option linter.unusedVariables false
set_option linter.unusedSimpArgs false

def cnS (s : Int) : Int := if s = -1 then -1 else 1
def cnK (ts : List TermL) : Nat → Int
  | 0 => 0
  | k + 1 => cnK ts k + cnS (ts.getD k t0).1
def cnT (ts : List TermL) : Int := cnK ts ts.length
theorem cnK_bd (ts : List TermL) : ∀ k : Nat, -(k : Int) ≤ cnK ts k ∧ cnK ts k ≤ k
  | 0 => by simp [cnK]
  | k + 1 => by have := cnK_bd ts k; unfold cnK cnS; split <;> omega

set_option maxRecDepth 100000 in
set_option maxHeartbeats 4000000 in
theorem implCountTerms_any (ts : List TermL) (v : Value) (hb : Nat) (w : World) (h : TSr w hb v ts) (hhb : hb ≤ w.heap.size) :
    Calls Try.prog 20 #[v] w fun e w' => e = .returned (.int .i64 (cnT ts)) ∧ Below w.heap.size w w' := by
  obtain ⟨a, cap, rfl, hcap, hm, hcell⟩ := id h
  unfold maxLen at hm
  obtain ⟨n, hn⟩ : ∃ n, n = ts.length := ⟨_, rfl⟩
  have hn63 : (n : Int) ≤ 9223372036854775807 := by omega
  rw [← hn]
  have HN := Lib.hid hn; clear hn
  have HC := Lib.hid hcell; clear hcell h hm hcap
  go_enter Try.func20, Try.ntmps20
  go_wp2
  go_loopw [3, 10] (fun sv i wr => ∃ (k : Nat) (z : Int), k ≤ n ∧ i = .int .i64 k ∧ sv = .int .i64 z ∧ Hid (z = n - k + cnK ts k) ∧ Hid (Below w.heap.size w wr)) (fun _ i _ => n - (intOf i).toNat)
  case atStart => exact ⟨0, n, by omega, rfl, rfl, Lib.hid (by simp [cnK]), Below.refl _ _⟩
  case round =>
    obtain ⟨k, z, hk, rfl, rfl, hz, hbe⟩ := hrel
    by_cases hlt : k < n
    · have hkl : k < ts.length := by rw [← HN.out]; exact hlt
      obtain ⟨b, off, V2, V3, rfl, hbb, hcc, hrr⟩ := HC.out (by intro e; rw [e] at hkl; exact absurd hkl (Nat.not_lt_zero _))
      obtain ⟨c0, c1, c2⟩ := (hcc.keep hbe.out (Nat.lt_of_lt_of_le hbb hhb)) k hkl
      obtain ⟨hsb, hr2, hr3⟩ := hrr k hkl
      have bd := cnK_bd ts k
      have HS := Lib.hid (show cnK ts (k + 1) = cnK ts k + cnS (ts.getD k t0).1 from rfl)
      have zb : -9223372036854775805 ≤ z + 1 ∧ z ≤ 9223372036854775807 := by rw [hz.out]; omega
      have zb2 : -9223372036854775807 ≤ z - 2 := by rw [hz.out]; omega
      obtain ⟨a2, q2, e2, -⟩ := id hr2
      obtain ⟨a3, q3, e3, -⟩ := id hr3
      rw [e2] at c1
      rw [e3] at c2
      clear hcc hrr hr2 hr3 hkl bd e2 e3
      generalize (ts.getD k t0).1 = s at *
      generalize (ts.getD k t0).2.1.length = m2 at *
      generalize (ts.getD k t0).2.2.length = m3 at *
      have hbz := hbe.out.size
      have HB1 := Lib.hid (below_then hbe.out hbz (below1 wr (.cells #[.int .i64 s, .slice a2 m2 q2, .slice a3 m3 q3] 92)))
      by_cases hs : s = -1
      · subst hs
        have HZ := Lib.hid (show z - 2 = n - ((k + 1 : Nat) : Int) + cnK ts (k + 1) by rw [HS.out, hz.out]; simp [cnS]; omega)
        go_wp2
        go_roundw
        case rel => exact ⟨k + 1, _, by omega, by go_num, rfl, HZ, HB1⟩
        case measure => simp [intOf]; omega
      · have HZ := Lib.hid (show z = n - ((k + 1 : Nat) : Int) + cnK ts (k + 1) by rw [HS.out, hz.out]; simp [cnS, hs]; omega)
        have hne : (s == -1) = false := by simpa using hs
        go_wp2
        go_roundw
        case rel => exact ⟨k + 1, _, by omega, by go_num, rfl, HZ, HB1⟩
        case measure => simp [intOf]; omega
    · obtain rfl : k = n := by omega
      have HR := Lib.hid (show z = cnT ts by rw [hz.out, cnT, ← HN.out]; omega)
      go_wp2
      go_ret
      exact ⟨ret_int HR.out, hbe.out⟩
set_option maxRecDepth 100000 in
set_option maxHeartbeats 4000000 in
theorem specCountTerms_any (ts : List TermL) (v : Value) (hb : Nat) (w : World) (h : TSr w hb v ts) (hhb : hb ≤ w.heap.size) :
    Calls Try.prog 18 #[v] w fun e w' => e = .returned (.int .i64 (cnT ts)) ∧ Below w.heap.size w w' := by
  obtain ⟨a, cap, rfl, hcap, hm, hcell⟩ := id h
  unfold maxLen at hm
  obtain ⟨n, hn⟩ : ∃ n, n = ts.length := ⟨_, rfl⟩
  have hn63 : (n : Int) ≤ 9223372036854775807 := by omega
  rw [← hn]
  have HN := Lib.hid hn; clear hn
  have HC := Lib.hid hcell; clear hcell h hm hcap
  have LB := fun b W => l1Bit_any b W
  go_enter Try.func18, Try.ntmps18
  go_wp2
  go_loopw [3, 4] (fun sv i wr => ∃ (k : Nat) (z : Int), k ≤ n ∧ i = .int .i64 k ∧ sv = .int .i64 z ∧ Hid (z = cnK ts k) ∧ Hid (wr = w)) (fun _ i _ => n - (intOf i).toNat)
  case atStart => exact ⟨0, 0, by omega, rfl, rfl, Lib.hid rfl, Lib.hid rfl⟩
  case round =>
    obtain ⟨k, z, hk, rfl, rfl, hz, HW⟩ := hrel
    by_cases hlt : k < n
    · have hkl : k < ts.length := by rw [← HN.out]; exact hlt
      obtain ⟨b, off, V2, V3, rfl, hbb, hcc, hrr⟩ := HC.out (by intro e; rw [e] at hkl; exact absurd hkl (Nat.not_lt_zero _))
      obtain ⟨c0, c1, c2⟩ := hcc k hkl
      rw [← HW.out] at c0
      have bd := cnK_bd ts k
      have HS := Lib.hid (show cnK ts (k + 1) = cnK ts k + cnS (ts.getD k t0).1 from rfl)
      have zb : -9223372036854775807 ≤ z - 1 ∧ z + 1 ≤ 9223372036854775807 := by rw [hz.out]; omega
      clear hcc hrr hkl bd c1 c2
      generalize (ts.getD k t0).1 = s at *
      by_cases hs : s = -1
      · subst hs
        have HZ := Lib.hid (show z - 1 = cnK ts (k + 1) by rw [HS.out, hz.out]; simp [cnS]; omega)
        have LB1 := fun W => (show Calls Try.prog 112 #[.bool true] W fun e w' => e = .returned (.int .i64 1) ∧ W = w' from LB true W)
        go_wp2_with (go_at_call 112; (with_reducible refine (LB1 _).mono ?_); rintro e w' ⟨rfl, rfl⟩)
        go_roundw
        case rel => exact ⟨k + 1, z - 1, by omega, by go_num, by go_num, HZ, HW⟩
        case measure => simp [intOf]; omega
      · have HZ := Lib.hid (show z + 1 = cnK ts (k + 1) by rw [HS.out, hz.out]; simp [cnS, hs])
        have hne : (s == -1) = false := by simpa using hs
        have LB1 := fun W => (show Calls Try.prog 112 #[.bool false] W fun e w' => e = .returned (.int .i64 0) ∧ W = w' from LB false W)
        go_wp2_with (go_at_call 112; (with_reducible refine (LB1 _).mono ?_); rintro e w' ⟨rfl, rfl⟩)
        go_roundw
        case rel => exact ⟨k + 1, z + 1, by omega, by go_num, by go_num, HZ, HW⟩
        case measure => simp [intOf]; omega
    · obtain rfl : k = n := by omega
      have HR := Lib.hid (show z = cnT ts by rw [hz.out, cnT, ← HN.out])
      go_wp2
      go_ret
      refine ⟨ret_int HR.out, ?_⟩
      rw [HW.out]; exact Below.refl _ _
end Go.Proofs.Ytfncikbmdaameaa
