/- The common divisor of a list: the walks. -/
import Derived.Test.YtchkcjpahlimjaaIS2
import Derived.Test.YtchkcjpahlimjaaFew
namespace Go.Proofs.Ytchkcjpahlimjaa
open Go.RowKit
set_option linter.unusedVariables false
set_option linter.unusedSimpArgs false

theorem gcdI_bd {a b M : Int} (ha : 0 ≤ a) (ha' : a ≤ M) (hb : -M ≤ b) (hb' : b ≤ M) : 0 ≤ gcdI a b ∧ gcdI a b ≤ M := by
  refine ⟨gcdI_nonneg _ _, ?_⟩
  by_cases h : b = 0
  · subst h; rw [gcdI_zero]; omega
  · unfold gcdI
    have := Nat.le_of_dvd (show 0 < b.natAbs by omega) (Nat.gcd_dvd_right a.natAbs b.natAbs)
    have e : Int.gcd a b = Nat.gcd a.natAbs b.natAbs := rfl
    rw [e]; omega
theorem fold_takeI (f : Int → Int → Int) (a : Int) (l : List Int) (k : Nat) (h : k < l.length) : (l.take (k + 1)).foldl f a = f ((l.take k).foldl f a) (l.getD k 0) := by
  rw [List.take_succ_eq_append_getElem h, List.foldl_append, List.getD_eq_getElem?_getD, List.getElem?_eq_getElem h]; rfl

set_option maxHeartbeats 1000000 in
theorem gcdAll_any (l : List Int) (v : Value) (hb : Nat) (w : World) (h : ISr w hb v l) (M : Int) (hM : M ≤ 9223372036854775807) (hl : ∀ k, k < l.length → -M ≤ l.getD k 0 ∧ l.getD k 0 ≤ M) :
    Calls Try.prog 98 #[v] w fun e w' => e = .returned (.int .i64 (gcdL l)) ∧ ∃ d, w' = w.drewN d := by
  rcases h.cases with ⟨rfl, a, cap, rfl⟩ | ⟨hpos, hlen, b, off, cap, rfl, hbb, hcell⟩
  · clear hl
    go_enter Try.func98, Try.ntmps98
    go_wp2
    refine wp_loop_rounds 1 ?_
    rw [rounds_succ]
    go_wp2
    go_ret
    exact ⟨rfl, 0, rfl⟩
  · have h0 := hl 0 hpos
    clear h
    have HC := Lib.hid hcell; clear hcell
    have HB := Lib.hid hl; clear hl
    obtain ⟨n, hn⟩ : ∃ n, n = l.length := ⟨_, rfl⟩
    rw [← hn] at hpos hlen ⊢
    have HN := Lib.hid hn; clear hn
    go_enter Try.func98, Try.ntmps98
    go_wp2
    go_loopw [3, 5, 8] (fun g _ i wr => ∃ (d k : Nat) (G : Int), wr = w.drewN d ∧ k ≤ n ∧ i = .int .i64 k ∧ g = .int .i64 G ∧ 0 ≤ G ∧ G ≤ M ∧ Hid (G = (l.take k).foldl gcdI 0)) (fun _ _ i _ => n - (intOf i).toNat)
    case atStart => exact ⟨0, 0, 0, rfl, by omega, rfl, rfl, by omega, by omega, rfl⟩
    case round =>
      obtain ⟨d, k, G, rfl, hk, rfl, rfl, hg1, hg2, hg⟩ := hrel
      by_cases hlt : k < n
      · have hkl : k < l.length := by rw [← HN.out]; exact hlt
        have hck := HC.out k hkl
        have hxb := HB.out k hkl
        have hst := Lib.hid (fold_takeI gcdI 0 l k hkl)
        rw [← hg.out] at hst
        clear hkl
        generalize l.getD k 0 = x at *
        have hbd := gcdI_bd hg1 hg2 hxb.1 hxb.2
        go_wp2_with (go_at_call 115; (with_reducible refine (divisor_any _ _ _ (by omega) (by omega) (by omega) (by omega)).mono ?_); rintro e w' ⟨rfl, d2, rfl⟩)
        go_roundw
        case rel => exact ⟨d + d2, k + 1, _, rfl, by omega, by go_num, rfl, hbd.1, hbd.2, hst.out.symm⟩
        case measure => simp [intOf]; omega
      · have hfin : G = gcdL l := by
          have := hg.out
          rw [show k = l.length from by rw [← HN.out]; omega, List.take_length] at this
          exact this
        have HF := Lib.hid hfin; clear hfin
        go_wp2
        go_ret
        exact ⟨ret_int HF.out, _, rfl⟩

set_option maxHeartbeats 1000000 in
theorem l2All_any (l : List Int) (v : Value) (hb : Nat) (w : World) (h : ISr w hb v l) (M : Int) (hM : M ≤ 9223372036854775807) (hl : ∀ k, k < l.length → -M ≤ l.getD k 0 ∧ l.getD k 0 ≤ M) :
    Calls Try.prog 114 #[v] w fun e w' => e = .returned (.int .i64 (gcdL l)) ∧ w = w' := by
  rcases h.cases with ⟨rfl, a, cap, rfl⟩ | ⟨hpos, hlen, b, off, cap, rfl, hbb, hcell⟩
  · clear hl
    go_enter Try.func114, Try.ntmps114
    go_wp2
    refine wp_loop_rounds 1 ?_
    rw [rounds_succ]
    go_wp2
    go_ret
    exact ⟨rfl, rfl⟩
  · have h0 := hl 0 hpos
    clear h
    have HC := Lib.hid hcell; clear hcell
    have HB := Lib.hid hl; clear hl
    obtain ⟨n, hn⟩ : ∃ n, n = l.length := ⟨_, rfl⟩
    rw [← hn] at hpos hlen ⊢
    have HN := Lib.hid hn; clear hn
    go_enter Try.func114, Try.ntmps114
    go_wp2
    go_loop [3, 4] (fun g i => ∃ (k : Nat) (G : Int), k ≤ n ∧ i = .int .i64 k ∧ g = .int .i64 G ∧ 0 ≤ G ∧ G ≤ M ∧ Hid (G = (l.take k).foldl gcdI 0)) (fun _ i => n - (intOf i).toNat)
    case atStart => exact ⟨0, 0, by omega, rfl, rfl, by omega, by omega, rfl⟩
    case round =>
      obtain ⟨k, G, hk, rfl, rfl, hg1, hg2, hg⟩ := hrel
      by_cases hlt : k < n
      · have hkl : k < l.length := by rw [← HN.out]; exact hlt
        have hck := HC.out k hkl
        have hxb := HB.out k hkl
        have hst := Lib.hid (fold_takeI gcdI 0 l k hkl)
        rw [← hg.out] at hst
        clear hkl
        generalize l.getD k 0 = x at *
        have hbd := gcdI_bd hg1 hg2 hxb.1 hxb.2
        go_wp2_with (go_at_call 119; (with_reducible refine (l2Gcd_any _ _ _ (by omega) (by omega) (by omega) (by omega)).mono ?_); rintro e w' ⟨rfl, rfl⟩)
        go_round
        case rel => exact ⟨k + 1, _, by omega, by go_num, rfl, hbd.1, hbd.2, hst.out.symm⟩
        case measure => simp [intOf]; omega
      · have hfin : G = gcdL l := by
          have := hg.out
          rw [show k = l.length from by rw [← HN.out]; omega, List.take_length] at this
          exact this
        have HF := Lib.hid hfin; clear hfin
        go_wp2
        go_ret
        exact ⟨ret_int HF.out, rfl⟩
end Go.Proofs.Ytchkcjpahlimjaa
