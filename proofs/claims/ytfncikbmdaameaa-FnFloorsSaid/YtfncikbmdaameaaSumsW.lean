/- Sums of quotients: the walks. -/
import Derived.Test.YtfncikbmdaameaaSums
import Derived.Test.YtfncikbmdaameaaB1
import Derived.Deep.QuietTactic
import Derived.BigQuiet
namespace Go.Proofs.Ytfncikbmdaameaa
open Go.RowKit
set_option linter.unusedVariables false
set_option linter.unusedSimpArgs false

theorem quo_wrapS {b g : Int} (hb : 0 ≤ b) (hb' : b ≤ 9223372036854775807) (hg : 1 ≤ g) : IntKind.i64.wrap (b.tdiv g) = b / g := IntWalk.i64_quo b g ⟨hb, hb', hg⟩

/-- what one round of the sum needs to know -/
theorem round_bd {M A B S T : Int} {N : Nat} (hM : 1 ≤ M) (hM' : M ≤ 100000) (hA : 0 ≤ A) (hA' : A ≤ 100000) (hB : 0 ≤ B) (hB' : B ≤ 100000) (hN : 1 ≤ N) (hN' : N ≤ 100001) (hS : 0 ≤ S)
    (hT : S + fs M A B N = T) (hT' : T ≤ 1000000000000000000) :
    0 ≤ ((N : Int) - 1) * N ∧ ((N : Int) - 1) * N ≤ 10000100001 ∧ 0 ≤ A / M ∧ A / M ≤ 100000 ∧ 0 ≤ B / M ∧ B / M ≤ 100000 ∧ 0 ≤ ((N : Int) - 1) * N / 2 * (A / M) ∧ ((N : Int) - 1) * N / 2 * (A / M) ≤ T ∧
    0 ≤ (N : Int) * (B / M) ∧ (N : Int) * (B / M) ≤ T ∧ S + ((N : Int) - 1) * N / 2 * (A / M) ≤ T ∧ S + ((N : Int) - 1) * N / 2 * (A / M) + (N : Int) * (B / M) ≤ T ∧
    0 ≤ A % M ∧ A % M < M ∧ 0 ≤ B % M ∧ B % M < M ∧ 0 ≤ A % M * (N : Int) ∧ A % M * (N : Int) ≤ 10000100000 ∧ (A % M * N + B % M) / M ≤ N ∧ 0 ≤ (A % M * N + B % M) / M ∧ 0 ≤ (A % M * N + B % M) % M ∧ (A % M * N + B % M) % M < M := by
  have hs := fs_split M A B hM N
  have a1 := Int.emod_nonneg A (show M ≠ 0 by omega)
  have a2 := Int.emod_lt_of_pos A (show 0 < M by omega)
  have b1 := Int.emod_nonneg B (show M ≠ 0 by omega)
  have b2 := Int.emod_lt_of_pos B (show 0 < M by omega)
  have hf := fs_nonneg hM a1 b1 N
  have qa := Int.ediv_nonneg hA (show 0 ≤ M by omega)
  have qa' := Int.ediv_le_self M hA
  have qb := Int.ediv_nonneg hB (show 0 ≤ M by omega)
  have qb' := Int.ediv_le_self M hB
  have t1 := Int.mul_nonneg (tri_nonneg N) qa
  have t2 := Int.mul_nonneg (show (0 : Int) ≤ N by omega) qb
  have n1 : 0 ≤ ((N : Int) - 1) * N := Int.mul_nonneg (by omega) (by omega)
  have n2 : ((N : Int) - 1) * N ≤ 100000 * 100001 := Int.mul_le_mul (by omega) (by omega) (by omega) (by omega)
  have m1 : 0 ≤ A % M * (N : Int) := Int.mul_nonneg a1 (by omega)
  have m2 : A % M * (N : Int) ≤ 100000 * 100001 := Int.mul_le_mul (by omega) (by omega) (by omega) (by omega)
  have m3 : A % M * (N : Int) ≤ (M - 1) * N := Int.mul_le_mul_of_nonneg_right (by omega) (by omega)
  have e3 : (M - 1) * (N : Int) = M * N - N := by rw [Int.sub_mul, Int.one_mul]
  have l1 : (A % M * N + B % M) / M ≤ N := by
    refine Int.lt_add_one_iff.1 ?_
    refine Int.ediv_lt_of_lt_mul (by omega) ?_
    rw [Int.add_mul, Int.one_mul, Int.mul_comm (N : Int) M]; omega
  have l2 : 0 ≤ (A % M * N + B % M) / M := Int.ediv_nonneg (by omega) (by omega)
  have l3 := Int.emod_nonneg (A % M * N + B % M) (show M ≠ 0 by omega)
  have l4 := Int.emod_lt_of_pos (A % M * N + B % M) (show 0 < M by omega)
  unfold tri at *
  refine ⟨n1, by omega, qa, by omega, qb, by omega, t1, by omega, t2, by omega, by omega, by omega, a1, a2, b1, b2, m1, by omega, l1, l2, l3, l4⟩

set_option maxHeartbeats 1000000 in
theorem l16Sum_any (n : Nat) (m a b : Int) (w : World) (hn : n ≤ 100001) (hm : 1 ≤ m) (hm' : m ≤ 100000) (ha : 0 ≤ a) (ha' : a ≤ 100000) (hb : 0 ≤ b) (hb' : b ≤ 100000) :
    Calls Try.prog 129 #[.int .i64 n, .int .i64 m, .int .i64 a, .int .i64 b] w fun e w' => e = .returned (.int .i64 (fs m a b n)) ∧ ∃ d, w' = w.drewN d := by
  have hT' : fs m a b n ≤ 1000000000000000000 := by
    have h1 := fs_le hm ha hb n n (Nat.le_refl _)
    have h2 : a * (n : Int) ≤ 100000 * 100001 := Int.mul_le_mul (by omega) (by omega) (by omega) (by omega)
    have h0 : 0 ≤ a * (n : Int) := Int.mul_nonneg ha (by omega)
    have h3 : (n : Int) * (a * n + b) ≤ 100001 * 10000200000 := Int.mul_le_mul (by omega) (by omega) (by omega) (by omega)
    omega
  generalize hT : fs m a b n = T at *
  have HT := Lib.hid hT; clear hT
  go_enter Try.func129, Try.ntmps129
  go_wp2
  go_loopw [0, 1, 2, 3, 9, 10, 11] (fun sn sm sa sb ss _ _ wr => ∃ (d N : Nat) (M A B S : Int), wr = w.drewN d ∧ sn = .int .i64 N ∧ sm = .int .i64 M ∧ sa = .int .i64 A ∧ sb = .int .i64 B ∧ ss = .int .i64 S ∧
      N ≤ 100001 ∧ 1 ≤ M ∧ M ≤ 100000 ∧ 0 ≤ A ∧ A ≤ 100000 ∧ 0 ≤ B ∧ B ≤ 100000 ∧ 0 ≤ S ∧ S + fs M A B N = T)
    (fun _ sm _ _ _ _ _ _ => (intOf sm).toNat)
  case atStart => exact ⟨0, n, m, a, b, 0, rfl, rfl, rfl, rfl, rfl, rfl, hn, hm, hm', ha, ha', hb, hb', by omega, by rw [HT.out]; omega⟩
  case round =>
    obtain ⟨d, N, M, A, B, S, rfl, rfl, rfl, rfl, rfl, rfl, h1, h2, h3, h4, h5, h6, h7, h8, hg⟩ := hrel
    by_cases hN : N = 0
    · subst hN
      have hg' : S = T := by rw [← hg]; simp [fs]
      have HG := Lib.hid hg'; clear hg hg'
      go_wp2
      go_ret
      exact ⟨ret_int HG.out, _, rfl⟩
    · have bd := round_bd h2 h3 h4 h5 h6 h7 (by omega) h1 h8 hg hT'
      obtain ⟨c1, c2, c3, c4, c5, c6, c7, c8, c9, c10, c11, c12, c13, c14, c15, c16, c17, c18, c19, c20, c21, c22⟩ := bd
      have HG := Lib.hid hg; clear hg
      have w1 := wr64 ((N : Int) - 1) (by omega)
      have w2 := wr64 (((N : Int) - 1) * N) (by omega)
      have w3 := quo_wrapS (b := ((N : Int) - 1) * N) (g := 2) c1 (by omega) (by omega)
      have w4 := quo_wrapS (b := A) (g := M) h4 (by omega) h2
      have w5 := wr64 (((N : Int) - 1) * N / 2 * (A / M)) (by omega)
      have w6 := wr64 (S + ((N : Int) - 1) * N / 2 * (A / M)) (by omega)
      have w7 := quo_wrapS (b := B) (g := M) h6 (by omega) h2
      have w8 := wr64 ((N : Int) * (B / M)) (by omega)
      have w9 := wr64 (S + ((N : Int) - 1) * N / 2 * (A / M) + (N : Int) * (B / M)) (by omega)
      go_wp2
      go_quiet (fail)
      clear w1 w2 w3 w4 w5 w6 w7 w8 w9
      have hM : (M == 0) = false := by rw [beq_eq_false_iff_ne]; omega
      have hsp := Lib.hid (fs_split M A B h2 N)
      by_cases hA0 : A % M = 0
      · have hA0' : (A % M == 0) = true := by rw [beq_iff_eq]; exact hA0
        have HA := Lib.hid hA0; clear hA0
        go_wp2
        go_ret
        refine ⟨ret_int ?_, _, rfl⟩
        have e1 := HG.out
        rw [hsp.out, HA.out, fs_zero M _ c15 c16] at e1
        unfold tri at e1; omega
      · have hA0' : (A % M == 0) = false := by rw [beq_eq_false_iff_ne]; exact hA0
        have hmir := Lib.hid (fs_mirror M (A % M) (B % M) (by omega) c14 c15 c16 N)
        clear hA0
        go_wp2
        go_roundw
        case rel =>
          refine ⟨_, ((A % M * N + B % M) / M).toNat, _, _, _, _, rfl, ?_, rfl, rfl, rfl, rfl, by omega, ?_, by omega, by omega, by omega, c21, by omega, by omega, ?_⟩
          · rw [Int.toNat_of_nonneg c20]
          · have := beq_eq_false_iff_ne.1 hA0'; omega
          · rw [← hmir.out]
            have e1 := HG.out
            rw [hsp.out] at e1
            unfold tri at e1; omega
        case measure => simp [intOf]; omega

def floorS (n m a b : Int) : Int := if inB n 0 100000 && inB m 1 100000 && inB a (-100000) 100000 && inB b (-100000) 100000 then fs m a b n.toNat else 0

theorem term_bd {m a b : Int} {i : Nat} (hm : 1 ≤ m) (ha : -100000 ≤ a) (ha' : a ≤ 100000) (hb : -100000 ≤ b) (hb' : b ≤ 100000) (hi : i ≤ 100000) :
    -10000000000 ≤ a * i ∧ a * i ≤ 10000000000 ∧ -10000100000 ≤ a * i + b ∧ a * i + b ≤ 10000100000 ∧ -10000100000 ≤ (a * i + b) / m ∧ (a * i + b) / m ≤ 10000100000 := by
  have h1 : a * i ≤ 100000 * i := Int.mul_le_mul_of_nonneg_right ha' (by omega)
  have h2 : -100000 * i ≤ a * i := Int.mul_le_mul_of_nonneg_right ha (by omega)
  have h3 : (a * i + b) / m ≤ 10000100000 := by
    rcases Int.lt_or_le (a * i + b) 0 with h | h
    · have := Int.ediv_neg_of_neg_of_pos h (show 0 < m by omega); omega
    · have := Int.ediv_le_self m h; omega
  have h4 : -10000100000 ≤ (a * i + b) / m := by
    rw [Int.le_ediv_iff_mul_le (by omega)]
    have : 10000100000 * 1 ≤ 10000100000 * m := Int.mul_le_mul_of_nonneg_left hm (by omega)
    have e : -10000100000 * m = -(10000100000 * m) := Int.neg_mul _ _
    omega
  exact ⟨by omega, by omega, by omega, by omega, h4, h3⟩

theorem fs_bd {m a b : Int} (hm : 1 ≤ m) (ha : -100000 ≤ a) (ha' : a ≤ 100000) (hb : -100000 ≤ b) (hb' : b ≤ 100000) : ∀ n : Nat, n ≤ 100000 → -(10000100000 * n) ≤ fs m a b n ∧ fs m a b n ≤ 10000100000 * (n : Int)
  | 0, _ => by simp [fs]
  | n + 1, h => by
    have h1 := fs_bd hm ha ha' hb hb' n (by omega)
    have h2 := term_bd (i := n) hm ha ha' hb hb' (by omega)
    unfold fs; omega

set_option maxHeartbeats 1000000 in
theorem implFloorSum_any (n m a b : Int) (w : World) :
    Calls Try.prog 35 #[.int .i64 n, .int .i64 m, .int .i64 a, .int .i64 b] w fun e w' => e = .returned (.int .i64 (floorS n m a b)) ∧ w = w' := by
  by_cases hin : inB n 0 100000 = true ∧ inB m 1 100000 = true ∧ inB a (-100000) 100000 = true ∧ inB b (-100000) 100000 = true
  · obtain ⟨i1, i2, i3, i4⟩ := hin
    obtain ⟨h1, h1'⟩ := inB_iff.1 i1
    obtain ⟨h2, h2'⟩ := inB_iff.1 i2
    obtain ⟨h3, h3'⟩ := inB_iff.1 i3
    obtain ⟨h4, h4'⟩ := inB_iff.1 i4
    obtain ⟨N, rfl⟩ : ∃ N : Nat, n = N := ⟨n.toNat, by omega⟩
    have hv : floorS N m a b = fs m a b N := by simp [floorS, i1, i2, i3, i4]
    rw [hv]; clear hv
    go_enter Try.func35, Try.ntmps35
    go_wp2_with (go_at_call 119; (with_reducible refine (within_any _ _ _ _).mono ?_); rintro e w' ⟨rfl, rfl⟩)
    go_loop [9, 10] (fun s i => ∃ k : Nat, k ≤ N ∧ i = .int .i64 k ∧ s = .int .i64 (fs m a b k)) (fun _ i => N - (intOf i).toNat)
    case atStart => exact ⟨0, by omega, rfl, rfl⟩
    case round =>
      obtain ⟨k, hk, rfl, rfl⟩ := hrel
      have hf := fs_bd h2 h3 h3' h4 h4' k (by omega)
      have ht := term_bd (i := k) h2 h3 h3' h4 h4' (by omega)
      by_cases hlt : k < N
      · go_wp2_with (go_at_call 120; (with_reducible refine (down_any _ _ _ (by omega) (by omega) (by omega) (by omega)).mono ?_); rintro e w' ⟨rfl, rfl⟩)
        go_round
        case rel => exact ⟨k + 1, by omega, by go_num, rfl⟩
        case measure => simp [intOf]; omega
      · obtain rfl : k = N := by omega
        go_wp2
        go_ret
        exact ⟨rfl, rfl⟩
  · have hv : floorS n m a b = 0 := by
      unfold floorS
      rw [if_neg]
      simpa [Bool.and_eq_true, and_assoc] using hin
    rw [hv]; clear hv
    rcases and4_false hin with i1 | ⟨i1, i2⟩ | ⟨i1, i2, i3⟩ | ⟨i1, i2, i3, i4⟩
    all_goals
      clear hin
      go_enter Try.func35, Try.ntmps35
      go_wp2_with (go_at_call 119; (with_reducible refine (within_any _ _ _ _).mono ?_); rintro e w' ⟨rfl, rfl⟩)
      go_ret
      exact ⟨rfl, rfl⟩

theorem emod_sub (a m : Int) : a - a / m * m = a % m := by
  have := Int.mul_ediv_add_emod a m; rw [Int.mul_comm]; omega

set_option maxHeartbeats 1000000 in
theorem specFloorSum_any (n m a b : Int) (w : World) :
    Calls Try.prog 40 #[.int .i64 n, .int .i64 m, .int .i64 a, .int .i64 b] w fun e w' => e = .returned (.int .i64 (floorS n m a b)) ∧ ∃ d, w' = w.drewN d := by
  by_cases hin : inB n 0 100000 = true ∧ inB m 1 100000 = true ∧ inB a (-100000) 100000 = true ∧ inB b (-100000) 100000 = true
  · obtain ⟨i1, i2, i3, i4⟩ := hin
    obtain ⟨h1, h1'⟩ := inB_iff.1 i1
    obtain ⟨h2, h2'⟩ := inB_iff.1 i2
    obtain ⟨h3, h3'⟩ := inB_iff.1 i3
    obtain ⟨h4, h4'⟩ := inB_iff.1 i4
    obtain ⟨N, rfl⟩ : ∃ N : Nat, n = N := ⟨n.toNat, by omega⟩
    have hv : floorS N m a b = fs m a b N := by simp [floorS, i1, i2, i3, i4]
    have hsp := fs_split m a b h2 N
    rw [hv, hsp]; clear hv hsp
    have a1 := Int.emod_nonneg a (show m ≠ 0 by omega)
    have a2 := Int.emod_lt_of_pos a (show 0 < m by omega)
    have b1 := Int.emod_nonneg b (show m ≠ 0 by omega)
    have b2 := Int.emod_lt_of_pos b (show 0 < m by omega)
    have hf := fs_bd h2 (by omega) (by omega) (by omega) (by omega) N (by omega) (a := a % m) (b := b % m)
    have da := term_bd (i := 0) (a := 0) h2 (by omega) (by omega) h3 h3' (by omega)
    have db := term_bd (i := 0) (a := 0) h2 (by omega) (by omega) h4 h4' (by omega)
    have q1 := div_bd2 100000 h3 h3' h2
    have q2 := div_bd2 100000 h4 h4' h2
    have p1 := mul_bd2 (a := a / m) (b := m) (M := 100000) (N := 100000) (by omega) (by omega) (by omega) (by omega) (by omega)
    have p2 := mul_bd2 (a := b / m) (b := m) (M := 100000) (N := 100000) (by omega) (by omega) (by omega) (by omega) (by omega)
    have s1 := emod_sub a m
    have s2 := emod_sub b m
    have n1 : 0 ≤ ((N : Int) - 1) * N := by
      rcases Nat.eq_zero_or_pos N with h | h
      · subst h; simp
      · exact Int.mul_nonneg (by omega) (by omega)
    have n2 : ((N : Int) - 1) * N ≤ 100000 * 100000 := by
      have := Int.mul_le_mul_of_nonneg_right (show (N : Int) - 1 ≤ N by omega) (show (0 : Int) ≤ N by omega)
      have := Int.mul_le_mul (show (N : Int) ≤ 100000 by omega) (show (N : Int) ≤ 100000 by omega) (by omega) (by omega)
      omega
    have p3 := mul_bd2 (a := a / m) (b := ((N : Int) - 1) * N / 2) (M := 100000) (N := 5000000000) (by omega) (by omega) (by omega) (by omega) (by omega)
    have p4 := mul_bd2 (a := b / m) (b := N) (M := 100000) (N := 100000) (by omega) (by omega) (by omega) (by omega) (by omega)
    rw [Int.mul_comm (a / m)] at p3
    rw [Int.mul_comm (b / m)] at p4
    unfold tri
    generalize hF : fs m (a % m) (b % m) N = FF at *
    have HL := fun w => l16Sum_any N m (a % m) (b % m) w (by omega) h2 h2' a1 (by omega) b1 (by omega)
    rw [hF] at HL
    clear hF
    go_enter Try.func40, Try.ntmps40
    go_wp2_with (first | (go_at_call 122; (with_reducible refine (l1In_any _ _ _ _).mono ?_); rintro e w' ⟨rfl, rfl⟩) | (go_at_call 123; (with_reducible refine (l3Floor_any _ _ _ (by omega) (by omega) (by omega) (by omega)).mono ?_); rintro e w' ⟨rfl, rfl⟩) | (go_at_call 129; (with_reducible refine (HL _).mono ?_); rintro e w' ⟨rfl, d1, rfl⟩))
    go_ret
    exact ⟨ret_int (by omega), _, rfl⟩
  · have hv : floorS n m a b = 0 := by
      unfold floorS
      rw [if_neg]
      simpa [Bool.and_eq_true, and_assoc] using hin
    rw [hv]; clear hv
    rcases and4_false hin with i1 | ⟨i1, i2⟩ | ⟨i1, i2, i3⟩ | ⟨i1, i2, i3, i4⟩
    all_goals
      clear hin
      go_enter Try.func40, Try.ntmps40
      go_wp2_with (go_at_call 122; (with_reducible refine (l1In_any _ _ _ _).mono ?_); rintro e w' ⟨rfl, rfl⟩)
      go_ret
      exact ⟨rfl, 0, rfl⟩

end Go.Proofs.Ytfncikbmdaameaa
