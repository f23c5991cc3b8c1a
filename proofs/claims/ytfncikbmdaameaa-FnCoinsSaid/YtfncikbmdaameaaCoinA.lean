/- Lists of coins: the walks of AreCoins. -/
import Derived.Test.YtfncikbmdaameaaB1
namespace Go.Proofs.Ytfncikbmdaameaa
open Go.RowKit
set_option linter.unusedVariables false
set_option linter.unusedSimpArgs false

/-- the numbers go up, up to place k -/
def upTo (l : List Int) : Nat → Bool
  | 0 => true
  | k + 1 => upTo l k && (k == 0 || decide (l.getD (k - 1) 0 < l.getD k 0))
def coinsB (l : List Int) : Bool := inB l.length 1 6 && allIn l 1 30 && upTo l l.length
theorem upTo_false {l : List Int} {k : Nat} (h0 : 0 < k) (h : l.getD k 0 ≤ l.getD (k - 1) 0) : ∀ n, k < n → upTo l n = false := by
  intro n hn
  induction n with
  | zero => omega
  | succ n ih =>
    unfold upTo
    by_cases e : k = n
    · subst e
      have : decide (l.getD (k - 1) 0 < l.getD k 0) = false := by rw [decide_eq_false_iff_not]; omega
      have h2 : (k == 0) = false := by rw [beq_eq_false_iff_ne]; omega
      rw [this, h2]; simp
    · rw [ih (by omega)]; rfl
theorem upTo_step {l : List Int} {k : Nat} (h : upTo l k = true) (h2 : k = 0 ∨ l.getD (k - 1) 0 < l.getD k 0) : upTo l (k + 1) = true := by
  unfold upTo; rw [h]
  rcases h2 with h2 | h2
  · simp [h2]
  · rw [decide_eq_true h2]; simp

set_option maxHeartbeats 1000000 in
theorem implAreCoins_any (l : List Int) (v : Value) (hb : Nat) (w : World) (h : ISr w hb v l) :
    Calls Try.prog 57 #[v] w fun e w' => e = .returned (.bool (coinsB l)) ∧ ∃ d, w' = w.drewN d := by
  have HW := fun w' (h' : ISr w' hb v l) => allWithin_any l v 1 30 hb w' h'
  by_cases hin : inB l.length 1 6 = true ∧ allIn l 1 30 = true
  · obtain ⟨i1, i2⟩ := hin
    have hv : coinsB l = upTo l l.length := by simp [coinsB, i1, i2]
    rw [hv]; clear hv
    have hl := (inB_iff.1 i1)
    have HA := HW _ h
    rw [i2] at HA
    rcases h.cases with ⟨rfl, a, cap, rfl⟩ | ⟨hpos, hlen, b, off, cap, rfl, hbb, hcell⟩
    · simp at hl
    · obtain ⟨n, hn⟩ : ∃ n, n = l.length := ⟨_, rfl⟩
      rw [← hn] at hlen hpos i1 hl HA ⊢
      have HN := Lib.hid hn; clear hn
      have HC := Lib.hid hcell; clear hcell h HW i2
      go_enter Try.func57, Try.ntmps57
      go_wp2_with (first | (go_at_call 119; (with_reducible refine (within_any _ _ _ _).mono ?_); rintro e w' ⟨rfl, rfl⟩) | (go_at_call 138; (with_reducible refine HA.mono ?_); rintro e w' ⟨rfl, rfl⟩))
      clear HA
      go_loopw [3] (fun i wr => ∃ (d k : Nat), wr = w.drewN d ∧ 1 ≤ k ∧ k ≤ n ∧ i = .int .i64 k ∧ upTo l k = true) (fun i _ => n - (intOf i).toNat)
      case atStart => exact ⟨0, 1, rfl, by omega, by omega, rfl, rfl⟩
      case round =>
        obtain ⟨d, k, rfl, hk1, hk, rfl, hup⟩ := hrel
        have HU := Lib.hid hup; clear hup
        by_cases hlt : k < n
        · have hc1 := HC.out k (by rw [← HN.out]; exact hlt)
          have hc0 := HC.out (k - 1) (by rw [← HN.out]; omega)
          have e0 : ((k : Int) - 1).toNat = k - 1 := by omega
          by_cases he : l.getD k 0 ≤ l.getD (k - 1) 0
          · have HF := Lib.hid (upTo_false hk1 he n hlt)
            generalize l.getD k 0 = x at *
            generalize l.getD (k - 1) 0 = y at *
            have hxy : decide (x ≤ y) = true := by simpa using he
            go_wp2
            go_quiet (fail)
            go_wp2
            go_ret
            exact ⟨ret_bool HF.out.symm, d + nq, by rw [World.drewN_drewN]⟩
          · have HF := Lib.hid (upTo_step HU.out (.inr (by omega)))
            generalize l.getD k 0 = x at *
            generalize l.getD (k - 1) 0 = y at *
            have hxy : decide (x ≤ y) = false := by simpa using he
            go_wp2
            go_quiet (fail)
            go_wp2
            go_roundw
            case rel => exact ⟨_, k + 1, rfl, by omega, by omega, by go_num, HF.out⟩
            case measure => simp [intOf]; omega
        · obtain rfl : k = n := by omega
          go_wp2
          go_ret
          exact ⟨ret_bool HU.out.symm, _, rfl⟩
  · have hv : coinsB l = false := by
      rcases and2_false hin with i1 | ⟨i1, i2⟩ <;> simp [coinsB, *]
    rw [hv]
    have HA := HW _ h
    obtain ⟨a, cap, rfl, -, -, -⟩ := h
    rcases and2_false hin with i1 | ⟨i1, i2⟩
    · go_enter Try.func57, Try.ntmps57
      go_wp2_with (go_at_call 119; (with_reducible refine (within_any _ _ _ _).mono ?_); rintro e w' ⟨rfl, rfl⟩)
      go_ret
      exact ⟨rfl, 0, rfl⟩
    · rw [i2] at HA
      clear hin hv HW i2
      go_enter Try.func57, Try.ntmps57
      go_wp2_with (first | (go_at_call 119; (with_reducible refine (within_any _ _ _ _).mono ?_); rintro e w' ⟨rfl, rfl⟩) | (go_at_call 138; (with_reducible refine HA.mono ?_); rintro e w' ⟨rfl, rfl⟩))
      go_ret
      exact ⟨rfl, 0, rfl⟩

theorem coins_false1 {l : List Int} {k : Nat} (hk : k < l.length) (hf : inB (l.getD k 0) 1 30 = false) : coinsB l = false := by
  unfold coinsB; rw [allIn_false l 1 30 k hk hf]; simp
theorem coins_false2 {l : List Int} {k : Nat} (hk : k < l.length) (h0 : 0 < k) (h : l.getD k 0 ≤ l.getD (k - 1) 0) : coinsB l = false := by
  unfold coinsB; rw [upTo_false h0 h l.length hk]; simp

set_option maxHeartbeats 1000000 in
theorem specAreCoins_any (l : List Int) (v : Value) (hb : Nat) (w : World) (h : ISr w hb v l) :
    Calls Try.prog 58 #[v] w fun e w' => e = .returned (.bool (coinsB l)) ∧ ∃ d, w' = w.drewN d := by
  rcases h.cases with ⟨rfl, a, cap, rfl⟩ | ⟨hpos, hlen, b, off, cap, rfl, hbb, hcell⟩
  · go_enter Try.func58, Try.ntmps58
    go_wp2
    refine wp_loop_rounds 1 ?_
    rw [rounds_succ]
    go_wp2_with (go_at_call 122; (with_reducible refine (l1In_any _ _ _ _).mono ?_); rintro e w' ⟨rfl, rfl⟩)
    go_ret
    exact ⟨rfl, 0, rfl⟩
  · obtain ⟨n, hn⟩ : ∃ n, n = l.length := ⟨_, rfl⟩
    rw [← hn] at hlen hpos ⊢
    have HN := Lib.hid hn; clear hn
    have HC := Lib.hid hcell; clear hcell h
    go_enter Try.func58, Try.ntmps58
    go_wp2
    go_loopw [3] (fun i wr => ∃ (d k : Nat), wr = w.drewN d ∧ k ≤ n ∧ i = .int .i64 k ∧ upTo l k = true ∧ allIn (l.take k) 1 30 = true) (fun i _ => n - (intOf i).toNat)
    case atStart => exact ⟨0, 0, rfl, by omega, rfl, rfl, rfl⟩
    case round =>
      obtain ⟨d, k, hw, hk, rfl, hup, hall⟩ := hrel
      have HW := Lib.hid hw; clear hw
      have HU := Lib.hid hup; clear hup
      have HA := Lib.hid hall; clear hall
      by_cases hlt : k < n
      · have hkl : k < l.length := by rw [← HN.out]; exact hlt
        have hc1 : wr.cell? ⟨b, off + k, none⟩ = some (.int .i64 (l.getD k 0)) := by rw [HW.out]; exact HC.out k hkl
        have HS := Lib.hid (allIn_step l 1 30 k hkl)
        by_cases hx : inB (l.getD k 0) 1 30 = true
        · have hz : (k = 0 ∧ decide (0 < k) = false) ∨ (1 ≤ k ∧ decide (0 < k) = true) := by
            rcases Nat.eq_zero_or_pos k with h | h
            · exact .inl ⟨h, by simp [h]⟩
            · exact .inr ⟨h, by simpa using h⟩
          rcases hz with ⟨h0, hd⟩ | ⟨h0, hd⟩
          · have HF := Lib.hid (upTo_step HU.out (.inl h0))
            have HB := Lib.hid (show allIn (l.take (k + 1)) 1 30 = true by rw [HS.out, HA.out, hx]; rfl)
            clear h0 hkl
            generalize l.getD k 0 = x at *
            have HX := Lib.hid hx; clear hx
            have hx := HX.out
            have HI := fun w => l1In_any x 1 30 w
            rw [hx] at HI
            go_wp2
            go_quiet ((go_at_call 122; exact quiet_eq (HI _)))
            go_wp2
            go_roundw
            case rel => exact ⟨d + nq, k + 1, by rw [HW.out, World.drewN_drewN], by omega, by go_num, HF.out, HB.out⟩
            case measure => simp [intOf]; omega
          · have hc0 : wr.cell? ⟨b, off + (k - 1), none⟩ = some (.int .i64 (l.getD (k - 1) 0)) := by rw [HW.out]; exact HC.out (k - 1) (by rw [← HN.out]; omega)
            by_cases he : l.getD k 0 ≤ l.getD (k - 1) 0
            · have HF := Lib.hid (coins_false2 hkl h0 he)
              generalize l.getD k 0 = x at *
              generalize l.getD (k - 1) 0 = y at *
              have hxy : decide (x ≤ y) = true := by simpa using he
              clear hkl
              have HI := fun w => l1In_any x 1 30 w
              rw [hx] at HI
              go_wp2
              go_quiet ((go_at_call 122; exact quiet_eq (HI _)))
              go_wp2
              go_ret
              exact ⟨ret_bool HF.out.symm, d + nq, by rw [HW.out, World.drewN_drewN]⟩
            · have HF := Lib.hid (upTo_step HU.out (.inr (by omega)))
              have HB := Lib.hid (show allIn (l.take (k + 1)) 1 30 = true by rw [HS.out, HA.out, hx]; rfl)
              generalize l.getD k 0 = x at *
              generalize l.getD (k - 1) 0 = y at *
              have hxy : decide (x ≤ y) = false := by simpa using he
              clear hkl
              have HI := fun w => l1In_any x 1 30 w
              rw [hx] at HI
              go_wp2
              go_quiet ((go_at_call 122; exact quiet_eq (HI _)))
              go_wp2
              go_roundw
              case rel => exact ⟨d + nq, k + 1, by rw [HW.out, World.drewN_drewN], by omega, by go_num, HF.out, HB.out⟩
              case measure => simp [intOf]; omega
        · have hx : inB (l.getD k 0) 1 30 = false := by simpa using hx
          have HF := Lib.hid (coins_false1 hkl hx)
          generalize l.getD k 0 = x at *
          clear hkl
          have HI := fun w => l1In_any x 1 30 w
          rw [hx] at HI
          go_wp2
          go_quiet ((go_at_call 122; exact quiet_eq (HI _)))
          go_wp2
          go_ret
          exact ⟨ret_bool HF.out.symm, d + nq, by rw [HW.out, World.drewN_drewN]⟩
      · obtain rfl : k = n := by omega
        go_wp2_with (go_at_call 122; (with_reducible refine (l1In_any _ _ _ _).mono ?_); rintro e w' ⟨rfl, rfl⟩)
        go_ret
        refine ⟨ret_bool ?_, _, HW.out⟩
        have e1 := HA.out
        have e2 := HU.out
        rw [HN.out, List.take_length] at e1
        rw [HN.out] at e2
        unfold coinsB
        rw [← HN.out] at e2 ⊢
        rw [e1, e2]; simp
end Go.Proofs.Ytfncikbmdaameaa
