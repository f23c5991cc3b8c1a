/- Matrices: IsMatrix, DetOf, IsUnimodular: the walks. -/
import Derived.Test.YtehhoplenloocaaTetS
import Derived.Test.YtehhoplenloocaaB4
import Derived.Test.YtehhoplenloocaaB2
namespace Go.Proofs.Ytehhoplenloocaa
open Go.RowKit
set_option linter.unusedVariables false
set_option linter.unusedSimpArgs false

def matRow (n : Nat) (r : List Int) : Bool := decide (r.length = n) && allIn r (-100) 100
def matK (m : List (List Int)) (k : Nat) : Bool := (List.range k).all fun j => matRow m.length (m.getD j [])
def matB (m : List (List Int)) : Bool := inB m.length 1 3 && matK m m.length
theorem matK_step (m : List (List Int)) (k : Nat) : matK m (k + 1) = (matK m k && matRow m.length (m.getD k [])) := by
  unfold matK; rw [List.range_succ, List.all_append]; simp
theorem matK_no {m : List (List Int)} {k : Nat} (hk : k < m.length) (h : matRow m.length (m.getD k []) = false) : matB m = false := by
  have : matK m m.length = false := by unfold matK; rw [List.all_eq_false]; exact ⟨k, List.mem_range.2 hk, by rw [h]; decide⟩
  unfold matB; rw [this]; simp
theorem matB_yes {m : List (List Int)} (h : matK m m.length = true) : matB m = inB m.length 1 3 := by unfold matB; rw [h]; simp
theorem matB_len {m : List (List Int)} (h : matB m = true) : 1 ≤ m.length ∧ m.length ≤ 3 := by
  unfold matB at h; simp only [Bool.and_eq_true, inB_iff] at h; omega
theorem matB_row {m : List (List Int)} (h : matB m = true) {k : Nat} (hk : k < m.length) : (m.getD k []).length = m.length ∧ allIn (m.getD k []) (-100) 100 = true := by
  unfold matB at h; simp only [Bool.and_eq_true] at h
  have := List.all_eq_true.1 h.2 k (List.mem_range.2 hk)
  unfold matRow at this; simp only [Bool.and_eq_true, decide_eq_true_eq] at this
  exact this
theorem allIn_up {l : List Int} {a b c d : Int} (h : allIn l a b = true) (h1 : c ≤ a) (h2 : b ≤ d) : allIn l c d = true := by
  unfold allIn at *
  rw [List.all_eq_true] at *
  intro x hx
  have := inB_iff.1 (h x hx)
  exact inB_iff.2 ⟨by omega, by omega⟩
theorem matB_sq {m : List (List Int)} (h : matB m = true) : SqB m.length m := ⟨rfl, fun i hi => ⟨(matB_row h hi).1, allIn_up (matB_row h hi).2 (by omega) (by omega)⟩⟩
/-- the determinant -/
def detM (m : List (List Int)) : Int := detF m.length m
def detO (m : List (List Int)) : Int := if matB m then detM m else 0
theorem detO_no {m : List (List Int)} (h : matB m = false) : detO m = 0 := by unfold detO; rw [h]; rfl
theorem detO_yes {m : List (List Int)} (h : matB m = true) : detO m = detM m := by unfold detO; rw [h]; rfl
theorem detM_bd {m : List (List Int)} (h : matB m = true) : -6000000000000000 ≤ detM m ∧ detM m ≤ 6000000000000000 := by
  have h1 := detF_bd _ _ (matB_sq h)
  have h2 := matB_len h
  unfold detM
  have h3 : detB m.length ≤ 6000000000000000 := by
    rcases (show m.length = 1 ∨ m.length = 2 ∨ m.length = 3 by omega) with e | e | e <;> rw [e] <;> decide
  omega
theorem detO_bd (m : List (List Int)) : -6000000000000000 ≤ detO m ∧ detO m ≤ 6000000000000000 := by
  cases h : matB m
  · rw [detO_no h]; omega
  · rw [detO_yes h]; exact detM_bd h
def uniB (m : List (List Int)) : Bool := decide (max (detO m) (-(detO m)) = 1)

set_option maxRecDepth 100000 in
set_option maxHeartbeats 4000000 in
theorem implIsMatrix_any (ls : List (List Int)) (v : Value) (hb : Nat) (w : World) (h : ISSr w hb v ls) :
    Calls Try.prog 154 #[v] w fun e w' => e = .returned (.bool (matB ls)) ∧ w = w' := by
  have hw := fun W => within_any ls.length 1 3 W
  rcases h.cases with ⟨rfl, a, cap, rfl⟩ | ⟨hpos, hlen, b, off, cap, V, rfl, hbb, hcell⟩
  · have hw := fun W => within_any 0 1 3 W
    have hm : inB 0 1 3 = false := by decide
    simp only [hm] at hw
    have hr : matB [] = false := by decide
    rw [hr]
    go_enter Try.func154, Try.ntmps154
    go_wp2_with (go_at_call 65; (with_reducible refine (hw _).mono ?_); rintro e w' ⟨rfl, rfl⟩)
    go_ret
    exact ⟨rfl, rfl⟩
  cases hi : inB ls.length 1 3
  case false =>
    have hr : matB ls = false := by unfold matB; rw [hi]; rfl
    rw [hr]
    rw [hi] at hw
    clear hcell h hr hi
    generalize ls.length = n at *
    go_enter Try.func154, Try.ntmps154
    go_wp2_with (go_at_call 65; (with_reducible refine (hw _).mono ?_); rintro e w' ⟨rfl, rfl⟩)
    go_ret
    exact ⟨rfl, rfl⟩
  rw [hi] at hw
  have HI := Lib.hid hi
  have HNO := Lib.hid (fun k (hk : k < ls.length) h => matK_no hk h)
  have HYES := Lib.hid (fun h => matB_yes (m := ls) h)
  have HST := Lib.hid (matK_step ls)
  have HMR := Lib.hid (fun r => show matRow ls.length r = (decide (r.length = ls.length) && allIn r (-100) 100) from rfl)
  obtain ⟨n, hn⟩ : ∃ n, n = ls.length := ⟨_, rfl⟩
  rw [← hn] at hlen hpos hw HI HNO HYES HMR HST ⊢
  have HN := Lib.hid hn
  have HC := Lib.hid hcell
  clear hn hcell h hi
  go_enter Try.func154, Try.ntmps154
  go_wp2_with (go_at_call 65; (with_reducible refine (hw _).mono ?_); rintro e w' ⟨rfl, rfl⟩)
  go_loop [4, 11] (fun _ i => ∃ k : Nat, k ≤ n ∧ i = .int .i64 k ∧ Hid (matK ls k = true)) (fun _ i => n - (intOf i).toNat)
  case atStart => exact ⟨0, by omega, rfl, Lib.hid rfl⟩
  case round =>
    obtain ⟨k, hk, rfl, HALL⟩ := hrel
    by_cases hlt : k < n
    · have hkl : k < ls.length := by rw [← HN.out]; exact hlt
      obtain ⟨hc, hrow⟩ := HC.out k hkl
      have Q := allWithin_any (ls.getD k []) (V k) (-100) 100 hb w hrow
      obtain ⟨a1, cp, hxk, -⟩ := id hrow
      rw [hxk] at hc Q
      have HS := Lib.hid (HST.out k)
      have HNK := Lib.hid (HNO.out k hlt)
      have HM := Lib.hid (HMR.out (ls.getD k []))
      clear hrow hkl hxk
      generalize ls.getD k [] = row at *
      by_cases h2 : row.length = n
      · rw [h2] at hc Q
        have hne : ((n : Int) != (n : Int)) = false := by simp
        cases hs : allIn row (-100) 100
        · rw [hs] at Q
          have HR := Lib.hid (HNK.out (by rw [HM.out, hs]; simp))
          clear hs h2
          go_wp2_with (go_at_call 147; (with_reducible refine Q.mono ?_); rintro e w' ⟨rfl, rfl⟩)
          go_ret
          exact ⟨ret_bool HR.out.symm, rfl⟩
        · rw [hs] at Q
          have HK := Lib.hid (show matK ls (k + 1) = true by rw [HS.out, HALL.out, HM.out, hs, decide_eq_true h2]; rfl)
          clear hs h2
          go_wp2_with (go_at_call 147; (with_reducible refine Q.mono ?_); rintro e w' ⟨rfl, rfl⟩)
          go_round
          case rel => exact ⟨k + 1, by omega, by go_num, HK⟩
          case measure => simp [intOf]; omega
      · have hne : ((row.length : Int) != (n : Int)) = true := by rw [bne_iff_ne]; omega
        have HR := Lib.hid (HNK.out (by rw [HM.out, decide_eq_false h2]; rfl))
        clear h2 Q HM HS HNK
        generalize row.length = rl at *
        go_wp2
        go_ret
        exact ⟨ret_bool HR.out.symm, rfl⟩
    · obtain rfl : k = n := by omega
      have HR := Lib.hid (show matB ls = true by rw [HYES.out HALL.out, HI.out])
      go_wp2
      go_ret
      exact ⟨ret_bool HR.out.symm, rfl⟩
set_option maxRecDepth 100000 in
set_option maxHeartbeats 4000000 in
theorem specIsMatrix_any (ls : List (List Int)) (v : Value) (hb : Nat) (w : World) (h : ISSr w hb v ls) :
    Calls Try.prog 95 #[v] w fun e w' => e = .returned (.bool (matB ls)) ∧ ∃ d, w' = w.drewN d := by
  have hw := fun W => l1In_any ls.length 1 3 W
  rcases h.cases with ⟨rfl, a, cap, rfl⟩ | ⟨hpos, hlen, b, off, cap, V, rfl, hbb, hcell⟩
  · have hw := fun W => l1In_any 0 1 3 W
    have hm : inB 0 1 3 = false := by decide
    simp only [hm] at hw
    have hr : matB [] = false := by decide
    rw [hr]
    go_enter Try.func95, Try.ntmps95
    go_wp2
    refine wp_loop_rounds 1 ?_
    rw [rounds_succ]
    go_wp2_with (go_at_call 68; (with_reducible refine (hw _).mono ?_); rintro e w' ⟨rfl, rfl⟩)
    go_ret
    exact ⟨rfl, 0, rfl⟩
  have HNO := Lib.hid (fun k (hk : k < ls.length) h => matK_no hk h)
  have HYES := Lib.hid (fun h => matB_yes (m := ls) h)
  have HST := Lib.hid (matK_step ls)
  have HMR := Lib.hid (fun r => show matRow ls.length r = (decide (r.length = ls.length) && allIn r (-100) 100) from rfl)
  obtain ⟨n, hn⟩ : ∃ n, n = ls.length := ⟨_, rfl⟩
  rw [← hn] at hlen hpos hw HNO HYES HMR HST ⊢
  have HN := Lib.hid hn
  have HC := Lib.hid hcell
  clear hn hcell h
  go_enter Try.func95, Try.ntmps95
  go_wp2
  go_loopw [3] (fun i wr => ∃ (d k : Nat), k ≤ n ∧ i = .int .i64 k ∧ Hid (wr = w.drewN d) ∧ Hid (matK ls k = true)) (fun i _ => n - (intOf i).toNat)
  case atStart => exact ⟨0, 0, by omega, rfl, Lib.hid rfl, Lib.hid rfl⟩
  case round =>
    obtain ⟨d, k, hk, rfl, HW, HALL⟩ := hrel
    by_cases hlt : k < n
    · have hkl : k < ls.length := by rw [← HN.out]; exact hlt
      have hc : wr.cell? ⟨b, off + k, none⟩ = some (V k) := by rw [HW.out]; exact (HC.out k hkl).1
      have hrow : ISr wr hb (V k) (ls.getD k []) := by rw [HW.out]; exact (HC.out k hkl).2
      have Q := l2Small_any (ls.getD k []) (V k) 100 hb wr hrow (by omega) (by omega)
      obtain ⟨a1, cp, hxk, -⟩ := id hrow
      rw [hxk] at hc Q
      have HS := Lib.hid (HST.out k)
      have HNK := Lib.hid (HNO.out k hlt)
      have HM := Lib.hid (HMR.out (ls.getD k []))
      clear hrow hkl hxk
      generalize ls.getD k [] = row at *
      have hkn : (k : Int) < (n : Int) := by omega
      have hk0 : (0 : Int) ≤ (k : Int) := by omega
      by_cases h2 : row.length = n
      · rw [h2] at hc Q
        have hne : ((n : Int) != (n : Int)) = false := by simp
        cases hs : allIn row (-100) 100
        · rw [hs] at Q
          have HR := Lib.hid (HNK.out (by rw [HM.out, hs]; simp))
          clear hs h2
          go_wp2_with (go_at_call 148; (with_reducible refine Q.mono ?_); rintro e w' ⟨rfl, d2, rfl⟩)
          go_ret
          exact ⟨ret_bool HR.out.symm, d + d2, by rw [HW.out, World.drewN_drewN]⟩
        · rw [hs] at Q
          have HK := Lib.hid (show matK ls (k + 1) = true by rw [HS.out, HALL.out, HM.out, hs, decide_eq_true h2]; rfl)
          clear hs h2
          go_wp2_with (go_at_call 148; (with_reducible refine Q.mono ?_); rintro e w' ⟨rfl, d2, rfl⟩)
          go_roundw
          case rel => exact ⟨d + d2, k + 1, by omega, by go_num, Lib.hid (by rw [HW.out, World.drewN_drewN]), HK⟩
          case measure => simp [intOf]; omega
      · have hne : ((row.length : Int) != (n : Int)) = true := by rw [bne_iff_ne]; omega
        have HR := Lib.hid (HNK.out (by rw [HM.out, decide_eq_false h2]; rfl))
        clear h2 Q HM HS HNK
        generalize row.length = rl at *
        go_wp2
        go_ret
        exact ⟨ret_bool HR.out.symm, _, HW.out⟩
    · obtain rfl : k = n := by omega
      have HR := Lib.hid (HYES.out HALL.out)
      generalize inB (k : Int) 1 3 = r at *
      go_wp2_with (go_at_call 68; (with_reducible refine (hw _).mono ?_); rintro e w' ⟨rfl, rfl⟩)
      go_ret
      exact ⟨ret_bool HR.out.symm, _, HW.out⟩
end Go.Proofs.Ytehhoplenloocaa
