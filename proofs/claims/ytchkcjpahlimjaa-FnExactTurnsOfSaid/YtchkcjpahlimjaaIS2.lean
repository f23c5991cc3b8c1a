/- Copies of slices and comparing slices: the laws' own helpers. -/
import Derived.Test.YtchkcjpahlimjaaIS
namespace Go.Proofs.Ytchkcjpahlimjaa
open Go.RowKit
set_option linter.unusedVariables false
set_option linter.unusedSimpArgs false

theorem info_int : (Try.prog.info? 3).map (fun i => (i.zero, i.size, i.bytes)) = some (some (.int .i64 0), 1, 8) := by kernel_rfl

theorem IS.of_row {w : World} {b n lo hi : Nat} {f : Nat → Value} {l : List Int} (h : w.rowIs b 3 n f) (hn : n = l.length) (hm : n ≤ maxLen) (hf : ∀ i, i < n → f i = .int .i64 (l.getD i 0)) (hlo : lo ≤ b) (hhi : b < hi) :
    IS w lo hi (.slice (some ⟨b, 0, none⟩) n n) l := by
  subst hn
  exact IS.of_BK ((BK.of_rowIs h).congr hf) (Nat.le_refl _) hm hlo hhi

def copyF (l : List Int) (k : Nat) : Nat → Value := fun j => if j < k then .int .i64 (l.getD j 0) else .int .i64 0
theorem copyF_set (w : World) (b t n : Nat) (l : List Int) (k : Nat) (h : w.rowIs b t n (copyF l k)) : (w.setCell ⟨b, k, none⟩ (.int .i64 (l.getD k 0))).rowIs b t n (copyF l (k + 1)) := by
  refine (h.set k _).congr fun j _ => ?_
  unfold copyF
  by_cases e : j = k
  · subst e; simp
  · rw [if_neg e]
    by_cases e2 : j < k
    · rw [if_pos e2, if_pos (by omega)]
    · rw [if_neg e2, if_neg (by omega)]

set_option maxHeartbeats 1000000 in
theorem toIntS_any (l : List Int) (v : Value) (hi : Nat) (w : World) (h : ISr w hi v l) (hh : hi ≤ w.heap.size) (hl : l.length ≤ 1048576) :
    Calls Try.prog 34 #[v] w fun e w' => ∃ v', e = .returned v' ∧ IS w' w.heap.size (w.heap.size + 1) v' l ∧ Below w.heap.size w w' ∧ w'.heap.size = w.heap.size + 1 := by
  obtain ⟨n, hn⟩ : ∃ n, n = l.length := ⟨_, rfl⟩
  have hmk := run_make_row' (P := Try.prog) 22 3 (.int .i64 0) 8 Try.underlying22 info_int rfl .i64 .i64 n (by omega) (by omega)
  have hnew := (World.rowIs_made w (.int .i64 0) n 3)
  have hbel := below1 w (.cells (madeCells #[.int .i64 0] n) 3)
  rcases h.cases with ⟨rfl, a, cap, rfl⟩ | ⟨hpos, hlen, b, off, cap, rfl, hbb, hcell⟩
  · simp at hn; subst hn
    simp only [show ((0 : Nat) : Int) = 0 from rfl] at hmk
    go_enter Try.func34, Try.ntmps34
    go_wp2
    refine wp_loop_rounds 1 ?_
    rw [rounds_succ]
    go_wp2
    go_ret
    refine ⟨_, rfl, IS.of_row (l := []) hnew rfl (by simp [maxLen]) (fun i hi => absurd hi (Nat.not_lt_zero _)) (Nat.le_refl _) (by omega), hbel, by simp⟩
  · rw [← hn] at hlen hpos hl ⊢
    have HN := Lib.hid hn; clear hn
    have HC := Lib.hid hcell; clear hcell
    go_enter Try.func34, Try.ntmps34
    go_wp2
    clear hmk
    go_loopw [4] (fun i wr => ∃ k : Nat, k ≤ n ∧ i = .int .i64 k ∧ wr.rowIs w.heap.size 3 n (copyF l k) ∧ Below w.heap.size w wr ∧ wr.heap.size = w.heap.size + 1) (fun i _ => n - (intOf i).toNat)
    case atStart => exact ⟨0, by omega, rfl, hnew.congr (fun j _ => by simp [copyF]), hbel, by simp⟩
    case round =>
      obtain ⟨k, hk, rfl, hrow, hbe, hsz⟩ := hrel
      by_cases hlt : k < n
      · have hck := (hbe.cell (p := ⟨b, off + k, none⟩) (by exact Nat.lt_of_lt_of_le hbb hh)).trans (HC.out k (by rw [← HN.out]; exact hlt))
        have hset := copyF_set _ _ _ _ _ _ hrow
        have hdst := hrow.cell hlt
        have hfz := hrow.frozen k
        have HS := Lib.hid hset; clear hset
        have HB := Lib.hid (hbe.setCell (p := ⟨w.heap.size, k, none⟩) (Nat.le_refl _) (.int .i64 (l.getD k 0)))
        clear hbe hrow
        generalize l.getD k 0 = x at *
        generalize copyF l k k = y at *
        go_wp2
        go_roundw
        case rel => exact ⟨k + 1, by omega, by go_num, HS.out, HB.out, by simp; exact hsz⟩
        case measure => simp [intOf]; omega
      · obtain rfl : k = n := by omega
        clear HC
        go_wp2
        go_ret
        refine ⟨_, rfl, IS.of_row hrow HN.out (by unfold maxLen; omega) (fun i hi => by simp [copyF, hi]) (Nat.le_refl _) (by omega), hbe, hsz⟩

theorem take_eq_step {l1 l2 : List Int} {k : Nat} (h1 : k < l1.length) (h2 : k < l2.length) (h : l1.take k = l2.take k) (he : l1.getD k 0 = l2.getD k 0) : l1.take (k + 1) = l2.take (k + 1) := by
  rw [List.take_succ_eq_append_getElem h1, List.take_succ_eq_append_getElem h2, h]
  rw [List.getD_eq_getElem?_getD, List.getD_eq_getElem?_getD, List.getElem?_eq_getElem h1, List.getElem?_eq_getElem h2] at he
  simp at he; rw [he]
theorem ne_of_getD {l1 l2 : List Int} {k : Nat} (he : l1.getD k 0 ≠ l2.getD k 0) : decide (l1 = l2) = false := by
  rw [decide_eq_false_iff_not]; intro h; exact he (by rw [h])

set_option maxHeartbeats 1000000 in
theorem eqIntS_any (l1 l2 : List Int) (v1 v2 : Value) (h1 h2 : Nat) (w : World) (i1 : ISr w h1 v1 l1) (i2 : ISr w h2 v2 l2) :
    Calls Try.prog 25 #[v1, v2] w fun e w' => e = .returned (.bool (decide (l1 = l2))) ∧ ∃ d, w' = w.drewN d := by
  by_cases hle : l1.length = l2.length
  · rcases i1.cases with ⟨rfl, a1, cap1, rfl⟩ | ⟨hpos, hlen, b1, off1, cap1, rfl, hbb1, hcell1⟩
    · have : l2 = [] := List.length_eq_zero_iff.1 hle.symm
      subst this
      obtain ⟨a2, cap2, rfl, -, -, -⟩ := i2
      go_enter Try.func25, Try.ntmps25
      go_wp2
      refine wp_loop_rounds 1 ?_
      rw [rounds_succ]
      go_wp2
      go_ret
      exact ⟨rfl, 0, rfl⟩
    · rcases i2.cases with ⟨rfl, a2, cap2, rfl⟩ | ⟨hpos2, hlen2, b2, off2, cap2, rfl, hbb2, hcell2⟩
      · simp at hle; subst hle; simp at hpos
      · rw [← hle]
        obtain ⟨n, hn⟩ : ∃ n, n = l1.length := ⟨_, rfl⟩
        have HN2 := Lib.hid (hn.trans hle)
        rw [← hn] at hlen hpos ⊢
        have HN := Lib.hid hn; clear hn hle hpos2 hlen2
        have HC1 := Lib.hid hcell1; clear hcell1
        have HC2 := Lib.hid hcell2; clear hcell2
        clear hbb1 hbb2
        go_enter Try.func25, Try.ntmps25
        go_wp2
        go_loopw [5] (fun i wr => ∃ (d k : Nat), wr = w.drewN d ∧ k ≤ n ∧ i = .int .i64 k ∧ l1.take k = l2.take k) (fun i _ => n - (intOf i).toNat)
        case atStart => exact ⟨0, 0, rfl, by omega, rfl, rfl⟩
        case round =>
          obtain ⟨d, k, rfl, hk, rfl, heq⟩ := hrel
          have HE := Lib.hid heq; clear heq
          by_cases hlt : k < n
          · have hk1 : k < l1.length := by rw [← HN.out]; exact hlt
            have hk2 : k < l2.length := by rw [← HN2.out]; exact hlt
            have hc1 := HC1.out k hk1
            have hc2 := HC2.out k hk2
            by_cases he : l1.getD k 0 = l2.getD k 0
            · have HS := Lib.hid (take_eq_step hk1 hk2 HE.out he)
              clear hk1 hk2
              rw [← he] at hc2
              clear he
              generalize l1.getD k 0 = x at *
              have hxx : (x != x) = false := by simp
              go_wp2
              go_quiet (fail)
              go_wp2
              go_roundw
              case rel => exact ⟨_, k + 1, rfl, by omega, by go_num, HS.out⟩
              case measure => simp [intOf]; omega
            · have hfin := ne_of_getD he
              have HF := Lib.hid hfin; clear hfin hk1 hk2
              generalize l1.getD k 0 = x at *
              generalize l2.getD k 0 = y at *
              have hxy : (x != y) = true := by simpa using he
              go_wp2
              go_quiet (fail)
              go_wp2
              go_ret
              exact ⟨ret_bool HF.out.symm, d + nq, by rw [World.drewN_drewN]⟩
          · obtain rfl : k = n := by omega
            go_wp2
            go_ret
            refine ⟨ret_bool ?_, _, rfl⟩
            have e1 := HE.out
            rw [HN.out, List.take_length, ← HN.out, HN2.out, List.take_length] at e1
            simp [e1]
  · have hf : decide (l1 = l2) = false := by rw [decide_eq_false_iff_not]; intro h; exact hle (by rw [h])
    rw [hf]
    obtain ⟨a1, cap1, rfl, -, -, -⟩ := i1
    obtain ⟨a2, cap2, rfl, -, -, -⟩ := i2
    have hb : ((l1.length : Int) != (l2.length : Int)) = true := by rw [bne_iff_ne]; omega
    generalize l1.length = n1 at *
    generalize l2.length = n2 at *
    clear hf
    go_enter Try.func25, Try.ntmps25
    go_wp2
    go_ret
    exact ⟨rfl, 0, rfl⟩
end Go.Proofs.Ytchkcjpahlimjaa
