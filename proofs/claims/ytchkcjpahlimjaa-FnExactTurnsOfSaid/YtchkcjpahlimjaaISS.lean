/- Slices of slices of whole numbers that read as lists of lists. -/
import Derived.Test.YtchkcjpahlimjaaMk
namespace Go.Proofs.Ytchkcjpahlimjaa
open Go.RowKit
set_option linter.unusedVariables false
set_option linter.unusedSimpArgs false

/-- read only -/
def ISSr (w : World) (hi : Nat) (v : Value) (ls : List (List Int)) : Prop :=
  ∃ a cap, v = .slice a ls.length cap ∧ ls.length ≤ cap ∧ cap ≤ maxLen ∧
    (ls ≠ [] → ∃ b off, ∃ V : Nat → Value, a = some ⟨b, off, none⟩ ∧ b < hi ∧ ∀ i, i < ls.length → w.cell? ⟨b, off + i, none⟩ = some (V i) ∧ ISr w hi (V i) (ls.getD i []))
/-- to be written: the rows lie in blocks of their own -/
def ISS (w : World) (lo hi : Nat) (v : Value) (ls : List (List Int)) : Prop :=
  ∃ a cap, v = .slice a ls.length cap ∧ ls.length ≤ cap ∧ cap ≤ maxLen ∧
    (ls ≠ [] → ∃ b off, ∃ V : Nat → Value, a = some ⟨b, off, none⟩ ∧ lo ≤ b ∧ b < hi ∧ BK w b off ls.length 22 V ∧ (∀ i, i < ls.length → IS w lo hi (V i) (ls.getD i [])) ∧
      (∀ i j, i < j → j < ls.length → blkOf (V j) = none ∨ blkOf (V j) ≠ blkOf (V i)))

theorem ISS.read {w : World} {lo hi : Nat} {v : Value} {ls : List (List Int)} (h : ISS w lo hi v ls) : ISSr w hi v ls := by
  obtain ⟨a, cap, hv, h1, h2, h3⟩ := h
  exact ⟨a, cap, hv, h1, h2, fun hl => let ⟨b, off, V, ha, _, hb', hc, hr, _⟩ := h3 hl; ⟨b, off, V, ha, hb', fun i hi => ⟨hc.cell hi, (hr i hi).read⟩⟩⟩
theorem ISSr.cases {w : World} {hi : Nat} {v : Value} {ls : List (List Int)} (h : ISSr w hi v ls) :
    (ls = [] ∧ ∃ a cap, v = .slice a 0 cap) ∨ (0 < ls.length ∧ ls.length ≤ 9223372036854775807 ∧ ∃ b off cap, ∃ V : Nat → Value, v = .slice (some ⟨b, off, none⟩) ls.length cap ∧ b < hi ∧ ∀ i, i < ls.length → w.cell? ⟨b, off + i, none⟩ = some (V i) ∧ ISr w hi (V i) (ls.getD i [])) := by
  obtain ⟨a, cap, hv, h1, h2, h3⟩ := h
  unfold maxLen at h2
  by_cases hl : ls = []
  · subst hl; exact .inl ⟨rfl, a, cap, hv⟩
  · obtain ⟨b, off, V, rfl, hb, hc⟩ := h3 hl
    exact .inr ⟨List.length_pos_iff.2 hl, by omega, b, off, cap, V, hv, hb, hc⟩
theorem ISS.cases {w : World} {lo hi : Nat} {v : Value} {ls : List (List Int)} (h : ISS w lo hi v ls) :
    (ls = [] ∧ ∃ a cap, v = .slice a 0 cap) ∨ (0 < ls.length ∧ ls.length ≤ 9223372036854775807 ∧ ∃ b off cap, ∃ V : Nat → Value, v = .slice (some ⟨b, off, none⟩) ls.length cap ∧ lo ≤ b ∧ b < hi ∧ BK w b off ls.length 22 V ∧ (∀ i, i < ls.length → IS w lo hi (V i) (ls.getD i [])) ∧
      (∀ i j, i < j → j < ls.length → blkOf (V j) = none ∨ blkOf (V j) ≠ blkOf (V i))) := by
  obtain ⟨a, cap, hv, h1, h2, h3⟩ := h
  unfold maxLen at h2
  by_cases hl : ls = []
  · subst hl; exact .inl ⟨rfl, a, cap, hv⟩
  · obtain ⟨b, off, V, rfl, hb⟩ := h3 hl
    exact .inr ⟨List.length_pos_iff.2 hl, by omega, b, off, cap, V, hv, hb⟩
theorem ISS.of_blocks {w w' : World} {lo hi : Nat} {v : Value} {ls : List (List Int)} (h : ISS w lo hi v ls) (hb : ∀ b, lo ≤ b → b < hi → b < w.heap.size → w'.heap[b]? = w.heap[b]?) : ISS w' lo hi v ls := by
  obtain ⟨a, cap, hv, h1, h2, h3⟩ := h
  exact ⟨a, cap, hv, h1, h2, fun hl => let ⟨b, off, V, ha, hb1, hb', hc, hr, hd⟩ := h3 hl; ⟨b, off, V, ha, hb1, hb', hc.of_block (hb b hb1 hb' hc.lt), fun i hi => (hr i hi).of_blocks hb, hd⟩⟩
theorem ISSr.keep {w w' : World} {hi B : Nat} {v : Value} {ls : List (List Int)} (h : ISSr w hi v ls) (hb : Below B w w') (hB : hi ≤ B) : ISSr w' hi v ls := by
  obtain ⟨a, cap, hv, h1, h2, h3⟩ := h
  exact ⟨a, cap, hv, h1, h2, fun hl => let ⟨b, off, V, ha, hb', hc⟩ := h3 hl; ⟨b, off, V, ha, hb', fun i hi => ⟨(hb.cell (p := ⟨b, off + i, none⟩) (Nat.lt_of_lt_of_le hb' hB)).trans (hc i hi).1, (hc i hi).2.keep hb hB⟩⟩⟩
theorem ISS.keep {w w' : World} {lo hi B : Nat} {v : Value} {ls : List (List Int)} (h : ISS w lo hi v ls) (hb : Below B w w') (hB : hi ≤ B) : ISS w' lo hi v ls :=
  h.of_blocks fun b _ h2 _ => hb.block b (by omega)
theorem ISS.mono {w : World} {lo hi lo' hi' : Nat} {v : Value} {ls : List (List Int)} (h : ISS w lo hi v ls) (h1 : lo' ≤ lo) (h2 : hi ≤ hi') : ISS w lo' hi' v ls := by
  obtain ⟨a, cap, hv, g1, g2, g3⟩ := h
  exact ⟨a, cap, hv, g1, g2, fun hl => let ⟨b, off, V, ha, hb1, hb', hc, hr, hd⟩ := g3 hl; ⟨b, off, V, ha, by omega, by omega, hc, fun i hi => (hr i hi).mono h1 h2, hd⟩⟩
theorem ISS.draws {w : World} {lo hi : Nat} {v : Value} {ls : List (List Int)} (h : ISS w lo hi v ls) (n : Nat) : ISS (w.drewN n) lo hi v ls := h
theorem ISSr.draws {w : World} {hi : Nat} {v : Value} {ls : List (List Int)} (h : ISSr w hi v ls) (n : Nat) : ISSr (w.drewN n) hi v ls := h
theorem ISS.nil (w : World) (lo hi : Nat) : ISS w lo hi (.slice none 0 0) [] := ⟨none, 0, rfl, Nat.le_refl _, Nat.zero_le _, fun h => absurd rfl h⟩

theorem take_eq_stepL {l1 l2 : List (List Int)} {k : Nat} (h1 : k < l1.length) (h2 : k < l2.length) (h : l1.take k = l2.take k) (he : l1.getD k [] = l2.getD k []) : l1.take (k + 1) = l2.take (k + 1) := by
  rw [List.take_succ_eq_append_getElem h1, List.take_succ_eq_append_getElem h2, h]
  rw [List.getD_eq_getElem?_getD, List.getD_eq_getElem?_getD, List.getElem?_eq_getElem h1, List.getElem?_eq_getElem h2] at he
  simp at he; rw [he]
theorem ne_of_getDL {l1 l2 : List (List Int)} {k : Nat} (he : l1.getD k [] ≠ l2.getD k []) : decide (l1 = l2) = false := by
  rw [decide_eq_false_iff_not]; intro h; exact he (by rw [h])

set_option maxHeartbeats 1000000 in
theorem eqIntSS_any (l1 l2 : List (List Int)) (v1 v2 : Value) (h1 h2 : Nat) (w : World) (i1 : ISSr w h1 v1 l1) (i2 : ISSr w h2 v2 l2) :
    Calls Try.prog 18 #[v1, v2] w fun e w' => e = .returned (.bool (decide (l1 = l2))) ∧ ∃ d, w' = w.drewN d := by
  by_cases hle : l1.length = l2.length
  · rcases i1.cases with ⟨rfl, a1, cap1, rfl⟩ | ⟨hpos, hlen, b1, off1, cap1, V1, rfl, hbb1, hcell1⟩
    · have : l2 = [] := List.length_eq_zero_iff.1 hle.symm
      subst this
      obtain ⟨a2, cap2, rfl, -, -, -⟩ := i2
      go_enter Try.func18, Try.ntmps18
      go_wp2
      refine wp_loop_rounds 1 ?_
      rw [rounds_succ]
      go_wp2
      go_ret
      exact ⟨rfl, 0, rfl⟩
    · rcases i2.cases with ⟨rfl, a2, cap2, rfl⟩ | ⟨hpos2, hlen2, b2, off2, cap2, V2, rfl, hbb2, hcell2⟩
      · simp at hle; subst hle; simp at hpos
      · rw [← hle]
        obtain ⟨n, hn⟩ : ∃ n, n = l1.length := ⟨_, rfl⟩
        have HN2 := Lib.hid (hn.trans hle)
        rw [← hn] at hlen hpos ⊢
        have HN := Lib.hid hn; clear hn hle hpos2 hlen2
        have HC1 := Lib.hid hcell1; clear hcell1
        have HC2 := Lib.hid hcell2; clear hcell2
        clear hbb1 hbb2 i1 i2
        go_enter Try.func18, Try.ntmps18
        go_wp2
        go_loopw [5] (fun i wr => ∃ (d k : Nat), wr = w.drewN d ∧ k ≤ n ∧ i = .int .i64 k ∧ l1.take k = l2.take k) (fun i _ => n - (intOf i).toNat)
        case atStart => exact ⟨0, 0, rfl, by omega, rfl, rfl⟩
        case round =>
          obtain ⟨d, k, hw, hk, rfl, heq⟩ := hrel
          have HW := Lib.hid hw; clear hw
          have HE := Lib.hid heq; clear heq
          by_cases hlt : k < n
          · have hk1 : k < l1.length := by rw [← HN.out]; exact hlt
            have hk2 : k < l2.length := by rw [← HN2.out]; exact hlt
            have hc1 : wr.cell? ⟨b1, off1 + k, none⟩ = some (V1 k) := by rw [HW.out]; exact (HC1.out k hk1).1
            have hc2 : wr.cell? ⟨b2, off2 + k, none⟩ = some (V2 k) := by rw [HW.out]; exact (HC2.out k hk2).1
            have HQ := fun n' => eqIntS_any (l1.getD k []) (l2.getD k []) (V1 k) (V2 k) h1 h2 (wr.drewN n') (by rw [HW.out]; exact (HC1.out k hk1).2) (by rw [HW.out]; exact (HC2.out k hk2).2)
            generalize V1 k = x1 at *
            generalize V2 k = x2 at *
            by_cases he : l1.getD k [] = l2.getD k []
            · have HS := Lib.hid (take_eq_stepL hk1 hk2 HE.out he)
              clear hk1 hk2
              rw [decide_eq_true he] at HQ
              clear he
              have HQ' := Lib.hid HQ; clear HQ
              go_wp2
              go_quiet ((go_at_call 25; exact Calls.quiet_of (HQ'.out _)))
              go_wp2
              go_roundw
              case rel => exact ⟨d + nq, k + 1, by rw [HW.out, World.drewN_drewN], by omega, by go_num, HS.out⟩
              case measure => simp [intOf]; omega
            · have hfin := ne_of_getDL he
              have HF := Lib.hid hfin; clear hfin hk1 hk2
              rw [decide_eq_false he] at HQ
              clear he
              have HQ' := Lib.hid HQ; clear HQ
              go_wp2
              go_quiet ((go_at_call 25; exact Calls.quiet_of (HQ'.out _)))
              go_wp2
              go_ret
              exact ⟨ret_bool HF.out.symm, d + nq, by rw [HW.out, World.drewN_drewN]⟩
          · obtain rfl : k = n := by omega
            go_wp2
            go_ret
            refine ⟨ret_bool ?_, _, HW.out⟩
            have e1 := HE.out
            rw [HN.out, List.take_length, ← HN.out, HN2.out, List.take_length] at e1
            simp [e1]
  · have hf : decide (l1 = l2) = false := by rw [decide_eq_false_iff_not]; intro h; exact hle (by rw [h])
    rw [hf]
    obtain ⟨a1, cap1, rfl, -, -, -⟩ := i1
    obtain ⟨a2, cap2, rfl, -, -, -⟩ := i2
    have hb : ((l1.length : Int) != (l2.length : Int)) = true := by rw [bne_iff_ne]; omega
    generalize l1.length = n1 at *
    generalize l2.length = n2 at *
    clear hf
    go_enter Try.func18, Try.ntmps18
    go_wp2
    go_ret
    exact ⟨rfl, 0, rfl⟩
end Go.Proofs.Ytchkcjpahlimjaa
