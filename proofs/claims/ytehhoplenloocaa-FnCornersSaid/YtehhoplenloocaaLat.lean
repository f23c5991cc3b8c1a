/- The points of a box, in order: the walks. -/
import Derived.Test.YtehhoplenloocaaLatM
import Derived.Test.YtehhoplenloocaaB2
namespace Go.Proofs.Ytehhoplenloocaa
open Go.RowKit
set_option linter.unusedVariables false
set_option linter.unusedSimpArgs false

theorem OwnL.lower {w : World} {B B' : Nat} {v : Value} {ls : List (List Int)} (h : OwnL w B v ls) (hB : B' ≤ B) : OwnL w B' v ls := by
  obtain ⟨V, p, h1, h2, h3, h4⟩ := h
  refine ⟨V, p, ⟨h1.1, ?_⟩, Nat.le_trans hB h2, h3, h4⟩
  rcases h1.2 with e | ⟨g, cap, cur, e, hg, r⟩
  · exact .inl e
  · exact .inr ⟨g, cap, cur, e, Nat.le_trans hB hg, r⟩
theorem IS.none (w : World) (lo hi : Nat) (a : Option Addr) (cap : Nat) (h : cap ≤ maxLen) : IS w lo hi (.slice a 0 cap) [] := ⟨a, cap, rfl, Nat.zero_le _, h, fun h => absurd rfl h⟩
theorem OwnL.lit1 (w : World) (B : Nat) (h : B ≤ w.heap.size) (a : Option Addr) : OwnL (w.alloc (.cells #[.slice a 0 0] 30)) B (.slice (some ⟨w.heap.size, 0, none⟩) 1 1) [[]] :=
  ⟨fun _ => .slice a 0 0, fun _ => B, World.ownsRow_lit w #[.slice a 0 0] 1 h (by simp [maxLen]) rfl, Nat.le_refl _, by simp; omega, fun i hi => ⟨Nat.le_refl _, by
    have : i = 0 := by simpa using hi
    subst this; exact IS.none _ _ _ _ _ (Nat.zero_le _)⟩⟩

set_option maxRecDepth 100000 in
set_option maxHeartbeats 8000000 in
theorem lattice_any (low high : List Int) (v1 v2 : Value) (hb : Nat) (w : World) (i1 : ISr w hb v1 low) (i2 : ISr w hb v2 high) (hhb : hb ≤ w.heap.size) (hle : low.length ≤ high.length) (hn : low.length ≤ 100)
    (hbig : ∀ k, k ≤ low.length → (latK low high k).length ≤ 1000000) (hrg : ∀ k, k < low.length → -1000000 ≤ low.getD k 0 ∧ low.getD k 0 ≤ 1000000 ∧ high.getD k 0 ≤ 1000000) :
    Calls Try.prog 142 #[v1, v2] w fun e w' => ∃ u, e = .returned u ∧ OwnL w' w.heap.size u (latL low high) ∧ Below w.heap.size w w' := by
  obtain ⟨i0, hi0, hz0, hz1, hz2⟩ := info_parts info_ints
  have HI0 := Lib.hid hi0; clear hi0
  have HZ0 := Lib.hid hz0; clear hz0
  have HZ1 := Lib.hid hz1; clear hz1
  have HZ2 := Lib.hid hz2; clear hz2
  obtain ⟨j0, hj0, hy0, hy1, hy2⟩ := info_parts info_int
  have HJ0 := Lib.hid hj0; clear hj0
  have HY0 := Lib.hid hy0; clear hy0
  have HY1 := Lib.hid hy1; clear hy1
  have HY2 := Lib.hid hy2; clear hy2
  obtain ⟨n, hnn⟩ : ∃ n, n = low.length := ⟨_, rfl⟩
  obtain ⟨m, hmm⟩ : ∃ m, m = high.length := ⟨_, rfl⟩
  obtain ⟨a1, c1, rfl, -, -, hc1⟩ := id i1
  obtain ⟨a2, c2, rfl, -, -, hc2⟩ := id i2
  rw [← hnn] at hle hn hbig hrg ⊢
  rw [← hmm] at hle ⊢
  have HC1 := Lib.hid hc1
  have HC2 := Lib.hid hc2
  have HBIG := Lib.hid hbig
  have HRG := Lib.hid hrg
  have HN := Lib.hid hnn
  have HM := Lib.hid hmm
  have HROW := Lib.hid (fun k => latK_row low high k)
  have HFIN := Lib.hid (show latK low high n = latL low high by rw [hnn]; rfl)
  clear i1 i2 hc1 hc2 hbig hrg hnn hmm
  go_enter Try.func142, Try.ntmps142
  go_wp2
  go_loopw [5, 6, 7, 9, 10, 14] (fun ov _ _ _ _ i wr => ∃ (k : Nat) (outl : List (List Int)), k ≤ n ∧ i = .int .i64 k ∧ Hid (outl = latK low high k) ∧ Hid (OwnL wr w.heap.size ov outl) ∧ Hid (Below w.heap.size w wr)) (fun _ _ _ _ _ i _ => n - (intOf i).toNat)
  case atStart => exact ⟨0, [[]], by omega, rfl, Lib.hid rfl, OwnL.lit1 w _ (Nat.le_refl _) none, below1 w _⟩
  case round =>
    obtain ⟨k, outl, hk, rfl, hout, hown, hbe⟩ := hrel
    by_cases hlt : k < n
    · have hdec : decide ((k : Int) < n) = true := by simp; omega
      generalize wr = w1 at *
      have hwz := hbe.out.size
      have hkl : k < low.length := by rw [← HN.out]; exact hlt
      have hkh : k < high.length := by rw [← HM.out]; omega
      obtain ⟨b1, o1, rfl, hb1, hcc1⟩ := HC1.out (by intro e; rw [e] at hkl; exact absurd hkl (Nat.not_lt_zero _))
      obtain ⟨b2, o2, rfl, hb2, hcc2⟩ := HC2.out (by intro e; rw [e] at hkh; exact absurd hkh (Nat.not_lt_zero _))
      have q1 := (hbe.out.cell (p := ⟨b1, o1 + k, none⟩) (Nat.lt_of_lt_of_le hb1 hhb)).trans (hcc1 k hkl)
      have q2 := (hbe.out.cell (p := ⟨b2, o2 + k, none⟩) (Nat.lt_of_lt_of_le hb2 hhb)).trans (hcc2 k hkh)
      obtain ⟨rg1, rg1', rg2⟩ := HRG.out k hlt
      have HST := Lib.hid (show latK low high (k + 1) = stepL (latK low high k) (low.getD k 0) (high.getD k 0) from rfl)
      rw [← hout.out] at HST
      have hbg := HBIG.out (k + 1) hlt
      rw [HST.out] at hbg
      have HRW := Lib.hid (HROW.out k)
      rw [← hout.out] at HRW
      clear hcc1 hcc2
      generalize low.getD k 0 = lo at *
      generalize high.getD k 0 = hi at *
      obtain ⟨len, hlen⟩ : ∃ len, len = outl.length := ⟨_, rfl⟩
      obtain ⟨ao, co, hov, -, -, hco⟩ := hown.out.is.read
      rw [← hlen] at hov
      have HCO := Lib.hid hco
      have HLEN := Lib.hid hlen
      have hb1w : b1 < w1.heap.size := Nat.lt_of_lt_of_le hb1 (Nat.le_trans hhb hwz)
      have hb2w : b2 < w1.heap.size := Nat.lt_of_lt_of_le hb2 (Nat.le_trans hhb hwz)
      clear hlen hco hown
      subst hov
      obtain ⟨cnt, hcnt⟩ : ∃ c, c = (hi + 1 - lo).toNat := ⟨_, rfl⟩
      rw [stepL_len, ← hcnt, ← HLEN.out] at hbg
      have HCNT := Lib.hid hcnt
      clear hcnt
      have hlen1 : len ≤ 1000000 := by have := HBIG.out k hk; rw [← hout.out, ← HLEN.out] at this; exact this
      go_wp2
      go_loopw [7, 9, 10, 19] (fun nv _ _ i wr => ∃ (i' : Nat) (acc : List (List Int)), i' ≤ len ∧ i = .int .i64 i' ∧ Hid (acc = stepL (outl.take i') lo hi) ∧ Hid (OwnL wr w1.heap.size nv acc) ∧ Hid (Below w1.heap.size w1 wr)) (fun _ _ _ i _ => len - (intOf i).toNat)
      case atStart => exact ⟨0, [], by omega, rfl, Lib.hid (by simp [stepL]), OwnL.nil w1 _ (Nat.le_refl _), Below.refl _ _⟩
      case round =>
        obtain ⟨i, acc, hi', rfl, hacc, hnx, hb3⟩ := hrel
        by_cases hit : i < len
        · have hdec2 : decide ((i : Int) < len) = true := by simp; omega
          generalize wr = w2 at *
          have hz2 := hb3.out.size
          have hil : i < outl.length := by rw [← HLEN.out]; exact hit
          obtain ⟨bo, oo, V, rfl, hbo, hcc⟩ := HCO.out (by intro e; rw [e] at hil; exact absurd hil (Nat.not_lt_zero _))
          have q3 := (hb3.out.cell (p := ⟨bo, oo + i, none⟩) hbo).trans (hcc i hil).1
          have HRR := Lib.hid (hcc i hil).2
          have q1' := (hb3.out.cell (p := ⟨b1, o1 + k, none⟩) hb1w).trans q1
          have hrl : (outl.getD i []).length = k := HRW.out _ (by rw [List.getD_eq_getElem?_getD, List.getElem?_eq_getElem hil]; exact List.getElem_mem hil)
          have HSN := Lib.hid (stepL_snoc outl lo hi i hil)
          rw [← hacc.out, ← HCNT.out] at HSN
          have HAL := Lib.hid (show acc.length = i * cnt by rw [hacc.out, stepL_len, ← HCNT.out, List.length_take, Nat.min_eq_left (by omega)])
          have hmul : i * cnt + cnt ≤ len * cnt := by rw [← Nat.succ_mul]; exact Nat.mul_le_mul_right _ hit
          have HRLN := Lib.hid hrl
          clear hcc hrl
          generalize outl.getD i [] = r at *
          generalize V i = xi at *
          go_wp2
          go_loopw [7, 10] (fun nv x wr => ∃ (j : Nat) (acc2 : List (List Int)), j ≤ cnt ∧ x = .int .i64 (lo + j) ∧ Hid (acc2 = acc ++ longer r lo j) ∧ Hid (OwnL wr w1.heap.size nv acc2) ∧ Hid (Below w1.heap.size w1 wr)) (fun _ x _ => (hi + 1 - intOf x).toNat)
          case atStart => exact ⟨0, acc, by omega, by simp, Lib.hid (by simp [longer]), hnx, hb3⟩
          case round =>
            obtain ⟨j, acc2, hj, rfl, hacc2, hnx2, hb4⟩ := hrel
            have p2 := (hb4.out.cell (p := ⟨b2, o2 + k, none⟩) hb2w).trans q2
            by_cases hjt : j < cnt
            · have hle3 : lo + (j : Int) ≤ hi := by have := HCNT.out; omega
              have hdec3 : decide (lo + (j : Int) ≤ hi) = true := by simpa using hle3
              have hal2 : acc2.length < 1000000 := by
                have h1 := HAL.out
                have h2 : acc2.length = acc.length + j := by rw [hacc2.out, List.length_append]; simp [longer]
                omega
              have HSJ := Lib.hid (longer_snoc r lo j)
              have CP := copyInts_any r xi w1.heap.size wr (HRR.out.keep hb4.out (Nat.le_refl _)) (by rw [HRLN.out]; omega)
              have hz4 := hb4.out.size
              have hrl5 : r.length ≤ 100 := by rw [HRLN.out]; omega
              go_wp2_with fail
              refine CP.mono ?_
              rintro e w4 ⟨u, rfl, ku, c4⟩
              have KU := Lib.hid ku
              have C4 := Lib.hid c4
              clear ku c4 CP
              go_wp2_with (at_builtin; refine wpList_append_own _ rfl _ _ 30 rfl wr.heap.size 3 j0 (.int .i64 0) 1 8 Try.underlying30 HJ0.out HY0.out HY1.out HY2.out rfl (by decide) _ _ _ rfl (KU.out.alloc _) ⟨w4.heap.size, 0, none⟩ 1 1 [.int .i64 (lo + j)] rfl rfl ?c1 ?c2 ?c3 ?c4 ?c5 ?_)
              case c1 => exact cell_one_new _ _ _
              case c2 => first | rfl | (intro u hu; simp at hu; subst hu; rfl)
              case c3 => unfold maxLen; omega
              case c4 => omega
              case c5 => have := C4.out.size; first | omega | (simp; omega)
              intro v5 w5 hown5 hgrow5 _
              have HO5 := Lib.hid (OwnI.push hown5)
              have B5 := OwnI.below C4.out C4.out.size _ hgrow5 KU.out (Nat.le_refl _)
              obtain ⟨a5, cp5, hv5⟩ := HO5.out.form
              obtain ⟨n5, hn5⟩ : ∃ n, n = (r ++ [lo + (j : Int)]).length := ⟨_, rfl⟩
              rw [← hn5] at hv5
              subst hv5
              obtain ⟨V6, p6, hpt⟩ := hnx2.out.part B5
              have HPT := Lib.hid hpt
              have hz5 := B5.size
              have HB5 := Lib.hid (below_then hb4.out hz4 B5)
              clear hpt hown5 hgrow5 hn5 B5
              go_wp2_with (at_builtin; refine wpList_append_own _ rfl _ _ 24 rfl w1.heap.size 30 i0 (.slice none 0 0) 1 24 Try.underlying24 HI0.out HZ0.out HZ1.out HZ2.out rfl (by decide) _ _ _ rfl (HPT.out.alloc _) ⟨w5.heap.size, 0, none⟩ 1 1 [.slice a5 n5 cp5] rfl rfl ?c1 ?c2 ?c3 ?c4 ?c5 ?_)
              case c1 => exact cell_one_new _ _ _
              case c2 => first | rfl | (intro u hu; simp at hu; subst hu; rfl)
              case c3 => unfold maxLen; omega
              case c4 => omega
              case c5 => first | omega | (simp; omega)
              intro v6 w6 hown6 hgrow6 _
              have HO6 := Lib.hid (HPT.out.push HO5.out.is (Nat.le_refl _) hz5 (Nat.le_refl _) hgrow6 hown6)
              have HB6 := Lib.hid (OwnLp.below HB5.out (by omega) _ hgrow6 HPT.out (Nat.le_refl _))
              have HEQ := Lib.hid (show acc2 ++ [r ++ [lo + (j : Int)]] = acc ++ longer r lo (j + 1) by rw [hacc2.out, List.append_assoc, HSJ.out])
              clear hown6 hgrow6
              go_wp2
              go_roundw
              case rel => exact ⟨j + 1, _, by omega, by go_num, HEQ, HO6, HB6⟩
              case measure => simp [intOf]; omega
            · obtain rfl : j = cnt := by omega
              have hle3 : ¬ lo + (j : Int) ≤ hi := by have := HCNT.out; omega
              have hdec3 : decide (lo + (j : Int) ≤ hi) = false := by simpa using hle3
              have HEQ := Lib.hid (hacc2.out.trans HSN.out)
              go_wp2
              go_roundw
              case rel => exact ⟨i + 1, acc2, by omega, by go_num, HEQ, hnx2, hb4⟩
              case measure => simp [intOf]; omega
        · obtain rfl : i = len := by omega
          have HEQ := Lib.hid (show acc = latK low high (k + 1) by rw [hacc.out, HLEN.out, List.take_length, HST.out])
          have HO := Lib.hid (hnx.out.lower hwz)
          have HB := Lib.hid (hbe.out.trans (hb3.out.mono hwz))
          go_wp2
          go_roundw
          case rel => exact ⟨k + 1, acc, by omega, by go_num, HEQ, HO, HB⟩
          case measure => simp [intOf]; omega
    · obtain rfl : k = n := by omega
      have HO := Lib.hid hown.out
      rw [hout.out, HFIN.out] at HO
      go_wp2
      go_ret
      exact ⟨_, rfl, HO.out, hbe.out⟩
end Go.Proofs.Ytehhoplenloocaa
