/- The points of a box, in order: the model's walk. -/
import Derived.Test.YtfncikbmdaameaaLat
namespace Go.Proofs.Ytfncikbmdaameaa
open Go.RowKit
set_option linter.unusedVariables false
set_option linter.unusedSimpArgs false

def allK (lo hi : Int) : Nat → List (List Int)
  | 0 => [[]]
  | k + 1 => stepL (allK lo hi k) lo hi
theorem allK_row (lo hi : Int) : ∀ k, ∀ r ∈ allK lo hi k, r.length = k
  | 0, r, h => by simp [allK] at h; rw [h]; rfl
  | k + 1, r, h => by
    rw [allK, stepL, List.mem_flatMap] at h
    obtain ⟨v, hv, hr⟩ := h
    unfold longer at hr
    rw [List.mem_map] at hr
    obtain ⟨i, -, rfl⟩ := hr
    rw [List.length_append, allK_row lo hi k v hv]; rfl

set_option maxRecDepth 100000 in
set_option maxHeartbeats 8000000 in
theorem l5All_any (n : Nat) (lo hi : Int) (w : World) (hn : n ≤ 100) (hbig : ∀ k, k ≤ n → (allK lo hi k).length ≤ 1000000) (rg1 : -1000000 ≤ lo) (rg1' : lo ≤ 1000000) (rg2 : hi ≤ 1000000) :
    Calls Try.prog 183 #[.int .i64 n, .int .i64 lo, .int .i64 hi] w fun e w' => ∃ u, e = .returned u ∧ OwnL w' w.heap.size u (allK lo hi n) ∧ Below w.heap.size w w' := by
  obtain ⟨i0, hi0, hz0, hz1, hz2⟩ := info_parts info_ints
  have HI0 := Lib.hid hi0; clear hi0
  have HZ0 := Lib.hid hz0; clear hz0
  have HZ1 := Lib.hid hz1; clear hz1
  have HZ2 := Lib.hid hz2; clear hz2
  obtain ⟨j0, hj0, hy0, hy1, hy2⟩ := info_parts info_int
  have HJ0 := Lib.hid hj0; clear hj0
  have HY0 := Lib.hid hy0; clear hy0
  have HY1 := Lib.hid hy1; clear hy1
  have HY2 := Lib.hid hy2; clear hy2
  have HBIG := Lib.hid hbig
  have HROW := Lib.hid (fun k => allK_row lo hi k)
  clear hbig
  go_enter Try.func183, Try.ntmps183
  go_wp2
  go_loopw [7, 8, 9, 10, 11] (fun ov i _ _ _ wr => ∃ (k : Nat) (outl : List (List Int)), k ≤ n ∧ i = .int .i64 k ∧ Hid (outl = allK lo hi k) ∧ Hid (OwnL wr w.heap.size ov outl) ∧ Hid (Below w.heap.size w wr)) (fun _ i _ _ _ _ => n - (intOf i).toNat)
  case atStart => exact ⟨0, [[]], by omega, rfl, Lib.hid rfl, (by have := OwnL.lit1 (w.alloc (.cells #[] 3)) w.heap.size (by simp) (some ⟨w.heap.size, 0, none⟩); rw [World.size_alloc] at this; exact Lib.hid this), (below1 w _).alloc (by simp) _⟩
  case round =>
    obtain ⟨k, outl, hk, rfl, hout, hown, hbe⟩ := hrel
    by_cases hlt : k < n
    · have hdec : decide ((k : Int) < n) = true := by simp; omega
      generalize wr = w1 at *
      have hwz := hbe.out.size
      have HST := Lib.hid (show allK lo hi (k + 1) = stepL (allK lo hi k) lo hi from rfl)
      rw [← hout.out] at HST
      have hbg := HBIG.out (k + 1) hlt
      rw [HST.out] at hbg
      have HRW := Lib.hid (HROW.out k)
      rw [← hout.out] at HRW
      obtain ⟨len, hlen⟩ : ∃ len, len = outl.length := ⟨_, rfl⟩
      obtain ⟨ao, co, hov, -, -, hco⟩ := hown.out.is.read
      rw [← hlen] at hov
      have HCO := Lib.hid hco
      have HLEN := Lib.hid hlen
      clear hlen hco hown
      subst hov
      obtain ⟨cnt, hcnt⟩ : ∃ c, c = (hi + 1 - lo).toNat := ⟨_, rfl⟩
      rw [stepL_len, ← hcnt, ← HLEN.out] at hbg
      have HCNT := Lib.hid hcnt
      clear hcnt
      have hlen1 : len ≤ 1000000 := by have := HBIG.out k hk; rw [← hout.out, ← HLEN.out] at this; exact this
      go_wp2
      go_loopw [9, 10, 11] (fun nv i _ wr => ∃ (i' : Nat) (acc : List (List Int)), i' ≤ len ∧ i = .int .i64 i' ∧ Hid (acc = stepL (outl.take i') lo hi) ∧ Hid (OwnL wr w1.heap.size nv acc) ∧ Hid (Below w1.heap.size w1 wr)) (fun _ i _ _ => len - (intOf i).toNat)
      case atStart => exact ⟨0, [], by omega, rfl, Lib.hid (by simp [stepL]), OwnL.lit0 w1 _ (Nat.le_refl _), Lib.hid (below1 w1 _)⟩
      case round =>
        obtain ⟨i, acc, hi', rfl, hacc, hnx, hb3⟩ := hrel
        by_cases hit : i < len
        · have hdec2 : decide ((i : Int) < len) = true := by simp; omega
          generalize wr = w2 at *
          have hz2 := hb3.out.size
          have hil : i < outl.length := by rw [← HLEN.out]; exact hit
          obtain ⟨bo, oo, V, rfl, hbo, hcc⟩ := HCO.out (by intro e; rw [e] at hil; exact absurd hil (Nat.not_lt_zero _))
          have HQ3 := Lib.hid (hcc i hil).1
          have HRR := Lib.hid (hcc i hil).2
          have hrl : (outl.getD i []).length = k := HRW.out _ (by rw [List.getD_eq_getElem?_getD, List.getElem?_eq_getElem hil]; exact List.getElem_mem hil)
          have HSN := Lib.hid (stepL_snoc outl lo hi i hil)
          rw [← hacc.out, ← HCNT.out] at HSN
          have HAL := Lib.hid (show acc.length = i * cnt by rw [hacc.out, stepL_len, ← HCNT.out, List.length_take, Nat.min_eq_left (by omega)])
          have hmul : i * cnt + cnt ≤ len * cnt := by rw [← Nat.succ_mul]; exact Nat.mul_le_mul_right _ hit
          have HRLN := Lib.hid hrl
          clear hcc hrl
          generalize outl.getD i [] = r at *
          generalize V i = xi at *
          go_wp2
          go_loopw [9, 11] (fun nv x wr => ∃ (j : Nat) (acc2 : List (List Int)), j ≤ cnt ∧ x = .int .i64 (lo + j) ∧ Hid (acc2 = acc ++ longer r lo j) ∧ Hid (OwnL wr w1.heap.size nv acc2) ∧ Hid (Below w1.heap.size w1 wr)) (fun _ x _ => (hi + 1 - intOf x).toNat)
          case atStart => exact ⟨0, acc, by omega, by simp, Lib.hid (by simp [longer]), hnx, hb3⟩
          case round =>
            obtain ⟨j, acc2, hj, rfl, hacc2, hnx2, hb4⟩ := hrel
            have p3 := (hb4.out.cell (p := ⟨bo, oo + i, none⟩) hbo).trans HQ3.out
            by_cases hjt : j < cnt
            · have hle3 : lo + (j : Int) ≤ hi := by have := HCNT.out; omega
              have hdec3 : decide (lo + (j : Int) ≤ hi) = true := by simpa using hle3
              have hal2 : acc2.length < 1000000 := by
                have h1 := HAL.out
                have h2 : acc2.length = acc.length + j := by rw [hacc2.out, List.length_append]; simp [longer]
                omega
              have HSJ := Lib.hid (longer_snoc r lo j)
              have hsrc := HRR.out.keep hb4.out (Nat.le_refl _)
              have hz4 := hb4.out.size
              have hrl5 : r.length ≤ 100 := by rw [HRLN.out]; omega
              have hsrc2 := Lib.hid (hsrc.keep (below1 wr (.cells #[] 3)) hz4)
              have CA := below1 wr (.cells #[] 3)
              have p4 := (CA.cell (p := ⟨bo, oo + i, none⟩) (Nat.lt_of_lt_of_le hbo hz4)).trans p3
              clear hsrc
              go_wp2_with (at_builtin; refine wpList_append_I rfl _ _ rfl rfl rfl (OwnI.lit0 wr wr.heap.size (Nat.le_refl _)) hsrc2.out (by simp; omega) (by simp) ?_)
              intro a4 cp4 w4 ku hg4
              have KU := Lib.hid ku
              have C4 := Lib.hid (CA.grown hg4 (by simp) (fun q hq => by simp [Value.ownBlock] at hq; omega))
              clear ku CA hg4
              go_wp2_with (at_builtin; refine wpList_append_own _ rfl _ _ 46 rfl wr.heap.size 3 j0 (.int .i64 0) 1 8 Try.underlying46 HJ0.out HY0.out HY1.out HY2.out rfl (by decide) _ _ _ rfl (KU.out.alloc _) ⟨w4.heap.size, 0, none⟩ 1 1 [.int .i64 (lo + j)] rfl rfl ?c1 ?c2 ?c3 ?c4 ?c5 ?_)
              case c1 => exact cell_one_new _ _ _
              case c2 => first | rfl | (intro u hu; simp at hu; subst hu; rfl)
              case c3 => unfold maxLen; omega
              case c4 => omega
              case c5 => have := C4.out.size; first | omega | (simp; omega)
              intro v5 w5 hown5 hgrow5 _
              have HO5 := Lib.hid (OwnI.push hown5)
              have B5 := OwnI.below C4.out C4.out.size _ hgrow5 KU.out (Nat.le_refl _)
              obtain ⟨a5, cp5, hv5⟩ := HO5.out.form
              obtain ⟨n5, hn5⟩ : ∃ n, n = (r ++ [lo + (j : Int)]).length := ⟨_, rfl⟩
              rw [← hn5] at hv5
              subst hv5
              obtain ⟨V6, p6, hpt⟩ := hnx2.out.part B5
              have HPT := Lib.hid hpt
              have hz5 := B5.size
              have HB5 := Lib.hid (below_then hb4.out hz4 B5)
              clear hpt hown5 hgrow5 hn5 B5
              go_wp2_with (at_builtin; refine wpList_append_own _ rfl _ _ 24 rfl w1.heap.size 46 i0 (.slice none 0 0) 1 24 Try.underlying24 HI0.out HZ0.out HZ1.out HZ2.out rfl (by decide) _ _ _ rfl (HPT.out.alloc _) ⟨w5.heap.size, 0, none⟩ 1 1 [.slice a5 n5 cp5] rfl rfl ?c1 ?c2 ?c3 ?c4 ?c5 ?_)
              case c1 => exact cell_one_new _ _ _
              case c2 => first | rfl | (intro u hu; simp at hu; subst hu; rfl)
              case c3 => unfold maxLen; omega
              case c4 => omega
              case c5 => first | omega | (simp; omega)
              intro v6 w6 hown6 hgrow6 _
              have HO6 := Lib.hid (HPT.out.push HO5.out.is (Nat.le_refl _) hz5 (Nat.le_refl _) hgrow6 hown6)
              have HB6 := Lib.hid (OwnLp.below HB5.out (by omega) _ hgrow6 HPT.out (Nat.le_refl _))
              have HEQ := Lib.hid (show acc2 ++ [r ++ [lo + (j : Int)]] = acc ++ longer r lo (j + 1) by rw [hacc2.out, List.append_assoc, HSJ.out])
              clear hown6 hgrow6
              go_wp2
              go_roundw
              case rel => exact ⟨j + 1, _, by omega, by go_num, HEQ, HO6, HB6⟩
              case measure => simp [intOf]; omega
            · obtain rfl : j = cnt := by omega
              have hle3 : ¬ lo + (j : Int) ≤ hi := by have := HCNT.out; omega
              have hdec3 : decide (lo + (j : Int) ≤ hi) = false := by simpa using hle3
              have HEQ := Lib.hid (hacc2.out.trans HSN.out)
              go_wp2
              go_roundw
              case rel => exact ⟨i + 1, acc2, by omega, by go_num, HEQ, hnx2, hb4⟩
              case measure => simp [intOf]; omega
        · obtain rfl : i = len := by omega
          have HEQ := Lib.hid (show acc = allK lo hi (k + 1) by rw [hacc.out, HLEN.out, List.take_length, HST.out])
          have HO := Lib.hid (hnx.out.lower hwz)
          have HB := Lib.hid (hbe.out.trans (hb3.out.mono hwz))
          go_wp2
          go_roundw
          case rel => exact ⟨k + 1, acc, by omega, by go_num, HEQ, HO, HB⟩
          case measure => simp [intOf]; omega
    · obtain rfl : k = n := by omega
      have HO := Lib.hid hown.out
      rw [hout.out] at HO
      go_wp2
      go_ret
      exact ⟨_, rfl, HO.out, hbe.out⟩
end Go.Proofs.Ytfncikbmdaameaa
