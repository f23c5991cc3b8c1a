/- The adjugate matrix: the program's walk. -/
import Derived.Test.YtehhoplenloocaaMat2
import Derived.Test.YtehhoplenloocaaB4
import Derived.Test.YtehhoplenloocaaB1
namespace Go.Proofs.Ytehhoplenloocaa
open Go.RowKit
set_option linter.unusedVariables false
set_option linter.unusedSimpArgs false

theorem minorK_lenE (m : List (List Int)) (i j : Nat) : ∀ k, (minorK m i j k).length = if i < k then k - 1 else k
  | 0 => by simp [minorK]
  | k + 1 => by
    rw [minorK]
    have ih := minorK_lenE m i j k
    by_cases h : k = i
    · rw [if_pos h, ih, if_neg (by omega), if_pos (by omega)]; omega
    · rw [if_neg h, List.length_append, ih, List.length_singleton]
      by_cases h2 : i < k
      · rw [if_pos h2, if_pos (by omega)]; omega
      · rw [if_neg h2, if_neg (by omega)]
theorem minorK_mem (m : List (List Int)) (i j : Nat) : ∀ k, ∀ r ∈ minorK m i j k, ∃ t, t < k ∧ r = cutAt (m.getD t []) j
  | 0, r, h => by simp [minorK] at h
  | k + 1, r, h => by
    rw [minorK] at h
    split at h
    · obtain ⟨t, ht, e⟩ := minorK_mem m i j k r h; exact ⟨t, by omega, e⟩
    · rcases List.mem_append.1 h with h | h
      · obtain ⟨t, ht, e⟩ := minorK_mem m i j k r h; exact ⟨t, by omega, e⟩
      · simp at h; exact ⟨k, by omega, by rw [h, List.getD_eq_getElem?_getD]⟩
theorem SqB.minorG {n : Nat} {m : List (List Int)} (h : SqB (n + 1) m) {i j : Nat} (hi : i < n + 1) (hj : j < n + 1) : SqB n (minorL m i j) := by
  have hl : (minorL m i j).length = n := by unfold minorL; rw [minorK_lenE, h.len, if_pos hi]; omega
  refine ⟨hl, fun k hk => ?_⟩
  have hm : (minorL m i j).getD k [] ∈ minorL m i j := by rw [List.getD_eq_getElem?_getD, List.getElem?_eq_getElem (by omega)]; exact List.getElem_mem _
  obtain ⟨t, ht, e⟩ := minorK_mem m i j m.length _ hm
  rw [e]
  rw [h.len] at ht
  obtain ⟨h1, h2⟩ := h.row t ht
  exact ⟨by rw [cutAt_len (by omega), h1]; omega, cutAt_in h2⟩
/-- the minor with its sign -/
def adjE (n : Nat) (m : List (List Int)) (i j : Nat) : Int := if (i + j) % 2 = 1 then -(detF (n - 1) (minorL m j i)) else detF (n - 1) (minorL m j i)
def adjRow (n : Nat) (m : List (List Int)) (i : Nat) : List Int := (List.range n).map (adjE n m i)
def adjM (n : Nat) (m : List (List Int)) : List (List Int) := (List.range n).map (adjRow n m)
theorem range_more {α : Type} (f : Nat → α) (j : Nat) : (List.range j).map f ++ [f j] = (List.range (j + 1)).map f := by rw [List.range_succ, List.map_append]; rfl
def adjFn (n : Nat) (m : List (List Int)) (k j : Nat) : Nat → Value := fun c => .int .i64 (if c < j then adjE n m k c else 0)
theorem adjRow_len (n : Nat) (m : List (List Int)) (i : Nat) : (adjRow n m i).length = n := by simp [adjRow]
theorem adjRow_at {n : Nat} {m : List (List Int)} {i j : Nat} (hj : j < n) : (adjRow n m i).getD j 0 = adjE n m i j := by
  unfold adjRow; rw [List.getD_eq_getElem?_getD, List.getElem?_map, List.getElem?_range hj]; rfl
theorem minorDet_bd {n : Nat} {m : List (List Int)} (h : SqB n m) (h1 : 1 ≤ n) (h3 : n ≤ 3) {i j : Nat} (hi : i < n) (hj : j < n) : SqB (n - 1) (minorL m i j) ∧ -20000000000 ≤ detF (n - 1) (minorL m i j) ∧ detF (n - 1) (minorL m i j) ≤ 20000000000 := by
  obtain ⟨n', rfl⟩ : ∃ n', n = n' + 1 := ⟨n - 1, by omega⟩
  rw [show n' + 1 - 1 = n' by omega]
  have hs := h.minorG hi hj
  have hb := detF_bd _ _ hs
  have hd : detB n' ≤ 20000000000 := by
    rcases (show n' = 0 ∨ n' = 1 ∨ n' = 2 by omega) with rfl | rfl | rfl <;> decide
  exact ⟨hs, by omega, by omega⟩

set_option maxRecDepth 100000 in
set_option maxHeartbeats 8000000 in
theorem adjugate_any (ls : List (List Int)) (n : Nat) (v : Value) (hb : Nat) (w : World) (h : ISSr w hb v ls) (hhb : hb ≤ w.heap.size) (hs : SqB n ls) (h1 : 1 ≤ n) (h3 : n ≤ 3) :
    Calls Try.prog 78 #[v] w fun e w' => ∃ u, e = .returned u ∧ OwnL w' w.heap.size u (adjM n ls) ∧ Below w.heap.size w w' := by
  obtain ⟨i0, hi0, hz0, hz1, hz2⟩ := info_parts info_ints
  have HI0 := Lib.hid hi0; clear hi0
  have HZ0 := Lib.hid hz0; clear hz0
  have HZ1 := Lib.hid hz1; clear hz1
  have HZ2 := Lib.hid hz2; clear hz2
  have hmk := run_make_row' (P := Try.prog) 30 3 (.int .i64 0) 8 Try.underlying30 info_int rfl .i64 .i64 n (by omega) (by omega)
  obtain ⟨a, cap, rfl, -, -, -⟩ := id h
  rw [hs.len] at h ⊢
  have H := Lib.hid h
  have HSQ := Lib.hid hs
  have HMI := Lib.hid (fun i j (hi : i < n) (hj : j < n) W (B : Below w.heap.size w W) => minor_any ls i j n (.slice a n cap) hb W (h.keep B hhb) (Nat.le_trans hhb B.size) hs.len.symm (by omega) hi hj (fun k hk => (hs.row k (by rw [hs.len] at hk; exact hk)).1))
  have HMB := Lib.hid (fun i j (hi : i < n) (hj : j < n) => minorDet_bd hs h1 h3 hi hj)
  have HAJ := Lib.hid (fun i j => show adjE n ls i j = if (i + j) % 2 = 1 then -(detF (n - 1) (minorL ls j i)) else detF (n - 1) (minorL ls j i) from rfl)
  clear h hs
  go_enter Try.func78, Try.ntmps78
  go_wp2
  go_loopw [3, 9] (fun ov i wr => ∃ (k : Nat), k ≤ n ∧ i = .int .i64 k ∧ Hid (OwnL wr w.heap.size ov ((List.range k).map (adjRow n ls))) ∧ Hid (Below w.heap.size w wr)) (fun _ i _ => n - (intOf i).toNat)
  case atStart => exact ⟨0, by omega, rfl, OwnL.nil w _ (Nat.le_refl _), Below.refl _ _⟩
  case round =>
    obtain ⟨k, hk, rfl, hown, hbe⟩ := hrel
    by_cases hlt : k < n
    · have hdec : decide ((k : Int) < n) = true := by simp; omega
      obtain ⟨w1, hw1⟩ : ∃ w1, w1 = wr := ⟨_, rfl⟩
      subst hw1
      have hwz := hbe.out.size
      have hnew := BK.of_rowIs (World.rowIs_made w1 (.int .i64 0) n 3)
      have hbel := Lib.hid (below1 w1 (.cells (madeCells #[.int .i64 0] n) 3))
      have HNEW := Lib.hid (hnew.congr (g := adjFn n ls k 0) (fun j _ => by simp [adjFn]))
      clear hnew
      go_wp2
      go_loopw [17] (fun i wr => ∃ (j : Nat), j ≤ n ∧ i = .int .i64 j ∧ Hid (BK wr w1.heap.size 0 n 3 (adjFn n ls k j)) ∧ Hid (Below w1.heap.size w1 wr)) (fun i _ => n - (intOf i).toNat)
      case atStart => exact ⟨0, by omega, rfl, HNEW, hbel⟩
      case round =>
        obtain ⟨j, hj, rfl, hbk, hb1⟩ := hrel
        clear HNEW hmk
        by_cases hjt : j < n
        · have hdec2 : decide ((j : Int) < n) = true := by simp; omega
          have hz1' := hb1.out.size
          have hbw : Below w.heap.size w wr := hbe.out.trans (hb1.out.mono hwz)
          have hrlt := hbk.out.lt
          have MN := HMI.out j k hjt hlt wr hbw
          obtain ⟨hsq, hd1, hd2⟩ := HMB.out j k hjt hlt
          have DT := fun u W (i : ISSr W W.heap.size u (minorL ls j k)) => det_any (n - 1) (by omega) (minorL ls j k) u W.heap.size W i (Nat.le_refl _) hsq
          have HE := Lib.hid (HAJ.out k j)
          have HDT := Lib.hid DT
          clear DT
          generalize detF (n - 1) (minorL ls j k) = t at *
          go_wp2_with fail
          with_reducible refine MN.mono ?_
          rintro e w2 ⟨u, rfl, ku, c2⟩
          have HK := Lib.hid ku.is.read
          have hbk2 := hbk.out.keep c2 hrlt
          have hb2 := below_then hb1.out hb1.out.size c2
          clear ku c2 MN
          go_wp2_with fail
          with_reducible refine (HDT.out u w2 HK.out).mono ?_
          rintro e w3 ⟨rfl, c3⟩
          have hbk3 := hbk2.keep c3 hbk2.lt
          have hb3 := below_then hb2 hb2.size c3
          have q0 := hbk3.cell hjt
          have q1 := hbk3.frozen j
          rw [Nat.zero_add] at q0
          have s1 := hbk3.set hjt (.int .i64 t)
          have sb1 := hb3.setCell (p := ⟨w1.heap.size, 0 + j, none⟩) (Nat.le_refl _) (.int .i64 t)
          rw [Nat.zero_add] at s1 sb1
          have hjn : (j : Int) < (n : Int) := by omega
          have hj0 : (0 : Int) ≤ (j : Int) := by omega
          have hkj := wr64 ((k : Int) + (j : Int)) (by omega)
          have hj7 : ((j : Int)).toNat = j := by omega
          generalize adjFn n ls k j j = y at *
          by_cases hpar : (k + j) % 2 = 1
          · have hp1 : ((k : Int) + (j : Int)) % 2 = 1 := by omega
            have hp2 : ((k : Int) + (j : Int)).tmod 2 = 1 := by rw [Int.tmod_eq_emod_of_nonneg (by omega)]; exact hp1
            have s2 := BK.set (k := j) s1 hjt (.int .i64 (-t))
            have sb2 := sb1.setCell (p := ⟨w1.heap.size, 0 + j, none⟩) (Nat.le_refl _) (.int .i64 (-t))
            rw [Nat.zero_add] at s2 sb2
            have wn := wr64 (-t) (by omega)
            have HS := Lib.hid (s2.congr (g := adjFn n ls k (j + 1)) (fun c hc => by
              show (if c = j then _ else _) = adjFn n ls k (j + 1) c
              unfold adjFn
              by_cases e : c = j
              · subst e; rw [if_pos rfl, if_pos (Nat.lt_succ_self _), HE.out, if_pos hpar]
              · rw [if_neg e]
                show (if c = j then _ else Value.int .i64 (if c < j then adjE n ls k c else 0)) = _
                rw [if_neg e]
                by_cases e2 : c < j
                · rw [if_pos e2, if_pos (by omega)]
                · rw [if_neg e2, if_neg (by omega)]))
            have HSB := Lib.hid sb2
            clear s1 s2 sb1 sb2 hbk2 hbk3 hb2 hb3 c3 hpar
            go_wp2
            go_roundw
            case rel => exact ⟨j + 1, by omega, by go_num, HS, HSB⟩
            case measure => simp [intOf]; omega
          · have hp1 : ((k : Int) + (j : Int)) % 2 = 0 := by omega
            have hp2 : ((k : Int) + (j : Int)).tmod 2 = 0 := by rw [Int.tmod_eq_emod_of_nonneg (by omega)]; exact hp1
            have HS := Lib.hid (s1.congr (g := adjFn n ls k (j + 1)) (fun c hc => by
              show (if c = j then _ else _) = adjFn n ls k (j + 1) c
              unfold adjFn
              by_cases e : c = j
              · subst e; rw [if_pos rfl, if_pos (Nat.lt_succ_self _), HE.out, if_neg hpar]
              · rw [if_neg e]
                by_cases e2 : c < j
                · rw [if_pos e2, if_pos (by omega)]
                · rw [if_neg e2, if_neg (by omega)]))
            have HSB := Lib.hid sb1
            clear s1 sb1 hbk2 hbk3 hb2 hb3 c3 hpar
            go_wp2
            go_roundw
            case rel => exact ⟨j + 1, by omega, by go_num, HS, HSB⟩
            case measure => simp [intOf]; omega
        · obtain rfl : j = n := by omega
          have hz1' := hb1.out.size
          have HIS := Lib.hid (IS.of_BK (l := adjRow j ls k) (lo := w1.heap.size) (hi := wr.heap.size) (cap := j) (b := w1.heap.size) (off := 0) (by
            rw [adjRow_len]
            exact hbk.out.congr fun c hc => by unfold adjFn; rw [if_pos hc, adjRow_at hc]) (by rw [adjRow_len]; exact Nat.le_refl _) (by unfold maxLen; omega) (Nat.le_refl _) hbk.out.lt)
          rw [adjRow_len] at HIS
          obtain ⟨V, p, hpt⟩ := hown.out.part hb1.out
          have HPT := Lib.hid hpt
          have HB2 := Lib.hid (below_then hbe.out hwz hb1.out)
          have HE := Lib.hid (range_more (adjRow j ls) k)
          have hal : ((List.range k).map (adjRow j ls)).length ≤ 3 := by simp; omega
          have HAL := Lib.hid (show ((List.range k).map (adjRow j ls)).length ≤ 3 from hal)
          clear hpt
          generalize (List.range k).map (adjRow j ls) = acc at *
          generalize adjRow j ls k = r at *
          go_wp2_with (at_builtin; refine wpList_append_own _ rfl _ _ 24 rfl w.heap.size 30 i0 (.slice none 0 0) 1 24 Try.underlying24 HI0.out HZ0.out HZ1.out HZ2.out rfl (by decide) _ _ _ rfl (HPT.out.alloc _) ⟨wr.heap.size, 0, none⟩ 1 1 [.slice (some ⟨w1.heap.size, 0, none⟩) j j] rfl rfl ?c1 ?c2 ?c3 ?c4 ?c5 ?_)
          case c1 => exact cell_one_new _ _ _
          case c2 => first | rfl | (intro u hu; simp at hu; subst hu; rfl)
          case c3 => unfold maxLen; omega
          case c4 => omega
          case c5 => first | omega | (simp; omega)
          intro v2 w3 hown2 hgrow _
          have HO := Lib.hid (HPT.out.push HIS.out (Nat.le_refl _) hz1' (Nat.le_refl _) hgrow hown2)
          have HBE := Lib.hid (OwnLp.below HB2.out (by omega) _ hgrow HPT.out (Nat.le_refl _))
          rw [HE.out] at HO
          clear hown2 hgrow
          go_wp2
          go_roundw
          case rel => exact ⟨k + 1, by omega, by go_num, HO, HBE⟩
          case measure => simp [intOf]; omega
    · obtain rfl : k = n := by omega
      clear hmk
      go_wp2
      go_ret
      exact ⟨_, rfl, hown.out, hbe.out⟩
end Go.Proofs.Ytehhoplenloocaa
