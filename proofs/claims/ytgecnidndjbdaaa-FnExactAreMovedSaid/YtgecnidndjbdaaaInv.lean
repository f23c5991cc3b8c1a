/- The inverse matrix: the program's walk. -/
import Derived.Test.YtgecnidndjbdaaaAdj
import Derived.Test.YtgecnidndjbdaaaPlace
import Derived.Deep.RegionWith
namespace Go.Proofs.Ytgecnidndjbdaaa
open Go.RowKit
set_option linter.unusedVariables false
set_option linter.unusedSimpArgs false

def invRow (m : List (List Int)) (i : Nat) : List Int := (List.range m.length).map fun j => adjE m.length m i j * detM m
def invM (m : List (List Int)) : List (List Int) := (List.range m.length).map (invRow m)
def invV (m : List (List Int)) : List (List Int) × Bool := if uniB m && matB (invM m) then (invM m, true) else ([], false)
theorem invV_no1 {m : List (List Int)} (h : uniB m = false) : invV m = ([], false) := by unfold invV; rw [h]; rfl
theorem invV_no2 {m : List (List Int)} (h : matB (invM m) = false) : invV m = ([], false) := by unfold invV; rw [h]; simp
theorem invV_yes {m : List (List Int)} (h1 : uniB m = true) (h2 : matB (invM m) = true) : invV m = (invM m, true) := by unfold invV; rw [h1, h2]; rfl
theorem uniB_mat {m : List (List Int)} (h : uniB m = true) : matB m = true ∧ (detM m = 1 ∨ detM m = -1) := by
  cases hm : matB m
  · unfold uniB at h; rw [detO_no hm] at h; simp at h
  · unfold uniB at h; rw [detO_yes hm] at h; simp at h; exact ⟨rfl, by omega⟩
def mixRow (m : List (List Int)) (k j : Nat) : List Int := (List.range m.length).map fun c => if c < j then adjE m.length m k c * detM m else adjE m.length m k c
def curI (m : List (List Int)) (k j : Nat) : Nat → List Int := fun i => if i < k then invRow m i else if i = k then mixRow m k j else adjRow m.length m i
theorem mixRow_len (m : List (List Int)) (k j : Nat) : (mixRow m k j).length = m.length := by simp [mixRow]
theorem mixRow_zero (m : List (List Int)) (k : Nat) : mixRow m k 0 = adjRow m.length m k := by simp [mixRow, adjRow]
theorem mixRow_full (m : List (List Int)) (k : Nat) : mixRow m k m.length = invRow m k := by
  unfold mixRow invRow
  exact List.map_congr_left fun c hc => by rw [if_pos (List.mem_range.1 hc)]
theorem mixRow_at {m : List (List Int)} {k j : Nat} (hj : j < m.length) : (mixRow m k j).getD j 0 = adjE m.length m k j := by
  unfold mixRow; rw [List.getD_eq_getElem?_getD, List.getElem?_map, List.getElem?_range hj]; simp
theorem mixRow_set {m : List (List Int)} {k j : Nat} (hj : j < m.length) : (mixRow m k j).set j (adjE m.length m k j * detM m) = mixRow m k (j + 1) := by
  apply List.ext_getElem?
  intro c
  rw [List.getElem?_set]
  unfold mixRow
  rw [List.length_map, List.length_range, List.getElem?_map, List.getElem?_map]
  by_cases e : j = c
  · subst e
    rw [if_pos rfl, if_pos hj, List.getElem?_range hj]
    simp
  · rw [if_neg e]
    by_cases hc : c < m.length
    · rw [List.getElem?_range hc]
      show some (if c < j then _ else _) = some (if c < j + 1 then _ else _)
      by_cases e2 : c < j
      · rw [if_pos e2, if_pos (by omega)]
      · rw [if_neg e2, if_neg (by omega)]
    · rw [List.getElem?_eq_none (by simp; omega)]; rfl
theorem adjE_bd {m : List (List Int)} (h : matB m = true) {i j : Nat} (hi : i < m.length) (hj : j < m.length) : -20000000000 ≤ adjE m.length m i j ∧ adjE m.length m i j ≤ 20000000000 := by
  have := (minorDet_bd (matB_sq h) (matB_len h).1 (matB_len h).2 hj hi).2
  unfold adjE; split <;> omega
theorem RowsW.keep {w w' : World} {lo hi b off n B : Nat} {V : Nat → Value} {cur : Nat → List Int} (h : RowsW w lo hi b off n V cur) (hb : Below B w w') (hh : hi ≤ B) (hbB : b < B) : RowsW w' lo hi b off n V cur :=
  ⟨h.outer.keep hb hbB, fun i hi => (h.row i hi).keep hb hh, h.apart⟩

set_option maxHeartbeats 1000000 in
theorem matrixOf_any (m : List (List Int)) (v : Value) (hb : Nat) (w : World) (h : ISSr w hb v m) :
    Calls Try.prog 87 #[v] w fun e w' => e = .returned (.tuple #[if matB m then v else .slice none 0 0, .bool (matB m)]) ∧ w = w' := by
  have IM := implIsMatrix_any m v hb w h
  obtain ⟨a, cap, rfl, -⟩ := id h
  generalize m.length = n at *
  cases hm : matB m
  all_goals
    rw [hm] at IM
    clear h hm
    go_enter Try.func87, Try.ntmps87
    go_wp2_with (go_at_call 115; (with_reducible refine IM.mono ?_); rintro e w1 ⟨rfl, rfl⟩)
    go_ret2
    exact ⟨rfl, rfl⟩
set_option maxRecDepth 100000 in
set_option maxHeartbeats 8000000 in
theorem implInverse_any (m : List (List Int)) (v : Value) (hb : Nat) (w : World) (h : ISSr w hb v m) (hhb : hb ≤ w.heap.size) :
    Calls Try.prog 44 #[v] w fun e w' => ∃ u, e = .returned (.tuple #[u, .bool (invV m).2]) ∧ ISS w' w.heap.size w'.heap.size u (invV m).1 ∧ Below w.heap.size w w' := by
  have IU := implIsUni_any m v hb w h hhb
  cases hu : uniB m
  case false =>
    rw [invV_no1 hu]
    rw [hu] at IU
    clear h hu
    go_enter Try.func44, Try.ntmps44
    go_wp2_with (go_at_call 38; (with_reducible refine IU.mono ?_); rintro e w1 ⟨rfl, c1⟩)
    go_ret2
    exact ⟨_, rfl, ISS.nil _ _ _, c1⟩
  rw [hu] at IU
  obtain ⟨hm, hd⟩ := uniB_mat hu
  obtain ⟨h1, h3⟩ := matB_len hm
  have AD := fun W (B : Below w.heap.size w W) => adjugate_any m m.length v hb W (h.keep B hhb) (Nat.le_trans hhb B.size) (matB_sq hm) h1 h3
  have DO := Lib.hid (fun W (B : Below w.heap.size w W) => implDetOf_any m v hb W (h.keep B hhb) (Nat.le_trans hhb B.size))
  rw [detO_yes hm] at DO
  have HV := Lib.hid (fun e => invV_no2 (m := m) e)
  have HY := Lib.hid (fun e => invV_yes hu (m := m) e)
  have HAB := Lib.hid (fun i j (hi : i < m.length) (hj : j < m.length) => adjE_bd hm hi hj)
  have HEND := Lib.hid (show (List.range m.length).map (curI m m.length 0) = invM m from List.map_congr_left fun i hi => by unfold curI; rw [if_pos (List.mem_range.1 hi)])
  have HCUR := Lib.hid (show ∀ k i, curI m k m.length i = curI m (k + 1) 0 i from fun k i => by
    unfold curI
    by_cases e : i = k
    · subst e; rw [if_neg (Nat.lt_irrefl _), if_pos rfl, if_pos (Nat.lt_succ_self _), mixRow_full]
    · by_cases e2 : i < k
      · rw [if_pos e2, if_pos (by omega)]
      · rw [if_neg e2, if_neg e, if_neg (by omega)]
        split
        · rename_i e3; rw [e3, mixRow_zero]
        · rfl)
  have HAL := Lib.hid (show (adjM m.length m).length = m.length by simp [adjM])
  have HAG := Lib.hid (show ∀ i, i < m.length → (adjM m.length m).getD i [] = curI m 0 0 i from fun i hi => by
    unfold adjM curI
    rw [List.getD_eq_getElem?_getD, List.getElem?_map, List.getElem?_range hi, if_neg (Nat.not_lt_zero _)]
    show adjRow m.length m i = _
    split
    · rename_i e; rw [e, mixRow_zero]
    · rfl)
  have HML := Lib.hid (fun k j => mixRow_len m k j)
  have HMA := Lib.hid (fun k j (hj : j < m.length) => mixRow_at (m := m) (k := k) hj)
  have HMS := Lib.hid (fun k j (hj : j < m.length) => mixRow_set (m := m) (k := k) hj)
  obtain ⟨a, cap, rfl, -⟩ := id h
  obtain ⟨n, hn⟩ : ∃ n, n = m.length := ⟨_, rfl⟩
  obtain ⟨dt, hdt⟩ : ∃ dt, dt = detM m := ⟨_, rfl⟩
  rw [← hdt] at DO hd HMS
  rw [← hn] at h1 h3 AD DO IU HAB HEND HCUR HAL HAG HML HMA HMS ⊢
  clear h hu hm hn hdt
  go_enter Try.func44, Try.ntmps44
  go_wp2_with (go_at_call 38; (with_reducible refine IU.mono ?_); rintro e w1 ⟨rfl, c1⟩)
  have C1 := Lib.hid c1
  have A1 := AD w1 c1
  clear IU AD c1
  go_wp2_with fail
  with_reducible refine A1.mono ?_
  rintro e w2 ⟨u, rfl, ku, c2⟩
  obtain ⟨b, off, cp, V, rfl, hlo, hhi, hnc, hcm, hrw⟩ := RowsW.of ku.is (by rw [HAL.out]; omega)
  have B2 := Lib.hid (below_then C1.out C1.out.size c2)
  have hz12 := c2.size
  have hz1 := C1.out.size
  rw [HAL.out] at hnc hrw ⊢
  have HRW := Lib.hid (hrw.congr (cur' := curI m 0 0) fun i hi => HAG.out i hi)
  clear ku c2 A1 hrw
  go_wp2
  go_loopw [6, 15] (fun _ i wr => ∃ (k : Nat), k ≤ n ∧ i = .int .i64 k ∧ Hid (RowsW wr w1.heap.size w2.heap.size b off n V (curI m k 0)) ∧ Hid (Below w.heap.size w wr) ∧ Hid (w2.heap.size ≤ wr.heap.size)) (fun _ i _ => n - (intOf i).toNat)
  case atStart => exact ⟨0, by omega, rfl, HRW, B2, Lib.hid (Nat.le_refl _)⟩
  case round =>
    obtain ⟨k, hk, rfl, hrw, hbe, hsz⟩ := hrel
    by_cases hlt : k < n
    · have hck := hrw.out.outer.cell hlt
      have hcur : curI m k 0 k = mixRow m k 0 := by unfold curI; rw [if_neg (Nat.lt_irrefl _), if_pos rfl]
      obtain ⟨br, or', cr, hV, g1, g2, g3, g4⟩ := hrw.out.at hlt (by rw [hcur, HML.out]; omega)
      rw [hcur, HML.out] at hV
      have HVV := Lib.hid hV
      rw [hV] at hck
      have hdec : decide ((k : Int) < n) = true := by simp; omega
      clear hcur g4 hV
      obtain ⟨wy, hwy⟩ : ∃ wy, wy = wr := ⟨_, rfl⟩
      subst hwy
      go_wp2
      go_loopw [7, 21] (fun _ i wr2 => ∃ (j : Nat), j ≤ n ∧ i = .int .i64 j ∧ Hid (RowsW wr2 w1.heap.size w2.heap.size b off n V (curI m k j)) ∧ Hid (Below w.heap.size w wr2) ∧ Hid (w2.heap.size ≤ wr2.heap.size)) (fun _ i _ => n - (intOf i).toNat)
      case atStart => exact ⟨0, by omega, rfl, hrw, hbe, hsz⟩
      case round =>
        obtain ⟨j, hj, rfl, hrw2, hbe2, hsz2⟩ := hrel
        clear hrw hck
        by_cases hjt : j < n
        · have hcur : curI m k j k = mixRow m k j := by unfold curI; rw [if_neg (Nat.lt_irrefl _), if_pos rfl]
          have hjl : j < (curI m k j k).length := by rw [hcur, HML.out]; exact hjt
          have hab := HAB.out k j hlt hjt
          have hmul : -20000000000 ≤ adjE n m k j * dt ∧ adjE n m k j * dt ≤ 20000000000 := by
            rcases hd with e | e <;> rw [e] <;> omega
          have hzz := hsz2.out
          have HSET := Lib.hid (show ∀ W, Below wr.heap.size wr W → RowsW (W.setCell ⟨br, or' + j, none⟩ (.int .i64 (adjE n m k j * dt))) w1.heap.size w2.heap.size b off n V (curI m k (j + 1)) ∧ W.cell? ⟨br, or' + j, none⟩ = some (.int .i64 (adjE n m k j)) ∧ W.frozen? ⟨br, or' + j, none⟩ = false from fun W B => by
            obtain ⟨s1, s2, s3, s4⟩ := (hrw2.out.keep B (by omega) (by omega)).set hlt HVV.out (c := j) hjl (adjE n m k j * dt)
            refine ⟨s1.congr fun i hi => ?_, ?_, s4⟩
            · by_cases e : i = k
              · subst e; rw [if_pos rfl, hcur, HMS.out i j hjt]; unfold curI; rw [if_neg (Nat.lt_irrefl _), if_pos rfl]
              · rw [if_neg e]; unfold curI; rw [if_neg e, if_neg e]
            · rw [s3, hcur, HMA.out k j hjt])
          have hf := wr64 _ (show _ from ⟨Int.le_trans (by decide) hmul.1, Int.le_trans hmul.2 (by decide)⟩)
          obtain ⟨-, q0, q1⟩ := HSET.out wr (Below.refl _ _)
          have Dd := Lib.hid (hbe2.out.trans (below_draws w.heap.size wr 1))
          have D1 := DO.out wr.drew Dd.out
          have hjn : (j : Int) < (n : Int) := by omega
          have hj0 : (0 : Int) ≤ (j : Int) := by omega
          have hjt0 : ((j : Int)).toNat = j := by omega
          clear hmul hcur hjl
          generalize adjE n m k j = x at *
          go_wp2_with fail
          go_region_with ((go_at_call 81; (with_reducible refine D1.mono ?_); rintro e w5 ⟨rfl, c5⟩; have c5' : Below wr.heap.size wr w5 := (below_draws _ _ 1).trans c5; obtain ⟨r5, p5, f5⟩ := HSET.out w5 c5'))
          all_goals
            have hzw := c5'.size
            go_wp2
            go_roundw
            case rel => exact ⟨j + 1, by omega, by go_num, Lib.hid r5, Lib.hid ((below_then Dd.out Dd.out.size c5).setCell (show w.heap.size ≤ br by omega) _), Lib.hid (by first | (rw [World.size_setCell]; omega) | (show _ ≤ (World.setCell _ _ _).heap.size; simp; omega))⟩
            case measure => simp [intOf]; omega
        · obtain rfl : j = n := by omega
          have R2 := Lib.hid (hrw2.out.congr (cur' := curI m (k + 1) 0) fun i _ => HCUR.out k i)
          clear hrw2
          go_wp2
          go_roundw
          case rel => exact ⟨k + 1, by omega, by go_num, R2, hbe2, hsz2⟩
          case measure => simp [intOf]; omega
    · obtain rfl : k = n := by omega
      have hzz := hsz.out
      have hs0 := hrw.out.iss hnc hcm hlo hhi
      rw [HEND.out] at hs0
      have MO := matrixOf_any (invM m) _ _ wr hs0.read
      have HSS := Lib.hid hs0
      have hz1 := C1.out.size
      clear hs0 hrw HRW
      cases hmb : matB (invM m)
      · have HVV := Lib.hid (HV.out hmb)
        rw [hmb] at MO
        clear HV HY hmb
        go_wp2_with (go_at_call 87; (with_reducible refine MO.mono ?_); rintro e w7 ⟨rfl, rfl⟩)
        go_ret2
        rw [HVV.out]
        exact ⟨_, rfl, ISS.nil _ _ _, hbe.out⟩
      · have HVV := Lib.hid (HY.out hmb)
        rw [hmb] at MO
        clear HV HY hmb
        go_wp2_with (go_at_call 87; (with_reducible refine MO.mono ?_); rintro e w7 ⟨rfl, rfl⟩)
        go_ret2
        rw [HVV.out]
        exact ⟨_, rfl, HSS.out.mono (by omega) (by omega), hbe.out⟩
end Go.Proofs.Ytgecnidndjbdaaa
