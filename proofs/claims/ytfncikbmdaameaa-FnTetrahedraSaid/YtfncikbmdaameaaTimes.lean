/- Points that are stretched in place. -/
import Derived.Test.YtfncikbmdaameaaPlace
import Derived.Test.YtfncikbmdaameaaB4
namespace Go.Proofs.Ytfncikbmdaameaa
open Go.RowKit
set_option linter.unusedVariables false
set_option linter.unusedSimpArgs false

def scaleTo (r : List Int) (t : Int) (j : Nat) : List Int := (r.take j).map (· * t) ++ r.drop j
theorem scaleTo_len (r : List Int) (t : Int) (j : Nat) : (scaleTo r t j).length = r.length := by
  unfold scaleTo; rw [List.length_append, List.length_map, List.length_take, List.length_drop]; omega
theorem scaleTo_zero (r : List Int) (t : Int) : scaleTo r t 0 = r := by simp [scaleTo]
theorem scaleTo_full (r : List Int) (t : Int) : scaleTo r t r.length = r.map (· * t) := by simp [scaleTo]
theorem scaleTo_at (r : List Int) (t : Int) (j : Nat) (h : j < r.length) : (scaleTo r t j).getD j 0 = r.getD j 0 := by
  unfold scaleTo
  rw [List.getD_eq_getElem?_getD, List.getElem?_append_right (by rw [List.length_map, List.length_take]; omega), List.length_map, List.length_take, Nat.min_eq_left (by omega), Nat.sub_self, List.getElem?_drop, Nat.add_zero, ← List.getD_eq_getElem?_getD]
theorem scaleTo_set (r : List Int) (t : Int) (j : Nat) (h : j < r.length) : (scaleTo r t j).set j (r.getD j 0 * t) = scaleTo r t (j + 1) := by
  unfold scaleTo
  rw [List.set_append_right _ _ (by rw [List.length_map, List.length_take]; omega), List.length_map, List.length_take, Nat.min_eq_left (by omega), Nat.sub_self]
  rw [List.take_succ_eq_append_getElem h, List.map_append, List.append_assoc]
  congr 1
  rw [List.drop_eq_getElem_cons h, List.getD_eq_getElem?_getD, List.getElem?_eq_getElem h]
  rfl
def timesL (ls : List (List Int)) (t : Int) : List (List Int) := ls.map fun r => r.map (· * t)
def curT (ls : List (List Int)) (t : Int) (k j : Nat) : Nat → List Int := fun i => if i < k then (ls.getD i []).map (· * t) else if i = k then scaleTo (ls.getD i []) t j else ls.getD i []
theorem curT_end (ls : List (List Int)) (t : Int) : (List.range ls.length).map (curT ls t ls.length 0) = timesL ls t := by
  apply List.ext_getElem
  · simp [timesL]
  · intro i h1 h2
    simp at h1
    simp [timesL, curT, h1]

set_option maxHeartbeats 4000000 in
theorem times_any (ls : List (List Int)) (t : Int) (v : Value) (hb : Nat) (w : World) (h : ISSr w hb v ls) (hhb : hb ≤ w.heap.size) (hl : ls.length ≤ 100000) (hpos : 0 < ls.length) (hr : ∀ i, i < ls.length → (ls.getD i []).length = 3 ∧ ∀ j, j < 3 → -9223372036854775808 ≤ (ls.getD i []).getD j 0 * t ∧ (ls.getD i []).getD j 0 * t ≤ 9223372036854775807) :
    Calls Try.prog 156 #[v, .int .i64 t] w fun e w' => ∃ u, e = .returned u ∧ ISS w' w.heap.size w'.heap.size u (timesL ls t) ∧ Below w.heap.size w w' := by
  have CP := copyPoints_any ls v hb w h hhb hl (fun i hi => by rw [(hr i hi).1]; omega)
  obtain ⟨av, cv, rfl, -⟩ := id h
  have HR := Lib.hid hr; clear hr h
  obtain ⟨n, hn⟩ : ∃ n, n = ls.length := ⟨_, rfl⟩
  rw [← hn] at hpos HR hl CP ⊢
  have HN := Lib.hid hn; clear hn
  have HEND := Lib.hid (curT_end ls t)
  go_enter Try.func156, Try.ntmps156
  go_wp2_with fail
  refine CP.mono ?_
  rintro e w1 ⟨u, rfl, ku, c1⟩
  have hsz := c1.size
  have B1 := Lib.hid c1
  obtain ⟨b, off, cap, V, rfl, hlo, hhi, hnc, hcm, hrw⟩ := RowsW.of ku.is (by rw [← HN.out]; exact hpos)
  rw [← HN.out] at hnc hrw ⊢
  have HRW := Lib.hid hrw
  clear ku c1 CP hrw
  go_wp2
  go_loopw [7, 8, 13] (fun _ _ i wr => ∃ (k : Nat), k ≤ n ∧ i = .int .i64 k ∧ Hid (RowsW wr w.heap.size w1.heap.size b off n V (curT ls t k 0)) ∧ Hid (Only w.heap.size w1.heap.size w1 wr)) (fun _ _ i _ => n - (intOf i).toNat)
  case atStart => exact ⟨0, by omega, rfl, Lib.hid (HRW.out.congr fun i hi => by unfold curT; rw [if_neg (Nat.not_lt_zero _)]; split <;> simp [scaleTo_zero]), Only.refl _ _ _⟩
  case round =>
    obtain ⟨k, hk, rfl, hrw, hon⟩ := hrel
    by_cases hlt : k < n
    · have hck := hrw.out.outer.cell hlt
      obtain ⟨h3, hpr⟩ := HR.out k hlt
      have hcur : curT ls t k 0 k = ls.getD k [] := by unfold curT; rw [if_neg (Nat.lt_irrefl _), if_pos rfl, scaleTo_zero]
      obtain ⟨br, or', cr, hV, g1, g2, g3, g4⟩ := hrw.out.at hlt (by rw [hcur, h3]; omega)
      rw [hcur, h3] at hV
      have HPR := Lib.hid hpr
      have H3 := Lib.hid h3
      have HVV := Lib.hid hV
      rw [hV] at hck
      clear h3 hpr hcur g4 hV
      go_wp2
      go_loopw [8, 19] (fun _ i wr2 => ∃ (j : Nat), j ≤ 3 ∧ i = .int .i64 j ∧ Hid (RowsW wr2 w.heap.size w1.heap.size b off n V (curT ls t k j)) ∧ Hid (Only w.heap.size w1.heap.size w1 wr2)) (fun _ i _ => 3 - (intOf i).toNat)
      case atStart => exact ⟨0, by omega, rfl, hrw, hon⟩
      case round =>
        obtain ⟨j, hj, rfl, hrw2, hon2⟩ := hrel
        by_cases hjt : j < 3
        · have hcur : curT ls t k j k = scaleTo (ls.getD k []) t j := by unfold curT; rw [if_neg (Nat.lt_irrefl _), if_pos rfl]
          have hjl : j < (ls.getD k []).length := by rw [H3.out]; exact hjt
          obtain ⟨s1, s2, s3, s4⟩ := hrw2.out.set hlt HVV.out (c := j) (by rw [hcur, scaleTo_len]; exact hjl) ((ls.getD k []).getD j 0 * t)
          have HS1 := Lib.hid (s1.congr (cur' := curT ls t k (j + 1)) fun i hi => by
            by_cases e : i = k
            · subst e; rw [if_pos rfl, hcur, scaleTo_set _ _ _ hjl]; unfold curT; rw [if_neg (Nat.lt_irrefl _), if_pos rfl]
            · rw [if_neg e]; unfold curT; rw [if_neg e, if_neg e])
          have HS2 := Lib.hid (hon2.out.trans s2)
          rw [hcur, scaleTo_at _ _ _ hjl] at s3
          have hw := wr64 _ (HPR.out j hjt)
          clear s1 s2 hcur hjl
          generalize (ls.getD k []).getD j 0 = x at *
          go_wp2
          go_roundw
          case rel => exact ⟨j + 1, by omega, by go_num, HS1, HS2⟩
          case measure => simp [intOf]; omega
        · obtain rfl : j = 3 := by omega
          have HNX := Lib.hid (hrw2.out.congr (cur' := curT ls t (k + 1) 0) fun i hi => by
            unfold curT
            by_cases e : i = k
            · subst e; rw [if_neg (Nat.lt_irrefl _), if_pos rfl, if_pos (Nat.lt_succ_self _), ← H3.out, scaleTo_full]
            · by_cases e2 : i < k
              · rw [if_pos e2, if_pos (by omega)]
              · rw [if_neg e2, if_neg e, if_neg (by omega)]
                split <;> simp [scaleTo_zero])
          go_wp2
          go_roundw
          case rel => exact ⟨k + 1, by omega, by go_num, HNX, hon2⟩
          case measure => simp [intOf]; omega
    · obtain rfl : k = n := by omega
      have hsz2 := hon.out.size
      have HI := Lib.hid ((hrw.out.iss hnc hcm hlo hhi).mono (Nat.le_refl _) hsz2)
      rw [show (List.range k).map (curT ls t k 0) = timesL ls t by rw [HN.out]; exact HEND.out] at HI
      have HBB := Lib.hid (B1.out.trans (hon.out.below hsz))
      go_wp2
      go_ret
      exact ⟨_, rfl, HI.out, HBB.out⟩
end Go.Proofs.Ytfncikbmdaameaa
