/- Terms that are drawn. -/
import Derived.Test.YtehhoplenloocaaB8
import Derived.Test.YtehhoplenloocaaB17
import Derived.Test.YtehhoplenloocaaB7
import Derived.Deep.AppendLies
namespace Go.Proofs.Ytehhoplenloocaa
open Go.RowKit
set_option linter.unusedVariables false
set_option linter.unusedSimpArgs false

/-- block n is a term's box -/
def TB (w : World) (n : Nat) (s : Int) (x y : Value) : Prop := w.heap[n]? = some (.cells #[.int .i64 s, x, y] 50 (0, 0))
theorem TB.lt {w : World} {n : Nat} {s : Int} {x y : Value} (h : TB w n s x y) : n < w.heap.size := by
  rcases Nat.lt_or_ge n w.heap.size with h' | h'
  · exact h'
  · unfold TB at h; rw [Array.getElem?_eq_none h'] at h; cases h
theorem TB.c0 {w : World} {n : Nat} {s : Int} {x y : Value} (h : TB w n s x y) : w.cell? ⟨n, 0, none⟩ = some (.int .i64 s) := by unfold TB at h; simp [World.cell?, h]
theorem TB.c1 {w : World} {n : Nat} {s : Int} {x y : Value} (h : TB w n s x y) : w.cell? ⟨n, 1, none⟩ = some x := by unfold TB at h; simp [World.cell?, h]
theorem TB.c2 {w : World} {n : Nat} {s : Int} {x y : Value} (h : TB w n s x y) : w.cell? ⟨n, 2, none⟩ = some y := by unfold TB at h; simp [World.cell?, h]
theorem TB.fr {w : World} {n : Nat} {s : Int} {x y : Value} (h : TB w n s x y) (i : Nat) : w.frozen? ⟨n, i, none⟩ = false := blk_frozen h i
theorem TB.cur {w w' : World} {n p : Nat} {s : Int} {x y : Value} (h : TB w n s x y) (hg : w.grownBy w' (some p)) (hp : n ≠ p) : TB w' n s x y :=
  (hg.block n h.lt (by intro e; injection e with e; exact hp e)).trans h
theorem TB.below {w w' : World} {n : Nat} {s : Int} {x y : Value} (h : TB w n s x y) (hb : Below w.heap.size w w') : TB w' n s x y := (hb.block n h.lt).trans h
theorem TB.belowB {w w' : World} {n B : Nat} {s : Int} {x y : Value} (h : TB w n s x y) (hb : Below B w w') (hn : n < B) : TB w' n s x y := (hb.block n hn).trans h
theorem TB.new (w : World) (s : Int) (x y : Value) : TB (w.alloc (.cells #[.int .i64 s, x, y] 50)) w.heap.size s x y := heap_alloc_new w _
theorem TB.set0 {w : World} {n : Nat} {s : Int} {x y : Value} (h : TB w n s x y) (u : Int) : TB (w.setCell ⟨n, 0, none⟩ (.int .i64 u)) n u x y := by
  unfold TB at *; simp [World.setCell, Array.getElem?_modify, h]
theorem TB.set1 {w : World} {n : Nat} {s : Int} {x y : Value} (h : TB w n s x y) (u : Value) : TB (w.setCell ⟨n, 1, none⟩ u) n s u y := by
  unfold TB at *; simp [World.setCell, Array.getElem?_modify, h]
theorem TB.set2 {w : World} {n : Nat} {s : Int} {x y : Value} (h : TB w n s x y) (u : Value) : TB (w.setCell ⟨n, 2, none⟩ u) n s x u := by
  unfold TB at *; simp [World.setCell, Array.getElem?_modify, h]
theorem TB.other {w : World} {n m i : Nat} {s : Int} {x y : Value} (h : TB w n s x y) (hm : m ≠ n) (u : Value) : TB (w.setCell ⟨m, i, none⟩ u) n s x y := by
  unfold TB at *
  rw [Below.heap_setCell _ _ _ _ (fun e => hm e.symm)]; exact h
theorem below_set3 (w : World) (n : Nat) (x y z : Value) : Below n w (((w.setCell ⟨n, 0, none⟩ x).setCell ⟨n, 1, none⟩ y).setCell ⟨n, 2, none⟩ z) :=
  (((Below.refl n w).setCell (p := ⟨n, 0, none⟩) (Nat.le_refl _) x).setCell (p := ⟨n, 1, none⟩) (Nat.le_refl _) y).setCell (p := ⟨n, 2, none⟩) (Nat.le_refl _) z
def ISSu (w : World) (lo : Nat) (v : Value) (l : List (List Int)) : Prop := ISS w lo w.heap.size v l
/-- small rows -/
def rows3 (G : List (List Int)) : Prop := G.length ≤ 2 ∧ ∀ i, i < G.length → (G.getD i []).length = 2 ∧ allIn (G.getD i []) (-3) 3 = true

set_option maxRecDepth 100000 in
set_option maxHeartbeats 8000000 in
theorem l10Term_any (p hb : Nat) (w : World) (h : Cur w p hb) :
    Calls Try.prog 110 #[curP p] w fun e w' => ∃ s u1 u2 U G, e = .returned (.agg #[.int .i64 s, u1, u2]) ∧ (-1 ≤ s ∧ s ≤ 2) ∧ (U.length = 2 ∧ allIn U (-3) 3 = true ∧ rows3 G) ∧ (∃ m, w.heap.size ≤ m ∧ m ≤ w'.heap.size ∧ IS w' w.heap.size m u1 U ∧ ISS w' m w'.heap.size u2 G) ∧ Cur w' p hb ∧ w.grownBy w' (some p) := by
  obtain ⟨i0, hi0, hz0, hz1, hz2⟩ := info_parts info_ints
  have HI0 := Lib.hid hi0; clear hi0
  have HZ0 := Lib.hid hz0; clear hz0
  have HZ1 := Lib.hid hz1; clear hz1
  have HZ2 := Lib.hid hz2; clear hz2
  have hp := h.lt
  have HC0 := Lib.hid (h.below (below1 w (.cells #[.int .i64 0, .slice none 0 0, .slice none 0 0] 50)) hp)
  have HG0 := Lib.hid (grown_alloc (World.grownBy.refl w (some p)) (.cells #[.int .i64 0, .slice none 0 0, .slice none 0 0] 50))
  have S0 := Lib.hid (TB.new w 0 (.slice none 0 0) (.slice none 0 0))
  have hnp : w.heap.size ≠ p := by omega
  have BB := l1Once_any p hb 3 _ HC0.out (by omega) (by omega)
  clear h
  unfold curP at *
  go_enter Try.func110, Try.ntmps110
  go_wp2_with fail
  refine BB.mono ?_
  clear BB
  rintro e w1 ⟨bb, rfl, hc, hg⟩
  have S1 := Lib.hid (S0.out.cur hg hnp)
  have HC1 := Lib.hid hc
  have HG1 := Lib.hid (grown_trans HG0.out hg)
  clear hc hg S0 HC0 HG0
  have LB := fun W => l1Bit_any bb W
  obtain ⟨nb, hnb1, hnb2⟩ : ∃ nb : Int, bitI bb = nb ∧ 0 ≤ nb ∧ nb ≤ 1 := ⟨bitI bb, rfl, by unfold bitI; split <;> omega⟩
  rw [hnb1] at LB
  clear hnb1
  have BB := l2DrawI_any p hb 2 3 w1 HC1.out (by omega) (by omega)
  unfold curP at BB
  go_wp2_with (go_at_call 126; (with_reducible refine (LB _).mono ?_); rintro e w' ⟨rfl, rfl⟩)
  refine BB.mono ?_
  clear BB LB
  rintro e w2 ⟨u2, U, rfl, ho, hl, ha, hc, hg⟩
  have hw1 : w.heap.size + 1 ≤ w1.heap.size := S1.out.lt
  have I2 := Lib.hid (show ISu w2 (w.heap.size + 1) u2 U from ho.is.mono hw1 (Nat.le_refl _))
  have S2 := Lib.hid (S1.out.cur hg hnp)
  have HC2 := Lib.hid hc
  have HG2 := Lib.hid (grown_trans HG1.out hg)
  have HU := Lib.hid (show U.length = 2 ∧ allIn U (-3) 3 = true from ⟨by omega, ha⟩)
  obtain ⟨a2, c2, rfl⟩ := I2.out.form
  clear ho hl ha hc hg S1 HC1 HG1
  obtain ⟨s, hs⟩ : ∃ s : Int, 1 - 2 * nb = s := ⟨_, rfl⟩
  have hsb : -1 ≤ s ∧ s ≤ 2 := by omega
  have cA := below1 w2 (.cells #[.int .i64 s, .slice a2 U.length c2, .slice none 0 0] 50)
  have hn3 : w.heap.size < w2.heap.size := S2.out.lt
  have hn3p : w2.heap.size ≠ p := by omega
  have I3 := Lib.hid (show IS _ _ w2.heap.size _ _ from IS.keep I2.out cA (Nat.le_refl _))
  have S3 := Lib.hid (S2.out.below cA)
  have X3 := Lib.hid (TB.new w2 s (.slice a2 U.length c2) (.slice none 0 0))
  have HC3 := Lib.hid (HC2.out.below cA HC2.out.lt)
  have HG3 := Lib.hid (grown_then HG2.out (cA.mono (by omega)))
  have O3 := Lib.hid (OwnL.nil (w2.alloc (.cells #[.int .i64 s, .slice a2 U.length c2, .slice none 0 0] 50)) (w2.heap.size + 1) (by simp))
  have hz3 : (w2.alloc (.cells #[.int .i64 s, .slice a2 U.length c2, .slice none 0 0] 50)).heap.size = w2.heap.size + 1 := by simp
  clear cA I2 S2 HC2 HG2
  go_upto_region 2 with fail
  have hsE : (1 : Int) - 2 * nb = s := hs
  try rw [hsE]
  generalize w2.alloc (.cells #[.int .i64 s, .slice a2 U.length c2, .slice none 0 0] 50) = w3 at *
  generalize w2.heap.size = n3 at *
  clear hs hsE hnb2 hz3
  have BB := l1Below_any p hb 3 w3 HC3.out (by omega) (by omega)
  unfold curP at BB
  go_wp2_with fail
  refine BB.mono ?_
  clear BB
  rintro e w4 ⟨n', rfl, hn0, hn1, hc, hg⟩
  obtain ⟨n, rfl⟩ : ∃ n : Nat, n' = n := ⟨n'.toNat, by omega⟩
  have I4 := Lib.hid (I3.out.cur hg (.inl (by omega)))
  have S4 := Lib.hid (S3.out.cur hg hnp)
  have X4 := Lib.hid (X3.out.cur hg hn3p)
  have O4 := Lib.hid (O3.out.cur hg (by omega))
  have HC4 := Lib.hid hc
  have HG4 := Lib.hid (grown_trans HG3.out hg)
  clear hc hg I3 S3 X3 O3 HC3 HG3
  go_wp2_with fail
  go_loopw [5] (fun i wr => ∃ (k : Nat) (g : Value) (acc : List (List Int)), k ≤ n ∧ i = .int .i64 k ∧ acc.length ≤ k ∧ Hid (∀ i, i < acc.length → (acc.getD i []).length = 2 ∧ allIn (acc.getD i []) (-3) 3 = true) ∧ Hid (OwnL wr (n3 + 1) g acc) ∧ Hid (TB wr n3 s (.slice a2 U.length c2) g) ∧ Hid (IS wr (w.heap.size + 1) n3 (.slice a2 U.length c2) U) ∧ Hid (TB wr w.heap.size 0 (.slice none 0 0) (.slice none 0 0)) ∧ Hid (Cur wr p hb) ∧ Hid (w.grownBy wr (some p))) (fun i _ => n - (intOf i).toNat)
  case atStart => exact ⟨0, _, [], by omega, rfl, Nat.le_refl _, Lib.hid (fun i hi => absurd hi (Nat.not_lt_zero _)), O4, X4, I4, S4, HC4, HG4⟩
  case round =>
    clear I4 S4 X4 O4 HC4 HG4
    obtain ⟨k, g, acc, hk, rfl, hal, HA, HO, HX, HI, HS, HC, HG⟩ := hrel
    by_cases hlt : k < n
    · have hkn : decide ((k : Int) < (n : Int)) = true := by simpa using hlt
      obtain ⟨ag, cg, rfl⟩ := HO.out.form
      obtain ⟨V, q, hpt⟩ := HO.out.part (Below.refl _ _)
      have HPT := Lib.hid hpt
      have LD := l2DrawI_any p hb 2 3 wr.drew (show Cur wr.drew p hb from HC.out) (by omega) (by omega)
      unfold curP at LD
      have x0 : wr.drew.cell? ⟨n3, 2, none⟩ = some (.slice ag acc.length cg) := HX.out.c2
      have hXlt := HX.out.lt
      clear hpt HO
      go_wp2_with fail
      refine wp_region_last (S := fun (w' : World) => w'.cell? ⟨n3, 2, none⟩ = some (.slice ag acc.length cg)) 7 _ (by kernel_rfl) rfl rfl (by kernel_rfl) ?_
      simp only [List.take_succ_cons, List.take_zero]
      have hHeld : (fun (w' : World) => w'.cell? ⟨n3, 2, none⟩ = some (.slice ag acc.length cg)) _ := x0
      refine wpAnyH_take (i := 0) (oi := _) (v := ?_) rfl (by kernel_rfl) (by kernel_rfl) (by kernel_rfl) (fun _ _ _ h => h) (Or.inl ⟨by rfl, (by (intro w hSw); (try dsimp only at hSw); go_simp; (try with_reducible rfl))⟩) (by assumption) ?_
      try simp only [Act.put, List.setIfInBounds_toArray, List.set_cons_zero, List.set_cons_succ]
      refine wpAnyH_take (i := 1) (oi := _) (v := ?_) rfl (by kernel_rfl) (by kernel_rfl) (by kernel_rfl) (fun _ _ _ h => h) (Or.inl ⟨by rfl, (by (intro w hSw); (try dsimp only at hSw); go_simp; (try with_reducible rfl))⟩) (by assumption) ?_
      try simp only [Act.put, List.setIfInBounds_toArray, List.set_cons_zero, List.set_cons_succ]
      refine wpAnyH_take (i := 2) (oi := _) (v := ?_) rfl (by kernel_rfl) (by kernel_rfl) (by kernel_rfl) (fun _ _ _ h => h) (Or.inl ⟨by rfl, (by (intro w hSw); (try dsimp only at hSw); go_simp; (try with_reducible rfl))⟩) (by assumption) ?_
      try simp only [Act.put, List.setIfInBounds_toArray, List.set_cons_zero, List.set_cons_succ]
      refine wpAnyH_ready (rs := [3]) (by kernel_rfl) (by simp) ?_
      refine AllReadyH.cons (o := _) rfl (fun K hK => ?_) AllReadyH.nil
      go_simp
      refine LD.mono ?_
      rintro e w4 ⟨u4, l4, rfl, ho4, hl4, ha4, hc4, hg4⟩
      obtain ⟨a4, c4, rfl⟩ := ho4.form
      have HPT4 := HPT.out.cur (grown_trans (grown_draws (World.grownBy.refl wr (some p)) 1) hg4) (show p < n3 + 1 by omega)
      have hsz4 := hg4.size
      have hsz5 : wr.drew.heap.size = wr.heap.size := rfl
      refine hK.out _ _ (by exact (HX.out.cur (grown_trans (grown_draws (World.grownBy.refl wr (some p)) 1) hg4) hn3p).c2) (fun hHeld => ?_)
      clear hK K
      try simp only [Act.put, List.setIfInBounds_toArray, List.set_cons_zero, List.set_cons_succ]
      refine wpAnyH_ready (rs := [4]) (by kernel_rfl) (by simp) ?_
      refine AllReadyH.cons (o := _) rfl (fun K hK => ?_) AllReadyH.nil
      go_simp
      skip
      refine hK.out _ _ (by exact ((below1 w4 _).cell (p := ⟨n3, 2, none⟩) (show n3 < w4.heap.size by omega)).trans hHeld) (fun hHeld => ?_)
      clear hK K
      try simp only [Act.put, List.setIfInBounds_toArray, List.set_cons_zero, List.set_cons_succ]
      refine wpAnyH_ready (rs := [5]) (by kernel_rfl) (by simp) ?_
      refine AllReadyH.cons (o := _) rfl (fun K hK => ?_) AllReadyH.nil
      refine step_append_lies _ (by rfl) _ _ _ (by rfl) (n3 + 1) 30 i0 _ 1 24 Try.underlying24 HI0.out HZ0.out HZ1.out HZ2.out rfl (by omega) (.slice ag acc.length cg) acc.length _ (by rfl) (HPT4.alloc _) ⟨w4.heap.size, 0, none⟩ 1 1 [.slice a4 l4.length c4] (by rfl) (by rfl) (World.news_of_block (cs := #[.slice a4 l4.length c4]) (t := 30) (fr := (0, 0)) (heap_alloc_new w4 _)) (by simp [Value.oneCell']) (by omega) (by unfold maxLen; omega) (by omega) (by simp; omega) (w4.heap.size + 1) (by simp) ?_
      intro gg cap w9 hown1 hgrow hat hlt9
      refine hK.out _ _ (by exact (((HX.out.cur (grown_trans (grown_draws (World.grownBy.refl wr (some p)) 1) hg4) hn3p).belowB (OwnLp.below (Below.refl (n3 + 1) w4) (by omega) _ hgrow HPT4 (Nat.le_refl _)) (Nat.lt_succ_self _))).c2) (fun hHeld => ?_)
      clear hK K
      try simp only [Act.put, List.setIfInBounds_toArray, List.set_cons_zero, List.set_cons_succ]
      refine wpAnyH_take (i := 6) (oi := _) (v := ?_) rfl (by kernel_rfl) (by kernel_rfl) (by kernel_rfl) (fun _ _ _ h => h) (Or.inl ⟨by rfl, (by (intro w hSw); (try dsimp only at hSw); go_simp; (try with_reducible rfl))⟩) (by assumption) ?_
      try simp only [Act.put, List.setIfInBounds_toArray, List.set_cons_zero, List.set_cons_succ]
      refine wpAnyH_done (by kernel_rfl) ?_ _
      have HO9 := Lib.hid (OwnLp.push HPT4 (ho4.is) (Nat.le_refl _) hg4.size (Nat.le_refl _) hgrow hown1)
      have BE := OwnLp.below (Below.refl (n3 + 1) w4) (by have := hg4.size; have : wr.drew.heap.size = wr.heap.size := rfl; omega) _ hgrow HPT4 (Nat.le_refl _)
      have gg4 := grown_trans (grown_draws (World.grownBy.refl wr (some p)) 1) hg4
      have X9 := Lib.hid ((HX.out.cur gg4 hn3p).belowB BE (Nat.lt_succ_self _))
      have I9 := Lib.hid ((HI.out.cur gg4 (.inl (by omega))).keep BE (Nat.le_succ _))
      have S9 := Lib.hid ((HS.out.cur gg4 hnp).belowB BE (by omega))
      have HC9 := Lib.hid (hc4.below BE (by omega))
      have HG9 := Lib.hid (grown_then (grown_trans HG.out gg4) (BE.mono (by omega)))
      have HA9 := Lib.hid (show ∀ i, i < (acc ++ [l4]).length → ((acc ++ [l4]).getD i []).length = 2 ∧ allIn ((acc ++ [l4]).getD i []) (-3) 3 = true from fun i hi => by
        rcases Nat.lt_or_ge i acc.length with h | h
        · rw [List.getD_eq_getElem?_getD, List.getElem?_append_left h, ← List.getD_eq_getElem?_getD]; exact HA.out i h
        · rw [List.length_append] at hi
          have : i = acc.length := by simp at hi; omega
          rw [this, List.getD_eq_getElem?_getD, List.getElem?_append_right (Nat.le_refl _)]; simp; exact ⟨by omega, ha4⟩)
      clear HPT HPT4 hgrow hown1 hat hlt9 BE gg4 hg4 hc4 ho4 hl4 ha4 HX HI HS HC HG HA x0 hHeld LD
      have yy := X9.out.c2
      have ff := X9.out.fr 2
      have O10 := Lib.hid (HO9.out.setN (i := 2) (Nat.lt_succ_self n3) (.slice (some ⟨gg, 0, none⟩) (acc.length + 1) cap))
      have X10 := Lib.hid (X9.out.set2 (.slice (some ⟨gg, 0, none⟩) (acc.length + 1) cap))
      have I10 := Lib.hid (I9.out.setO (n := n3) (i := 2) (.inr (Nat.le_refl _)) (.slice (some ⟨gg, 0, none⟩) (acc.length + 1) cap))
      have S10 := Lib.hid (S9.out.other (m := n3) (i := 2) (by omega) (.slice (some ⟨gg, 0, none⟩) (acc.length + 1) cap))
      have HC10 := Lib.hid (HC9.out.setN (n := n3) (i := 2) (by omega) (.slice (some ⟨gg, 0, none⟩) (acc.length + 1) cap))
      have HG10 := Lib.hid (grown_then HG9.out (show Below w.heap.size w9 (w9.setCell ⟨n3, 2, none⟩ (.slice (some ⟨gg, 0, none⟩) (acc.length + 1) cap)) from (Below.refl _ _).setCell (p := ⟨n3, 2, none⟩) (show w.heap.size ≤ n3 by omega) _))
      clear HO9 X9 I9 S9 HC9 HG9
      unfold lastQ
      go_simp
      go_wp2
      go_roundw
      case rel => exact ⟨k + 1, _, acc ++ [l4], by omega, by go_num, by simp; omega, HA9, O10, X10, I10, S10, HC10, HG10⟩
      case measure => simp [intOf]; omega
    · obtain rfl : k = n := by omega
      have BB := l1Once_any p hb 14 wr HC.out (by omega) (by omega)
      unfold curP at BB
      go_wp2_with fail
      refine BB.mono ?_
      clear BB
      rintro e w5 ⟨b5, rfl, hc, hg⟩
      have O5 := Lib.hid (HO.out.cur hg (by omega))
      have X5 := Lib.hid (HX.out.cur hg hn3p)
      have I5 := Lib.hid (HI.out.cur hg (.inl (by omega)))
      have S5 := Lib.hid (HS.out.cur hg hnp)
      have HC5 := Lib.hid hc
      have HG5 := Lib.hid (grown_trans HG.out hg)
      obtain ⟨ag, cg, rfl⟩ := O5.out.form
      have HR := Lib.hid (show rows3 acc from ⟨by omega, HA.out⟩)
      clear hc hg HO HX HI HS HC HG HA
      cases b5
      · skip
        have y0 := X5.out.c0
        have y1 := X5.out.c1
        have y2 := X5.out.c2
        have z0 := S5.out.c0
        have z1 := S5.out.c1
        have z2 := S5.out.c2
        have g0 := S5.out.fr 0
        have g1 := S5.out.fr 1
        have g2 := S5.out.fr 2
        have r0 := World.cell?_setCell_same w5 ⟨w.heap.size, 0, none⟩ (.int .i64 s) z0
        have SF := ((S5.out.set0 s).set1 (.slice a2 U.length c2)).set2 (.slice ag acc.length cg)
        have r1 := SF.c1
        have r2 := SF.c2
        have HF := Lib.hid (((HC5.out.setN (i := 0) hp (.int .i64 s)).setN (i := 1) hp (.slice a2 U.length c2)).setN (i := 2) hp (.slice ag acc.length cg))
        have HGF := Lib.hid (grown_then HG5.out (below_set3 w5 w.heap.size (.int .i64 s) (.slice a2 U.length c2) (.slice ag acc.length cg)))
        have IA := Lib.hid (((I5.out.setO (n := w.heap.size) (i := 0) (.inl (Nat.lt_succ_self _)) (.int .i64 s)).setO (n := w.heap.size) (i := 1) (.inl (Nat.lt_succ_self _)) (.slice a2 U.length c2)).setO (n := w.heap.size) (i := 2) (.inl (Nat.lt_succ_self _)) (.slice ag acc.length cg))
        have OA := Lib.hid ((((O5.out.setN (n := w.heap.size) (i := 0) (by omega) (.int .i64 s)).setN (n := w.heap.size) (i := 1) (by omega) (.slice a2 U.length c2)).setN (n := w.heap.size) (i := 2) (by omega) (.slice ag acc.length cg)).is)
        have hxl := X5.out.lt
        clear SF
        go_wp2
        refine bodyPost_ret (v := .agg #[.int .i64 s, .slice a2 U.length c2, .slice ag acc.length cg]) (by simp [results, Try.results110, go_sem, r0, r1, r2]) rfl ?_
        exact ⟨_, _, _, U, acc, rfl, hsb, ⟨HU.out.1, HU.out.2, HR.out⟩, ⟨n3, by omega, by simp; omega, IA.out.mono (Nat.le_succ _) (Nat.le_refl _), OA.out.mono (Nat.le_succ _) (Nat.le_refl _)⟩, HF.out, HGF.out⟩
      · go_wp2_with fail
        have BB := pick_lit p hb [0, 2] w5 HC5.out (by simp) (by simp)
        unfold curP at BB
        refine BB.mono ?_
        clear BB
        rintro e w6 ⟨z, rfl, hz, hc, hg⟩
        simp only [List.mem_cons, List.not_mem_nil, or_false] at hz
        have O6 := Lib.hid (O5.out.cur hg (by omega))
        have X6 := Lib.hid (X5.out.cur hg hn3p)
        have I6 := Lib.hid (I5.out.cur hg (.inl (by omega)))
        have S6 := Lib.hid (S5.out.cur hg hnp)
        have HC6 := Lib.hid hc
        have HG6 := Lib.hid (grown_trans HG5.out hg)
        clear hc hg O5 X5 I5 S5 HC5 HG5
        have yy := X6.out.c0
        have ff := X6.out.fr 0
        have O7 := Lib.hid (O6.out.setN (i := 0) (Nat.lt_succ_self n3) (.int .i64 z))
        have X7 := Lib.hid (X6.out.set0 z)
        have I7 := Lib.hid (I6.out.setO (n := n3) (i := 0) (.inr (Nat.le_refl _)) (.int .i64 z))
        have S7 := Lib.hid (S6.out.other (m := n3) (i := 0) (by omega) (.int .i64 z))
        have HC7 := Lib.hid (HC6.out.setN (n := n3) (i := 0) (by omega) (.int .i64 z))
        have HG7 := Lib.hid (grown_then HG6.out (show Below w.heap.size w6 (w6.setCell ⟨n3, 0, none⟩ (.int .i64 z)) from (Below.refl _ _).setCell (p := ⟨n3, 0, none⟩) (show w.heap.size ≤ n3 by omega) _))
        clear hsb
        have hsb : -1 ≤ z ∧ z ≤ 2 := by omega
        go_upto_region 9 with fail
        generalize w6.setCell ⟨n3, 0, none⟩ (.int .i64 z) = w7 at *
        clear yy ff O6 X6 I6 S6 HC6 HG6
        have y0 := X7.out.c0
        have y1 := X7.out.c1
        have y2 := X7.out.c2
        have z0 := S7.out.c0
        have z1 := S7.out.c1
        have z2 := S7.out.c2
        have g0 := S7.out.fr 0
        have g1 := S7.out.fr 1
        have g2 := S7.out.fr 2
        have r0 := World.cell?_setCell_same w7 ⟨w.heap.size, 0, none⟩ (.int .i64 z) z0
        have SF := ((S7.out.set0 z).set1 (.slice a2 U.length c2)).set2 (.slice ag acc.length cg)
        have r1 := SF.c1
        have r2 := SF.c2
        have HF := Lib.hid (((HC7.out.setN (i := 0) hp (.int .i64 z)).setN (i := 1) hp (.slice a2 U.length c2)).setN (i := 2) hp (.slice ag acc.length cg))
        have HGF := Lib.hid (grown_then HG7.out (below_set3 w7 w.heap.size (.int .i64 z) (.slice a2 U.length c2) (.slice ag acc.length cg)))
        have IA := Lib.hid (((I7.out.setO (n := w.heap.size) (i := 0) (.inl (Nat.lt_succ_self _)) (.int .i64 z)).setO (n := w.heap.size) (i := 1) (.inl (Nat.lt_succ_self _)) (.slice a2 U.length c2)).setO (n := w.heap.size) (i := 2) (.inl (Nat.lt_succ_self _)) (.slice ag acc.length cg))
        have OA := Lib.hid ((((O7.out.setN (n := w.heap.size) (i := 0) (by omega) (.int .i64 z)).setN (n := w.heap.size) (i := 1) (by omega) (.slice a2 U.length c2)).setN (n := w.heap.size) (i := 2) (by omega) (.slice ag acc.length cg)).is)
        have hxl := X7.out.lt
        clear SF
        go_wp2
        refine bodyPost_ret (v := .agg #[.int .i64 z, .slice a2 U.length c2, .slice ag acc.length cg]) (by simp [results, Try.results110, go_sem, r0, r1, r2]) rfl ?_
        exact ⟨_, _, _, U, acc, rfl, hsb, ⟨HU.out.1, HU.out.2, HR.out⟩, ⟨n3, by omega, by simp; omega, IA.out.mono (Nat.le_succ _) (Nat.le_refl _), OA.out.mono (Nat.le_succ _) (Nat.le_refl _)⟩, HF.out, HGF.out⟩
end Go.Proofs.Ytehhoplenloocaa
