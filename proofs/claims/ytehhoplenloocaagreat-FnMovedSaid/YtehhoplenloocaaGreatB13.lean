/- B13: texts in one: Dr7 DrP DrQ. -/
import Derived.Test.YtehhoplenloocaaGreatB8
import Derived.Test.YtehhoplenloocaaGreatB15
/- Polygons that are drawn: l7Draw, l7Bent. -/
namespace Go.Proofs.YtehhoplenloocaaGreat
open Go Go.RowKit
set_option linter.unusedVariables false
set_option linter.unusedSimpArgs false

theorem IS.lit2D (w : World) (B g : Nat) (hg : w.heap.size = g) (h : B ≤ g) (x y : Int) : IS (w.alloc (.cells #[.int .i64 x, .int .i64 y] 3)) B (g + 1) (.slice (some ⟨g, 0, Option.none⟩) 2 2) [x, y] := by
  subst hg; exact IS.lit2 w B h x y
theorem hullV_two {ls : List (List Int)} (h : (hullV ls).2 = true) : 2 ≤ (hullV ls).1.length := by
  by_cases ho : hullOk ls = true
  · have e : hullV ls = (hullR ls, true) := by unfold hullV; rw [if_pos ho]
    rw [e]
    unfold hullOk at ho
    simp only [Bool.and_eq_true] at ho
    have := inB_iff.1 ho.2.2
    show 2 ≤ (hullR ls).length; omega
  · have e : hullV ls = ([], false) := by unfold hullV; rw [if_neg ho]
    rw [e] at h; cases h
/-- three rows, as they are laid -/
theorem lit32 (w : World) (B : Nat) (hB : B ≤ w.heap.size) {a b c d e f : Int} : ISS ((((w.alloc (.cells #[.int .i64 a, .int .i64 b] 3)).alloc (.cells #[.int .i64 c, .int .i64 d] 3)).alloc (.cells #[.int .i64 e, .int .i64 f] 3)).alloc
    (.cells #[.slice (some ⟨w.heap.size, 0, none⟩) 2 2, .slice (some ⟨w.heap.size + 1, 0, none⟩) 2 2, .slice (some ⟨w.heap.size + 1 + 1, 0, none⟩) 2 2] 25)) B (w.heap.size + 1 + 1 + 1 + 1) (.slice (some ⟨w.heap.size + 1 + 1 + 1, 0, none⟩) 3 3) [[a, b], [c, d], [e, f]] := by
  have k0 := IS.lit2D w w.heap.size _ rfl (Nat.le_refl _) a b
  have k1 := IS.lit2D (w.alloc (.cells #[.int .i64 a, .int .i64 b] 3)) (w.heap.size + 1) (w.heap.size + 1) (by simp) (by omega) c d
  have k2 := IS.lit2D ((w.alloc (.cells #[.int .i64 a, .int .i64 b] 3)).alloc (.cells #[.int .i64 c, .int .i64 d] 3)) (w.heap.size + 1 + 1) (w.heap.size + 1 + 1) (by simp) (by omega) e f
  have hb : ∀ q : Nat, blkOf (.slice (some ⟨q, 0, none⟩) 2 2) = some q := fun q => blkOf_some _ _ _ _ (by omega)
  refine ⟨some ⟨w.heap.size + 1 + 1 + 1, 0, none⟩, 3, rfl, by simp, by simp [maxLen], fun _ => ⟨w.heap.size + 1 + 1 + 1, 0, fun q => .slice (some ⟨w.heap.size + q, 0, none⟩) 2 2, rfl, by omega, by omega, ?_, fun q hq => ?_, fun q r hqr hr => ?_⟩⟩
  · refine ⟨_, by have := heap_alloc_new (((w.alloc (.cells #[.int .i64 a, .int .i64 b] 3)).alloc (.cells #[.int .i64 c, .int .i64 d] 3)).alloc (.cells #[.int .i64 e, .int .i64 f] 3)) (.cells #[.slice (some ⟨w.heap.size, 0, none⟩) 2 2, .slice (some ⟨w.heap.size + 1, 0, none⟩) 2 2, .slice (some ⟨w.heap.size + 1 + 1, 0, none⟩) 2 2] 25); simpa using this, fun q hq => ?_⟩
    simp at hq
    rcases (show q = 0 ∨ q = 1 ∨ q = 2 by omega) with rfl | rfl | rfl <;> rfl
  · simp at hq
    rcases (show q = 0 ∨ q = 1 ∨ q = 2 by omega) with rfl | rfl | rfl
    · exact (((k0.keep (below1 _ _) (by simp)).keep (below1 _ _) (by simp)).keep (below1 _ _) (by simp)).mono hB (by omega)
    · exact ((k1.keep (below1 _ _) (by simp)).keep (below1 _ _) (by simp)).mono (by omega) (by omega)
    · exact (k2.keep (below1 _ _) (by simp)).mono (by omega) (by omega)
  · right
    rw [hb, hb]
    intro e; injection e with e; omega
theorem blw4 (w : World) (o1 o2 o3 o4 : Obj) : Below w.heap.size w ((((w.alloc o1).alloc o2).alloc o3).alloc o4) := (((below1 w o1).alloc (by simp) o2).alloc (by simp; omega) o3).alloc (by simp; omega) o4
set_option maxRecDepth 100000 in
set_option maxHeartbeats 4000000 in
theorem l7Draw_any (p hb : Nat) (m : Int) (w : World) (h : Cur w p hb) (hm : 0 ≤ m ∧ m ≤ 1000) :
    Calls Tryz.prog 43 #[curP p, .int .i64 m] w fun e w' => ∃ u ls, e = .returned u ∧ (ISS w' w.heap.size w'.heap.size u ls ∧ 2 ≤ ls.length) ∧ Cur w' p hb ∧ w.grownBy w' (some p) := by
  obtain ⟨i0, hi0, hz0, hz1, hz2⟩ := info_parts info_ints
  have HI0 := Lib.hid hi0; clear hi0
  have HZ0 := Lib.hid hz0; clear hz0
  have HZ1 := Lib.hid hz1; clear hz1
  have HZ2 := Lib.hid hz2; clear hz2
  have hp := h.lt
  have HC0 := Lib.hid h
  have HG0 := Lib.hid (World.grownBy.refl w (some p))
  clear h
  unfold curP
  go_enter Tryz.func43, Tryz.ntmps43
  go_wp2_with fail
  go_loopw [5] (fun i wr => ∃ k : Nat, k ≤ 6 ∧ i = .int .i64 k ∧ Hid (Cur wr p hb) ∧ Hid (w.grownBy wr (some p))) (fun i _ => 6 - (intOf i).toNat)
  case atStart => exact ⟨0, by omega, rfl, HC0, HG0⟩
  case round =>
    clear HC0 HG0
    obtain ⟨k, hk, rfl, HC, HG⟩ := hrel
    have hpr : p < wr.heap.size := Nat.lt_of_lt_of_le hp HG.out.size
    have hwy1 : w.heap.size ≤ wr.heap.size := HG.out.size
    generalize hwy : wr = wy at *
    clear hwy
    by_cases hlt : k < 6
    · have hdec : decide ((k : Int) < 6) = true := by simp; omega
      have HC1 := Lib.hid (HC.out.below (below1 wy (.cells #[] 25)) HC.out.lt)
      have HG1 := Lib.hid (grown_alloc HG.out (.cells #[] 25))
      have HO1 := Lib.hid (OwnL.lit0 wy wy.heap.size (Nat.le_refl _))
      have BB := l1Below_any p hb 4 _ HC1.out (by omega) (by omega)
      unfold curP at BB
      go_wp2_with fail
      refine BB.mono ?_
      clear BB
      rintro e w2 ⟨x, rfl, hx0, hx1, hc, hg⟩
      obtain ⟨n, hn, hn1, hn3⟩ : ∃ n : Nat, 3 + x = n ∧ 3 ≤ n ∧ n ≤ 6 := ⟨(3 + x).toNat, by omega, by omega, by omega⟩
      have HC2 := Lib.hid hc
      have HG2 := Lib.hid (grown_trans HG1.out hg)
      have HO2 := Lib.hid (HO1.out.cur hg hpr)
      clear hc hg HC1 HG1 HO1 HC HG hx0 hx1
      go_wp2_with fail
      go_loopw [6, 8] (fun s i ws => ∃ (j : Nat) (acc : List (List Int)), j ≤ n ∧ i = .int .i64 j ∧ acc.length ≤ j ∧ Hid (OwnL ws wy.heap.size s acc) ∧ Hid (Cur ws p hb) ∧ Hid (w.grownBy ws (some p))) (fun _ i _ => n - (intOf i).toNat)
      case atStart => exact ⟨0, [], by omega, rfl, Nat.le_refl _, HO2, HC2, HG2⟩
      case round =>
        clear HO2 HC2 HG2
        obtain ⟨j, acc, hj, rfl, hal, HO, HC, HG⟩ := hrel
        by_cases hlj : j < n
        · have hdj : decide ((j : Int) < (n : Int)) = true := by simp; omega
          have BB := l2DrawI_any p hb 2 m wr HC.out (by omega) hm
          unfold curP at BB
          go_wp2_with fail
          refine BB.mono ?_
          clear BB
          rintro e w4 ⟨u4, l4, rfl, ho4, hl4, ha4, hc4, hg4⟩
          obtain ⟨a4, c4, rfl⟩ := ho4.form
          obtain ⟨V, q, hpt⟩ := HO.out.part (Below.refl _ _)
          have HPT := Lib.hid (hpt.cur hg4 hpr)
          have hsz := HG.out.size
          have hsz4 := hg4.size
          have HC4 := Lib.hid hc4
          have HG4 := Lib.hid (grown_trans HG.out hg4)
          have HK := Lib.hid (show IS w4 wr.heap.size w4.heap.size (.slice a4 l4.length c4) l4 from ho4.is)
          clear ho4 hl4 ha4 hc4 hg4 HC HG HO hpt
          have hwy0 : wy.heap.size ≤ w4.heap.size := by
            obtain ⟨h1, h2, h3, h4⟩ := HPT.out
            have := OwnL.mono (p := q) (n := acc.length) (fun i hi => (h4 i hi).1) 0 acc.length (Nat.zero_le _) (Nat.le_refl _)
            omega
          go_wp2_with (at_builtin; refine wpList_append_own _ rfl _ _ 24 rfl wy.heap.size 25 i0 (.slice none 0 0) 1 24 Tryz.underlying24 HI0.out HZ0.out HZ1.out HZ2.out rfl (by decide) _ _ _ rfl (HPT.out.alloc _) ⟨w4.heap.size, 0, none⟩ 1 1 [.slice a4 l4.length c4] rfl rfl ?c1 ?c2 ?c3 ?c4 ?c5 ?_)
          case c1 => exact cell_one_new _ _ _
          case c2 => first | rfl | (intro u hu; simp at hu; subst hu; rfl)
          case c3 => unfold maxLen; omega
          case c4 => omega
          case c5 => first | omega | (simp; omega)
          intro v2 w6 hown2 hgrow _
          have HO6 := Lib.hid (HPT.out.push HK.out (Nat.le_refl _) hsz4 (Nat.le_refl _) hgrow hown2)
          have hB6 : Below w.heap.size w4 w6 := OwnLp.below (Below.refl w.heap.size w4) (by omega) _ hgrow HPT.out hwy1
          have HC6 := Lib.hid (HC4.out.below hB6 hp)
          have HG6 := Lib.hid (grown_then HG4.out hB6)
          clear hown2 hgrow hB6
          go_wp2
          go_roundw
          case rel => exact ⟨j + 1, _, by omega, by go_num, by simp; omega, HO6, HC6, HG6⟩
          case measure => simp [intOf]; omega
        · have hdj : decide ((j : Int) < (n : Int)) = false := by simp; omega
          obtain ⟨a5, c5, rfl, -⟩ := id HO.out.is
          have HH := specHullOf_any acc _ wr.heap.size wr HO.out.is.read (Nat.le_refl _)
          have hsz := HG.out.size
          go_wp2_with fail
          refine HH.mono ?_
          clear HH
          rintro e w4 ⟨u4, rfl, ho4, hb4⟩
          have HC4 := Lib.hid (HC.out.below hb4 HC.out.lt)
          have HG4 := Lib.hid (grown_then HG.out (hb4.mono hsz))
          cases hok : (hullV acc).2
          · go_wp2
            go_roundw
            case rel => exact ⟨k + 1, by omega, by go_num, HC4, HG4⟩
            case measure => simp [intOf]; omega
          · go_wp2
            go_ret
            exact ⟨_, _, rfl, ⟨ho4.is.mono hsz (Nat.le_refl _), hullV_two hok⟩, HC4.out, HG4.out⟩
    · have hdec : decide ((k : Int) < 6) = false := by simp; omega
      have hsz := HG.out.size
      go_wp2
      go_ret
      exact ⟨_, _, rfl, ⟨(lit32 wy w.heap.size hsz).mono (Nat.le_refl _) (by simp), by decide⟩, HC.out.below (blw4 wy _ _ _ _) HC.out.lt, grown_then HG.out ((blw4 wy _ _ _ _).mono hsz)⟩
end Go.Proofs.YtehhoplenloocaaGreat

/- Polygons that are bent: l7Bent; the draws of the statement on dilated polygons. -/
namespace Go.Proofs.YtehhoplenloocaaGreat
open Go Go.RowKit
set_option linter.unusedVariables false
set_option linter.unusedSimpArgs false

theorem RowsO.less {w : World} {lo b off n m : Nat} {V : Nat → Value} {cur : Nat → List Int} (h : RowsO w lo b off n V cur) (hm : m ≤ n) : RowsO w lo b off m V cur :=
  ⟨by obtain ⟨c, e, f⟩ := h.outer; exact ⟨c, e, fun i hi => f i (by omega)⟩, fun i hi => h.row i (by omega)⟩
theorem RowsO.setI {w : World} {lo b off n k : Nat} {V : Nat → Value} {cur : Nat → List Int} (h : RowsO w lo b off n V cur) {vr : Value} {r : List Int} (hr : IS w lo w.heap.size vr r) (x : Value) : IS (w.setCell ⟨b, off + k, none⟩ x) lo (w.setCell ⟨b, off + k, none⟩ x).heap.size vr r := by
  have hg : w.grownBy (w.setCell ⟨b, off + k, none⟩ x) (some b) := ⟨rfl, rfl, rfl, by simp, fun i hi hne' => by
    rw [Below.heap_setCell _ _ _ _ (by intro e; apply hne'; rw [e])]⟩
  have hty : ∀ g, some b = some g → ∃ c e fr, w.heap[g]? = some (.cells c e fr) ∧ e ≠ 3 := fun g hg => by
    injection hg with hg
    subst hg
    obtain ⟨cs, e, -⟩ := h.outer
    exact ⟨cs, _, _, e, by decide⟩
  have hsz : (w.setCell ⟨b, off + k, none⟩ x).heap.size = w.heap.size := by simp
  rw [hsz]
  exact hr.grown_type hg hty
theorem RQ.ofRows {w : World} {lo b off n cap : Nat} {V : Nat → Value} {cur : Nat → List Int} (h : RowsO w lo b off n V cur) (hc : n ≤ cap) (hm : cap ≤ maxLen) (hlo : lo ≤ b) : RQ w lo (.slice (some ⟨b, off, none⟩) n cap) ((List.range n).map cur) :=
  RQ.ofMO ⟨V, h.congr fun i hi => by rw [List.getD_eq_getElem?_getD, List.getElem?_map, List.getElem?_range hi]; rfl⟩ (by simp) hc hm hlo
set_option maxRecDepth 100000 in
set_option maxHeartbeats 4000000 in
theorem l7Bent_any (p hb : Nat) (w : World) (h : Cur w p hb) :
    Calls Tryz.prog 27 #[curP p] w fun e w' => ∃ u ls, e = .returned u ∧ RQ w' w.heap.size u ls ∧ Cur w' p hb ∧ w.grownBy w' (some p) := by
  have hp := h.lt
  have BB := l7Draw_any p hb 4 w h (by omega)
  clear h
  unfold curP at *
  go_enter Tryz.func27, Tryz.ntmps27
  go_wp2_with fail
  refine BB.mono ?_
  clear BB
  rintro e w1 ⟨u, ls, rfl, ⟨hi, hl2⟩, hc, hg⟩
  obtain ⟨b, off, cap, rfl, hlo, hbh, hnc, hcm, hmo⟩ := MO.of hi (by omega)
  obtain ⟨n, hn⟩ : ∃ n, n = ls.length := ⟨_, rfl⟩
  rw [← hn] at hmo hnc hl2 ⊢
  have HM := Lib.hid hmo
  have HG := Lib.hid hg
  have BB := l1Below_any p hb 14 w1 hc (by omega) (by omega)
  unfold curP at BB
  clear hi hmo hg hc hn
  go_wp2_with fail
  refine BB.mono ?_
  clear BB
  rintro e w2 ⟨x, rfl, hx0, hx1, hc, hg⟩
  have HM2 := Lib.hid (HM.out.cur hg hp hlo)
  have HC2 := Lib.hid hc
  have HG2 := Lib.hid (grown_trans HG.out hg)
  clear hc hg HM HG
  have hn0 : 0 < n := by omega
  have hn1 : 1 < n := by omega
  have hsz := HG2.out.size
  by_cases e0 : x = 0
  · subst e0
    have t0 : ((0 : Int) == 0) = true := rfl
    obtain ⟨V, ro⟩ := HM2.out
    have r0 := ro.row 0 hn0
    have r1 := ro.row 1 hn1
    have x0 := ro.outer.cell (i := 0) hn0
    have x1 := ro.outer.cell (i := 1) hn1
    obtain ⟨a0, q0, h0, -⟩ := id r0
    obtain ⟨a1, q1, h1, -⟩ := id r1
    rw [h0] at r0 x0
    rw [h1] at r1 x1
    generalize (ls.getD 0 []).length = k0 at *
    generalize (ls.getD 1 []).length = k1 at *
    have f0 := ro.outer.frozen (off + 0)
    have f2 := ro.outer.frozen (off + 1)
    have R1 := ro.set hn0 r1
    have x2 := R1.outer.cell (i := 1) hn1
    have f1 := R1.outer.frozen (off + 1)
    rw [if_neg (by omega), h1] at x2
    have R2 := Lib.hid (R1.set hn1 (ro.setI (k := 0) r0 (.slice a1 k1 q1)))
    rw [Nat.add_zero] at x0 f0 x2 f1 R2
    have B5 := Lib.hid (((Below.refl w.heap.size w2).setCell (p := ⟨b, off, none⟩) hlo (.slice a1 k1 q1)).setCell (p := ⟨b, off + 1, none⟩) hlo (.slice a0 k0 q0))
    clear R1 r0 r1 ro HM2
    go_wp2
    go_ret
    exact ⟨_, _, rfl, RQ.ofRows R2.out hnc hcm hlo, HC2.out.below B5.out hp, grown_then HG2.out B5.out⟩
  · have t0 : (x == 0) = false := by rw [beq_eq_false_iff_ne]; exact e0
    by_cases e1 : x = 1
    · subst e1
      have t1 : ((1 : Int) == 1) = true := rfl
      have OB := l1Once_any p hb 2 w2 HC2.out (by omega) (by omega)
      unfold curP at OB
      go_wp2_with (first
        | (go_at_call 44; (with_reducible refine OB.mono ?_); rintro e w5 ⟨bb, rfl, hc5, hg5⟩; obtain ⟨nb, hnb1, hnb2⟩ : ∃ nb : Int, bitI bb = nb ∧ (0 ≤ nb ∧ nb ≤ 1) := ⟨bitI bb, rfl, by unfold bitI; split <;> omega⟩)
        | (go_at_call 57; have LB := l1Bit_any bb w5; rw [hnb1] at LB; (with_reducible refine LB.mono ?_); rintro e w6 ⟨rfl, rfl⟩)
        | (go_at_call 54; have LD := l2DrawI_any p hb (2 + nb) 60 w5 hc5 (by omega) (by omega); unfold curP at LD; (with_reducible refine LD.mono ?_); rintro e w7 ⟨u7, l7, rfl, ho7, hl7, ha7, hc7, hg7⟩; obtain ⟨a7, q7, rfl⟩ := ho7.form; have G7 := grown_trans hg5 hg7; obtain ⟨V, ro⟩ := HM2.out.cur G7 hp hlo; have x0 := ro.outer.cell (i := 0) hn0; have f0 := ro.outer.frozen (off + 0); have z5 := hg5.size; have R2 := Lib.hid (ro.set hn0 (IS.mono (show IS w7 w5.heap.size w7.heap.size (.slice a7 l7.length q7) l7 from ho7.is) (by omega) (Nat.le_refl _))); rw [Nat.add_zero] at x0 f0 R2; have B5 := Lib.hid ((Below.refl w.heap.size w7).setCell (p := ⟨b, off, none⟩) hlo (.slice a7 l7.length q7)); have HG7 := Lib.hid (grown_trans HG2.out G7); clear ro)
        | fail)
      go_ret
      exact ⟨_, _, rfl, RQ.ofRows R2.out hnc hcm hlo, hc7.below B5.out hp, grown_then HG7.out B5.out⟩
    · have t1 : (x == 1) = false := by rw [beq_eq_false_iff_ne]; exact e1
      obtain ⟨V, ro⟩ := HM2.out
      have RO := Lib.hid ro
      clear ro
      by_cases e2 : x = 2
      · subst e2
        have t2 : ((2 : Int) == 2) = true := rfl
        have hcap2 : 2 ≤ cap := by omega
        go_wp2
        go_ret
        exact ⟨_, _, rfl, RQ.ofRows (RO.out.less (show 2 ≤ n by omega)) hcap2 hcm hlo, HC2.out, HG2.out⟩
      · have t2 : (x == 2) = false := by rw [beq_eq_false_iff_ne]; exact e2
        go_wp2
        go_ret
        exact ⟨_, _, rfl, RQ.ofRows RO.out hnc hcm hlo, HC2.out, HG2.out⟩
end Go.Proofs.YtehhoplenloocaaGreat

/- The draws of the statement on dilated polygons. -/
namespace Go.Proofs.YtehhoplenloocaaGreat
open Go Go.RowKit
set_option linter.unusedVariables false
set_option linter.unusedSimpArgs false

end Go.Proofs.YtehhoplenloocaaGreat
