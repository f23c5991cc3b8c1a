/- SegmentPieces: the walks. -/
import Derived.Test.YtfncikbmdaameaaSegL
import Derived.Test.YtfncikbmdaameaaB2
namespace Go.Proofs.Ytfncikbmdaameaa
open Go.RowKit
set_option linter.unusedVariables false
set_option linter.unusedSimpArgs false

theorem Box4.grown {w w1 : World} {n : Nat} {v0 v1 v2 v3 : Value} {r : Option Nat} (h : Box4 w n v0 v1 v2 v3) (hg : w.grownBy w1 r) (hr : r ≠ some n) : Box4 w1 n v0 v1 v2 v3 := by
  have hb := hg.block n h.lt (Ne.symm hr)
  have e : ∀ i, w1.cell? ⟨n, i, none⟩ = w.cell? ⟨n, i, none⟩ := fun i => World.cell?_of_block (a := ⟨n, i, none⟩) hb
  exact ⟨Nat.lt_of_lt_of_le h.lt hg.size, (e 0).trans h.c0, (e 1).trans h.c1, (e 2).trans h.c2, (e 3).trans h.c3⟩
theorem OwnL.low1 {w : World} {B B' : Nat} {v : Value} {ls : List (List Int)} (h : OwnL w B v ls) (hb : B' ≤ B) : OwnL w B' v ls := by
  obtain ⟨V, p, h1, h2, h3⟩ := h
  exact ⟨V, p, h1.mono hb, by omega, h3⟩
set_option maxRecDepth 100000 in
set_option maxHeartbeats 8000000 in
theorem implSegmentPieces_any (a b c d : Int) (w : World) :
    Calls Try.prog 13 #[segV a b c d] w fun e w' => ∃ u, e = .returned u ∧ OwnL w' w.heap.size u (pcL a b c d) ∧ Below w.heap.size w w' := by
  obtain ⟨i0, hi0, hz0, hz1, hz2⟩ := info_parts info_ints
  have HI0 := Lib.hid hi0; clear hi0
  have HZ0 := Lib.hid hz0; clear hz0
  have HZ1 := Lib.hid hz1; clear hz1
  have HZ2 := Lib.hid hz2; clear hz2
  have P0 := fun W => implSegmentPeriod_any a b c d W
  have CT := fun W (t : Int) => implSegmentCount_any a b c d t W
  have X0 := Lib.hid (box4_new w (.int .i64 a) (.int .i64 b) (.int .i64 c) (.int .i64 d) 26)
  have B0 := Lib.hid (below1 w (.cells #[.int .i64 a, .int .i64 b, .int .i64 c, .int .i64 d] 26))
  have Z0 := Lib.hid (show (w.alloc (.cells #[.int .i64 a, .int .i64 b, .int .i64 c, .int .i64 d] 26)).heap.size = w.heap.size + 1 by simp)
  have pb := per_bd a b c d
  have HPC := Lib.hid (show pcL a b c d = pcK a b c d (segPeriod a b c d).toNat from rfl)
  have HSEG := Lib.hid (show 0 < segPeriod a b c d → segB a b c d = true ∧ segPeriod a b c d = perI a b c d from fun h => by
    unfold segPeriod at h ⊢
    split at h
    · rename_i g; exact ⟨g, by rw [if_pos g]⟩
    · omega)
  unfold segV at *
  go_enter Try.func13, Try.ntmps13
  go_wp2_with fail
  refine (P0 _).mono ?_
  rintro e w1 ⟨rfl, c1⟩
  have X1 := Lib.hid (X0.out.keep c1)
  have B1 := Lib.hid (below_then B0.out (by have := Z0.out; omega) c1)
  have Z1 := Lib.hid (show w.heap.size + 1 ≤ w1.heap.size by have := Z0.out; have := c1.size; omega)
  clear P0 X0 B0 c1 Z0
  obtain ⟨N, hN⟩ : ∃ N : Nat, segPeriod a b c d = N := ⟨(segPeriod a b c d).toNat, by omega⟩
  rw [hN] at pb HPC HSEG
  rw [hN]
  rw [show ((N : Int)).toNat = N by omega] at HPC
  clear hN
  go_wp2_with fail
  go_loopw [4, 5] (fun ov i wr => ∃ (k : Nat), k ≤ N ∧ i = .int .i64 k ∧ Hid (OwnL wr (w.heap.size + 1) ov (pcK a b c d k)) ∧ Hid (Box4 wr w.heap.size (.int .i64 a) (.int .i64 b) (.int .i64 c) (.int .i64 d)) ∧ Hid (Below w.heap.size w wr) ∧ Hid (w.heap.size + 1 ≤ wr.heap.size)) (fun _ i _ => N - (intOf i).toNat)
  case atStart => exact ⟨0, by omega, rfl, Lib.hid (OwnL.nil w1 _ Z1.out), X1, B1, Z1⟩
  case round =>
    obtain ⟨k, hk, rfl, HO, HX, HB, HZ⟩ := hrel
    by_cases hlt : k < N
    · obtain ⟨hs, hper⟩ := HSEG.out (by omega)
      obtain ⟨h2, h2', h4, h4', h1, h1', h3, h3'⟩ := segB_bd hs
      have hcv : segCount a b c d k = cntI a b c d k := by unfold segCount; rw [if_pos]; rw [hs]; simp [inB]; omega
      have cb := cnt_bd (t := k) hs (by omega) (by omega)
      have CTk := fun W => CT W k
      rw [hcv] at CTk
      have m1 := mul_bd (a := c) (b := N) (M := 1000) (N := 144) (by omega) h3' (by omega) pb.2 (by omega)
      have m2 := mul_bd (a := a) (b := N) (M := 1000) (N := 144) (by omega) h1' (by omega) pb.2 (by omega)
      obtain ⟨-, -, ⟨p, hp⟩, ⟨q, hq⟩⟩ := per_parts hs
      rw [← hper] at hp hq
      have q1 : (c * (N : Int)).tdiv d = stpI a b c d + (a * (N : Int)).tdiv b := by
        unfold stpI; rw [← hper, hp, hq, Int.mul_tdiv_cancel_left _ (by omega), Int.mul_tdiv_cancel_left _ (by omega), Int.mul_ediv_cancel_left _ (by omega), Int.mul_ediv_cancel_left _ (by omega)]; omega
      have q2 := tdiv_low (a * (N : Int)) b (by omega) (by omega) h2
      have q3 := tdiv_low (c * (N : Int)) d (by omega) (by omega) h4
      have HE := Lib.hid (pcK_step a b c d k)
      have x0 := HX.out.c0
      have x1 := HX.out.c1
      have x2 := HX.out.c2
      have x3 := HX.out.c3
      have Bd := below_draws wr.heap.size wr 1
      have sb := stp_bd hs
      have hal : (pcK a b c d k).length ≤ k := by rw [pcK_len]; omega
      clear hcv CT hp hq hper HSEG
      generalize hD1 : (c * (N : Int)).tdiv d = D1 at *
      generalize hD2 : (a * (N : Int)).tdiv b = D2 at *
      generalize stpI a b c d = st at *
      generalize cntI a b c d k = cn at *
      generalize pcK a b c d k = acc at *
      have hst : D1 - D2 = st := by omega
      have lb : w.heap.size < wr.heap.size := by have := HZ.out; omega
      have ag : u4.ownBlock ≠ some w.heap.size := fun e => by have := (HO.out.lt _ e).1; omega
      have f1 : (d == 0) = false := by rw [beq_eq_false_iff_ne]; omega
      have f2 : (b == 0) = false := by rw [beq_eq_false_iff_ne]; omega
      have f3 : ¬ d = 0 := by omega
      have f4 : ¬ b = 0 := by omega
      have g1 := wr64 (c * (N : Int)) (by omega)
      have g2 := wr64 (a * (N : Int)) (by omega)
      have g3 := wr64 D1 (by omega)
      have g4 := wr64 D2 (by omega)
      have g6 := wr64 st (by omega)
      have g5 : IntKind.i64.wrap (D1 - D2) = st := by rw [hst]; exact wr64 st (by omega)
      clear q1
      go_wp2_with fail
      go_region_held3 (fun w' => w'.cell? ⟨w.heap.size, 0, none⟩ = some (.int .i64 a) ∧ w'.cell? ⟨w.heap.size, 1, none⟩ = some (.int .i64 b) ∧ w'.cell? ⟨w.heap.size, 2, none⟩ = some (.int .i64 c) ∧ w'.cell? ⟨w.heap.size, 3, none⟩ = some (.int .i64 d))
        (first | go_keep | exact ⟨y0, y1, y2, y3⟩ | (go_split_ands; refine ⟨?_, ?_, ?_, ?_⟩ <;> (rw [hgrow.cell_far _ (by simp; omega) (Ne.symm ag)]; assumption)))
        (first
          | (go_at_call 27; (with_reducible refine (CTk _).mono ?_); rintro e w2 ⟨rfl, c2⟩; have B2 := below_then Bd Bd.size c2; have y0 := (B2.cell (p := ⟨w.heap.size, 0, none⟩) lb).trans x0; have y1 := (B2.cell (p := ⟨w.heap.size, 1, none⟩) lb).trans x1; have y2 := (B2.cell (p := ⟨w.heap.size, 2, none⟩) lb).trans x2; have y3 := (B2.cell (p := ⟨w.heap.size, 3, none⟩) lb).trans x3;
             have B3 := below_then B2 B2.size (below1 w2 (.cells #[.int .i64 cn, .int .i64 st] 3)); obtain ⟨V, pp, hpt⟩ := HO.out.part B3; have HPT := Lib.hid hpt; have hnb : ((w2.alloc (.cells #[.int .i64 cn, .int .i64 st] 3)).alloc (.cells #[.slice (some ⟨w2.heap.size, 0, none⟩) 2 2] 46)).heap[w2.heap.size + 1]? = some (.cells #[.slice (some ⟨w2.heap.size, 0, none⟩) 2 2] 46 (0, 0)) := (by have g := heap_alloc_new (w2.alloc (.cells #[.int .i64 cn, .int .i64 st] 3)) (.cells #[.slice (some ⟨w2.heap.size, 0, none⟩) 2 2] 46); rw [World.size_alloc] at g; exact g); have z2 := B2.size; have z3 : w.heap.size + 1 ≤ w2.heap.size := Nat.le_trans HZ.out z2)
          | (refine step_append_lies _ (by rfl) _ _ _ (by with_reducible rfl) (w.heap.size + 1) 46 i0 _ 1 24 Try.underlying24 HI0.out HZ0.out HZ1.out HZ2.out rfl (by omega) u4 acc.length _ (by rfl) (HPT.out.alloc _)
              ⟨w2.heap.size + 1, 0, none⟩ 1 1 [.slice (some ⟨w2.heap.size, 0, none⟩) 2 2] (by rfl) (by rfl) (World.news_of_block (cs := #[.slice (some ⟨w2.heap.size, 0, none⟩) 2 2]) (t := 46) (fr := (0, 0)) hnb) (by simp [Value.oneCell'])
              (by omega) (by unfold maxLen; omega) (by omega) (by simp; omega) (w2.heap.size + 2) (by simp) ?_; intro gg cap w3 hown3 hgrow hat hlt))
      have HK := Lib.hid (IS.lit2 w2 w2.heap.size (Nat.le_refl _) cn st)
      have HO' := Lib.hid (HPT.out.push HK.out z2 (by omega) (by simp) (by first | exact hgrow | exact grown_undrew hgrow) hown3)
      have HB4 := below_then HB.out HB.out.size B3
      have HBE := Lib.hid (OwnLp.below HB4 (by simp; omega) _ (by first | exact hgrow | exact grown_undrew hgrow) HPT.out (by omega))
      have HX' := Lib.hid ((HX.out.keep (below_then B3 B3.size (below1 _ (.cells #[.slice (some ⟨w2.heap.size, 0, none⟩) 2 2] 46)))).grown (by first | exact hgrow | exact grown_undrew hgrow) ag)
      have hgs := hgrow.size
      simp at hgs
      have HZ' := Lib.hid (show w.heap.size + 1 ≤ w3.heap.size by omega)
      clear hown3 hgrow hat hlt HPT hpt HK HB4 hgs
      rw [← HE.out] at HO'
      go_wp2
      go_roundw
      case rel => exact ⟨k + 1, by omega, by go_num, HO', HX', HBE, HZ'⟩
      case measure => simp [intOf]; omega
    · obtain rfl : k = N := by omega
      go_wp2
      go_ret
      exact ⟨_, rfl, by rw [HPC.out]; exact HO.out.low1 (by omega), HB.out⟩
set_option maxRecDepth 100000 in
set_option maxHeartbeats 8000000 in
theorem specSegmentPieces_any (a b c d : Int) (w : World) :
    Calls Try.prog 11 #[segV a b c d] w fun e w' => ∃ u, e = .returned u ∧ OwnL w' w.heap.size u (pcL a b c d) ∧ Below w.heap.size w w' := by
  obtain ⟨i0, hi0, hz0, hz1, hz2⟩ := info_parts info_ints
  have HI0 := Lib.hid hi0; clear hi0
  have HZ0 := Lib.hid hz0; clear hz0
  have HZ1 := Lib.hid hz1; clear hz1
  have HZ2 := Lib.hid hz2; clear hz2
  have P0 := fun W => specSegmentPeriod_any a b c d W
  have CT := fun W (t : Int) => l14Count_any a b c d t W
  have x0 := box4_new w (.int .i64 a) (.int .i64 b) (.int .i64 c) (.int .i64 d) 26
  have X0 := Lib.hid (x0.keep (below1 _ (.cells #[] 46)))
  have B0 := Lib.hid (below2 w (.cells #[.int .i64 a, .int .i64 b, .int .i64 c, .int .i64 d] 26) (.cells #[] 46))
  have Z0 := Lib.hid (show ((w.alloc (.cells #[.int .i64 a, .int .i64 b, .int .i64 c, .int .i64 d] 26)).alloc (.cells #[] 46)).heap.size = w.heap.size + 2 by simp)
  have O0 := OwnL.lit0 (w.alloc (.cells #[.int .i64 a, .int .i64 b, .int .i64 c, .int .i64 d] 26)) (w.heap.size + 1) (by simp)
  rw [show (w.alloc (.cells #[.int .i64 a, .int .i64 b, .int .i64 c, .int .i64 d] 26)).heap.size = w.heap.size + 1 by simp] at O0
  have O0 := Lib.hid O0
  clear x0
  have pb := per_bd a b c d
  have HPC := Lib.hid (show pcL a b c d = pcK a b c d (segPeriod a b c d).toNat from rfl)
  have HSEG := Lib.hid (show 0 < segPeriod a b c d → segB a b c d = true ∧ segPeriod a b c d = perI a b c d from fun h => by
    unfold segPeriod at h ⊢
    split at h
    · rename_i g; exact ⟨g, by rw [if_pos g]⟩
    · omega)
  unfold segV at *
  have x0 := X0.out.c0
  have x1 := X0.out.c1
  have x2 := X0.out.c2
  have x3 := X0.out.c3
  go_enter Try.func11, Try.ntmps11
  go_wp2_with fail
  refine (P0 _).mono ?_
  rintro e w1 ⟨rfl, c1⟩
  have X1 := Lib.hid (X0.out.keep c1)
  have B1 := Lib.hid (below_then B0.out (by have := Z0.out; omega) c1)
  have Z1 := Lib.hid (show w.heap.size + 2 ≤ w1.heap.size by have := Z0.out; have := c1.size; omega)
  have O1 := Lib.hid (O0.out.kept c1)
  clear P0 X0 B0 c1 Z0 O0 x0 x1 x2 x3
  obtain ⟨N, hN⟩ : ∃ N : Nat, segPeriod a b c d = N := ⟨(segPeriod a b c d).toNat, by omega⟩
  rw [hN] at pb HPC HSEG
  rw [hN]
  rw [show ((N : Int)).toNat = N by omega] at HPC
  clear hN
  go_wp2_with fail
  go_loopw [3, 5] (fun ov i wr => ∃ (k : Nat), k ≤ N ∧ i = .int .i64 k ∧ Hid (OwnL wr (w.heap.size + 1) ov (pcK a b c d k)) ∧ Hid (Box4 wr w.heap.size (.int .i64 a) (.int .i64 b) (.int .i64 c) (.int .i64 d)) ∧ Hid (Below w.heap.size w wr) ∧ Hid (w.heap.size + 2 ≤ wr.heap.size)) (fun _ i _ => N - (intOf i).toNat)
  case atStart => exact ⟨0, by omega, rfl, O1, X1, B1, Z1⟩
  case round =>
    obtain ⟨k, hk, rfl, HO, HX, HB, HZ⟩ := hrel
    by_cases hlt : k < N
    · obtain ⟨hs, hper⟩ := HSEG.out (by omega)
      obtain ⟨h2, h2', h4, h4', h1, h1', h3, h3'⟩ := segB_bd hs
      have cb := cnt_bd (t := k) hs (by omega) (by omega)
      have cb2 := cnt_bd (t := (k : Int) + N) hs (by omega) (by omega)
      have C1 := CT wr k h1 h1' h2 h2' h3 h3' h4 h4' (by omega) (by omega)
      have C2 := fun W => CT W ((k : Int) + N) h1 h1' h2 h2' h3 h3' h4 h4' (by omega) (by omega)
      have cs := cnt_step hs k 1
      rw [← hper, Int.one_mul, Int.one_mul] at cs
      have sb := stp_bd hs
      have HE := Lib.hid (pcK_step a b c d k)
      have hal : (pcK a b c d k).length ≤ k := by rw [pcK_len]; omega
      have x0 := HX.out.c0
      have x1 := HX.out.c1
      have x2 := HX.out.c2
      have x3 := HX.out.c3
      clear CT hper HSEG
      unfold segV at *
      generalize stpI a b c d = st at *
      generalize cntI a b c d ((k : Int) + N) = cm at *
      generalize cntI a b c d k = cn at *
      generalize pcK a b c d k = acc at *
      have hst : cm - cn = st := by omega
      clear cs
      go_wp2_with fail
      refine C1.mono ?_
      rintro e w2 ⟨rfl, c2⟩
      have HX2 := Lib.hid (HX.out.keep c2)
      have HB2 := Lib.hid (below_then HB.out HB.out.size c2)
      have HO2 := Lib.hid (HO.out.kept c2)
      have Z2 := Lib.hid (Nat.le_trans HZ.out c2.size)
      clear c2 C1 HX HB HO HZ x0 x1 x2 x3
      have x0 := HX2.out.c0
      have x1 := HX2.out.c1
      have x2 := HX2.out.c2
      have x3 := HX2.out.c3
      go_wp2_with fail
      refine (C2 _).mono ?_
      rintro e w3 ⟨rfl, c3⟩
      have HX3 := Lib.hid (HX2.out.keep c3)
      have HB3 := Lib.hid (below_then HB2.out HB2.out.size c3)
      have HO3 := Lib.hid (HO2.out.kept c3)
      have Z3 := Lib.hid (Nat.le_trans Z2.out c3.size)
      clear c3 C2 HX2 HB2 HO2 Z2 x0 x1 x2 x3
      have ag : u3.ownBlock ≠ some w.heap.size := fun e => by have := (HO3.out.lt _ e).1; omega
      have z3 := Z3.out
      have cR := below1 w3 (.cells #[.int .i64 cn, .int .i64 st] 3)
      obtain ⟨V, pp, hpt⟩ := HO3.out.part cR
      have HPT := Lib.hid hpt
      have HK := Lib.hid (IS.lit2 w3 w3.heap.size (Nat.le_refl _) cn st)
      have hnb : ((w3.alloc (.cells #[.int .i64 cn, .int .i64 st] 3)).alloc (.cells #[.slice (some ⟨w3.heap.size, 0, none⟩) 2 2] 46)).heap[w3.heap.size + 1]? = some (.cells #[.slice (some ⟨w3.heap.size, 0, none⟩) 2 2] 46 (0, 0)) := (by have g := heap_alloc_new (w3.alloc (.cells #[.int .i64 cn, .int .i64 st] 3)) (.cells #[.slice (some ⟨w3.heap.size, 0, none⟩) 2 2] 46); rw [World.size_alloc] at g; exact g)
      clear hpt
      go_wp2_with (at_builtin; refine wpList_append_lies _ rfl _ _ _ rfl (w.heap.size + 1) 46 i0 _ 1 24 Try.underlying24 HI0.out HZ0.out HZ1.out HZ2.out rfl (by omega) u3 acc.length _ rfl (HPT.out.alloc _) ⟨w3.heap.size + 1, 0, none⟩ 1 1 [.slice (some ⟨w3.heap.size, 0, none⟩) 2 2] rfl rfl (World.news_of_block (cs := #[.slice (some ⟨w3.heap.size, 0, none⟩) 2 2]) (t := 46) (fr := (0, 0)) hnb) (by simp [Value.oneCell']) (by omega) (by unfold maxLen; omega) (by omega) (by simp; omega) (w3.heap.size + 2) (by simp) ?_)
      intro gg cap w4 hown3 hgrow hat hlt
      have HO' := Lib.hid (HPT.out.push HK.out (Nat.le_refl _) (by omega) (by simp) hgrow hown3)
      have HB4 := below_then HB3.out HB3.out.size cR
      have HBE := Lib.hid (OwnLp.below HB4 (by simp; omega) _ hgrow HPT.out (by omega))
      have HX' := Lib.hid ((HX3.out.keep (below_then cR cR.size (below1 _ (.cells #[.slice (some ⟨w3.heap.size, 0, none⟩) 2 2] 46)))).grown hgrow ag)
      have hgs := hgrow.size
      simp at hgs
      have HZ' := Lib.hid (show w.heap.size + 2 ≤ w4.heap.size by omega)
      clear hown3 hgrow hat hlt HPT HK HB4 hgs hnb cR
      rw [← HE.out] at HO'
      go_wp2
      go_roundw
      case rel => exact ⟨k + 1, by omega, by go_num, HO', HX', HBE, HZ'⟩
      case measure => simp [intOf]; omega
    · obtain rfl : k = N := by omega
      go_wp2
      go_ret
      exact ⟨_, rfl, by rw [HPC.out]; exact HO.out.low1 (by omega), HB.out⟩
end Go.Proofs.Ytfncikbmdaameaa
