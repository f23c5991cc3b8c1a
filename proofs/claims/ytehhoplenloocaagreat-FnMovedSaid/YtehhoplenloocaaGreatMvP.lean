/- MovePolygon: the walks. -/
import Derived.Test.YtehhoplenloocaaGreatApl
import Derived.Test.YtehhoplenloocaaGreatHulI
import Derived.Deep.RegionHeld3
namespace Go.Proofs.YtehhoplenloocaaGreat
open Go.RowKit
set_option linter.unusedVariables false
set_option linter.unusedSimpArgs false

def mvV (U : List (List Int)) (V : List Int) (ls : List (List Int)) : List (List Int) × Bool := if moveB U V && isPolyB ls then hullV (ls.map (mvP U V)) else ([], false)
theorem mvV_no1 {U : List (List Int)} {V : List Int} {ls : List (List Int)} (h : moveB U V = false) : mvV U V ls = ([], false) := by unfold mvV; rw [h]; rfl
theorem mvV_no2 {U : List (List Int)} {V : List Int} {ls : List (List Int)} (h : isPolyB ls = false) : mvV U V ls = ([], false) := by unfold mvV; rw [h]; simp
theorem mvV_yes {U : List (List Int)} {V : List Int} {ls : List (List Int)} (h1 : moveB U V = true) (h2 : isPolyB ls = true) : mvV U V ls = hullV (ls.map (mvP U V)) := by unfold mvV; rw [h1, h2]; rfl
theorem hullV_false {ls : List (List Int)} (h : (hullV ls).2 = false) : (hullV ls).1 = [] := by
  unfold hullV at *
  split at h
  · cases h
  · rename_i h1; rw [if_neg h1]
/-- a box that is no part of a slice of one's own stays as it is when that slice grows -/
theorem boxOwn {w w4 w9 : World} {B N : Nat} {x y v : Value} {acc : List (List Int)} {o : Obj} (h0 : Box2 w N x y) (h : Box2 w4 N x y) (hown : OwnL w B v acc) (hg : (w4.alloc o).grownBy w9 v.ownBlock) (hN : N < B) : Box2 w9 N x y := by
  have hne : some N ≠ v.ownBlock := by
    intro e
    have := hown.lt N e.symm
    omega
  have e : w9.heap[N]? = w4.heap[N]? := by
    rw [hg.block N (by simp; have := h.lt; omega) hne, Below.heap_alloc _ _ _ h.lt]
  refine ⟨Nat.lt_of_lt_of_le h.lt (by have := hg.size; simp at this; omega), ?_, ?_, ?_, ?_⟩
  · exact (World.cell?_of_block (w := w4) e).trans h.c0
  · exact (World.cell?_of_block (w := w4) e).trans h.c1
  · exact (World.frozen?_of_block (w := w4) e).trans h.f0
  · exact (World.frozen?_of_block (w := w4) e).trans h.f1
set_option maxRecDepth 100000 in
set_option maxHeartbeats 8000000 in
theorem implMovePolygon_any (U : List (List Int)) (V : List Int) (ls : List (List Int)) (v1 v2 v : Value) (hb : Nat) (w : World) (i1 : ISSr w hb v1 U) (i2 : ISr w hb v2 V) (h : ISSr w hb v ls) (hhb : hb ≤ w.heap.size) :
    Calls Tryz.prog 6 #[.agg #[v1, v2], v] w fun e w' => ∃ u, e = .returned (.tuple #[u, .bool (mvV U V ls).2]) ∧ ISS w' w.heap.size w'.heap.size u (mvV U V ls).1 ∧ Below w.heap.size w w' := by
  obtain ⟨i0, hi0, hz0, hz1, hz2⟩ := info_parts info_ints
  have HI0 := Lib.hid hi0; clear hi0
  have HZ0 := Lib.hid hz0; clear hz0
  have HZ1 := Lib.hid hz1; clear hz1
  have HZ2 := Lib.hid hz2; clear hz2
  obtain ⟨w0, hw0⟩ : ∃ w0, w0 = w.alloc (.cells #[v1, v2] 27) := ⟨_, rfl⟩
  have b0 : Below w.heap.size w w0 := by rw [hw0]; exact below1 w _
  have hs0 : w0.heap.size = w.heap.size + 1 := by rw [hw0]; simp
  have X0 : Box2 w0 w.heap.size v1 v2 := by rw [hw0]; exact box2_new w _ _ _
  have IM := implIsMove_any U V v1 v2 hb w0 (i1.keep b0 hhb) (i2.keep b0 hhb) (by omega)
  have x0 := X0.c0
  have x1 := X0.c1
  cases hm : moveB U V
  case false =>
    rw [mvV_no1 hm]
    rw [hm] at IM
    clear h hm i1 i2
    go_enter Tryz.func6, Tryz.ntmps6
    go_wp2_with fail
    rw [← hw0]
    clear hw0
    with_reducible refine IM.mono ?_
    rintro e w1 ⟨rfl, c1⟩
    have B1 := below_then b0 b0.size c1
    clear x0 x1 X0 IM
    go_wp2
    go_ret2
    exact ⟨_, rfl, ISS.nil _ _ _, B1⟩
  rw [hm] at IM
  have IP := fun W (HB : Below w.heap.size w W) => implIsPolygon_any ls v hb W (h.keep HB hhb) (Nat.le_trans hhb HB.size)
  cases hp : isPolyB ls
  case false =>
    rw [mvV_no2 hp]
    rw [hp] at IP
    clear h hm hp i1 i2
    go_enter Tryz.func6, Tryz.ntmps6
    go_wp2_with fail
    rw [← hw0]
    clear hw0
    with_reducible refine IM.mono ?_
    rintro e w1 ⟨rfl, c1⟩
    have B1 := below_then b0 b0.size c1
    have Q := IP w1 B1
    clear x0 x1 X0 IM IP
    go_wp2_with (go_at_call 28; (with_reducible refine Q.mono ?_); rintro e w2 ⟨rfl, c2⟩)
    have B2 := below_then B1 B1.size c2
    go_ret2
    exact ⟨_, rfl, ISS.nil _ _ _, B2⟩
  rw [hp] at IP
  obtain ⟨h3, h12, hf⟩ := isPoly_parts hp
  have hmv := moveB_mv hm
  have HR := Lib.hid (fun i hi => flat_at hf (k := i) hi)
  have HRES := Lib.hid (mvV_yes hm hp)
  have HML : (ls.map (mvP U V)).length = ls.length := by simp
  obtain ⟨a, cap, rfl, -, -, hcell⟩ := id h
  obtain ⟨n, hn⟩ : ∃ n, n = ls.length := ⟨_, rfl⟩
  rw [← hn] at h3 h12 IP HML ⊢
  have HN := Lib.hid hn
  have HC := Lib.hid hcell
  have HHB := Lib.hid hhb
  have HMV := Lib.hid hmv
  have HMQ := Lib.hid HML
  clear HML
  have HML := HMQ
  clear HMQ
  obtain ⟨bu, ou, cu, VU, rfl, hbu, hcu⟩ := i1.two hmv.len
  obtain ⟨bv, ow, cv, rfl, hbv, hv0, hv1⟩ := i2.two hmv.vlen
  obtain ⟨ku0, ru0⟩ := hcu 0 (by omega)
  obtain ⟨ku1, ru1⟩ := hcu 1 (by omega)
  rw [Nat.add_zero] at ku0
  have CA := Lib.hid (fun W (B : Below w.heap.size w W) => (B.cell (p := ⟨bu, ou, none⟩) (show bu < w.heap.size by omega)).trans ku0)
  have CB := Lib.hid (fun W (B : Below w.heap.size w W) => (B.cell (p := ⟨bu, ou + 1, none⟩) (show bu < w.heap.size by omega)).trans ku1)
  have CV0 := Lib.hid (fun W (B : Below w.heap.size w W) => (B.cell (p := ⟨bv, ow, none⟩) (show bv < w.heap.size by omega)).trans hv0)
  have CV1 := Lib.hid (fun W (B : Below w.heap.size w W) => (B.cell (p := ⟨bv, ow + 1, none⟩) (show bv < w.heap.size by omega)).trans hv1)
  have vb0 := allIn_at hmv.vin 0 (by rw [hmv.vlen]; omega)
  have vb1 := allIn_at hmv.vin 1 (by rw [hmv.vlen]; omega)
  have RU0 := Lib.hid (fun W (B : Below w.heap.size w W) => ru0.keep B hhb)
  have RU1 := Lib.hid (fun W (B : Below w.heap.size w W) => ru1.keep B hhb)
  have HMP := Lib.hid (fun r => show mvP U V r = [dotI (U.getD 0 []) r + V.getD 0 0, dotI (U.getD 1 []) r + V.getD 1 0] from rfl)
  clear h i1 i2 hm hp hn hcell hf hmv hcu ku0 ku1 hv0 hv1 ru0 ru1
  generalize VU 0 = vu0 at *
  generalize VU 1 = vu1 at *
  generalize V.getD 0 0 = y0 at *
  generalize V.getD 1 0 = y1 at *
  go_enter Tryz.func6, Tryz.ntmps6
  go_wp2_with fail
  rw [← hw0]
  clear hw0
  with_reducible refine IM.mono ?_
  rintro e w1 ⟨rfl, c1⟩
  have B1 := Lib.hid (below_then b0 b0.size c1)
  have X1 := Lib.hid (X0.keep c1)
  have Q := IP w1 B1.out
  clear x0 x1 X0 IM IP c1
  go_wp2_with (go_at_call 28; (with_reducible refine Q.mono ?_); rintro e w2 ⟨rfl, c2⟩)
  have B2 := Lib.hid (below_then B1.out B1.out.size c2)
  have X2 := Lib.hid (X1.out.keep c2)
  have HZW := Lib.hid (show w.heap.size + 1 ≤ w2.heap.size from X2.out.lt)
  clear Q c2 b0
  go_loopw [6, 8, 19] (fun ov _ i wr => ∃ (k : Nat) (acc : List (List Int)), k ≤ n ∧ i = .int .i64 k ∧ acc.length ≤ k ∧ Hid (acc = (ls.take k).map (mvP U V)) ∧ Hid (OwnL wr (w.heap.size + 1) ov acc) ∧ Hid (Below w.heap.size w wr) ∧ Hid (Box2 wr w.heap.size (.slice (some ⟨bu, ou, none⟩) 2 cu) (.slice (some ⟨bv, ow, none⟩) 2 cv))) (fun _ _ i _ => n - (intOf i).toNat)
  case atStart => exact ⟨0, [], by omega, rfl, Nat.le_refl _, Lib.hid (by simp), Lib.hid (OwnL.nil w2 _ HZW.out), B2, X2⟩
  case round =>
    obtain ⟨k, acc, hk, rfl, hal, hacc, hown, hbe, hbx⟩ := hrel
    by_cases hlt : k < n
    · have hkl : k < ls.length := by rw [← HN.out]; exact hlt
      obtain ⟨b, off, V9, rfl, hbb, hcc⟩ := HC.out (by intro e; rw [e] at hkl; exact absurd hkl (Nat.not_lt_zero _))
      have CK := Lib.hid (fun W (B : Below w.heap.size w W) => (B.cell (p := ⟨b, off + k, none⟩) (Nat.lt_of_lt_of_le hbb HHB.out)).trans (hcc k hkl).1)
      have RK := Lib.hid (fun W (B : Below w.heap.size w W) => (hcc k hkl).2.keep B HHB.out)
      have ck := CK.out wr hbe.out
      have HE : (ls.take k).map (mvP U V) ++ [mvP U V (ls.getD k [])] = (ls.take (k + 1)).map (mvP U V) := map_snocL (mvP U V) ls k hkl
      rw [← hacc.out] at HE
      have HE := Lib.hid HE
      have hfl := HR.out k hkl
      have hpt : PtS (ls.getD k []) := ⟨hfl.1, allIn_up hfl.2 (by omega) (by omega)⟩
      have HPT9 := Lib.hid hpt
      have hbs := hbe.out.size
      clear hcc hkl hfl
      generalize ls.getD k [] = r at *
      generalize V9 k = vk at *
      have hkn : (k : Int) < (n : Int) := by omega
      have hk0 : (0 : Int) ≤ (k : Int) := by omega
      have hkt : ((k : Int)).toNat = k := by omega
      have Bd : Below w.heap.size w wr.drew := hbe.out.trans (below_draws _ wr 1)
      have bd1 : Below wr.heap.size wr wr.drew := below_draws _ wr 1
      have dd0 := dotS_bd (HMV.out.row 0 (by omega)) hpt
      have dd1 := dotS_bd (HMV.out.row 1 (by omega)) hpt
      have D0 := fun W (B : Below w.heap.size w W) => dot_any (U.getD 0 []) r vu0 vk hb hb W (RU0.out W B) (RK.out W B) (by rw [(HMV.out.row 0 (by omega)).1, hpt.1]; omega) (by rw [(HMV.out.row 0 (by omega)).1]; omega) (allIn_up (HMV.out.row 0 (by omega)).2 (by omega) (by omega)) (allIn_up hpt.2 (by omega) (by omega))
      have D1 := fun W (B : Below w.heap.size w W) => dot_any (U.getD 1 []) r vu1 vk hb hb W (RU1.out W B) (RK.out W B) (by rw [(HMV.out.row 1 (by omega)).1, hpt.1]; omega) (by rw [(HMV.out.row 1 (by omega)).1]; omega) (allIn_up (HMV.out.row 1 (by omega)).2 (by omega) (by omega)) (allIn_up hpt.2 (by omega) (by omega))
      rw [HMP.out] at HE
      generalize dotI (U.getD 0 []) r = t0 at *
      generalize dotI (U.getD 1 []) r = t1 at *
      have f0 := wr64 (t0 + y0) (by omega)
      have f1 := wr64 (t1 + y1) (by omega)
      clear dd0 dd1 hpt vb0 vb1
      have q1 := hbx.out.c0
      have q2 := hbx.out.c1
      have q3 := CA.out wr hbe.out
      have q4 := CB.out wr hbe.out
      have q5 := CV0.out wr hbe.out
      have q6 := CV1.out wr hbe.out
      go_wp2_with fail
      go_region_held3 (fun w' => w'.cell? ⟨w.heap.size, 0, none⟩ = some (.slice (some ⟨bu, ou, none⟩) 2 cu) ∧ w'.cell? ⟨w.heap.size, 1, none⟩ = some (.slice (some ⟨bv, ow, none⟩) 2 cv) ∧ w'.cell? ⟨bu, ou, none⟩ = some vu0 ∧ w'.cell? ⟨bu, ou + 1, none⟩ = some vu1 ∧ w'.cell? ⟨bv, ow, none⟩ = some (.int .i64 y0) ∧ w'.cell? ⟨bv, ow + 1, none⟩ = some (.int .i64 y1))
        (first | exact ⟨q1, q2, q3, q4, q5, q6⟩ | exact ⟨z91, z92, z93, z94, z95, z96⟩ | exact ⟨z31, z32, z33, z34, z35, z36⟩ | exact ⟨z21, z22, z23, z24, z25, z26⟩ | go_keep)
        (first
          | (go_at_call 29; (with_reducible refine (D1 _ B3).mono ?_); rintro e w4 ⟨rfl, d4, hw4⟩; have c4 := below_draws w3.heap.size w3 d4; rw [← hw4] at c4; clear hw4; have B4 := below_then B3 B3.size c4; have bd4 := below_then bd3 bd3.size c4; have X4 := X3.keep c4; have z31 := X4.c0; have z32 := X4.c1; have z33 := CA.out _ B4; have z34 := CB.out _ B4; have z35 := CV0.out _ B4; have z36 := CV1.out _ B4; have G5 := below1 w4 (.cells #[.int .i64 (t0 + y0), .int .i64 (t1 + y1)] 3); have bd5 := below_then bd4 bd4.size G5; obtain ⟨VV, pp, hpt8⟩ := hown.out.part bd5; have HN6 := heap_alloc_new (w4.alloc (.cells #[.int .i64 (t0 + y0), .int .i64 (t1 + y1)] 3)) (.cells #[.slice (some ⟨w4.heap.size, 0, none⟩) 2 2] 25); rw [World.size_alloc] at HN6)
          | (go_at_call 29; (with_reducible refine (D0 _ Bd).mono ?_); rintro e w3 ⟨rfl, d3, hw3⟩; have c3 := below_draws wr.drew.heap.size wr.drew d3; rw [← hw3] at c3; clear hw3; have B3 := below_then Bd Bd.size c3; have bd3 := below_then bd1 bd1.size c3; have X3 := hbx.out.keep bd3; have z21 := X3.c0; have z22 := X3.c1; have z23 := CA.out _ B3; have z24 := CB.out _ B3; have z25 := CV0.out _ B3; have z26 := CV1.out _ B3)
          | (refine step_append_lies _ (by rfl) _ _ _ (by with_reducible rfl) (w.heap.size + 1) 25 i0 _ 1 24 Tryz.underlying24 HI0.out HZ0.out HZ1.out HZ2.out rfl (by omega) u6 acc.length _ (by rfl) (hpt8.alloc _) ⟨w4.heap.size + 1, 0, none⟩ 1 1 [.slice (some ⟨w4.heap.size, 0, none⟩) 2 2] (by rfl) (by rfl) (World.news_of_block HN6) (by simp [Value.oneCell']) (by omega) (by unfold maxLen; omega) (by omega) (by simp; have := X4.lt; omega) (w4.heap.size + 1 + 1) (by simp) ?_; intro gg cap1 w9 hown1 hgrow hat hlt9; have BE := OwnLp.below (B4.alloc B4.size (.cells #[.int .i64 (t0 + y0), .int .i64 (t1 + y1)] 3)) (by simp; have := B4.size; omega) _ hgrow hpt8 (Nat.le_succ _); have z93 := CA.out _ BE; have z94 := CB.out _ BE; have z95 := CV0.out _ BE; have z96 := CV1.out _ BE; have XX := boxOwn hbx.out (X4.keep G5) hown.out hgrow (Nat.lt_succ_self _); have z91 := XX.c0; have z92 := XX.c1))
      have K1 := IS.lit2 w4 w4.heap.size (Nat.le_refl _) (t0 + y0) (t1 + y1)
      have HO := Lib.hid (hpt8.push K1 bd4.size (Nat.le_succ _) (by simp) hgrow hown1)
      have HBE := Lib.hid BE
      have HXX := Lib.hid XX
      clear hown1 hgrow hat hlt9 hpt8 HN6 K1 BE XX X3 X4 G5 bd5 bd4 bd3 B3 B4 c3 c4 D0 D1 f0 f1 q1 q2 q3 q4 q5 q6 z21 z22 z23 z24 z25 z26 z31 z32 z33 z34 z35 z36 z91 z92 z93 z94 z95 z96 Bd bd1
      go_wp2
      go_roundw
      case rel => exact ⟨k + 1, _, by omega, by go_num, by simp; omega, HE, HO, HBE, HXX⟩
      case measure => simp [intOf]; omega
    · obtain rfl : k = n := by omega
      have hfin : acc = ls.map (mvP U V) := by rw [hacc.out, HN.out, List.take_length]
      subst hfin
      have HU := implHullOf_any (ls.map (mvP U V)) _ wr.heap.size wr hown.out.is.read (Nat.le_refl _) (by rw [HML.out]; omega) (by rw [HML.out]; omega)
      have HRS := HRES.out
      go_wp2_with (go_at_call 30; (with_reducible refine HU.mono ?_); rintro e w9 ⟨u9, rfl, k9, c9⟩)
      go_ret2
      rw [HRS]
      exact ⟨_, rfl, k9.mono hbe.out.size (Nat.le_refl _), below_then hbe.out hbe.out.size c9⟩
set_option maxRecDepth 100000 in
set_option maxHeartbeats 8000000 in
theorem specMovePolygon_any (U : List (List Int)) (V : List Int) (ls : List (List Int)) (v1 v2 v : Value) (hb : Nat) (w : World) (i1 : ISSr w hb v1 U) (i2 : ISr w hb v2 V) (h : ISSr w hb v ls) (hhb : hb ≤ w.heap.size) :
    Calls Tryz.prog 7 #[.agg #[v1, v2], v] w fun e w' => ∃ u, e = .returned (.tuple #[u, .bool (mvV U V ls).2]) ∧ ISS w' w.heap.size w'.heap.size u (mvV U V ls).1 ∧ Below w.heap.size w w' := by
  obtain ⟨i0, hi0, hz0, hz1, hz2⟩ := info_parts info_ints
  have HI0 := Lib.hid hi0; clear hi0
  have HZ0 := Lib.hid hz0; clear hz0
  have HZ1 := Lib.hid hz1; clear hz1
  have HZ2 := Lib.hid hz2; clear hz2
  obtain ⟨w0, hw0⟩ : ∃ w0, w0 = w.alloc (.cells #[v1, v2] 27) := ⟨_, rfl⟩
  have b0 : Below w.heap.size w w0 := by rw [hw0]; exact below1 w _
  have hs0 : w0.heap.size = w.heap.size + 1 := by rw [hw0]; simp
  have X0 : Box2 w0 w.heap.size v1 v2 := by rw [hw0]; exact box2_new w _ _ _
  have IM := specIsMove_any U V v1 v2 hb w0 (i1.keep b0 hhb) (i2.keep b0 hhb) (by omega)
  have x0 := X0.c0
  have x1 := X0.c1
  cases hm : moveB U V
  case false =>
    rw [mvV_no1 hm]
    rw [hm] at IM
    clear h hm i1 i2
    go_enter Tryz.func7, Tryz.ntmps7
    go_wp2_with fail
    rw [← hw0]
    clear hw0
    with_reducible refine IM.mono ?_
    rintro e w1 ⟨rfl, c1⟩
    have B1 := below_then b0 b0.size c1
    clear x0 x1 X0 IM
    go_wp2
    go_ret2
    exact ⟨_, rfl, ((OwnL.lit0 w1 w1.heap.size (Nat.le_refl _)).is).mono B1.size (Nat.le_refl _), B1.alloc B1.size _⟩
  rw [hm] at IM
  have IP := fun W (HB : Below w.heap.size w W) => specIsPolygon_any ls v hb W (h.keep HB hhb) (Nat.le_trans hhb HB.size)
  cases hp : isPolyB ls
  case false =>
    rw [mvV_no2 hp]
    rw [hp] at IP
    clear h hm hp i1 i2
    go_enter Tryz.func7, Tryz.ntmps7
    go_wp2_with fail
    rw [← hw0]
    clear hw0
    with_reducible refine IM.mono ?_
    rintro e w1 ⟨rfl, c1⟩
    have B1 := below_then b0 b0.size c1
    have Q := IP w1 B1
    clear x0 x1 X0 IM IP
    go_wp2_with (go_at_call 31; (with_reducible refine Q.mono ?_); rintro e w2 ⟨rfl, c2⟩)
    have B2 := below_then B1 B1.size c2
    go_ret2
    exact ⟨_, rfl, ((OwnL.lit0 w2 w2.heap.size (Nat.le_refl _)).is).mono B2.size (Nat.le_refl _), B2.alloc B2.size _⟩
  rw [hp] at IP
  obtain ⟨h3, h12, hf⟩ := isPoly_parts hp
  have hmv := moveB_mv hm
  have HR := Lib.hid (fun i hi => flat_at hf (k := i) hi)
  have HRES := Lib.hid (mvV_yes hm hp)
  have HML : (ls.map (mvP U V)).length = ls.length := by simp
  obtain ⟨a, cap, rfl, -, -, hcell⟩ := id h
  obtain ⟨n, hn⟩ : ∃ n, n = ls.length := ⟨_, rfl⟩
  rw [← hn] at h3 h12 IP HML ⊢
  have HN := Lib.hid hn
  have HC := Lib.hid hcell
  have HHB := Lib.hid hhb
  have HMV := Lib.hid hmv
  have HMQ := Lib.hid HML
  clear HML
  have HML := HMQ
  clear HMQ
  have MV := Lib.hid (fun r vr W (B : Below w.heap.size w W) (ir : ISr W hb vr r) (hr : PtS r) => l17Moved_any U V r v1 v2 vr hb W (i1.keep B hhb) (i2.keep B hhb) ir (Nat.le_trans hhb B.size) hmv hr)
  clear h i1 i2 hm hp hn hcell hf hmv
  go_enter Tryz.func7, Tryz.ntmps7
  go_wp2_with fail
  rw [← hw0]
  clear hw0
  with_reducible refine IM.mono ?_
  rintro e w1 ⟨rfl, c1⟩
  have B1 := Lib.hid (below_then b0 b0.size c1)
  have X1 := Lib.hid (X0.keep c1)
  have Q := IP w1 B1.out
  clear x0 x1 X0 IM IP c1
  go_wp2_with (go_at_call 31; (with_reducible refine Q.mono ?_); rintro e w2 ⟨rfl, c2⟩)
  have B2 := Lib.hid (below_then B1.out B1.out.size c2)
  have X2 := Lib.hid (X1.out.keep c2)
  have HZW := Lib.hid (show w.heap.size + 1 ≤ w2.heap.size from X2.out.lt)
  clear Q c2 b0
  go_loopw [6, 7] (fun ov i wr => ∃ (k : Nat) (acc : List (List Int)), k ≤ n ∧ i = .int .i64 k ∧ acc.length ≤ k ∧ Hid (acc = (ls.take k).map (mvP U V)) ∧ Hid (OwnL wr (w.heap.size + 1) ov acc) ∧ Hid (Below w.heap.size w wr) ∧ Hid (Box2 wr w.heap.size v1 v2)) (fun _ i _ => n - (intOf i).toNat)
  case atStart => exact ⟨0, [], by omega, rfl, Nat.le_refl _, Lib.hid (by simp), Lib.hid (OwnL.lit0 w2 (w.heap.size + 1) HZW.out), Lib.hid (B2.out.alloc B2.out.size _), Lib.hid (X2.out.keep (below1 w2 _))⟩
  case round =>
    obtain ⟨k, acc, hk, rfl, hal, hacc, hown, hbe, hbx⟩ := hrel
    by_cases hlt : k < n
    · have hkl : k < ls.length := by rw [← HN.out]; exact hlt
      obtain ⟨b, off, V9, rfl, hbb, hcc⟩ := HC.out (by intro e; rw [e] at hkl; exact absurd hkl (Nat.not_lt_zero _))
      have CK := Lib.hid (fun W (B : Below w.heap.size w W) => (B.cell (p := ⟨b, off + k, none⟩) (Nat.lt_of_lt_of_le hbb HHB.out)).trans (hcc k hkl).1)
      have RK := Lib.hid (fun W (B : Below w.heap.size w W) => (hcc k hkl).2.keep B HHB.out)
      have ck := CK.out wr hbe.out
      have HE : (ls.take k).map (mvP U V) ++ [mvP U V (ls.getD k [])] = (ls.take (k + 1)).map (mvP U V) := map_snocL (mvP U V) ls k hkl
      rw [← hacc.out] at HE
      have HE := Lib.hid HE
      have hfl := HR.out k hkl
      have hpt : PtS (ls.getD k []) := ⟨hfl.1, allIn_up hfl.2 (by omega) (by omega)⟩
      have HPT9 := Lib.hid hpt
      have hbs := hbe.out.size
      clear hcc hkl hfl
      generalize ls.getD k [] = r at *
      generalize V9 k = vk at *
      have hkn : (k : Int) < (n : Int) := by omega
      have hk0 : (0 : Int) ≤ (k : Int) := by omega
      have hkt : ((k : Int)).toNat = k := by omega
      have Bd : Below w.heap.size w wr.drew := hbe.out.trans (below_draws _ wr 1)
      have bd1 : Below wr.heap.size wr wr.drew := below_draws _ wr 1
      have M1 := MV.out r vk wr.drew Bd (RK.out _ Bd) hpt
      have q1 := hbx.out.c0
      have q2 := hbx.out.c1
      go_wp2_with fail
      go_region_held3 (fun w' => w'.cell? ⟨w.heap.size, 0, none⟩ = some v1 ∧ w'.cell? ⟨w.heap.size, 1, none⟩ = some v2 ∧ w'.cell? ⟨b, off + k, none⟩ = some vk)
        (first | exact ⟨q1, q2, ck⟩ | exact ⟨z91, z92, z93⟩ | exact ⟨z31, z32, z33⟩ | go_keep)
        (first
          | (go_at_call 32; (with_reducible refine M1.mono ?_); rintro e w4 ⟨um, rfl, km, c4⟩; have B4 := below_then Bd Bd.size c4; have bd4 := below_then bd1 bd1.size c4; have X4 := hbx.out.keep bd4; have z31 := X4.c0; have z32 := X4.c1; have z33 := CK.out _ B4; obtain ⟨am, cm, rfl, -⟩ := id km; obtain ⟨VV, pp, hpt8⟩ := hown.out.part bd4)
          | (refine step_append_lies _ (by rfl) _ _ _ (by with_reducible rfl) (w.heap.size + 1) 25 i0 _ 1 24 Tryz.underlying24 HI0.out HZ0.out HZ1.out HZ2.out rfl (by omega) u6 acc.length _ (by rfl) (hpt8.alloc _) ⟨w4.heap.size, 0, none⟩ 1 1 [.slice am (mvP U V r).length cm] (by rfl) (by rfl) (World.news_of_block (cs := #[.slice am (mvP U V r).length cm]) (t := 25) (fr := (0, 0)) (heap_alloc_new w4 _)) (by simp [Value.oneCell']) (by omega) (by unfold maxLen; omega) (by omega) (by simp; have := X4.lt; omega) (w4.heap.size + 1) (by simp) ?_; intro gg cap1 w9 hown1 hgrow hat hlt9; have BE := OwnLp.below B4 B4.size _ hgrow hpt8 (Nat.le_succ _); have z93 := CK.out _ BE; have XX := boxOwn hbx.out X4 hown.out hgrow (Nat.lt_succ_self _); have z91 := XX.c0; have z92 := XX.c1))
      have km : IS w4 wr.heap.size w4.heap.size (.slice am (mvP U V r).length cm) (mvP U V r) := km
      have HO := Lib.hid (hpt8.push km (Nat.le_refl _) bd4.size (Nat.le_refl _) hgrow hown1)
      have HBE := Lib.hid BE
      have HXX := Lib.hid XX
      clear hown1 hgrow hat hlt9 hpt8 BE XX X4 bd4 B4 c4 M1 q1 q2 z31 z32 z33 z91 z92 z93 Bd bd1 km
      go_wp2
      go_roundw
      case rel => exact ⟨k + 1, _, by omega, by go_num, by simp; omega, HE, HO, HBE, HXX⟩
      case measure => simp [intOf]; omega
    · obtain rfl : k = n := by omega
      have hfin : acc = ls.map (mvP U V) := by rw [hacc.out, HN.out, List.take_length]
      subst hfin
      have HU := specHullOf_any (ls.map (mvP U V)) _ wr.heap.size wr hown.out.is.read (Nat.le_refl _)
      have HRS := Lib.hid HRES.out
      have HN9 := Lib.hid (hullV_false (ls := ls.map (mvP U V)))
      clear HRES
      generalize hullV (ls.map (mvP U V)) = R at *
      obtain ⟨RL, ok⟩ := R
      dsimp only at HU HN9
      cases ok
      · have hrl := HN9.out rfl
        go_wp2_with (go_at_call 33; (with_reducible refine HU.mono ?_); rintro e w9 ⟨u9, rfl, k9, c9⟩)
        have B9 := below_then hbe.out hbe.out.size c9
        go_ret2
        rw [HRS.out, hrl]
        exact ⟨_, rfl, ((OwnL.lit0 w9 w9.heap.size (Nat.le_refl _)).is).mono B9.size (Nat.le_refl _), B9.alloc B9.size _⟩
      · go_wp2_with (go_at_call 33; (with_reducible refine HU.mono ?_); rintro e w9 ⟨u9, rfl, k9, c9⟩)
        have B9 := below_then hbe.out hbe.out.size c9
        go_ret2
        rw [HRS.out]
        exact ⟨_, rfl, k9.is.mono hbe.out.size (Nat.le_refl _), B9⟩
end Go.Proofs.YtehhoplenloocaaGreat
