/- CornerCone: the walks. -/
import Derived.Test.YtehhoplenloocaaPrm
import Derived.Test.YtehhoplenloocaaB11
import Derived.Test.YtehhoplenloocaaB2
namespace Go.Proofs.Ytehhoplenloocaa
open Go.RowKit
set_option linter.unusedVariables false
set_option linter.unusedSimpArgs false

def sideA (ls : List (List Int)) (j : Nat) : List Int := minusI (ls.getD ((j + 1) % ls.length) []) (ls.getD j [])
def sideB (ls : List (List Int)) (j : Nat) : List Int := minusI (ls.getD ((j + ls.length - 1) % ls.length) []) (ls.getD j [])
def corOk (ls : List (List Int)) (k : Int) : Bool := isPolyB ls && (inB k 0 (ls.length - 1) && coneB (primQ (sideA ls k.toNat)) (primQ (sideB ls k.toNat)))
def corV (ls : List (List Int)) (k : Int) : (List Int × List Int) × Bool := if corOk ls k then ((primQ (sideA ls k.toNat), primQ (sideB ls k.toNat)), true) else (([], []), false)
theorem corV_no {ls : List (List Int)} {k : Int} (h : corOk ls k = false) : corV ls k = (([], []), false) := by unfold corV; rw [h]; rfl
theorem corV_yes {ls : List (List Int)} {k : Int} (h : corOk ls k = true) : corV ls k = ((primQ (sideA ls k.toNat), primQ (sideB ls k.toNat)), true) := by unfold corV; rw [h]; rfl
theorem corV_len (ls : List (List Int)) (k : Int) : (corV ls k).1.1.length ≤ 2 ∧ (corV ls k).1.2.length ≤ 2 := by
  unfold corV; split <;> simp [primQ_len, sideA, sideB, minusI]
/-- neighbours of a polygon's corners differ -/
theorem isPoly_loc {ls : List (List Int)} (hp : isPolyB ls = true) : locB ls.length (pf ls) = true := by
  unfold isPolyB at hp; simp only [Bool.and_eq_true] at hp; exact hp.2.2
theorem next_ne {ls : List (List Int)} (hp : isPolyB ls = true) {j : Nat} (hj : j < ls.length) : pf ls j ≠ pf ls ((j + 1) % ls.length) := by
  intro e
  have h := List.all_eq_true.1 (isPoly_loc hp) j (List.mem_range.2 hj)
  have := (locAt_iff.1 h).1
  rw [e] at this
  simp [tn, crossP, subP] at this
theorem gcdL_pos {x y : Int} (h : x ≠ 0 ∨ y ≠ 0) : 1 ≤ gcdL [x, y] := by
  rw [gcdL_pair]
  unfold gcdI
  have : 0 < Int.gcd x y := Int.gcd_pos_iff.2 h
  omega
theorem sub_ne {a b : List Int} (h : ptOf a ≠ ptOf b) : a.getD 0 0 - b.getD 0 0 ≠ 0 ∨ a.getD 1 0 - b.getD 1 0 ≠ 0 := by
  by_cases h0 : a.getD 0 0 - b.getD 0 0 = 0
  · right; intro h1
    apply h
    unfold ptOf
    rw [show a.getD 0 0 = b.getD 0 0 by omega, show a.getD 1 0 = b.getD 1 0 by omega]
  · exact .inl h0
theorem prev_next {n j : Nat} (hn : 3 ≤ n) (hj : j < n) : ((j + n - 1) % n + 1) % n = j := by
  by_cases h : j = 0
  · subst h
    rw [show 0 + n - 1 = n - 1 by omega, Nat.mod_eq_of_lt (show n - 1 < n by omega), show n - 1 + 1 = n by omega, Nat.mod_self]
  · rw [show j + n - 1 = (j - 1) + n by omega, Nat.add_mod_right, Nat.mod_eq_of_lt (show j - 1 < n by omega), show j - 1 + 1 = j by omega, Nat.mod_eq_of_lt hj]
theorem sideA_pos {ls : List (List Int)} (hp : isPolyB ls = true) {j : Nat} (hj : j < ls.length) : 1 ≤ gcdL (sideA ls j) :=
  gcdL_pos (sub_ne fun e => next_ne hp hj e.symm)
theorem sideB_pos {ls : List (List Int)} (hp : isPolyB ls = true) {j : Nat} (hj : j < ls.length) : 1 ≤ gcdL (sideB ls j) := by
  have h3 := (isPoly_parts hp).1
  refine gcdL_pos (sub_ne fun e => ?_)
  have := next_ne hp (j := (j + ls.length - 1) % ls.length) (Nat.mod_lt _ (by omega))
  rw [prev_next h3 hj] at this
  exact this e

set_option maxRecDepth 100000 in
set_option maxHeartbeats 8000000 in
theorem implCornerCone_any (ls : List (List Int)) (k : Int) (v : Value) (hb : Nat) (w : World) (h : ISSr w hb v ls) (hhb : hb ≤ w.heap.size) :
    Calls Try.prog 54 #[v, .int .i64 k] w fun e w' => ∃ u1 u2, e = .returned (.tuple #[.agg #[u1, u2], .bool (corV ls k).2]) ∧ ConeO w' w.heap.size w'.heap.size u1 u2 (corV ls k).1.1 (corV ls k).1.2 ∧ Below w.heap.size w w' := by
  obtain ⟨w0, hw0⟩ : ∃ w0, w0 = w.alloc (.cells #[.slice none 0 0, .slice none 0 0] 62) := ⟨_, rfl⟩
  have b0 : Below w.heap.size w w0 := by rw [hw0]; exact below1 w _
  have hs0 : w0.heap.size = w.heap.size + 1 := by rw [hw0]; simp
  have X0 : Box2 w0 w.heap.size (.slice none 0 0) (.slice none 0 0) := by rw [hw0]; exact box2_new w _ _ _
  have HS0 := Lib.hid hs0
  have IP := implIsPolygon_any ls v hb w0 (h.keep b0 hhb) (by omega)
  have H := Lib.hid h
  obtain ⟨a, cap, rfl, hcap, hm, hcell⟩ := id h
  unfold maxLen at hm
  cases hp : isPolyB ls
  case false =>
    have HT := Lib.hid (corV_no (k := k) (show corOk ls k = false by unfold corOk; rw [hp]; rfl))
    rw [hp] at IP
    clear h hp hcell H
    generalize ls.length = n at *
    go_enter Try.func54, Try.ntmps54
    go_wp2_with fail
    rw [← hw0]
    clear hw0
    with_reducible refine IP.mono ?_
    rintro e w1 ⟨rfl, c1⟩
    have X1 := X0.keep c1
    have q0 := X1.c0
    have q1 := X1.c1
    have f0 := X1.f0
    have f1 := X1.f1
    have B1 := Lib.hid (below_then b0 b0.size c1)
    clear X0 X1 c1 b0 IP
    go_wp2
    refine bodyPost_ret (v := .tuple #[.agg #[.slice none 0 0, .slice none 0 0], .bool false]) (by simp [results, Try.results54, go_sem, q0, q1]) rfl ⟨.slice none 0 0, .slice none 0 0, by rw [HT.out], by rw [HT.out]; exact ConeO.nil _ _ _, ?_⟩
    first | exact B1.out | exact (B1.out.setCell (Nat.le_refl _) _).setCell (Nat.le_refl _) _
  rw [hp] at IP
  have hw := fun W => within_any k 0 ((ls.length : Int) - 1) W
  cases hk : inB k 0 ((ls.length : Int) - 1)
  case false =>
    have HT := Lib.hid (corV_no (k := k) (show corOk ls k = false by unfold corOk; rw [hk]; simp))
    rw [hk] at hw
    clear h hp hcell H hk
    generalize ls.length = n at *
    go_enter Try.func54, Try.ntmps54
    go_wp2_with fail
    rw [← hw0]
    clear hw0
    with_reducible refine IP.mono ?_
    rintro e w1 ⟨rfl, c1⟩
    have X1 := X0.keep c1
    have q0 := X1.c0
    have q1 := X1.c1
    have f0 := X1.f0
    have f1 := X1.f1
    have B1 := Lib.hid (below_then b0 b0.size c1)
    clear X0 X1 c1 b0 IP
    go_wp2_with (go_at_call 65; (with_reducible refine (hw _).mono ?_); rintro e w' ⟨rfl, rfl⟩)
    refine bodyPost_ret (v := .tuple #[.agg #[.slice none 0 0, .slice none 0 0], .bool false]) (by simp [results, Try.results54, go_sem, q0, q1]) rfl ⟨.slice none 0 0, .slice none 0 0, by rw [HT.out], by rw [HT.out]; exact ConeO.nil _ _ _, ?_⟩
    first | exact B1.out | exact (B1.out.setCell (Nat.le_refl _) _).setCell (Nat.le_refl _) _
  rw [hk] at hw
  have hkr := inB_iff.1 hk
  obtain ⟨j, rfl⟩ : ∃ j : Nat, k = (j : Int) := ⟨k.toNat, by omega⟩
  have hOK : corOk ls (j : Int) = coneB (primQ (sideA ls j)) (primQ (sideB ls j)) := by unfold corOk; rw [hp, hk]; rfl
  have HNO := Lib.hid (fun e => corV_no (hOK.trans e))
  have HYES := Lib.hid (fun e => corV_yes (hOK.trans e))
  obtain ⟨h3, h12, hf⟩ := isPoly_parts hp
  have hj : j < ls.length := by omega
  obtain ⟨b, off, V, rfl, hbb, hcell⟩ := hcell (by intro e; rw [e] at h3; simp at h3)
  obtain ⟨n, hn⟩ : ∃ n, n = ls.length := ⟨_, rfl⟩
  obtain ⟨y, hy⟩ : ∃ y, y = (j + 1) % ls.length := ⟨_, rfl⟩
  obtain ⟨z, hz⟩ : ∃ z, z = (j + ls.length - 1) % ls.length := ⟨_, rfl⟩
  have hyl : y < ls.length := by rw [hy]; exact Nat.mod_lt _ (by omega)
  have hzl : z < ls.length := by rw [hz]; exact Nat.mod_lt _ (by omega)
  have hyI : ((j : Int) + 1) % (n : Int) = (y : Int) := by rw [hy, hn]; push_cast; rfl
  have hyT : ((j : Int) + 1).tmod (n : Int) = (y : Int) := by rw [Int.tmod_eq_emod_of_nonneg (by omega)]; exact hyI
  have hzI : ((j : Int) + n - 1) % (n : Int) = (z : Int) := by rw [hz, hn]; rw [Int.natCast_emod, Int.natCast_sub (by omega)]; push_cast; rfl
  have hzT : ((j : Int) + n - 1).tmod (n : Int) = (z : Int) := by rw [Int.tmod_eq_emod_of_nonneg (by omega)]; exact hzI
  have fj := flat_at hf hj
  have fy := flat_at hf hyl
  have fz := flat_at hf hzl
  have mA := minus_bd fy fj
  have mB := minus_bd fz fj
  have mA0 := mA 0 (by simp [minusI])
  have mA1 := mA 1 (by simp [minusI])
  have mB0 := mB 0 (by simp [minusI])
  have mB1 := mB 1 (by simp [minusI])
  simp only [minusI, List.getD_cons_zero, List.getD_cons_succ] at mA0 mA1 mB0 mB1
  have hA : sideA ls j = minusI (ls.getD y []) (ls.getD j []) := by unfold sideA; rw [hy]
  have hB : sideB ls j = minusI (ls.getD z []) (ls.getD j []) := by unfold sideB; rw [hz]
  have gA := sideA_pos hp hj
  have gB := sideB_pos hp hj
  have MIA := Lib.hid (fun W (HB : Below w.heap.size w W) => minus_any (ls.getD y []) (ls.getD j []) (V y) (V j) hb W ((hcell y hyl).2.keep HB hhb) ((hcell j hj).2.keep HB hhb) (Nat.le_trans hhb HB.size) fy.1 fj.1 (by omega) (by omega))
  have MIB := Lib.hid (fun W (HB : Below w.heap.size w W) => minus_any (ls.getD z []) (ls.getD j []) (V z) (V j) hb W ((hcell z hzl).2.keep HB hhb) ((hcell j hj).2.keep HB hhb) (Nat.le_trans hhb HB.size) fz.1 fj.1 (by omega) (by omega))
  rw [hA] at gA
  rw [hB] at gB
  have PRA := Lib.hid (fun u W (i : ISr W W.heap.size u (minusI (ls.getD y []) (ls.getD j []))) => implPrim_any _ _ u W.heap.size W i (Nat.le_refl _) (by omega) (by omega) gA)
  have PRB := Lib.hid (fun u W (i : ISr W W.heap.size u (minusI (ls.getD z []) (ls.getD j []))) => implPrim_any _ _ u W.heap.size W i (Nat.le_refl _) (by omega) (by omega) gB)
  have hPA : primQ [(ls.getD y []).getD 0 0 - (ls.getD j []).getD 0 0, (ls.getD y []).getD 1 0 - (ls.getD j []).getD 1 0] = primQ (sideA ls j) := by rw [hA]; rfl
  have hPB : primQ [(ls.getD z []).getD 0 0 - (ls.getD j []).getD 0 0, (ls.getD z []).getD 1 0 - (ls.getD j []).getD 1 0] = primQ (sideB ls j) := by rw [hB]; rfl
  rw [hPA] at PRA
  rw [hPB] at PRB
  have CJ := Lib.hid (fun W (HB : Below w.heap.size w W) => (HB.cell (p := ⟨b, off + j, none⟩) (show b < w.heap.size by omega)).trans (hcell j hj).1)
  have CY := Lib.hid (fun W (HB : Below w.heap.size w W) => (HB.cell (p := ⟨b, off + y, none⟩) (show b < w.heap.size by omega)).trans (hcell y hyl).1)
  have CZ := Lib.hid (fun W (HB : Below w.heap.size w W) => (HB.cell (p := ⟨b, off + z, none⟩) (show b < w.heap.size by omega)).trans (hcell z hzl).1)
  have hcm : cap ≤ 9223372036854775807 := by omega
  rw [← hn] at hj hyl hzl hkr h3 h12 hcap hw IP ⊢
  have ht : ((j : Int)).toNat = j := by omega
  clear h hp hk hf hcell H fj fy fz mA mB mA0 mA1 mB0 mB1 hA hB gA gB hPA hPB hOK
  generalize minusI (ls.getD y []) (ls.getD j []) = dA at *
  generalize minusI (ls.getD z []) (ls.getD j []) = dB at *
  rw [ht] at HYES
  generalize primQ (sideA ls j) = PA at *
  generalize primQ (sideB ls j) = PB at *
  generalize corV ls (j : Int) = R at *
  clear hy hz hn
  have i1 : (0 : Int) ≤ (j : Int) := by omega
  have i2 : (j : Int) < (n : Int) := by omega
  have i3 : (0 : Int) ≤ (y : Int) := by omega
  have i4 : (y : Int) < (n : Int) := by omega
  have i5 : (0 : Int) ≤ (z : Int) := by omega
  have i6 : (z : Int) < (n : Int) := by omega
  have i7 : ¬ n = 0 := by omega
  have ja : ((n : Int) == 0) = false := by rw [beq_eq_false_iff_ne]; omega
  have i8 : ¬ (n : Int) = 0 := by omega
  have t1 : ((j : Int)).toNat = j := by omega
  have t2 : ((y : Int)).toNat = y := by omega
  have t3 : ((z : Int)).toNat = z := by omega
  have r1 : IntKind.i64.wrap ((j : Int) + 1) = (j : Int) + 1 := wr64 _ (by omega)
  have r2 : IntKind.i64.wrap ((j : Int) + n) = (j : Int) + n := wr64 _ (by omega)
  have r3 : IntKind.i64.wrap ((j : Int) + n - 1) = (j : Int) + n - 1 := wr64 _ (by omega)
  have r4 : IntKind.i64.wrap (((j : Int) + 1).tmod (n : Int)) = y := by rw [hyT]; exact wr64 _ (by omega)
  have r5 : IntKind.i64.wrap (((j : Int) + 1) % (n : Int)) = y := by rw [hyI]; exact wr64 _ (by omega)
  have r6 : IntKind.i64.wrap (((j : Int) + n - 1).tmod (n : Int)) = z := by rw [hzT]; exact wr64 _ (by omega)
  have r7 : IntKind.i64.wrap (((j : Int) + n - 1) % (n : Int)) = z := by rw [hzI]; exact wr64 _ (by omega)
  have r8 := wr64 (y : Int) (by omega)
  have r9 := wr64 (z : Int) (by omega)
  go_enter Try.func54, Try.ntmps54
  go_wp2_with fail
  rw [← hw0]
  clear hw0
  with_reducible refine IP.mono ?_
  rintro e w1 ⟨rfl, c1⟩
  have X1 := Lib.hid (X0.keep c1)
  have B1 := Lib.hid (below_then b0 b0.size c1)
  have HZ1 := Lib.hid c1.size
  clear X0 c1 b0 IP
  have cj := CJ.out w1 B1.out
  have cy := CY.out w1 B1.out
  go_wp2_with (go_at_call 65; (with_reducible refine (hw _).mono ?_); rintro e w' ⟨rfl, rfl⟩)
  have D1 := Lib.hid (B1.out.trans (below_draws w.heap.size w1 1))
  have M1 := MIA.out w1.drew D1.out
  go_region_held3 (fun w' => w'.cell? ⟨b, off + j, none⟩ = some (V j) ∧ w'.cell? ⟨b, off + y, none⟩ = some (V y))
    (first | exact ⟨cj, cy⟩ | exact ⟨e1, e2⟩ | exact ⟨d1, d2⟩ | go_keep)
    (first
      | (go_at_call 121; (with_reducible refine M1.mono ?_); rintro e w2 ⟨u, rfl, hi, c2⟩; have BB := below_then D1.out D1.out.size c2; have d1 := CJ.out _ BB; have d2 := CY.out _ BB)
      | (go_at_call 120; (with_reducible refine (PRA.out _ _ hi.read).mono ?_); rintro e w3 ⟨p, rfl, kp, c3⟩; have BC := below_then BB BB.size c3; have e1 := CJ.out _ BC; have e2 := CY.out _ BC))
  have B3 := Lib.hid BC
  obtain ⟨a3, cp3, rfl, -⟩ := id kp
  have K3 := Lib.hid kp
  have hle3 : w1.heap.size ≤ w2.heap.size := c2.size
  have z23 := c3.size
  have X13 := (below_draws w1.heap.size w1 1).trans ((c2.trans (c3.mono c2.size)))
  clear hi kp c2 c3 BB BC d1 d2 e1 e2 cj cy M1
  have cj := CJ.out w3 B3.out
  have cz := CZ.out w3 B3.out
  go_wp2_with fail
  have D4 := Lib.hid (B3.out.trans (below_draws w.heap.size w3 1))
  have M4 := MIB.out w3.drew D4.out
  go_region_held3 (fun w' => w'.cell? ⟨b, off + j, none⟩ = some (V j) ∧ w'.cell? ⟨b, off + z, none⟩ = some (V z))
    (first | exact ⟨cj, cz⟩ | exact ⟨e1, e2⟩ | exact ⟨d1, d2⟩ | go_keep)
    (first
      | (go_at_call 121; (with_reducible refine M4.mono ?_); rintro e w4 ⟨u, rfl, hi, c4⟩; have BB := below_then D4.out D4.out.size c4; have d1 := CJ.out _ BB; have d2 := CZ.out _ BB)
      | (go_at_call 120; (with_reducible refine (PRB.out _ _ hi.read).mono ?_); rintro e w5 ⟨p, rfl, kq, c5⟩; have BC := below_then BB BB.size c5; have e1 := CJ.out _ BC; have e2 := CZ.out _ BC))
  obtain ⟨a5, cp5, rfl, -⟩ := id kq
  have hs5 := BC.size
  have c35 := (below_draws w3.heap.size w3 1).trans ((c4.trans (c5.mono c4.size)))
  have z4 : w3.heap.size ≤ w4.heap.size := c4.size
  have z5 := c5.size
  have hs1 : w0.heap.size ≤ w1.heap.size := HZ1.out
  have z3 : w1.heap.size ≤ w3.heap.size := Nat.le_trans hle3 z23
  have CO := Lib.hid (ConeO.of (lo := w0.heap.size) (hi := w5.heap.size) (K3.out.keep c35 (Nat.le_refl _)) kq (.inl z4) (Nat.le_trans hs1 hle3) (Nat.le_trans z4 z5) (Nat.le_trans hs1 (Nat.le_trans z3 z4)) (Nat.le_refl _))
  have X5 := Lib.hid (((X1.out.keep X13).keep c35))
  have B5 := Lib.hid BC
  clear hi kq c4 c5 BB BC d1 d2 e1 e2 cj cz M4 K3 c35
  have b6 := below1 w5 (.cells #[.slice a3 PA.length cp3, .slice a5 PB.length cp5] 62)
  have Y6 := Lib.hid (box2_new w5 (.slice a3 PA.length cp3) (.slice a5 PB.length cp5) 62)
  have X6 := Lib.hid (X5.out.keep b6)
  have CO6 := Lib.hid (CO.out.keep b6 (Nat.le_refl _))
  have B6 := Lib.hid (below_then B5.out B5.out.size b6)
  have hz6 : (w5.alloc (.cells #[.slice a3 PA.length cp3, .slice a5 PB.length cp5] 62)).heap.size = w5.heap.size + 1 := by simp
  clear b6 r1 r2 r3 r4 r5 r6 r7 r8 r9 hyI hyT hzI hzT t1 t2 t3 ja i1 i2 i3 i4 i5 i6 i7 i8 ht hkr h3 h12 hw MIA MIB PRA PRB CJ CY CZ D1 D4 hyl hzl hj hm hcm
  go_wp2_with fail
  generalize w5.alloc (.cells #[.slice a3 PA.length cp3, .slice a5 PB.length cp5] 62) = w6 at *
  have C := implIsCone_any PA PB (.slice a3 PA.length cp3) (.slice a5 PB.length cp5) w5.heap.size w6 CO6.out.fstR CO6.out.sndR (by omega)
  cases hc : coneB PA PB
  all_goals
    rw [hc] at C
    with_reducible refine C.mono ?_
    rintro e w7 ⟨rfl, c7⟩
    have X7 := X6.out.keep c7
    have Y7 := Y6.out.keep c7
    have q0 := X7.c0
    have q1 := X7.c1
    have f0 := X7.f0
    have f1 := X7.f1
    have y0 := Y7.c0
    have y1 := Y7.c1
    have B7 := Lib.hid (below_then B6.out B6.out.size c7)
    have CO7 := Lib.hid (CO6.out.keep c7 (by omega))
    have Z7 := Lib.hid c7.size
    clear c7 C X7 Y7
  · have HT := Lib.hid (HNO.out hc)
    go_wp2
    refine bodyPost_ret (v := .tuple #[.agg #[.slice none 0 0, .slice none 0 0], .bool false]) (by simp [results, Try.results54, go_sem, q0, q1]) rfl ⟨.slice none 0 0, .slice none 0 0, by rw [HT.out], by rw [HT.out]; exact ConeO.nil _ _ _, ?_⟩
    first | exact B7.out | exact (B7.out.setCell (Nat.le_refl _) _).setCell (Nat.le_refl _) _
  · have HT := Lib.hid (HYES.out hc)
    go_wp2
    refine bodyPost_ret (v := .tuple #[.agg #[.slice a3 PA.length cp3, .slice a5 PB.length cp5], .bool true]) (by simp [results, Try.results54, go_sem, q0, q1]) rfl ⟨_, _, by rw [HT.out], ?_, ?_⟩
    · rw [HT.out]
      have h3 := Z7.out
      have h4 := HS0.out
      refine ⟨(((CO7.out.1.setOther (a := ⟨w.heap.size, 0, none⟩) (.inl (by dsimp only; omega)) _).setOther (a := ⟨w.heap.size, 1, none⟩) (.inl (by dsimp only; omega)) _).mono (by omega) (by simp; omega)), (((CO7.out.2.1.setOther (a := ⟨w.heap.size, 0, none⟩) (.inl (by dsimp only; omega)) _).setOther (a := ⟨w.heap.size, 1, none⟩) (.inl (by dsimp only; omega)) _).mono (by omega) (by simp; omega)), CO7.out.2.2⟩
    · exact (B7.out.setCell (Nat.le_refl _) _).setCell (Nat.le_refl _) _
set_option maxRecDepth 100000 in
set_option maxHeartbeats 8000000 in
theorem specCornerCone_any (ls : List (List Int)) (k : Int) (v : Value) (hb : Nat) (w : World) (h : ISSr w hb v ls) (hhb : hb ≤ w.heap.size) :
    Calls Try.prog 55 #[v, .int .i64 k] w fun e w' => ∃ u1 u2, e = .returned (.tuple #[.agg #[u1, u2], .bool (corV ls k).2]) ∧ ConeO w' w.heap.size w'.heap.size u1 u2 (corV ls k).1.1 (corV ls k).1.2 ∧ Below w.heap.size w w' := by
  obtain ⟨w0, hw0⟩ : ∃ w0, w0 = w.alloc (.cells #[.slice none 0 0, .slice none 0 0] 62) := ⟨_, rfl⟩
  have b0 : Below w.heap.size w w0 := by rw [hw0]; exact below1 w _
  have hs0 : w0.heap.size = w.heap.size + 1 := by rw [hw0]; simp
  have X0 : Box2 w0 w.heap.size (.slice none 0 0) (.slice none 0 0) := by rw [hw0]; exact box2_new w _ _ _
  have HS0 := Lib.hid hs0
  have IP := specIsPolygon_any ls v hb w0 (h.keep b0 hhb) (by omega)
  have H := Lib.hid h
  obtain ⟨a, cap, rfl, hcap, hm, hcell⟩ := id h
  unfold maxLen at hm
  cases hp : isPolyB ls
  case false =>
    have HT := Lib.hid (corV_no (k := k) (show corOk ls k = false by unfold corOk; rw [hp]; rfl))
    rw [hp] at IP
    clear h hp hcell H
    generalize ls.length = n at *
    go_enter Try.func55, Try.ntmps55
    go_wp2_with fail
    rw [← hw0]
    clear hw0
    with_reducible refine IP.mono ?_
    rintro e w1 ⟨rfl, c1⟩
    have X1 := X0.keep c1
    have q0 := X1.c0
    have q1 := X1.c1
    have f0 := X1.f0
    have f1 := X1.f1
    have B1 := Lib.hid (below_then b0 b0.size c1)
    clear X0 X1 c1 b0 IP
    go_wp2
    refine bodyPost_ret (v := .tuple #[.agg #[.slice none 0 0, .slice none 0 0], .bool false]) (by simp [results, Try.results55, go_sem, q0, q1]) rfl ⟨.slice none 0 0, .slice none 0 0, by rw [HT.out], by rw [HT.out]; exact ConeO.nil _ _ _, ?_⟩
    first | exact B1.out | exact (B1.out.setCell (Nat.le_refl _) _).setCell (Nat.le_refl _) _
  rw [hp] at IP
  have hw := fun W => l1In_any k 0 ((ls.length : Int) - 1) W
  cases hk : inB k 0 ((ls.length : Int) - 1)
  case false =>
    have HT := Lib.hid (corV_no (k := k) (show corOk ls k = false by unfold corOk; rw [hk]; simp))
    rw [hk] at hw
    clear h hp hcell H hk
    generalize ls.length = n at *
    go_enter Try.func55, Try.ntmps55
    go_wp2_with fail
    rw [← hw0]
    clear hw0
    with_reducible refine IP.mono ?_
    rintro e w1 ⟨rfl, c1⟩
    have X1 := X0.keep c1
    have q0 := X1.c0
    have q1 := X1.c1
    have f0 := X1.f0
    have f1 := X1.f1
    have B1 := Lib.hid (below_then b0 b0.size c1)
    clear X0 X1 c1 b0 IP
    go_wp2_with (go_at_call 68; (with_reducible refine (hw _).mono ?_); rintro e w' ⟨rfl, rfl⟩)
    refine bodyPost_ret (v := .tuple #[.agg #[.slice none 0 0, .slice none 0 0], .bool false]) (by simp [results, Try.results55, go_sem, q0, q1]) rfl ⟨.slice none 0 0, .slice none 0 0, by rw [HT.out], by rw [HT.out]; exact ConeO.nil _ _ _, ?_⟩
    first | exact B1.out | exact (B1.out.setCell (Nat.le_refl _) _).setCell (Nat.le_refl _) _
  rw [hk] at hw
  have hkr := inB_iff.1 hk
  obtain ⟨j, rfl⟩ : ∃ j : Nat, k = (j : Int) := ⟨k.toNat, by omega⟩
  have hOK : corOk ls (j : Int) = coneB (primQ (sideA ls j)) (primQ (sideB ls j)) := by unfold corOk; rw [hp, hk]; rfl
  have HNO := Lib.hid (fun e => corV_no (hOK.trans e))
  have HYES := Lib.hid (fun e => corV_yes (hOK.trans e))
  obtain ⟨h3, h12, hf⟩ := isPoly_parts hp
  have hj : j < ls.length := by omega
  obtain ⟨b, off, V, rfl, hbb, hcell⟩ := hcell (by intro e; rw [e] at h3; simp at h3)
  obtain ⟨n, hn⟩ : ∃ n, n = ls.length := ⟨_, rfl⟩
  obtain ⟨y, hy⟩ : ∃ y, y = (j + 1) % ls.length := ⟨_, rfl⟩
  obtain ⟨z, hz⟩ : ∃ z, z = (j + ls.length - 1) % ls.length := ⟨_, rfl⟩
  have hyl : y < ls.length := by rw [hy]; exact Nat.mod_lt _ (by omega)
  have hzl : z < ls.length := by rw [hz]; exact Nat.mod_lt _ (by omega)
  have hyI : ((j : Int) + 1) % (n : Int) = (y : Int) := by rw [hy, hn]; push_cast; rfl
  have hyT : ((j : Int) + 1).tmod (n : Int) = (y : Int) := by rw [Int.tmod_eq_emod_of_nonneg (by omega)]; exact hyI
  have hzI : ((j : Int) + n - 1) % (n : Int) = (z : Int) := by rw [hz, hn]; rw [Int.natCast_emod, Int.natCast_sub (by omega)]; push_cast; rfl
  have hzT : ((j : Int) + n - 1).tmod (n : Int) = (z : Int) := by rw [Int.tmod_eq_emod_of_nonneg (by omega)]; exact hzI
  have fj := flat_at hf hj
  have fy := flat_at hf hyl
  have fz := flat_at hf hzl
  have mA := minus_bd fy fj
  have mB := minus_bd fz fj
  have zzA : List.zipWith (· - ·) (ls.getD y []) (ls.getD j []) = minusI (ls.getD y []) (ls.getD j []) := zip_minus fy.1 fj.1
  have zzB : List.zipWith (· - ·) (ls.getD z []) (ls.getD j []) = minusI (ls.getD z []) (ls.getD j []) := zip_minus fz.1 fj.1
  have mzA : ∀ i, i < (ls.getD y []).length → -9223372036854775808 ≤ (ls.getD y []).getD i 0 - (ls.getD j []).getD i 0 ∧ (ls.getD y []).getD i 0 - (ls.getD j []).getD i 0 ≤ 9223372036854775807 := by
    intro i hi
    have e1 := allIn_at fy.2 i hi
    have e2 := allIn_at fj.2 i (by rw [fj.1]; rw [fy.1] at hi; exact hi)
    omega
  have mzB : ∀ i, i < (ls.getD z []).length → -9223372036854775808 ≤ (ls.getD z []).getD i 0 - (ls.getD j []).getD i 0 ∧ (ls.getD z []).getD i 0 - (ls.getD j []).getD i 0 ≤ 9223372036854775807 := by
    intro i hi
    have e1 := allIn_at fz.2 i hi
    have e2 := allIn_at fj.2 i (by rw [fj.1]; rw [fz.1] at hi; exact hi)
    omega
  have hA : sideA ls j = minusI (ls.getD y []) (ls.getD j []) := by unfold sideA; rw [hy]
  have hB : sideB ls j = minusI (ls.getD z []) (ls.getD j []) := by unfold sideB; rw [hz]
  have MIA := Lib.hid (fun W (HB : Below w.heap.size w W) => l2Less_any (ls.getD y []) (ls.getD j []) (V y) (V j) hb W ((hcell y hyl).2.keep HB hhb) ((hcell j hj).2.keep HB hhb) (Nat.le_trans hhb HB.size) (by rw [fy.1]; omega) (by rw [fy.1, fj.1]; omega) mzA)
  have MIB := Lib.hid (fun W (HB : Below w.heap.size w W) => l2Less_any (ls.getD z []) (ls.getD j []) (V z) (V j) hb W ((hcell z hzl).2.keep HB hhb) ((hcell j hj).2.keep HB hhb) (Nat.le_trans hhb HB.size) (by rw [fz.1]; omega) (by rw [fz.1, fj.1]; omega) mzB)
  rw [zzA] at MIA
  rw [zzB] at MIB
  have PRA := Lib.hid (fun u W (i : ISr W W.heap.size u (minusI (ls.getD y []) (ls.getD j []))) => l2Prime_any _ u W.heap.size W i (Nat.le_refl _) (by simp [minusI]) (fun k hk => by have := mA k hk; omega))
  have PRB := Lib.hid (fun u W (i : ISr W W.heap.size u (minusI (ls.getD z []) (ls.getD j []))) => l2Prime_any _ u W.heap.size W i (Nat.le_refl _) (by simp [minusI]) (fun k hk => by have := mB k hk; omega))
  rw [← hA] at PRA MIA
  rw [← hB] at PRB MIB
  have CJ := Lib.hid (fun W (HB : Below w.heap.size w W) => (HB.cell (p := ⟨b, off + j, none⟩) (show b < w.heap.size by omega)).trans (hcell j hj).1)
  have CY := Lib.hid (fun W (HB : Below w.heap.size w W) => (HB.cell (p := ⟨b, off + y, none⟩) (show b < w.heap.size by omega)).trans (hcell y hyl).1)
  have CZ := Lib.hid (fun W (HB : Below w.heap.size w W) => (HB.cell (p := ⟨b, off + z, none⟩) (show b < w.heap.size by omega)).trans (hcell z hzl).1)
  have hcm : cap ≤ 9223372036854775807 := by omega
  rw [← hn] at hj hyl hzl hkr h3 h12 hcap hw IP ⊢
  have ht : ((j : Int)).toNat = j := by omega
  clear h hp hk hf hcell H fj fy fz mA mB hA hB hOK zzA zzB mzA mzB
  rw [ht] at HYES
  generalize primQ (sideA ls j) = PA at *
  generalize primQ (sideB ls j) = PB at *
  generalize sideA ls j = dA at *
  generalize sideB ls j = dB at *
  generalize corV ls (j : Int) = R at *
  clear hy hz hn
  have i1 : (0 : Int) ≤ (j : Int) := by omega
  have i2 : (j : Int) < (n : Int) := by omega
  have i3 : (0 : Int) ≤ (y : Int) := by omega
  have i4 : (y : Int) < (n : Int) := by omega
  have i5 : (0 : Int) ≤ (z : Int) := by omega
  have i6 : (z : Int) < (n : Int) := by omega
  have i7 : ¬ n = 0 := by omega
  have ja : ((n : Int) == 0) = false := by rw [beq_eq_false_iff_ne]; omega
  have i8 : ¬ (n : Int) = 0 := by omega
  have t1 : ((j : Int)).toNat = j := by omega
  have t2 : ((y : Int)).toNat = y := by omega
  have t3 : ((z : Int)).toNat = z := by omega
  have r1 : IntKind.i64.wrap ((j : Int) + 1) = (j : Int) + 1 := wr64 _ (by omega)
  have r2 : IntKind.i64.wrap ((j : Int) + n) = (j : Int) + n := wr64 _ (by omega)
  have r3 : IntKind.i64.wrap ((j : Int) + n - 1) = (j : Int) + n - 1 := wr64 _ (by omega)
  have r4 : IntKind.i64.wrap (((j : Int) + 1).tmod (n : Int)) = y := by rw [hyT]; exact wr64 _ (by omega)
  have r5 : IntKind.i64.wrap (((j : Int) + 1) % (n : Int)) = y := by rw [hyI]; exact wr64 _ (by omega)
  have r6 : IntKind.i64.wrap (((j : Int) + n - 1).tmod (n : Int)) = z := by rw [hzT]; exact wr64 _ (by omega)
  have r7 : IntKind.i64.wrap (((j : Int) + n - 1) % (n : Int)) = z := by rw [hzI]; exact wr64 _ (by omega)
  have r8 := wr64 (y : Int) (by omega)
  have r9 := wr64 (z : Int) (by omega)
  go_enter Try.func55, Try.ntmps55
  go_wp2_with fail
  rw [← hw0]
  clear hw0
  with_reducible refine IP.mono ?_
  rintro e w1 ⟨rfl, c1⟩
  have X1 := Lib.hid (X0.keep c1)
  have B1 := Lib.hid (below_then b0 b0.size c1)
  have HZ1 := Lib.hid c1.size
  clear X0 c1 b0 IP
  have cj := CJ.out w1 B1.out
  have cy := CY.out w1 B1.out
  have cz := CZ.out w1 B1.out
  go_upto_region 4 with (go_at_call 68; (with_reducible refine (hw _).mono ?_); rintro e w' ⟨rfl, rfl⟩)
  have PP := fun (W : World) (u : Value) {lo : Nat} {d : List Int} (k : IS W lo W.heap.size u d) => (((k.keep (below1 W (.cells #[.slice none 0 0, .slice none 0 0] 62)) (Nat.le_refl _)).read).upto (show W.heap.size ≤ (W.alloc (.cells #[.slice none 0 0, .slice none 0 0] 62)).heap.size by simp))
  have D1 : Below w.heap.size w w1.drew := B1.out.trans (below_draws w.heap.size w1 1)
  have X1d : Box2 w1.drew w.heap.size (.slice none 0 0) (.slice none 0 0) := X1.out.keep (below_draws w1.heap.size w1 1)
  have z1 : w0.heap.size ≤ w1.heap.size := HZ1.out
  have zz1 : w1.drew.heap.size = w1.heap.size := rfl
  go_cut [7] (fun s wx => ∃ (N : Nat) (a3 a5 : Option Addr) (cp3 cp5 : Nat), s = .pointer (some ⟨N, 0, none⟩) ∧ Hid (w.heap.size < N) ∧ Hid (Box2 wx N (.slice a3 PA.length cp3) (.slice a5 PB.length cp5)) ∧ Hid (ConeO wx w0.heap.size wx.heap.size (.slice a3 PA.length cp3) (.slice a5 PB.length cp5) PA PB) ∧ Hid (Box2 wx w.heap.size (.slice none 0 0) (.slice none 0 0)) ∧ Hid (Below w.heap.size w wx))
  case first =>
    go_region_held3 (fun w' => w'.cell? ⟨b, off + j, none⟩ = some (V j) ∧ w'.cell? ⟨b, off + y, none⟩ = some (V y) ∧ w'.cell? ⟨b, off + z, none⟩ = some (V z))
      (first | exact ⟨cj, cy, cz⟩ | exact ⟨d51, d52, d53⟩ | exact ⟨d41, d42, d43⟩ | exact ⟨d31, d32, d33⟩ | exact ⟨d21, d22, d23⟩ | (refine ⟨CJ.out _ ?_, CY.out _ ?_, CZ.out _ ?_⟩ <;> exact (B5.setCell (by dsimp only; omega) _).setCell (by dsimp only; omega) _) | (refine ⟨CJ.out _ ?_, CY.out _ ?_, CZ.out _ ?_⟩ <;> exact B5.alloc B5.size _) | (refine ⟨CJ.out _ ?_, CY.out _ ?_, CZ.out _ ?_⟩ <;> exact ((B5.alloc B5.size _).setCell (by dsimp only; omega) _).setCell (by dsimp only; omega) _) | go_keep)
      (first
        | (go_at_call 123; have Yq := Y4; (with_reducible refine (PRB.out _ _ hi4.read).mono ?_); rintro e w5 ⟨q, rfl, kq, c5⟩; have cc := c5; have B5 := below_then B4 B4.size cc; have X5 := X4.keep cc; have Y5 := Yq.keep cc; have z5 : w4.heap.size ≤ w5.heap.size := cc.size; have d51 := CJ.out _ B5; have d52 := CY.out _ B5; have d53 := CZ.out _ B5; have K5 := K4.keep cc z4; obtain ⟨a5, cp5, rfl, -⟩ := id kq; have y0 := Y5.c0; have y1 := Y5.c1; have y2 := Y5.f0; have y3 := Y5.f1)
        | (go_at_call 123; have f := below1 w4 (.cells #[.slice none 0 0, .slice none 0 0] 62); (with_reducible refine (PRB.out _ _ (PP w4 u4 hi4)).mono ?_); rintro e w5 ⟨q, rfl, kq, c5⟩; have cc := f.trans (c5.mono f.size); have B5 := below_then B4 B4.size cc; have X5 := X4.keep cc; have Y5 := ((box2_new w4 (.slice none 0 0) (.slice none 0 0) 62)).keep c5; have z5 : w4.heap.size ≤ w5.heap.size := cc.size; have d51 := CJ.out _ B5; have d52 := CY.out _ B5; have d53 := CZ.out _ B5; have K5 := K4.keep cc z4; obtain ⟨a5, cp5, rfl, -⟩ := id kq; have y0 := Y5.c0; have y1 := Y5.c1; have y2 := Y5.f0; have y3 := Y5.f1; have zf : (w4.alloc (.cells #[.slice none 0 0, .slice none 0 0] 62)).heap.size = w4.heap.size + 1 := World.size_alloc _ _; have zg := c5.size)
        | (go_at_call 123; (with_reducible refine (PRB.out _ _ hi4.read).mono ?_); rintro e w5 ⟨q, rfl, kq, c5⟩; have cc := c5; have B5 := below_then B4 B4.size cc; have X5 := X4.keep cc; have z5 : w4.heap.size ≤ w5.heap.size := cc.size; have d51 := CJ.out _ B5; have d52 := CY.out _ B5; have d53 := CZ.out _ B5; have K5 := K4.keep cc z4; obtain ⟨a5, cp5, rfl, -⟩ := id kq)
        | (go_at_call 124; have Yq := Y3; (with_reducible refine (MIB.out _ B3).mono ?_); rintro e w4 ⟨u4, rfl, hi4, c4⟩; have cc := c4; have B4 := below_then B3 B3.size cc; have X4 := X3.keep cc; have Y4 := Yq.keep cc; have z4 : w3.heap.size ≤ w4.heap.size := cc.size; have d41 := CJ.out _ B4; have d42 := CY.out _ B4; have d43 := CZ.out _ B4; have K4 := kp.keep cc (Nat.le_refl _))
        | (go_at_call 124; have f := below1 w3 (.cells #[.slice none 0 0, .slice none 0 0] 62); (with_reducible refine (MIB.out _ (below_then B3 B3.size f)).mono ?_); rintro e w4 ⟨u4, rfl, hi4, c4⟩; have cc := f.trans (c4.mono f.size); have B4 := below_then B3 B3.size cc; have X4 := X3.keep cc; have Y4 := ((box2_new w3 (.slice none 0 0) (.slice none 0 0) 62)).keep c4; have z4 : w3.heap.size ≤ w4.heap.size := cc.size; have d41 := CJ.out _ B4; have d42 := CY.out _ B4; have d43 := CZ.out _ B4; have K4 := kp.keep cc (Nat.le_refl _); have zf : (w3.alloc (.cells #[.slice none 0 0, .slice none 0 0] 62)).heap.size = w3.heap.size + 1 := World.size_alloc _ _; have zg := c4.size)
        | (go_at_call 124; (with_reducible refine (MIB.out _ B3).mono ?_); rintro e w4 ⟨u4, rfl, hi4, c4⟩; have cc := c4; have B4 := below_then B3 B3.size cc; have X4 := X3.keep cc; have z4 : w3.heap.size ≤ w4.heap.size := cc.size; have d41 := CJ.out _ B4; have d42 := CY.out _ B4; have d43 := CZ.out _ B4; have K4 := kp.keep cc (Nat.le_refl _))
        | (go_at_call 123; have Yq := Y2; (with_reducible refine (PRA.out _ _ hi2.read).mono ?_); rintro e w3 ⟨p, rfl, kp, c3⟩; have cc := c3; have B3 := below_then B2 B2.size cc; have X3 := X2.keep cc; have Y3 := Yq.keep cc; have z3 : w2.heap.size ≤ w3.heap.size := cc.size; have d31 := CJ.out _ B3; have d32 := CY.out _ B3; have d33 := CZ.out _ B3; obtain ⟨a3, cp3, rfl, -⟩ := id kp)
        | (go_at_call 123; have f := below1 w2 (.cells #[.slice none 0 0, .slice none 0 0] 62); (with_reducible refine (PRA.out _ _ (PP w2 u2 hi2)).mono ?_); rintro e w3 ⟨p, rfl, kp, c3⟩; have cc := f.trans (c3.mono f.size); have B3 := below_then B2 B2.size cc; have X3 := X2.keep cc; have Y3 := ((box2_new w2 (.slice none 0 0) (.slice none 0 0) 62)).keep c3; have z3 : w2.heap.size ≤ w3.heap.size := cc.size; have d31 := CJ.out _ B3; have d32 := CY.out _ B3; have d33 := CZ.out _ B3; obtain ⟨a3, cp3, rfl, -⟩ := id kp; have zf : (w2.alloc (.cells #[.slice none 0 0, .slice none 0 0] 62)).heap.size = w2.heap.size + 1 := World.size_alloc _ _; have zg := c3.size)
        | (go_at_call 123; (with_reducible refine (PRA.out _ _ hi2.read).mono ?_); rintro e w3 ⟨p, rfl, kp, c3⟩; have cc := c3; have B3 := below_then B2 B2.size cc; have X3 := X2.keep cc; have z3 : w2.heap.size ≤ w3.heap.size := cc.size; have d31 := CJ.out _ B3; have d32 := CY.out _ B3; have d33 := CZ.out _ B3; obtain ⟨a3, cp3, rfl, -⟩ := id kp)
        | (go_at_call 124; have f : Below w1.heap.size w1 (w1.alloc (.cells #[.slice none 0 0, .slice none 0 0] 62)).drew := (below1 w1 (.cells #[.slice none 0 0, .slice none 0 0] 62)).trans (below_draws _ _ 1); (with_reducible refine (MIA.out _ (below_then B1.out B1.out.size f)).mono ?_); rintro e w2 ⟨u2, rfl, hi2, c2⟩; have cc := f.trans (c2.mono f.size); have B2 := below_then B1.out B1.out.size cc; have X2 := X1.out.keep cc; have Y2 := ((box2_new w1 (.slice none 0 0) (.slice none 0 0) 62).keep (below_draws _ _ 1)).keep c2; have z2 : w1.heap.size ≤ w2.heap.size := cc.size; have d21 := CJ.out _ B2; have d22 := CY.out _ B2; have d23 := CZ.out _ B2; have zf : (w1.alloc (.cells #[.slice none 0 0, .slice none 0 0] 62)).drew.heap.size = w1.heap.size + 1 := World.size_alloc _ _; have zg := c2.size)
        | (go_at_call 124; (with_reducible refine (MIA.out _ D1).mono ?_); rintro e w2 ⟨u2, rfl, hi2, c2⟩; have cc := c2; have B2 := below_then D1 D1.size cc; have X2 := X1d.keep cc; have z2 : w1.heap.size ≤ w2.heap.size := cc.size; have d21 := CJ.out _ B2; have d22 := CY.out _ B2; have d23 := CZ.out _ B2))
    all_goals clear CJ CY CZ MIA MIB PRA PRB HNO HYES PP r1 r2 r3 r4 r5 r6 r7 r8 r9 hyI hyT hzI hzT t1 t2 t3 ja i7 i8 ht hw
    all_goals go_wp2_with fail
    all_goals go_meet
    all_goals first
      | exact ⟨_, a3, a5, cp3, cp5, rfl, Lib.hid (by omega), Lib.hid ((Y5.set0 _).set1 _), Lib.hid (ConeO.of ((K5.setOther (by dsimp only; omega) _).setOther (by dsimp only; omega) _) ((kq.setOther (by dsimp only; omega) _).setOther (by dsimp only; omega) _) (.inl (by omega)) (by omega) (by simp; omega) (by omega) (by simp)), Lib.hid ((X5.other (by dsimp only; omega) _).other (by dsimp only; omega) _), Lib.hid ((B5.setCell (by dsimp only; omega) _).setCell (by dsimp only; omega) _)⟩
      | exact ⟨_, a3, a5, cp3, cp5, rfl, Lib.hid (by omega), Lib.hid (box2_new w5 _ _ _), Lib.hid (ConeO.of (K5.keep (below1 w5 _) (by omega)) (kq.keep (below1 w5 _) (Nat.le_refl _)) (.inl (by omega)) (by omega) (by simp; omega) (by omega) (by simp)), Lib.hid (X5.keep (below1 w5 _)), Lib.hid (B5.alloc B5.size _)⟩
  case rest =>
    obtain ⟨N, a3, a5, cp3, cp5, rfl, hN, HY, HCO, HX, HB⟩ := hcut
    have v0 := HY.out.c0
    have v1 := HY.out.c1
    have C := specIsCone_any PA PB (.slice a3 PA.length cp3) (.slice a5 PB.length cp5) _ _ HCO.out.fstR HCO.out.sndR (Nat.le_refl _)
    clear r1 r2 r3 r4 r5 r6 r7 r8 r9 hyI hyT hzI hzT t1 t2 t3 ja i1 i2 i3 i4 i5 i6 i7 i8 ht hkr h3 h12 hw MIA MIB PRA PRB CJ CY CZ hyl hzl hj hm hcm cj cy cz X1d D1 X1 B1 z1 zz1 PP
    go_wp2_with fail
    cases hc : coneB PA PB
    all_goals
      rw [hc] at C
      with_reducible refine C.mono ?_
      rintro e w7 ⟨rfl, c7⟩
      have X7 := HX.out.keep c7
      have Y7 := HY.out.keep c7
      have q0 := X7.c0
      have q1 := X7.c1
      have f0 := X7.f0
      have f1 := X7.f1
      have y0 := Y7.c0
      have y1 := Y7.c1
      have B7 := Lib.hid (below_then HB.out HB.out.size c7)
      have CO7 := Lib.hid (HCO.out.keep c7 (Nat.le_refl _))
      have Z7 := Lib.hid c7.size
      clear c7 C X7 Y7 v0 v1
    · have HT := Lib.hid (HNO.out hc)
      go_wp2
      refine bodyPost_ret (v := .tuple #[.agg #[.slice none 0 0, .slice none 0 0], .bool false]) (by simp [results, Try.results55, go_sem, q0, q1]) rfl ⟨.slice none 0 0, .slice none 0 0, by rw [HT.out], by rw [HT.out]; exact ConeO.nil _ _ _, ?_⟩
      first | exact B7.out | exact (B7.out.setCell (Nat.le_refl _) _).setCell (Nat.le_refl _) _
    · have HT := Lib.hid (HYES.out hc)
      go_wp2
      refine bodyPost_ret (v := .tuple #[.agg #[.slice a3 PA.length cp3, .slice a5 PB.length cp5], .bool true]) (by simp [results, Try.results55, go_sem, q0, q1]) rfl ⟨_, _, by rw [HT.out], ?_, ?_⟩
      · rw [HT.out]
        have h3 := Z7.out
        have h4 := HS0.out
        refine ⟨(((CO7.out.1.setOther (a := ⟨w.heap.size, 0, none⟩) (.inl (by dsimp only; omega)) _).setOther (a := ⟨w.heap.size, 1, none⟩) (.inl (by dsimp only; omega)) _).mono (by omega) (by simp; omega)), (((CO7.out.2.1.setOther (a := ⟨w.heap.size, 0, none⟩) (.inl (by dsimp only; omega)) _).setOther (a := ⟨w.heap.size, 1, none⟩) (.inl (by dsimp only; omega)) _).mono (by omega) (by simp; omega)), CO7.out.2.2⟩
      · exact (B7.out.setCell (Nat.le_refl _) _).setCell (Nat.le_refl _) _
end Go.Proofs.Ytehhoplenloocaa
