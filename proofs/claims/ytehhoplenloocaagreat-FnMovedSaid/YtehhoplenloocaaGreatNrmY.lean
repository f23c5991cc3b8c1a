/- NormalPolygon: the model's walk. -/
import Derived.Test.YtehhoplenloocaaGreatNrmX
import Derived.Test.YtehhoplenloocaaGreatFrmW
import Derived.Test.YtehhoplenloocaaGreatMvP
import Derived.Deep.RegionHeld3
namespace Go.Proofs.YtehhoplenloocaaGreat
open Go.RowKit
set_option linter.unusedVariables false
set_option linter.unusedSimpArgs false

theorem stOf_one {s : Nat} (h : ¬ s % 2 = 0) : stOf s = -1 := by unfold stOf; rw [if_neg h]
/-- the frame of a corner, as the walk wants it -/
theorem frameAt_any (ls : List (List Int)) (k i1 i2 : Nat) (st : Int) (va vb vc : Value) (hb : Nat) (w : World) (ia : ISr w hb va (ls.getD k [])) (ib : ISr w hb vb (ls.getD i1 [])) (ic : ISr w hb vc (ls.getD i2 [])) (hhb : hb ≤ w.heap.size) (hp : isPolyB ls = true) (hk : k < ls.length) (hs : st = 1 ∨ st = -1) (h1 : i1 = nbI ls.length k st) (h2 : i2 = nbI ls.length k (-st)) :
    Calls Tryz.prog 41 #[va, vb, vc] w fun e w' => ∃ v1 v2 U V, e = .returned (.agg #[v1, v2]) ∧ (∃ bM, v1 = .slice (some ⟨bM, 0, none⟩) 2 2 ∧ w.heap.size ≤ bM ∧ MO w' w.heap.size bM 0 2 U) ∧ IS w' w.heap.size w'.heap.size v2 V ∧ MvB U V ∧ ls.map (mvP U V) = frC ls k st ∧ Below w.heap.size w w' := by
  have hn : 0 < ls.length := by omega
  have p0 := poly_two hp hk
  have p1 := poly_two hp (show i1 < ls.length by rw [h1]; exact nbI_lt hn _)
  have p2 := poly_two hp (show i2 < ls.length by rw [h2]; exact nbI_lt hn _)
  obtain ⟨-, hg, hpos, -⟩ := cU_facts hp hk hs
  have e1 : cU ls k st = primQ (minusI (ls.getD i1 []) (ls.getD k [])) := by unfold cU; rw [← h1]
  have e2 : cC ls k st = ls.getD i2 [] := by unfold cC; rw [← h2]
  rw [e1] at hg hpos
  rw [e2] at hpos
  refine (l17Frame_any _ _ _ st va vb vc hb w ia ib ic hhb p0 p1 p2 hs hg hpos).mono ?_
  rintro e w' ⟨v1, v2, U, V, ww, rfl, g1, g2, g3, g4, g5, g6⟩
  refine ⟨v1, v2, U, V, rfl, g1, g2, g3, ?_, g6⟩
  rw [← frL_eq hp hk hs (w := ww) (by rw [e1]; exact g4)]
  unfold frL
  rw [e1, e2]
  refine List.map_congr_left fun x hx => ?_
  obtain ⟨j, hj, rfl⟩ := List.getElem_of_mem hx
  have := (poly_two hp hj).1
  rw [List.getD_eq_getElem?_getD, List.getElem?_eq_getElem hj] at this
  exact g5 _ this
set_option maxRecDepth 100000 in
set_option maxHeartbeats 8000000 in
theorem specNormal_any (ls : List (List Int)) (v : Value) (hb : Nat) (w : World) (h : ISSr w hb v ls) (hhb : hb ≤ w.heap.size) :
    Calls Tryz.prog 13 #[v] w fun e w' => ∃ u, e = .returned (.tuple #[u, .bool (nrV ls).2]) ∧ ISS w' w.heap.size w'.heap.size u (nrV ls).1 ∧ Below w.heap.size w w' := by
  obtain ⟨i0, hi0, hz0, hz1, hz2⟩ := info_parts info_ints
  have HI0 := Lib.hid hi0; clear hi0
  have HZ0 := Lib.hid hz0; clear hz0
  have HZ1 := Lib.hid hz1; clear hz1
  have HZ2 := Lib.hid hz2; clear hz2
  have IP := specIsPolygon_any ls v hb w h hhb
  cases hp : isPolyB ls
  case false =>
    rw [nrV_no hp]
    rw [hp] at IP
    clear h hp
    go_enter Tryz.func13, Tryz.ntmps13
    go_wp2_with (go_at_call 31; (with_reducible refine IP.mono ?_); rintro e w1 ⟨rfl, c1⟩)
    go_ret2
    exact ⟨_, rfl, ((OwnL.lit0 w1 w1.heap.size (Nat.le_refl _)).is).mono c1.size (Nat.le_refl _), c1.alloc c1.size _⟩
  rw [hp] at IP
  obtain ⟨h3, h12, -⟩ := isPoly_parts hp
  obtain ⟨n, hn⟩ : ∃ n, n = ls.length := ⟨_, rfl⟩
  have FA := Lib.hid (fun W (B : Below w.heap.size w W) (k i1 i2 : Nat) (st : Int) (va vb vc : Value) ia ib ic (hk : k < n) (hs : st = 1 ∨ st = -1) h1 h2 => frameAt_any ls k i1 i2 st va vb vc hb W ia ib ic (Nat.le_trans hhb B.size) hp (by rw [← hn]; exact hk) hs h1 h2)
  have HBAD := Lib.hid (fun (j : Nat) (hj : j < 2 * n) hc => nrV_bad (ls := ls) (j := j) (by rw [← hn]; exact hj) hc)
  have HYES := Lib.hid (fun (ho : okK ls (2 * n) = true) => by have := nrV_yes hp (by rw [← hn]; exact ho); rw [← hn] at this; exact this : okK ls (2 * n) = true → nrV ls = (bsK ls (2 * n), true))
  obtain ⟨bP, oP, cap, VP, rfl, hbP, hcellP⟩ := (h.cases).resolve_left (fun e => by rw [e.1] at h3; simp at h3) |>.2.2
  rw [← hn] at h3 h12 IP FA hcellP ⊢
  have HPT := Lib.hid (fun i (hi : i < n) => by have := poly_two hp (k := i) (by rw [← hn]; exact hi); exact (⟨this.1, this.wide (by omega)⟩ : PtS (ls.getD i [])))
  have HBO := Lib.hid (fun j (hj : okK ls j = true) => bsK_ok hj)
  have HC := Lib.hid hcellP
  have HN := Lib.hid hn
  have HHB := Lib.hid hhb
  clear h hp hn hcellP hhb
  go_enter Tryz.func13, Tryz.ntmps13
  go_wp2_with (go_at_call 31; (with_reducible refine IP.mono ?_); rintro e w1 ⟨rfl, c1⟩)
  have C1 := Lib.hid c1
  have BS0 := Lib.hid (show Bst (w1.alloc (.cells #[] 25)) w.heap.size (.slice (some ⟨w1.heap.size, 0, none⟩) 0 0) ls 0 from ⟨rfl, (OwnL.lit0 w1 w.heap.size c1.size).is⟩)
  have C2 := Lib.hid (c1.alloc c1.size (.cells #[] 25))
  clear c1 IP
  go_loopw [4, 6, 7, 8, 9, 10, 11, 12, 13, 14] (fun ov i _ _ _ _ _ _ _ _ wr => ∃ (k : Nat), k ≤ n ∧ i = .int .i64 k ∧ Hid (Bst wr w.heap.size ov ls (2 * k)) ∧ Hid (Below w.heap.size w wr)) (fun _ i _ _ _ _ _ _ _ _ _ => n - (intOf i).toNat)
  case atStart => exact ⟨0, by omega, rfl, BS0, C2⟩
  case round =>
    obtain ⟨k, hk, rfl, hbst, hbe⟩ := hrel
    by_cases hlt : k < n
    · obtain ⟨wy, hwy⟩ : ∃ wy, wy = wr := ⟨_, rfl⟩
      subst hwy
      have hkn : (k : Int) < (n : Int) := by omega
      have dkn : decide ((k : Int) < (n : Int)) = true := by simpa using hkn
      go_wp2_with fail
      go_loopw [4, 7, 8, 9, 10, 11, 12, 13, 14] (fun ov i _ _ _ _ _ _ _ wr => ∃ (s : Nat), s ≤ 2 ∧ i = .int .i64 s ∧ Hid (Bst wr w.heap.size ov ls (2 * k + s)) ∧ Hid (Below w.heap.size w wr)) (fun _ i _ _ _ _ _ _ _ _ => 2 - (intOf i).toNat)
      case atStart => exact ⟨0, by omega, rfl, hbst, hbe⟩
      case round =>
        obtain ⟨s, hs, rfl, hbst2, hbe2⟩ := hrel
        clear hbst hbe
        by_cases hst : s < 2
        · have s1 : (s : Int) < 2 := by omega
          have ds : decide ((s : Int) < 2) = true := by simpa using s1
          obtain ⟨i1, hi1⟩ : ∃ i, i = (k + 1) % n := ⟨_, rfl⟩
          obtain ⟨i2, hi2⟩ : ∃ i, i = (k + n - 1) % n := ⟨_, rfl⟩
          have hi1n : i1 < n := by rw [hi1]; exact Nat.mod_lt _ (by omega)
          have hi2n : i2 < n := by rw [hi2]; exact Nat.mod_lt _ (by omega)
          have HI1 := Lib.hid hi1
          have HI2 := Lib.hid hi2
          have ga1 : IntKind.i64.wrap ((k : Int) + 1) = (k : Int) + 1 := wr64 _ (by omega)
          have ga2 : IntKind.i64.wrap ((k : Int) + n) = (k : Int) + n := wr64 _ (by omega)
          have ga3 : IntKind.i64.wrap ((k : Int) + n - 1) = (k : Int) + n - 1 := wr64 _ (by omega)
          have gc1 : ((k : Int) + 1) % n = (i1 : Int) := by rw [hi1, show ((k : Int) + 1) = ((k + 1 : Nat) : Int) by omega, ← Int.natCast_emod]
          have gc2 : ((k : Int) + n - 1) % n = (i2 : Int) := by rw [hi2, show ((k : Int) + n - 1) = ((k + n - 1 : Nat) : Int) by omega, ← Int.natCast_emod]
          have gb1 : ((k : Int) + 1).tmod n = (i1 : Int) := by rw [Int.tmod_eq_emod_of_nonneg (by omega)]; exact gc1
          have gb2 : ((k : Int) + n - 1).tmod n = (i2 : Int) := by rw [Int.tmod_eq_emod_of_nonneg (by omega)]; exact gc2
          clear hi1 hi2
          have j1 : (0 : Int) ≤ (i1 : Int) := by omega
          have j2 : (0 : Int) ≤ (i2 : Int) := by omega
          have l1 : (i1 : Int) < (n : Int) := by omega
          have l2 : (i2 : Int) < (n : Int) := by omega
          have t0 : ((k : Int)).toNat = k := by omega
          have t1 : ((i1 : Int)).toNat = i1 := by omega
          have t2 : ((i2 : Int)).toNat = i2 := by omega
          have n0 : ¬ n = 0 := by omega
          have gd1 : IntKind.i64.wrap (i1 : Int) = (i1 : Int) := wr64 _ (by omega)
          have gd2 : IntKind.i64.wrap (i2 : Int) = (i2 : Int) := wr64 _ (by omega)
          have CK := Lib.hid (fun W (B : Below w.heap.size w W) i (hi : i < n) => (B.cell (p := ⟨bP, oP + i, none⟩) (Nat.lt_of_lt_of_le hbP HHB.out)).trans (HC.out i hi).1)
          have RK := Lib.hid (fun W (B : Below w.heap.size w W) i (hi : i < n) => (HC.out i hi).2.keep B HHB.out)
          have x0 := CK.out wr hbe2.out k hlt
          have x1 := CK.out wr hbe2.out i1 hi1n
          have x2 := CK.out wr hbe2.out i2 hi2n
          have F1 := FA.out wr hbe2.out k i1 i2 1 (VP k) (VP i1) (VP i2) (RK.out wr hbe2.out k hlt) (RK.out wr hbe2.out i1 hi1n) (RK.out wr hbe2.out i2 hi2n) hlt (.inl rfl) (by unfold nbI; rw [if_pos rfl]; exact HI1.out) (by unfold nbI; rw [if_neg (by omega)]; exact HI2.out)
          go_wp2_with fail
          with_reducible refine F1.mono ?_
          rintro e w2 ⟨v1, v2, U, V, rfl, ⟨bM, rfl, g0, g1⟩, g2, g3, g4, c2⟩
          clear F1
          obtain ⟨a2, cp2, rfl, -⟩ := id g2
          rw [g3.vlen] at g2 ⊢
          have X3 := box2_new w2 (.slice (some ⟨bM, 0, none⟩) 2 2) (.slice a2 2 cp2) 27
          have A3 := below1 w2 (.cells #[.slice (some ⟨bM, 0, none⟩) 2 2, .slice a2 2 cp2] 27)
          have hz3 : (w2.alloc (.cells #[.slice (some ⟨bM, 0, none⟩) 2 2, .slice a2 2 cp2] 27)).heap.size = w2.heap.size + 1 := by simp
          have C3 := below_then c2 c2.size A3
          have hz2 := c2.size
          have hzr := hbe2.out.size
          have G1 := Lib.hid ((g1.keep A3).lower hzr)
          have G2 := Lib.hid ((g2.keep A3 (Nat.le_refl _)).mono hzr (show w2.heap.size ≤ (w2.alloc (.cells #[.slice (some ⟨bM, 0, none⟩) 2 2, .slice a2 2 cp2] 27)).heap.size by rw [hz3]; omega))
          have G3 := Lib.hid g3
          have G4 := Lib.hid g4
          have hbM : bM < w2.heap.size := g1.bk
          have B3 := Lib.hid (below_then hbe2.out hzr C3)
          have R3 := Lib.hid C3
          have BS3 := Lib.hid (hbst2.out.keep C3)
          have HBS2 := hbst2
          clear g1 g2 g3 g4 c2 A3 C3 x0 x1 x2 hbst2 hbe2
          obtain ⟨w3, hw3⟩ : ∃ w3, w3 = w2.alloc (.cells #[.slice (some ⟨bM, 0, none⟩) 2 2, .slice a2 2 cp2] 27) := ⟨_, rfl⟩
          rw [← hw3] at X3 G1 G2 B3 R3 BS3 hz3
          have x0 := CK.out w3 B3.out k hlt
          have x3 := X3.c0
          have x4 := X3.c1
          have x5 := X3.f0
          have x6 := X3.f1
          have hzw : w.heap.size ≤ w2.heap.size := by omega
          go_upto_if 55 with fail
          rw [← hw3]
          clear hw3
          go_cut [10] (fun sl wx => ∃ (N b9 : Nat) (U V : List _) (a9 : Option Addr) (c9 : Nat), sl = .pointer (some ⟨N, 0, none⟩) ∧ Hid (w.heap.size ≤ N) ∧ Hid (Box2 wx N (.slice (some ⟨b9, 0, none⟩) 2 2) (.slice a9 2 c9)) ∧ Hid (MO wx w.heap.size b9 0 2 U) ∧ Hid (IS wx w.heap.size wx.heap.size (.slice a9 2 c9) V) ∧ Hid (MvB U V) ∧ Hid (ls.map (mvP U V) = frC ls k (stOf s)) ∧ Hid (Below w.heap.size w wx) ∧ Hid (Bst wx w.heap.size u4 ls (2 * k + s)))
          case first =>
            rcases (show s = 0 ∨ s = 1 by omega) with rfl | rfl
            · have e0 : (((0 : Nat) : Int) == 1) = false := rfl
              go_wp2_with fail
              go_meet
              exact ⟨w2.heap.size, bM, U, V, a2, cp2, rfl, Lib.hid hzw, Lib.hid X3, G1, G2, G3, G4, B3, BS3⟩
            · have e0 : (((1 : Nat) : Int) == 1) = true := rfl
              have F2 := FA.out w3 B3.out k i2 i1 (-1) (VP k) (VP i2) (VP i1) (RK.out w3 B3.out k hlt) (RK.out w3 B3.out i2 hi2n) (RK.out w3 B3.out i1 hi1n) hlt (.inr rfl) (by unfold nbI; rw [if_neg (by omega)]; exact HI2.out) (by unfold nbI; rw [if_pos (by omega)]; exact HI1.out)
              go_wp2_with fail
              with_reducible refine F2.mono ?_
              rintro e w4 ⟨v3, v4, U4, V4, rfl, ⟨b4, rfl, q0, q1⟩, q2, q3, q4, c4⟩
              obtain ⟨a4, cp4, rfl, -⟩ := id q2
              rw [q3.vlen] at q2 ⊢
              have X4 := X3.keep c4
              have X5 := X4.set0 (.slice (some ⟨b4, 0, none⟩) 2 2)
              have X6 := Lib.hid (X5.set1 (.slice a4 2 cp4))
              have y0 := X4.c0
              have y1 := X4.f0
              have y2 := X5.c1
              have y3 := X5.f1
              have hz4 := c4.size
              have M4 := Lib.hid (((q1.aside q0 (a := ⟨w2.heap.size, 0, none⟩) (show w2.heap.size < w3.heap.size by omega) (.slice (some ⟨b4, 0, none⟩) 2 2)).aside q0 (a := ⟨w2.heap.size, 1, none⟩) (show w2.heap.size < w3.heap.size by omega) (.slice a4 2 cp4)).lower (show w.heap.size ≤ w3.heap.size from B3.out.size))
              have I4 := Lib.hid (((IS.aside q2 (a := ⟨w2.heap.size, 0, none⟩) (show w2.heap.size < w3.heap.size by omega) (.slice (some ⟨b4, 0, none⟩) 2 2)).aside (a := ⟨w2.heap.size, 1, none⟩) (show w2.heap.size < w3.heap.size by omega) (.slice a4 2 cp4)).mono (show w.heap.size ≤ w3.heap.size from B3.out.size) (Nat.le_refl _))
              have B4 := Lib.hid (((below_then B3.out B3.out.size c4).setCell (p := ⟨w2.heap.size, 0, none⟩) (show w.heap.size ≤ w2.heap.size from hzw) (.slice (some ⟨b4, 0, none⟩) 2 2)).setCell (p := ⟨w2.heap.size, 1, none⟩) (show w.heap.size ≤ w2.heap.size from hzw) (.slice a4 2 cp4))
              have BB4 := Lib.hid (HBS2.out.keep (((below_then R3.out R3.out.size c4).setCell (p := ⟨w2.heap.size, 0, none⟩) (show wr.heap.size ≤ w2.heap.size from hz2) (.slice (some ⟨b4, 0, none⟩) 2 2)).setCell (p := ⟨w2.heap.size, 1, none⟩) (show wr.heap.size ≤ w2.heap.size from hz2) (.slice a4 2 cp4)))
              clear X4 X5 q1 q2 c4 F2
              go_wp2_with fail
              go_meet
              exact ⟨w2.heap.size, b4, U4, V4, a4, cp4, rfl, Lib.hid hzw, X6, M4, (by simpa using I4), Lib.hid q3, Lib.hid q4, B4, BB4⟩
          case rest =>
            obtain ⟨N, b9, UU, VV, a9, c9, rfl, hNw, hX, hMO, hIS, hMv, hFR, hBe, hBst⟩ := hcut
            clear G1 G2 G3 G4 B3 R3 BS3 HBS2 X3 x0 x3 x4 x5 x6 HI1 HI2 ga1 ga2 ga3 gb1 gb2 gc1 gc2 gd1 gd2 hzw hz2 hzr hz3 hbM
            have HCD := Lib.hid (show hullV (frC ls k (stOf s)) = cdV ls (2 * k + s) by
              unfold cdV
              have e1 : (2 * k + s) / 2 = k := by omega
              have e2 : stOf (2 * k + s) = stOf s := by unfold stOf; rw [show (2 * k + s) % 2 = s % 2 by omega]
              rw [e1, e2])
            have hB2 := HBAD.out (2 * k + s) (by omega)
            have HB2 := Lib.hid hB2
            have HJE := Lib.hid (show 2 * k + (s + 1) = (2 * k + s) + 1 by omega)
            generalize 2 * k + s = j at *
            clear hB2
            have hNl : N < wc.heap.size := hX.out.lt
            have M1 := Lib.hid (MO.read (cap := 2) hMO.out hMv.out.len (by decide) (by decide) hMO.out.bk)
            have I1 := Lib.hid hIS.out.read
            have MV := Lib.hid (fun r vr W (B : Below wc.heap.size wc W) (ir : ISr W hb vr r) (hr : PtS r) => l17Moved_any UU VV r _ _ vr wc.heap.size W (M1.out.keep B (Nat.le_refl _)) (I1.out.keep B (Nat.le_refl _)) (ir.up (Nat.le_trans HHB.out hBe.out.size)) B.size hMv.out hr)
            have HBC := hBe
            have hwz := hBe.out.size
            have HX0 := Lib.hid (hX.out.keep (below1 wc (.cells #[] 25)))
            have HO0 := Lib.hid (OwnL.lit0 wc wc.heap.size (Nat.le_refl _))
            have HB0 := Lib.hid (below1 wc (.cells #[] 25))
            clear hMO hIS M1 I1
            go_wp2_with fail
            go_loopw [11, 12] (fun ov i wr => ∃ (m : Nat) (acc : List (List Int)), m ≤ n ∧ i = .int .i64 m ∧ acc.length ≤ m ∧ Hid (acc = (ls.take m).map (mvP UU VV)) ∧ Hid (OwnL wr wc.heap.size ov acc) ∧ Hid (Below wc.heap.size wc wr) ∧ Hid (Box2 wr N (.slice (some ⟨b9, 0, none⟩) 2 2) (.slice a9 2 c9))) (fun _ i _ => n - (intOf i).toNat)
            case atStart => exact ⟨0, [], by omega, rfl, Nat.le_refl _, Lib.hid (by simp), HO0, HB0, HX0⟩
            case round =>
              obtain ⟨m, acc, hm, rfl, hal, hacc, hown, hbe, hbx⟩ := hrel
              by_cases hmt : m < n
              · have hkl : m < ls.length := by rw [← HN.out]; exact hmt
                have BW := below_then HBC.out HBC.out.size hbe.out
                have CM := Lib.hid (fun W (B : Below wc.heap.size wc W) => CK.out W (below_then HBC.out HBC.out.size B) m hmt)
                have RM := Lib.hid (fun W (B : Below wc.heap.size wc W) => RK.out W (below_then HBC.out HBC.out.size B) m hmt)
                have ck := CM.out wr hbe.out
                have HE : (ls.take m).map (mvP UU VV) ++ [mvP UU VV (ls.getD m [])] = (ls.take (m + 1)).map (mvP UU VV) := map_snocL (mvP UU VV) ls m hkl
                rw [← hacc.out] at HE
                have HE := Lib.hid HE
                have hpt := HPT.out m hmt
                have hbs := hbe.out.size
                clear hkl BW
                generalize ls.getD m [] = r at *
                generalize VP m = vk at *
                have hkn : (m : Int) < (n : Int) := by omega
                have hk0 : (0 : Int) ≤ (m : Int) := by omega
                have hkt : ((m : Int)).toNat = m := by omega
                have Bd : Below wc.heap.size wc wr.drew := hbe.out.trans (below_draws _ wr 1)
                have bd1 : Below wr.heap.size wr wr.drew := below_draws _ wr 1
                have M1 := MV.out r vk wr.drew Bd (RM.out _ Bd) hpt
                have q1 := hbx.out.c0
                have q2 := hbx.out.c1
                go_wp2_with fail
                go_region_held3 (fun w' => w'.cell? ⟨N, 0, none⟩ = some (.slice (some ⟨b9, 0, none⟩) 2 2) ∧ w'.cell? ⟨N, 1, none⟩ = some (.slice a9 2 c9) ∧ w'.cell? ⟨bP, oP + m, none⟩ = some vk)
                  (first | exact ⟨q1, q2, ck⟩ | exact ⟨z91, z92, z93⟩ | exact ⟨z31, z32, z33⟩ | go_keep)
                  (first
                    | (go_at_call 32; (with_reducible refine M1.mono ?_); rintro e w4 ⟨um, rfl, km, c4⟩; have B4 := below_then Bd Bd.size c4; have bd4 := below_then bd1 bd1.size c4; have X4 := hbx.out.keep bd4; have z31 := X4.c0; have z32 := X4.c1; have z33 := CM.out _ B4; obtain ⟨am, cm, rfl, -⟩ := id km; obtain ⟨VV2, pp, hpt8⟩ := hown.out.part bd4)
                    | (refine step_append_lies _ (by rfl) _ _ _ (by with_reducible rfl) wc.heap.size 25 i0 _ 1 24 Tryz.underlying24 HI0.out HZ0.out HZ1.out HZ2.out rfl (by omega) u11 acc.length _ (by rfl) (hpt8.alloc _) ⟨w4.heap.size, 0, none⟩ 1 1 [.slice am (mvP UU VV r).length cm] (by rfl) (by rfl) (World.news_of_block (cs := #[.slice am (mvP UU VV r).length cm]) (t := 25) (fr := (0, 0)) (heap_alloc_new w4 _)) (by simp [Value.oneCell']) (by omega) (by unfold maxLen; omega) (by omega) (by simp; have := B4.size; omega) (w4.heap.size + 1) (by simp) ?_; intro gg cap1 w9 hown1 hgrow hat hlt9; have BE := OwnLp.below B4 B4.size _ hgrow hpt8 (Nat.le_refl _); have z93 := CM.out _ BE; have XX := boxOwn hbx.out X4 hown.out hgrow hNl; have z91 := XX.c0; have z92 := XX.c1))
                have km : IS w4 wr.heap.size w4.heap.size (.slice am (mvP UU VV r).length cm) (mvP UU VV r) := km
                have HO := Lib.hid (hpt8.push km (Nat.le_refl _) bd4.size (Nat.le_refl _) hgrow hown1)
                have HBE := Lib.hid BE
                have HXX := Lib.hid XX
                clear hown1 hgrow hat hlt9 hpt8 BE XX X4 bd4 B4 c4 M1 q1 q2 z31 z32 z33 z91 z92 z93 Bd bd1 km
                go_wp2
                go_roundw
                case rel => exact ⟨m + 1, _, by omega, by go_num, by simp; omega, HE, HO, HBE, HXX⟩
                case measure => simp [intOf]; omega
              · obtain rfl : m = n := by omega
                have hfin : acc = frC ls k (stOf s) := by rw [hacc.out, HN.out, List.take_length]; exact hFR.out
                subst hfin
                have HU := specHullOf_any (frC ls k (stOf s)) _ wr.heap.size wr hown.out.is.read (Nat.le_refl _)
                have HO := Lib.hid (hullV_ok (ls := frC ls k (stOf s)))
                rw [HCD.out] at HU HO
                have BX := Lib.hid (below_then HBC.out HBC.out.size hbe.out)
                have BT := Lib.hid (hBst.out.keep hbe.out)
                clear hown hbe hbx hacc HCD hFR MV HX0 HO0 HB0 hX hBe hBst
                have hzx := BX.out.size
                cases hc : (cdV ls j).2
                · rw [hc] at HU
                  have HR := Lib.hid (HB2.out hc)
                  clear hc HO
                  go_wp2_with (go_at_call 33; (with_reducible refine HU.mono ?_); rintro e w9 ⟨u9, rfl, k9, c9⟩)
                  have B9 := below_then BX.out hzx c9
                  go_ret2
                  rw [HR.out]
                  exact ⟨_, rfl, ((OwnL.lit0 w9 w9.heap.size (Nat.le_refl _)).is).mono B9.size (Nat.le_refl _), B9.alloc B9.size _⟩
                · rw [hc] at HU
                  obtain ⟨c3, c4⟩ := HO.out hc
                  have HC4 := Lib.hid c4
                  have HCC := Lib.hid hc
                  clear hc HO HB2 c4
                  obtain ⟨aB, cB, hfo, -⟩ := id BT.out.isl
                  subst hfo
                  by_cases h0 : j = 0
                  · have HBN := Lib.hid (show bsK ls j = [] by rw [h0]; rfl)
                    have hbl : (bsK ls j).length = 0 := by rw [HBN.out]; rfl
                    rw [hbl]
                    go_wp2_with (go_at_call 33; (with_reducible refine HU.mono ?_); rintro e w9 ⟨u9, rfl, k9, c9⟩)
                    have T3 := Lib.hid (Bst.take BT.out.ok k9.is hzx HCC.out (.inl HBN.out))
                    have B9 := Lib.hid (below_then BX.out hzx c9)
                    clear k9 c9 HU
                    go_wp2
                    go_roundw
                    case rel => exact ⟨s + 1, by omega, by go_num, by rw [HJE.out]; exact T3, B9⟩
                    case measure => simp [intOf]; omega
                  · have hb1 := (HBO.out j BT.out.ok).1 (by omega)
                    have HB22 := Lib.hid (HBO.out j BT.out.ok).2
                    have HBN := Lib.hid (show bsK ls j ≠ [] from fun e => by rw [e] at hb1; simp at hb1)
                    have hle : (((bsK ls j).length : Int) == 0) = false := by rw [beq_eq_false_iff_ne]; omega
                    go_wp2_with (go_at_call 33; (with_reducible refine HU.mono ?_); rintro e w9 ⟨u9, rfl, k9, c9⟩)
                    have B3 := Lib.hid (BT.out.keep c9)
                    have B9 := Lib.hid (below_then BX.out hzx c9)
                    have CL := l17Before_any (cdV ls j).1 (bsK ls j) u9 _ w9.heap.size w9.heap.size w9 k9.is.read B3.out.isl.read (by omega) hb1 HC4.out HB22.out
                    cases hlt2 : ltLL (cdV ls j).1 (bsK ls j)
                    · rw [hlt2] at CL
                      have T3 := Lib.hid (Bst.leave B3.out HCC.out HBN.out hlt2)
                      clear k9 c9 HU hlt2
                      go_wp2_with (go_at_call 42; (with_reducible refine CL.mono ?_); rintro e w10 ⟨rfl, d10, rfl⟩)
                      have hk10 : Below w9.heap.size w9 (w9.drewN d10) := below_draws _ _ _
                      have T4 := Lib.hid (T3.out.keep hk10)
                      have B10 := Lib.hid (below_then B9.out B9.out.size hk10)
                      clear hk10
                      go_wp2
                      go_roundw
                      case rel => exact ⟨s + 1, by omega, by go_num, by rw [HJE.out]; exact T4, B10⟩
                      case measure => simp [intOf]; omega
                    · rw [hlt2] at CL
                      have T3 := Lib.hid (Bst.take B3.out.ok k9.is hzx HCC.out (.inr hlt2))
                      clear k9 c9 HU hlt2
                      go_wp2_with (go_at_call 42; (with_reducible refine CL.mono ?_); rintro e w10 ⟨rfl, d10, rfl⟩)
                      have hk10 : Below w9.heap.size w9 (w9.drewN d10) := below_draws _ _ _
                      have T4 := Lib.hid (T3.out.keep hk10)
                      have B10 := Lib.hid (below_then B9.out B9.out.size hk10)
                      clear hk10
                      go_wp2
                      go_roundw
                      case rel => exact ⟨s + 1, by omega, by go_num, by rw [HJE.out]; exact T4, B10⟩
                      case measure => simp [intOf]; omega
        · obtain rfl : s = 2 := by omega
          have HK := Lib.hid (show 2 * (k + 1) = 2 * k + 2 by omega)
          have ds : decide (((2 : Nat) : Int) < 2) = false := by simp
          go_wp2
          go_roundw
          case rel => exact ⟨k + 1, by omega, by go_num, by rw [HK.out]; exact hbst2, hbe2⟩
          case measure => simp [intOf]; omega
    · obtain rfl : k = n := by omega
      have HR := Lib.hid (HYES.out hbst.out.ok)
      have hz := hbe.out.size
      go_wp2
      go_ret2
      rw [HR.out]
      exact ⟨_, rfl, hbst.out.isl, hbe.out⟩
end Go.Proofs.YtehhoplenloocaaGreat
