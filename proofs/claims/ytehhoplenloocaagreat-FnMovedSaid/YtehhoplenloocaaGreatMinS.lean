/- The minor of a matrix in the model: the walk of l3Minor. -/
import Derived.Test.YtehhoplenloocaaGreatB17
import Derived.Test.YtehhoplenloocaaGreatHulI
import Derived.Deep.RegionHeld3
namespace Go.Proofs.YtehhoplenloocaaGreat
open Go.RowKit
set_option linter.unusedVariables false
set_option linter.unusedSimpArgs false

set_option maxRecDepth 100000 in
set_option maxHeartbeats 8000000 in
theorem l3Minor_any (ls : List (List Int)) (i j n : Nat) (v : Value) (hb : Nat) (w : World) (h : ISSr w hb v ls) (hhb : hb ≤ w.heap.size) (hs : SqB n ls) (h1 : 1 ≤ n) (h3 : n ≤ 3) (hi : i < n) (hj : j < n) :
    Calls Tryz.prog 74 #[v, .int .i64 i, .int .i64 j] w fun e w' => e = .returned (.int .i64 (detF (n - 1) (minorL ls i j))) ∧ Below w.heap.size w w' := by
  obtain ⟨i0, hi0, hz0, hz1, hz2⟩ := info_parts info_ints
  have HI0 := Lib.hid hi0; clear hi0
  have HZ0 := Lib.hid hz0; clear hz0
  have HZ1 := Lib.hid hz1; clear hz1
  have HZ2 := Lib.hid hz2; clear hz2
  have hn := hs.len.symm
  have HSQ := Lib.hid (minorDet_bd hs h1 h3 hi hj).1
  have hr : ∀ k, k < ls.length → (ls.getD k []).length = n := fun k hk => (hs.row k (by omega)).1
  obtain ⟨a, cap, rfl, -, -, hcell⟩ := id h
  rw [← hn]
  have HN := Lib.hid hn; clear hn
  have HC := Lib.hid hcell; clear hcell h
  have HR := Lib.hid hr; clear hr hs
  go_enter Tryz.func74, Tryz.ntmps74
  go_wp2
  go_loopw [7, 8] (fun ov c wr => ∃ (k : Nat) (acc : List (List Int)), k ≤ n ∧ c = .int .i64 k ∧ acc.length ≤ k ∧ Hid (acc = minorK ls i j k) ∧ Hid (OwnL wr w.heap.size ov acc) ∧ Hid (Below w.heap.size w wr)) (fun _ c _ => n - (intOf c).toNat)
  case atStart => exact ⟨0, [], by omega, rfl, Nat.le_refl _, Lib.hid rfl, OwnL.lit0 w _ (Nat.le_refl _), below1 _ _⟩
  case round =>
    obtain ⟨k, acc, hk, rfl, hal, hacc, hown, hbe⟩ := hrel
    by_cases hlt : k < n
    · have hkl : k < ls.length := by rw [← HN.out]; exact hlt
      obtain ⟨b, off, V0, rfl, hbb, hcc⟩ := HC.out (by intro e; rw [e] at hkl; exact absurd hkl (Nat.not_lt_zero _))
      have hck0 := Lib.hid (hcc k hkl).1
      have hrow := (hcc k hkl).2
      have hrl := HR.out k hkl
      have HE := Lib.hid (show minorK ls i j (k + 1) = if k = i then acc else acc ++ [cutAt (ls.getD k []) j] by rw [minorK, ← hacc.out])
      clear hcc hkl
      generalize ls.getD k [] = r at *
      generalize V0 k = xk at *
      by_cases hki : k = i
      · have HE2 := Lib.hid (HE.out.trans (if_pos hki))
        have htest : ((k : Int) == (i : Int)) = true := by rw [beq_iff_eq]; omega
        clear HE hki
        go_wp2
        go_roundw
        case rel => exact ⟨k + 1, acc, by omega, by go_num, by omega, Lib.hid HE2.out.symm, hown, hbe⟩
        case measure => simp [intOf]; omega
      · have HE2 := Lib.hid (HE.out.trans (if_neg hki))
        have htest : ((k : Int) == (i : Int)) = false := by rw [beq_eq_false_iff_ne]; omega
        clear HE hki
        obtain ⟨ar, cr, hvr, hc1, hc2, hcr⟩ := id hrow
        obtain ⟨br, or', rfl, hbr, -⟩ := hcr (by intro e; rw [e] at hrl; simp at hrl; omega)
        rw [hrl] at hvr hc1
        subst hvr
        have HROW := Lib.hid hrow
        have HRL := Lib.hid hrl
        have hcm := hc2
        unfold maxLen at hcm
        clear hrow hcr hrl
        have i1 : (0 : Int) ≤ (j : Int) := by omega
        have i2 : (j : Int) ≤ (cr : Int) := by omega
        have i3 : IntKind.i64.wrap ((j : Int) + 1) = (j : Int) + 1 := wr64 _ (by omega)
        have i4 : (0 : Int) ≤ (j : Int) + 1 := by omega
        have i5 : (j : Int) + 1 ≤ (n : Int) := by omega
        have hbs := hbe.out.size
        have SR1 := Lib.hid (fun W (B : Below w.heap.size w W) => (HROW.out.keep B hhb).pre (j := j) (by rw [HRL.out]; omega))
        by_cases hcap : cr = j + 1
        case' pos =>
          have hnj : n = j + 1 := by omega
          obtain rfl : cr = n := by omega
          have hdr : r.drop (j + 1) = [] := by rw [← hnj, ← HRL.out]; exact List.drop_length
          have i7 : ((j : Int) + 1).toNat = cr := by omega
          have HNJ := Lib.hid hnj
          clear hcap hnj
          have SRC := Lib.hid (show ∀ W, Below w.heap.size w W → ∀ ad, ISr W hb (.slice ad 0 0) (r.drop (j + 1)) from fun W _ ad => by rw [hdr]; exact ISr.none0 (Nat.zero_le _))
          have HDR := Lib.hid hdr
          clear hdr
        case' neg =>
          have i6 : ((j : Int) + 1).toNat = j + 1 := by omega
          have SRC := Lib.hid (fun W (B : Below w.heap.size w W) => (HROW.out.keep B hhb).suf (j := j + 1) (by rw [HRL.out]; omega))
        all_goals
          go_wp2_with fail
          have Bd : Below w.heap.size w wr.drew := hbe.out.trans (below_draws _ wr 1)
          have G1 : Below wr.heap.size wr (wr.drew.alloc (.cells #[] 3)) := (below_draws _ wr 1).trans (below1 wr.drew _)
          have B1 := Lib.hid (hbe.out.trans (G1.mono hbs))
          have hck := (Bd.cell (p := ⟨b, off + k, none⟩) (Nat.lt_of_lt_of_le hbb hhb)).trans hck0.out
          have hckB := (B1.out.cell (p := ⟨b, off + k, none⟩) (Nat.lt_of_lt_of_le hbb hhb)).trans hck0.out
          first
          | go_region_held3 (fun w' => w'.cell? ⟨b, off + k, none⟩ = some (.slice (some ⟨br, or', none⟩) n cr)) (first | exact hck | exact hckB | exact hck5 | exact hck4 | go_keep)
              (first
                | (refine step_append_I (by rfl) _ _ (by with_reducible rfl) (by rfl) (by rfl) (OwnI.lit0 wr.drew wr.heap.size (Nat.le_refl _)) (SR1.out _ B1.out) (by rw [List.length_take, HRL.out]; simp; omega) (by simp) ?_; intro a4 n4 c4 w4 hn4 o4 hg4; have G4 : Below wr.heap.size wr w4 := G1.grown hg4 (by simp) (fun k hk => by simp [Value.ownBlock] at hk; omega); have B4 := hbe.out.trans (G4.mono hbs); have hck4 := (B4.cell (p := ⟨b, off + k, none⟩) (Nat.lt_of_lt_of_le hbb hhb)).trans hck0.out)
                | (refine step_append_I (by rfl) _ _ (by with_reducible rfl) (by rfl) (by rfl) o4 (by first | exact SRC.out _ B4 | exact SRC.out _ B4 _) (by simp [HRL.out]; omega) G4.size ?_; intro a5 n5 c5 w5 hn5 o5 hg5; have G5 := OwnI.below2 G4 G4.size hg5 o4 (Nat.le_refl _); have B5 := hbe.out.trans (G5.mono hbs); have hck5 := (B5.cell (p := ⟨b, off + k, none⟩) (Nat.lt_of_lt_of_le hbb hhb)).trans hck0.out))
          | go_region_held3 (fun w' => w'.cell? ⟨b, off + k, none⟩ = some (.slice (some ⟨br, or', none⟩) cr cr)) (first | exact hck | exact hckB | exact hck5 | exact hck4 | go_keep)
              (first
                | (refine step_append_I (by rfl) _ _ (by with_reducible rfl) (by rfl) (by rfl) (OwnI.lit0 wr.drew wr.heap.size (Nat.le_refl _)) (SR1.out _ B1.out) (by rw [List.length_take, HRL.out]; simp; omega) (by simp) ?_; intro a4 n4 c4 w4 hn4 o4 hg4; have G4 : Below wr.heap.size wr w4 := G1.grown hg4 (by simp) (fun k hk => by simp [Value.ownBlock] at hk; omega); have B4 := hbe.out.trans (G4.mono hbs); have hck4 := (B4.cell (p := ⟨b, off + k, none⟩) (Nat.lt_of_lt_of_le hbb hhb)).trans hck0.out)
                | (refine step_append_I (by rfl) _ _ (by with_reducible rfl) (by rfl) (by rfl) o4 (by first | exact SRC.out _ B4 | exact SRC.out _ B4 _) (by simp [HRL.out]; omega) G4.size ?_; intro a5 n5 c5 w5 hn5 o5 hg5; have G5 := OwnI.below2 G4 G4.size hg5 o4 (Nat.le_refl _); have B5 := hbe.out.trans (G5.mono hbs); have hck5 := (B5.cell (p := ⟨b, off + k, none⟩) (Nat.lt_of_lt_of_le hbb hhb)).trans hck0.out))
          have HK := Lib.hid (OwnI.is (show OwnI w5 wr.heap.size (.slice a5 n5 c5) (cutAt r j) from o5))
          obtain ⟨V, p, hpt⟩ := hown.out.part (w' := w5) G5
          have HPT := Lib.hid hpt
          have HB2 := Lib.hid B5
          have hs2 := G5.size
          clear hpt G5 G4 G1 B5 B4 B1 Bd hck hckB hck4 hck5 o4 o5 hg4 hg5 hn4 hn5 SRC SR1 i1 i2 i3 i4 i5
          go_wp2_with (at_builtin; refine wpList_append_own _ rfl _ _ 24 rfl w.heap.size 25 i0 (.slice none 0 0) 1 24 Tryz.underlying24 HI0.out HZ0.out HZ1.out HZ2.out rfl (by decide) _ _ _ rfl (HPT.out.alloc _) ⟨w5.heap.size, 0, none⟩ 1 1 [.slice a5 n5 c5] rfl rfl ?c1 ?c2 ?c3 ?c4 ?c5 ?_)
          case c1 => exact cell_one_new _ _ _
          case c2 => first | rfl | (intro u hu; simp at hu; subst hu; rfl)
          case c3 => unfold maxLen; omega
          case c4 => omega
          case c5 => first | omega | (simp; omega)
          intro v2 w3 hown2 hgrow _
          have HO := Lib.hid (HPT.out.push HK (Nat.le_refl _) hs2 (Nat.le_refl _) hgrow hown2)
          have HBE := Lib.hid (OwnLp.below HB2.out (by omega) _ hgrow HPT.out (Nat.le_refl _))
          clear hown2 hgrow
          go_wp2
          go_roundw
          case rel => exact ⟨k + 1, _, by omega, by go_num, by simp; omega, Lib.hid HE2.out.symm, HO, HBE⟩
          case measure => simp [intOf]; omega
    · obtain rfl : k = n := by omega
      have hfin : acc = minorL ls i j := by rw [hacc.out, minorL, ← HN.out]
      subst hfin
      have hl2 : (minorL ls i j).length = k - 1 := HSQ.out.len
      obtain ⟨ao, co, rfl⟩ := hown.out.form0
      by_cases hk1 : k = 1
      · subst hk1
        rw [hl2]
        go_wp2
        go_ret
        exact ⟨rfl, hbe.out⟩
      · have D := specDet_any (minorL ls i j) _ wr.heap.size wr hown.out.is.read (by rw [hl2]; exact HSQ.out) (by omega) (by omega)
        have hdec : (((k - 1 : Nat) : Int) == 0) = false := by rw [beq_eq_false_iff_ne]; omega
        rw [show detM (minorL ls i j) = detF (k - 1) (minorL ls i j) by unfold detM; rw [hl2]] at D
        rw [hl2] at D ⊢
        go_wp2_with (go_at_call 73; (with_reducible refine D.mono ?_); rintro e w2 ⟨rfl, d2, rfl⟩)
        go_ret
        exact ⟨rfl, hbe.out.trans (below_draws _ _ _)⟩
end Go.Proofs.YtehhoplenloocaaGreat
