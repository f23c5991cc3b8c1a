/- Cones that are split: the program's walk. -/
import Derived.Test.YtchkcjpahlimjaaSplS
import Derived.Test.YtchkcjpahlimjaaPart
import Derived.Test.YtchkcjpahlimjaaLess
import Derived.Test.YtchkcjpahlimjaaMkC
namespace Go.Proofs.Ytchkcjpahlimjaa
open Go.RowKit
set_option linter.unusedVariables false
set_option linter.unusedSimpArgs false

/-- a literal of one row -/
theorem OwnL.lit1 {w : World} {B lo hi : Nat} {vr : Value} {r : List Int} (hr : IS w lo hi vr r) (hB : B ≤ lo) (hlh : lo ≤ hi) (hhi : hi ≤ w.heap.size) : OwnLp (w.alloc (.cells #[vr] 22)) B (.slice (some ⟨w.heap.size, 0, none⟩) 1 1) [r] (fun _ => vr) (fun i => if i = 0 then lo else hi) hi := by
  refine ⟨World.ownsRow_lit w #[vr] 1 (by omega) (by simp [maxLen]) rfl, by simpa using hB, by simp, fun i hi' => ?_⟩
  obtain rfl : i = 0 := by simp at hi'; omega
  exact ⟨by simpa using hlh, by simpa using hr.keep (below1 _ _) hhi⟩
theorem OwnLp.at {w : World} {B m : Nat} {v : Value} {ls : List (List Int)} {V : Nat → Value} {p : Nat → Nat} (h : OwnLp w B v ls V p m) {i : Nat} (hi : i < ls.length) :
    ∃ g cap, v = .slice (some ⟨g, 0, none⟩) ls.length cap ∧ B ≤ g ∧ w.cell? ⟨g, i, none⟩ = some (V i) ∧ IS w (p i) (p (i + 1)) (V i) (ls.getD i []) ∧ B ≤ p i ∧ p (i + 1) ≤ m := by
  obtain ⟨h1, h2, h3, h4⟩ := h
  have m1 := OwnL.mono (fun i hi => (h4 i hi).1) 0 i (Nat.zero_le _) (by omega)
  have m2 := OwnL.mono (fun i hi => (h4 i hi).1) (i + 1) ls.length hi (Nat.le_refl _)
  rcases h1.2 with ⟨rfl, h0⟩ | ⟨g, cap, cur, rfl, hg, hh, hn, hc, hs, ht⟩
  · omega
  · refine ⟨g, cap, rfl, hg, ?_, (h4 i hi).2, by omega, by omega⟩
    have e1 : (cur.toList.take (ls.length * 1))[i]? = ((List.range ls.length).map V)[i]? := by rw [ht]
    rw [List.getElem?_take_of_lt (by omega)] at e1
    have e2 : cur[i]? = some (V i) := by rw [← Array.getElem?_toList, e1]; simp [hi]
    simp [World.cell?, hh, e2]
theorem OwnLp.only {w w' : World} {B m lo hi : Nat} {v : Value} {ls : List (List Int)} {V : Nat → Value} {p : Nat → Nat} (h : OwnLp w B v ls V p m) (ho : Only lo hi w w') (hm : m ≤ lo) (hv : ∀ k, v.ownBlock = some k → k < lo) (hlo : lo ≤ w.heap.size) : OwnLp w' B v ls V p m := by
  obtain ⟨h1, h2, h3, h4⟩ := h
  refine ⟨?_, h2, h3, fun i hi => ⟨(h4 i hi).1, (h4 i hi).2.only ho (.inl ?_)⟩⟩
  · rcases h1.2 with ⟨rfl, h0⟩ | ⟨g, cap, cur, rfl, hg, hh, hn, hc, hs, ht⟩
    · exact ⟨h1.1, .inl ⟨rfl, h0⟩⟩
    · have hgl := hv g rfl
      exact ⟨h1.1, .inr ⟨g, cap, cur, rfl, hg, by rw [ho.block g (by omega) (.inl hgl)]; exact hh, hn, hc, hs, ht⟩⟩
  · have := OwnL.mono (fun i hi => (h4 i hi).1) (i + 1) ls.length hi (Nat.le_refl _)
    omega
theorem IS.away {w w' : World} {lo hi lo2 hi2 : Nat} {v vr : Value} {l r : List Int} (h : IS w lo hi v l) (hr : IS w lo2 hi2 vr r) (hd : hi2 ≤ lo) (hg : w.grownBy w' (blkOf v)) : IS w' lo2 hi2 vr r :=
  hr.only (Only.of_grown hg h.blkIn) (.inl hd)
theorem lessL_two (a b x y q : Int) : lessL [a, b] [x, y] q = [a - q * x, b - q * y] := rfl

set_option maxRecDepth 100000 in
set_option maxHeartbeats 8000000 in
theorem implSplitCone_any (U V : List Int) (v1 v2 : Value) (hb : Nat) (w : World) (i1 : ISr w hb v1 U) (i2 : ISr w hb v2 V) (hhb : hb ≤ w.heap.size) :
    Calls Try.prog 17 #[.agg #[v1, v2]] w fun e w' => ∃ u, e = .returned u ∧ OwnL w' w.heap.size u (splitC U V) ∧ (splitC U V = [] → u = .slice none 0 0) ∧ Below w.heap.size w w' := by
  have HB0 := Lib.hid (below1 w (.cells #[v1, v2] 28))
  have BX := Lib.hid (box2_new w v1 v2 28)
  have HZ0 := Lib.hid (show (w.alloc (.cells #[v1, v2] 28)).heap.size = w.heap.size + 1 by simp)
  have C0 := fun W (B : Below w.heap.size w W) => implIsCone_any U V v1 v2 hb W (i1.keep B hhb) (i2.keep B hhb) (by have := B.size; omega)
  cases h : coneB U V
  · have e : splitC U V = [] := by unfold splitC; rw [h]; rfl
    rw [e]
    rw [h] at C0
    clear e h
    obtain ⟨a1, c1, rfl, -⟩ := id i1
    obtain ⟨a2, c2, rfl, -⟩ := id i2
    clear i1 i2
    go_enter Try.func17, Try.ntmps17
    go_wp2_with fail
    refine (C0 _ HB0.out).mono ?_
    rintro e w2 ⟨rfl, b2⟩
    have HB2 := Lib.hid (below_then HB0.out HB0.out.size b2)
    clear b2
    go_wp2
    go_ret
    exact ⟨_, rfl, OwnL.nil _ _ HB2.out.size, fun _ => rfl, HB2.out⟩
  · obtain ⟨x, y, p, q, rfl, rfl, bx, bY, bp, bq, hg, hg2, hd⟩ := cone_parts h
    have e : splitC [x, y] [p, q] = splitP p q (x * q - y * p).toNat x y := by unfold splitC; rw [h]; simp [crossI]
    rw [e]
    have HK0 := Lib.hid (show Spl p q x y (x * q - y * p).toNat from ⟨bx, bY, hg, by omega, by omega⟩)
    have hk18 : (x * q - y * p).toNat ≤ 1800 := by have := cross_bd30 bx bY bp bq; omega
    generalize (x * q - y * p).toNat = K at *
    rw [h] at C0
    clear e h hd hg bx bY
    obtain ⟨i0, hi0, hz0, hz1, hz2⟩ := info_parts info_ints
    have HI0 := Lib.hid hi0; clear hi0
    have HJ0 := Lib.hid hz0; clear hz0
    have HJ1 := Lib.hid hz1; clear hz1
    have HJ2 := Lib.hid hz2; clear hz2
    have HI1 := Lib.hid i1
    have HI2 := Lib.hid i2
    obtain ⟨a1, c1, rfl, -⟩ := id i1
    obtain ⟨a2, c2, rfl, -⟩ := id i2
    clear i1 i2
    go_enter Try.func17, Try.ntmps17
    go_wp2_with fail
    refine (C0 _ HB0.out).mono ?_
    rintro e w2 ⟨rfl, b2⟩
    have HB2 := Lib.hid (below_then HB0.out HB0.out.size b2)
    have BX2 := Lib.hid (BX.out.keep b2)
    have HS2 := Lib.hid (show w.heap.size + 1 ≤ w2.heap.size by rw [← HZ0.out]; exact b2.size)
    clear b2 BX HB0 HZ0 C0
    have x0 := BX2.out.c0
    have x1 := BX2.out.c1
    have CC := copyInts_any [x, y] _ hb w2 (HI1.out.keep HB2.out hhb) (by simp)
    go_wp2_with fail
    refine CC.mono ?_
    rintro e w3 ⟨u3, rfl, hown3, b3⟩
    have HU3 := Lib.hid hown3.is
    obtain ⟨au, cu, rfl⟩ := hown3.form
    have HLE3 := Lib.hid b3.size
    have HPT := Lib.hid (OwnL.lit1 (B := w.heap.size + 1) HU3.out HS2.out HLE3.out (Nat.le_refl _))
    have HB3 := Lib.hid ((b3.mono HS2.out).alloc (by have := HLE3.out; have := HS2.out; omega) (.cells #[.slice au 2 cu] 22))
    clear hown3 b3 CC x0 x1
    go_wp2
    go_loopw [3] (fun ov wr => ∃ (x' y' : Int) (k : Nat) (front acc : List (List Int)) (Vf : Nat → Value) (pf : Nat → Nat) (m : Nat), front.length + k ≤ 1800 ∧ acc.length = front.length + 1 ∧ Hid (acc = front ++ [[x', y']]) ∧ Hid (Spl p q x' y' k) ∧ Hid (splitP p q K x y = front ++ splitP p q k x' y') ∧
      Hid (OwnLp wr (w.heap.size + 1) ov acc Vf pf m) ∧ Hid (∀ g, ov.ownBlock = some g → g < wr.heap.size) ∧ m ≤ wr.heap.size ∧ Hid (Below (w.heap.size + 1) w2 wr)) (fun ov _ => 1802 - slen ov)
    case atStart => exact ⟨x, y, K, [], [[x, y]], _, _, _, by simpa using hk18, rfl, Lib.hid rfl, HK0, Lib.hid rfl, HPT, Lib.hid (fun g hg => by simp [Value.ownBlock] at hg; subst hg; simp), by simp, HB3⟩
    case round =>
      obtain ⟨x', y', k, front, acc, Vf, pf, m, hak, hal, hacc, hspl, hsp, hown, hog, hm, hbe⟩ := hrel
      generalize wr = w4 at *
      have BX4 := Lib.hid (BX2.out.keepB hbe.out (Nat.lt_succ_self _))
      have HW4 := Lib.hid (show Below w.heap.size w w4 from HB2.out.trans (hbe.out.mono (Nat.le_succ _)))
      have x1 := BX4.out.c1
      obtain ⟨g, co, rfl, hg1, hcl, hisl, hp1, hp2⟩ := hown.out.at (i := front.length) (by omega)
      have hgl := hog.out g rfl
      rw [show acc.getD front.length [] = [x', y'] by rw [hacc.out]; simp] at hisl
      obtain ⟨n, hn⟩ : ∃ n, n = acc.length := ⟨_, rfl⟩
      rw [← hn] at hown hog hal ⊢
      have HN := Lib.hid hn
      clear hn
      generalize hlv : Vf front.length = vl at hcl hisl
      obtain ⟨al, cl, rfl, -⟩ := id hisl
      have hcl2 : w4.cell? ⟨g, n - 1, none⟩ = some (.slice al [x', y'].length cl) := by rw [show n - 1 = front.length by omega]; exact hcl
      have HISL := Lib.hid hisl
      clear hisl hcl hlv
      have hn1 : 1 ≤ n := by omega
      have hn2 : n + k ≤ 1801 := by omega
      have HAL := Lib.hid hal
      have hpf : pf (front.length + 1) ≤ w4.heap.size := by omega
      generalize pf (front.length + 1) = ph at *
      generalize pf front.length = pl at *
      have HFK := Lib.hid hak
      clear hal hak
      have CR := cross_any [x', y'] [p, q] _ _ ph hb w4 HISL.out.read (HI2.out.keep HW4.out hhb) rfl rfl (in9 hspl.out.bx hspl.out.byy) (in9 bp bq)
      rw [show crossI [x', y'] [p, q] = x' * q - y' * p by simp [crossI]] at CR
      obtain ⟨D, hD⟩ : ∃ D, D = x' * q - y' * p := ⟨_, rfl⟩
      rw [← hD] at CR
      have HD := Lib.hid hD
      have hD0 : 0 ≤ D := by rw [hD]; exact hspl.out.d0
      clear hD
      go_wp2_with fail
      refine CR.mono ?_
      rintro e w5 ⟨rfl, d5, hw5⟩
      have c5 : Below w4.heap.size w4 w5 := hw5 ▸ below_draws _ _ _
      have hz5 : w5.heap.size = w4.heap.size := by rw [hw5]; rfl
      have HPT5 := Lib.hid (hown.out.keep c5 hm)
      have HISL5 := Lib.hid (HISL.out.keep c5 hpf)
      have HBE5 := Lib.hid (hbe.out.trans (c5.mono (by have := hbe.out.size; have := HS2.out; omega)))
      have HZ5 := Lib.hid (show w.heap.size + 1 ≤ w5.heap.size by have := HBE5.out.size; have := HS2.out; omega)
      have hgl5 : g < w5.heap.size := by omega
      have hm5 : m ≤ w5.heap.size := by omega
      have hpf5 : ph ≤ w5.heap.size := by omega
      clear hw5 c5 hz5 hown hbe BX4 HW4 x1 CR HISL hcl2 hgl hm hog hpf
      by_cases hz : D = 0
      · have hsp2 : splitP p q K x y = acc := by rw [hsp.out, splitP_zero p q k (by rw [← HD.out]; exact hz), hacc.out]
        have HSP := Lib.hid hsp2
        have HNE := Lib.hid (show splitP p q K x y ≠ [] by rw [hsp2, hacc.out]; simp)
        clear hsp2
        subst hz
        go_wp2
        go_ret
        refine ⟨_, rfl, ?_, fun h => absurd h HNE.out, HB2.out.trans (HBE5.out.mono (Nat.le_succ _))⟩
        rw [HSP.out]
        exact OwnL.lower ⟨Vf, pf, HPT5.out.1, HPT5.out.2.1, Nat.le_trans HPT5.out.2.2.1 hm5, HPT5.out.2.2.2⟩ (Nat.le_succ _)
      · obtain ⟨k', hk', hnx⟩ := hspl.out.next bp bq (by rw [← HD.out]; exact hz)
        have hsp2 : splitP p q K x y = acc ++ splitP p q k' (nextX x' y' p q) (nextY x' y' p q) := by
          rw [hsp.out, hk', splitP_succ p q k' (by rw [← HD.out]; exact hz), hacc.out]; simp
        have HSP := Lib.hid hsp2
        have HNX := Lib.hid hnx
        have hdp : 0 < D := by omega
        have hze : (D == 0) = false := by simpa using hz
        subst hk'
        have hDb : D ≤ 1800 := by have := cross_bd30 hspl.out.bx hspl.out.byy bp bq; rw [HD.out]; omega
        clear hsp2 hsp hnx hz
        have CP := partner_any x' y' _ w5.heap.size w5 (HISL5.out.read.upto hpf5) (Nat.le_refl _) hspl.out.bx hspl.out.byy hspl.out.g
        go_wp2_with fail
        refine CP.mono ?_
        rintro e w6 ⟨u6, rfl, is6, b6⟩
        have hpb := par_bd hspl.out.bx hspl.out.byy hspl.out.g
        have is6 : IS w6 w5.heap.size w6.heap.size u6 [parX x' y', parY x' y'] := is6
        have HPC := Lib.hid (par_cross' hspl.out.bx hspl.out.byy hspl.out.g)
        have HQ := Lib.hid (show nextX x' y' p q = parX x' y' - nxQ x' y' p q (parX x' y') (parY x' y') * x' ∧ nextY x' y' p q = parY x' y' - nxQ x' y' p q (parX x' y') (parY x' y') * y' from ⟨rfl, rfl⟩)
        have HQ2 := Lib.hid (show nxQ x' y' p q (parX x' y') (parY x' y') = (parX x' y' * q - parY x' y' * p) / (x' * q - y' * p) from rfl)
        generalize parX x' y' = X at *
        generalize parY x' y' = Y at *
        have HIS6 := Lib.hid is6
        have HPT6 := Lib.hid (HPT5.out.keep b6 hm5)
        have HISL6 := Lib.hid (HISL5.out.keep b6 hpf5)
        have HBE6 := Lib.hid (HBE5.out.trans (b6.mono HZ5.out))
        have HZ6 := Lib.hid b6.size
        obtain ⟨a6, c6, rfl, -⟩ := id is6
        clear is6 b6 CP HPT5 HISL5
        have BX6 := Lib.hid (BX2.out.keepB HBE6.out (Nat.lt_succ_self _))
        have HW6 := Lib.hid (show Below w.heap.size w w6 from HB2.out.trans (HBE6.out.mono (Nat.le_succ _)))
        have x1 := BX6.out.c1
        have C6 := cross_any [X, Y] [p, q] _ _ w6.heap.size hb w6 HIS6.out.read (HI2.out.keep HW6.out hhb) rfl rfl (in9 hpb.1 hpb.2) (in9 bp bq)
        rw [show crossI [X, Y] [p, q] = X * q - Y * p by simp [crossI]] at C6
        have hEb := cross_bd30 hpb.1 hpb.2 bp bq
        obtain ⟨E, hE⟩ : ∃ E, E = X * q - Y * p := ⟨_, rfl⟩
        rw [← hE] at C6 hEb
        have HE := Lib.hid hE
        clear hE
        go_wp2_with fail
        refine C6.mono ?_
        rintro e w7 ⟨rfl, d7, hw7⟩
        have c7 : Below w6.heap.size w6 w7 := hw7 ▸ below_draws _ _ _
        have hz7 : w7.heap.size = w6.heap.size := by rw [hw7]; rfl
        have HPT7 := Lib.hid (HPT6.out.keep c7 (by have := HZ6.out; omega))
        have HISL7 := Lib.hid (HISL6.out.keep c7 (by have := HZ6.out; omega))
        have HIS7 := Lib.hid (HIS6.out.keep c7 (Nat.le_refl _))
        have HBE7 := Lib.hid (HBE6.out.trans (c7.mono (by have := HZ6.out; have := HZ5.out; omega)))
        have HZ7 := Lib.hid hz7
        clear hw7 c7 hz7 HPT6 HISL6 HIS6 HBE6 BX6 HW6 x1 C6
        go_wp2_with (go_at_call 63; (with_reducible refine (down_any E D _ (by omega) (by omega) (by omega) (by omega)).mono ?_); rintro e w' ⟨rfl, rfl⟩)
        have hF := div_bd2 (x := E) (d := D) 1800 (by omega) (by omega) (by omega)
        obtain ⟨f, hf⟩ : ∃ f, f = E / D := ⟨_, rfl⟩
        rw [← hf] at hF ⊢
        have HF := Lib.hid (show f = nxQ x' y' p q X Y by rw [hf, HE.out, HD.out, HQ2.out])
        clear hf
        have hmx := mul_bd6 (a := f) (b := x') (by omega) (by omega) (by have := hspl.out.bx; omega) (by have := hspl.out.bx; omega)
        have hmy := mul_bd6 (a := f) (b := y') (by omega) (by omega) (by have := hspl.out.byy; omega) (by have := hspl.out.byy; omega)
        have CL := less_any [X, Y] [x', y'] (.slice a6 2 c6) (.slice al 2 cl) w5.heap.size w6.heap.size ph f w7 HIS7.out (fun w' hg => (HIS7.out.away HISL7.out hpf5 hg).read) (Nat.le_refl _) (fun k hk => by
          match k, hk with
          | 0, _ => simp only [List.getD_cons_zero]; omega
          | 1, _ => simp only [List.getD_cons_succ, List.getD_cons_zero]; omega)
        refine CL.mono ?_
        rintro e w8 ⟨⟨r8, rfl⟩, is8, hg8⟩
        have honly := Only.of_grown hg8 HIS7.out.blkIn
        rw [lessL_two, HF.out, ← HQ.out.1, ← HQ.out.2] at is8
        have HIS8 := Lib.hid is8
        have HPT8 := Lib.hid (HPT7.out.only honly (by omega) (fun k hk => by simp [Value.ownBlock] at hk; omega) (by have := HZ7.out; have := HZ6.out; omega))
        have HBE8 := Lib.hid (HBE7.out.trans ((honly.below (by have := HZ7.out; have := HZ6.out; omega)).mono HZ5.out))
        have HZ8 := Lib.hid (show w6.heap.size ≤ w8.heap.size by have := honly.size; have := HZ7.out; omega)
        clear is8 hg8 honly CL HPT7 HISL7 HIS7 HBE7 hmx hmy
        have hal2 : acc.length ≤ 1801 := by rw [← HN.out]; omega
        go_wp2_with (at_builtin; refine wpList_append_own _ rfl _ _ 26 rfl (w.heap.size + 1) 22 i0 (.slice none 0 0) 1 24 Try.underlying26 HI0.out HJ0.out HJ1.out HJ2.out rfl (by decide) _ _ _ rfl (HPT8.out.alloc _) ⟨w8.heap.size, 0, none⟩ 1 1 [.slice a6 2 c6] rfl rfl ?c1 ?c2 ?c3 ?c4 ?c5 ?_)
        case c1 => exact cell_one_new _ _ _
        case c2 => first | rfl | (intro u hu; simp at hu; subst hu; rfl)
        case c3 => unfold maxLen; omega
        case c4 => omega
        case c5 => first | (have := HZ5.out; have := HZ6.out; have := HZ8.out; omega) | (have := HZ5.out; have := HZ6.out; have := HZ8.out; simp; omega)
        intro v2 w9 hown2 hgrow _
        have HO := Lib.hid (HPT8.out.push HIS8.out (by omega) HZ6.out (by have := HZ8.out; omega) hgrow hown2)
        have HBE := Lib.hid (OwnLp.below HBE8.out (by have := HZ5.out; have := HZ6.out; have := HZ8.out; omega) _ hgrow HPT8.out (Nat.le_refl _))
        have HOG := Lib.hid (World.ownsRow.lt hown2)
        obtain ⟨ao2, co2, rfl⟩ := ownsRow_slen hown2
        clear hown2 hgrow
        obtain ⟨V9, p9, hp9⟩ := HO.out.part (Below.refl _ _)
        have HPT9 := Lib.hid hp9
        clear hp9
        go_wp2
        go_roundw
        case rel => exact ⟨_, _, k', acc, acc ++ [[nextX x' y' p q, nextY x' y' p q]], V9, p9, w9.heap.size, by have := HN.out; omega, by simp, Lib.hid rfl, HNX, HSP, HPT9, Lib.hid (fun g hg => (HOG.out g hg).2), Nat.le_refl _, HBE⟩
        case measure => have := HN.out; simp [slen]; omega
end Go.Proofs.Ytchkcjpahlimjaa
