/- Cones that are split: the model's walk. -/
import Derived.Test.YtchkcjpahlimjaaNxt
import Derived.Test.YtchkcjpahlimjaaOwnL
import Derived.Test.YtchkcjpahlimjaaConeL
import Derived.Test.YtchkcjpahlimjaaHitM
import Derived.Deep.Onto
namespace Go.Proofs.Ytchkcjpahlimjaa
open Go.RowKit
set_option linter.unusedVariables false
set_option linter.unusedSimpArgs false

/-- a split cone -/
def splitC (U V : List Int) : List (List Int) := if coneB U V then splitP (V.getD 0 0) (V.getD 1 0) (crossI U V).toNat (U.getD 0 0) (U.getD 1 0) else []
theorem splitP_zero (p q : Int) (k : Nat) {x y : Int} (h : x * q - y * p = 0) : splitP p q k x y = [[x, y]] := by
  cases k with
  | zero => rfl
  | succ k => show (if x * q - y * p = 0 then _ else _) = _; rw [if_pos h]
theorem splitP_succ (p q : Int) (k : Nat) {x y : Int} (h : x * q - y * p ≠ 0) : splitP p q (k + 1) x y = [x, y] :: splitP p q k (nextX x y p q) (nextY x y p q) := by
  show (if x * q - y * p = 0 then _ else _) = _; rw [if_neg h]; rfl
/-- what is known of a vector on the way -/
structure Spl (p q x y : Int) (k : Nat) : Prop where
  bx : -30 ≤ x ∧ x ≤ 30
  byy : -30 ≤ y ∧ y ≤ 30
  g : Int.gcd x y = 1
  d0 : 0 ≤ x * q - y * p
  dk : x * q - y * p ≤ k
theorem Spl.next {p q x y : Int} {k : Nat} (h : Spl p q x y k) (hp : -30 ≤ p ∧ p ≤ 30) (hq : -30 ≤ q ∧ q ≤ 30) (h0 : x * q - y * p ≠ 0) : ∃ k', k = k' + 1 ∧ Spl p q (nextX x y p q) (nextY x y p q) k' := by
  have hd : 0 < x * q - y * p := by have := h.d0; omega
  have hc := nx_cross (p := p) (q := q) hd (par_cross' h.bx h.byy h.g)
  have hs := nx_small hd (par_cross' h.bx h.byy h.g) h.bx h.byy hp hq
  obtain ⟨c1, c2, c3⟩ := hc
  have hk := h.dk
  refine ⟨k - 1, by omega, hs.1, hs.2, gcd_of_cross c1, c2, ?_⟩
  show nxX x y p q (parX x y) (parY x y) * q - nxY x y p q (parX x y) (parY x y) * p ≤ _
  omega
theorem cone_parts {U V : List Int} (h : coneB U V = true) : ∃ x y p q, U = [x, y] ∧ V = [p, q] ∧ (-30 ≤ x ∧ x ≤ 30) ∧ (-30 ≤ y ∧ y ≤ 30) ∧ (-30 ≤ p ∧ p ≤ 30) ∧ (-30 ≤ q ∧ q ≤ 30) ∧ Int.gcd x y = 1 ∧ Int.gcd p q = 1 ∧ 0 < x * q - y * p := by
  obtain ⟨h1, h2, h3, h4, h5⟩ := coneB_of h
  obtain ⟨l1, a1⟩ := ptB_len h1
  obtain ⟨l2, a2⟩ := ptB_len h2
  match U, V, l1, l2 with
  | [x, y], [p, q], _, _ =>
    have b0 := allIn_at a1 0 (by simp)
    have b1 := allIn_at a1 1 (by simp)
    have c0 := allIn_at a2 0 (by simp)
    have c1 := allIn_at a2 1 (by simp)
    rw [gcdL_two rfl] at h3 h4
    simp only [List.getD_cons_zero, List.getD_cons_succ] at h3 h4
    refine ⟨x, y, p, q, rfl, rfl, b0, b1, c0, c1, by omega, by omega, ?_⟩
    simpa [crossI] using h5
def slen : Value → Nat
  | .slice _ n _ => n
  | _ => 0
theorem OwnL.lower {w : World} {B B' : Nat} {v : Value} {ls : List (List Int)} (h : OwnL w B v ls) (hb : B' ≤ B) : OwnL w B' v ls := by
  obtain ⟨V, p, h1, h2, h3⟩ := h
  exact ⟨V, p, h1.mono hb, by omega, h3⟩
theorem OwnI.lower {w : World} {B B' : Nat} {v : Value} {l : List Int} (h : OwnI w B v l) (hb : B' ≤ B) : OwnI w B' v l := World.ownsRow.mono h hb
theorem OwnLp.nil0 (w : World) (B m : Nat) (hB : B ≤ m) (v : Value) (h : w.ownsRow B 22 1 v 0 []) : OwnLp w B v [] (fun _ => .slice none 0 0) (fun _ => B) m := ⟨h, Nat.le_refl _, hB, fun i hi => absurd hi (Nat.not_lt_zero _)⟩
theorem OwnLp.keep {w w' : World} {B m : Nat} {v : Value} {ls : List (List Int)} {V : Nat → Value} {p : Nat → Nat} (h : OwnLp w B v ls V p m) (hb : Below w.heap.size w w') (hm : m ≤ w.heap.size) : OwnLp w' B v ls V p m := by
  obtain ⟨h1, h2, h3, h4⟩ := h
  refine ⟨World.ownsRow.kept h1 (row := none) ⟨hb.os, hb.tape, hb.output, hb.size, fun k hk _ => hb.block k hk⟩ (by cases v.ownBlock <;> simp), h2, h3, fun i hi => ⟨(h4 i hi).1, (h4 i hi).2.keep hb ?_⟩⟩
  have := OwnL.mono (fun i hi => (h4 i hi).1) (i + 1) ls.length hi (Nat.le_refl _)
  omega
/-- a row that outlives the push of itself -/
theorem OwnLp.still {w1 w2 : World} {B lo hi m : Nat} {v vr : Value} {ls : List (List Int)} {r : List Int} {o : Obj} {V : Nat → Value} {p : Nat → Nat} (h : OwnLp w1 B v ls V p m)
    (hr : IS w1 lo hi vr r) (hhi : hi ≤ w1.heap.size) (hg : (w1.alloc o).grownBy w2 v.ownBlock) : IS w2 lo hi vr r := by
  refine (hr.keep (below1 w1 o) hhi).grown_type hg fun g hg' => ?_
  obtain ⟨c, e, fr, h1, h'⟩ := own_type h.1 g hg'
  exact ⟨c, e, fr, by rw [Below.heap_alloc _ _ _ ((World.ownsRow.lt h.1 g hg').2)]; exact h1, h'⟩

theorem Box2.keepB {w w1 : World} {n B : Nat} {x y : Value} (h : Box2 w n x y) (hb : Below B w w1) (hn : n < B) : Box2 w1 n x y :=
  ⟨Nat.lt_of_lt_of_le h.lt hb.size, (hb.cell hn).trans h.c0, (hb.cell hn).trans h.c1, (hb.frozen hn).trans h.f0, (hb.frozen hn).trans h.f1⟩
theorem ownsRow_slen {w : World} {B : Nat} {e : TypeId} {v : Value} {n : Nat} {xs : List Value} (h : w.ownsRow B e 1 v n xs) : ∃ a c, v = .slice a n c := by
  rcases h.2 with ⟨rfl, h0⟩ | ⟨g, cap, cur, rfl, -⟩
  · exact ⟨none, 0, by rw [h0]⟩
  · exact ⟨_, _, rfl⟩
theorem OwnLp.form {w : World} {B m : Nat} {v : Value} {ls : List (List Int)} {V : Nat → Value} {p : Nat → Nat} (h : OwnLp w B v ls V p m) : ∃ a c, v = .slice a ls.length c := ownsRow_slen h.1
theorem OwnL.form {w : World} {B : Nat} {v : Value} {ls : List (List Int)} (h : OwnL w B v ls) : ∃ a c, v = .slice a ls.length c := let ⟨_, _, h1, _⟩ := h; ownsRow_slen h1

set_option maxRecDepth 100000 in
set_option maxHeartbeats 8000000 in
theorem specSplitCone_any (U V : List Int) (v1 v2 : Value) (hb : Nat) (w : World) (i1 : ISr w hb v1 U) (i2 : ISr w hb v2 V) (hhb : hb ≤ w.heap.size) :
    Calls Try.prog 15 #[.agg #[v1, v2]] w fun e w' => ∃ u, e = .returned u ∧ OwnL w' w.heap.size u (splitC U V) ∧ Below w.heap.size w w' := by
  have BX := Lib.hid (box2_new w v1 v2 28)
  have HB := Lib.hid (below1 w (.cells #[v1, v2] 28))
  have C0 := fun W (B : Below w.heap.size w W) => specIsCone_any U V v1 v2 hb W (i1.keep B hhb) (i2.keep B hhb) (by have := B.size; omega)
  have HO0 := Lib.hid (OwnL.lit0 (w.alloc (.cells #[v1, v2] 28)) (w.heap.size + 1) (by simp))
  have HB0 := Lib.hid (below2 w (.cells #[v1, v2] 28) (.cells #[] 22))
  have BX := Lib.hid ((box2_new w v1 v2 28).keep (below1 _ (.cells #[] 22)))
  have HZ0 := Lib.hid (show ((w.alloc (.cells #[v1, v2] 28)).alloc (.cells #[] 22)).heap.size = w.heap.size + 2 by simp)
  rw [World.size_alloc] at HO0
  cases h : coneB U V
  · have e : splitC U V = [] := by unfold splitC; rw [h]; rfl
    rw [e]
    rw [h] at C0
    clear e h
    obtain ⟨a1, c1, rfl, -⟩ := id i1
    obtain ⟨a2, c2, rfl, -⟩ := id i2
    clear i1 i2
    go_enter Try.func15, Try.ntmps15
    go_wp2_with fail
    refine (C0 _ HB0.out).mono ?_
    rintro e w2 ⟨rfl, b2⟩
    have HO2 := Lib.hid ((HO0.out.kept b2).lower (Nat.le_succ w.heap.size))
    have HB2 := Lib.hid (below_then HB0.out HB0.out.size b2)
    clear b2
    go_wp2
    go_ret
    exact ⟨_, rfl, HO2.out, HB2.out⟩
  · obtain ⟨x, y, p, q, rfl, rfl, bx, bY, bp, bq, hg, hg2, hd⟩ := cone_parts h
    have e : splitC [x, y] [p, q] = splitP p q (x * q - y * p).toNat x y := by unfold splitC; rw [h]; simp [crossI]
    rw [e]
    have HK0 := Lib.hid (show Spl p q x y (x * q - y * p).toNat from ⟨bx, bY, hg, by omega, by omega⟩)
    have hk18 : (x * q - y * p).toNat ≤ 1800 := by have := cross_bd30 bx bY bp bq; omega
    generalize (x * q - y * p).toNat = K at *
    rw [h] at C0
    clear e h
    obtain ⟨i0, hi0, hz0, hz1, hz2⟩ := info_parts info_ints
    have HI0 := Lib.hid hi0; clear hi0
    have HJ0 := Lib.hid hz0; clear hz0
    have HJ1 := Lib.hid hz1; clear hz1
    have HJ2 := Lib.hid hz2; clear hz2
    have HI1 := Lib.hid i1
    have HI2 := Lib.hid i2
    obtain ⟨a1, c1, rfl, -⟩ := id i1
    obtain ⟨a2, c2, rfl, -⟩ := id i2
    clear i1 i2
    go_enter Try.func15, Try.ntmps15
    go_wp2_with fail
    refine (C0 _ HB0.out).mono ?_
    rintro e w2 ⟨rfl, b2⟩
    have HO2 := Lib.hid (HO0.out.kept b2)
    have HB2 := Lib.hid (below_then HB0.out HB0.out.size b2)
    have BX2 := Lib.hid (BX.out.keep b2)
    have HS2 := Lib.hid (show w.heap.size + 2 ≤ w2.heap.size by rw [← HZ0.out]; exact b2.size)
    clear b2
    have x0 := BX2.out.c0
    have x1 := BX2.out.c1
    have BX3 := Lib.hid (BX2.out.keep (below1 w2 (.cells #[] 3)))
    have y0 := BX3.out.c0
    have y1 := BX3.out.c1
    have HSRC := Lib.hid ((HI1.out.keep HB2.out hhb).keep (below1 w2 (.cells #[] 3)) (by have := HS2.out; omega))
    go_wp2_with (at_builtin; refine wpList_append_I rfl _ _ rfl rfl rfl (OwnI.lit0 w2 w2.heap.size (Nat.le_refl _)) HSRC.out (by simp) (by simp) ?_)
    intro au cu w3 hown3 hg3
    have HB3 := Lib.hid ((below1 w2 (.cells #[] 3)).grown hg3 (by simp) (fun k hk => by simp [Value.ownBlock] at hk; omega))
    obtain ⟨V0, p0, hpt⟩ := HO2.out.part HB3.out
    have HPT := Lib.hid hpt
    have HBW3 := Lib.hid (HB3.out.mono (show w.heap.size + 1 ≤ w2.heap.size by have := HS2.out; omega))
    have HU3 := Lib.hid hown3.is
    have HLE3 := Lib.hid HB3.out.size
    clear hpt hown3 hg3 x0 x1 y0 y1 BX3 HSRC HO2 HB3 HI1 BX HO0 HB0 HZ0 C0 hd hg bx bY
    go_wp2
    go_loopw [3, 4] (fun ov uv wr => ∃ (x' y' : Int) (k : Nat) (acc : List (List Int)) (Vf : Nat → Value) (pf : Nat → Nat) (m lo : Nat), acc.length + k ≤ 1800 ∧ Hid (Spl p q x' y' k) ∧ Hid (splitP p q K x y = acc ++ splitP p q k x' y') ∧
      Hid (OwnLp wr (w.heap.size + 1) ov acc Vf pf m) ∧ Hid (IS wr lo wr.heap.size uv [x', y']) ∧ m ≤ lo ∧ lo ≤ wr.heap.size ∧ Hid (Below (w.heap.size + 1) w2 wr)) (fun ov _ _ => 1801 - slen ov)
    case atStart => exact ⟨x, y, K, [], V0, p0, w2.heap.size, w2.heap.size, by simpa using hk18, HK0, Lib.hid rfl, HPT, HU3, Nat.le_refl _, HLE3.out, HBW3⟩
    case round =>
      obtain ⟨x', y', k, acc, Vf, pf, m, lo, hak, hspl, hsp, hown, hiu, hml, hlo, hbe⟩ := hrel
      generalize wr = w4 at *
      have BX4 := Lib.hid (BX2.out.keepB hbe.out (Nat.lt_succ_self _))
      have HW4 := Lib.hid (show Below w.heap.size w w4 from HB2.out.trans (hbe.out.mono (Nat.le_succ _)))
      have x1 := BX4.out.c1
      have x0 := BX4.out.c0
      have CR := l7Cross_any [x', y'] [p, q] _ _ w4.heap.size hb w4 hiu.out.read (HI2.out.keep HW4.out hhb) rfl rfl (in9 hspl.out.bx hspl.out.byy) (in9 bp bq)
      rw [show crossI [x', y'] [p, q] = x' * q - y' * p by simp [crossI]] at CR
      obtain ⟨au, cu, rfl, -⟩ := id hiu.out
      obtain ⟨ao, co, rfl⟩ := hown.out.form
      obtain ⟨D, hD⟩ : ∃ D, D = x' * q - y' * p := ⟨_, rfl⟩
      rw [← hD] at CR
      have HD := Lib.hid hD
      have hD0 : 0 ≤ D := by rw [hD]; exact hspl.out.d0
      clear hD
      go_wp2_with fail
      refine CR.mono ?_
      rintro e w5 ⟨rfl, d5, hw5⟩
      have c5 : Below w4.heap.size w4 w5 := hw5 ▸ below_draws _ _ _
      have hz5 : w5.heap.size = w4.heap.size := by rw [hw5]; rfl
      have HPT5 := Lib.hid (hown.out.keep c5 (Nat.le_trans hml hlo))
      have HIU5 := Lib.hid (show IS w5 lo w5.heap.size (.slice au 2 cu) [x', y'] by rw [hz5]; exact hiu.out.keep c5 (Nat.le_refl _))
      have HBE5 := Lib.hid (hbe.out.trans (c5.mono (by have := hbe.out.size; have := HS2.out; omega)))
      have BX5 := Lib.hid (BX2.out.keepB HBE5.out (Nat.lt_succ_self _))
      have hlo5 : lo ≤ w5.heap.size := by omega
      have HZ5 := Lib.hid (show w.heap.size + 2 ≤ w5.heap.size by have := HBE5.out.size; have := HS2.out; omega)
      clear hw5 c5 hz5 hown hiu hbe BX4 HW4 x0 x1 CR hlo
      by_cases hz : D = 0
      · have hsp2 : splitP p q K x y = acc ++ [[x', y']] := by rw [hsp.out, splitP_zero p q k (by rw [← HD.out]; exact hz)]
        have HSP := Lib.hid hsp2
        clear hsp2
        subst hz
        go_wp2_with (at_builtin; refine wpList_append_own _ rfl _ _ 26 rfl (w.heap.size + 1) 22 i0 (.slice none 0 0) 1 24 Try.underlying26 HI0.out HJ0.out HJ1.out HJ2.out rfl (by decide) _ _ _ rfl (HPT5.out.alloc _) ⟨w5.heap.size, 0, none⟩ 1 1 [.slice au 2 cu] rfl rfl ?c1 ?c2 ?c3 ?c4 ?c5 ?_)
        case c1 => exact cell_one_new _ _ _
        case c2 => first | rfl | (intro u hu; simp at hu; subst hu; rfl)
        case c3 => unfold maxLen; omega
        case c4 => omega
        case c5 => first | (have := HZ5.out; omega) | (have := HZ5.out; simp; omega)
        intro v2 w6 hown2 hgrow _
        have HO := Lib.hid ((HPT5.out.push HIU5.out hml hlo5 (Nat.le_refl _) hgrow hown2).lower (Nat.le_succ w.heap.size))
        have HBE := Lib.hid (HB2.out.trans ((OwnLp.below HBE5.out (by have := HZ5.out; omega) _ hgrow HPT5.out (Nat.le_refl _)).mono (Nat.le_succ _)))
        clear hown2 hgrow
        go_wp2
        go_ret
        exact ⟨_, rfl, by rw [HSP.out]; exact HO.out, HBE.out⟩
      · obtain ⟨k', hk', hnx⟩ := hspl.out.next bp bq (by rw [← HD.out]; exact hz)
        have hsp2 : splitP p q K x y = (acc ++ [[x', y']]) ++ splitP p q k' (nextX x' y' p q) (nextY x' y' p q) := by
          rw [hsp.out, hk', splitP_succ p q k' (by rw [← HD.out]; exact hz)]; simp
        have HSP := Lib.hid hsp2
        have HNX := Lib.hid hnx
        have hdp : 0 < D := by omega
        have HDP := Lib.hid (show 0 < x' * q - y' * p by rw [← HD.out]; exact hdp)
        subst hk'
        clear hsp2 hsp hnx
        go_wp2_with (at_builtin; refine wpList_append_own _ rfl _ _ 26 rfl (w.heap.size + 1) 22 i0 (.slice none 0 0) 1 24 Try.underlying26 HI0.out HJ0.out HJ1.out HJ2.out rfl (by decide) _ _ _ rfl (HPT5.out.alloc _) ⟨w5.heap.size, 0, none⟩ 1 1 [.slice au 2 cu] rfl rfl ?c1 ?c2 ?c3 ?c4 ?c5 ?_)
        case c1 => exact cell_one_new _ _ _
        case c2 => first | rfl | (intro u hu; simp at hu; subst hu; rfl)
        case c3 => unfold maxLen; omega
        case c4 => omega
        case c5 => first | (have := HZ5.out; omega) | (have := HZ5.out; simp; omega)
        intro v2 w6 hown2 hgrow _
        have HO := Lib.hid (HPT5.out.push HIU5.out hml hlo5 (Nat.le_refl _) hgrow hown2)
        have HU6 := Lib.hid (HPT5.out.still HIU5.out (Nat.le_refl _) hgrow)
        have HBE := Lib.hid (OwnLp.below HBE5.out (by have := HZ5.out; omega) _ hgrow HPT5.out (Nat.le_refl _))
        have HZ6 := Lib.hid (show w5.heap.size ≤ w6.heap.size by have := hgrow.size; simp at this; omega)
        obtain ⟨ao2, co2, rfl⟩ := ownsRow_slen hown2
        clear hown2 hgrow
        have BX6 := Lib.hid (BX2.out.keepB HBE.out (Nat.lt_succ_self _))
        have HW6 := Lib.hid (show Below w.heap.size w w6 from HB2.out.trans (HBE.out.mono (Nat.le_succ _)))
        have x1 := BX6.out.c1
        have CN := l9Next_any x' y' p q (.slice au 2 cu) (.slice a2 2 c2) w6.heap.size w6 (HU6.out.read.upto HZ6.out) ((HI2.out.keep HW6.out hhb).upto (by have := HW6.out.size; omega)) (Nat.le_refl _) hspl.out.bx hspl.out.byy bp bq hspl.out.g HDP.out
        go_wp2_with fail
        refine CN.mono ?_
        rintro e w7 ⟨u7, rfl, is7, b7⟩
        have HIS7 := Lib.hid is7
        obtain ⟨V7, p7, hpt7⟩ := HO.out.part b7
        have HPT7 := Lib.hid hpt7
        have HBE7 := Lib.hid (HBE.out.trans (b7.mono (by have := HZ6.out; have := HZ5.out; omega)))
        have HZ7 := Lib.hid b7.size
        obtain ⟨a7, c7, rfl, -⟩ := id is7
        clear is7 hpt7 b7 CN x1
        go_wp2
        go_roundw
        case rel => exact ⟨_, _, k', _, V7, p7, w6.heap.size, w6.heap.size, by simp; omega, HNX, HSP, HPT7, HIS7, Nat.le_refl _, HZ7.out, HBE7⟩
        case measure => simp [slen]; omega
end Go.Proofs.Ytchkcjpahlimjaa
