/- A matrix without a row and a column: the program's walk. -/
import Derived.Test.YtchkcjpahlimjaaDifs
namespace Go.Proofs.Ytchkcjpahlimjaa
open Go.RowKit
set_option linter.unusedVariables false
set_option linter.unusedSimpArgs false

def cutAt (r : List Int) (j : Nat) : List Int := r.take j ++ r.drop (j + 1)
def minorK (m : List (List Int)) (i j : Nat) : Nat → List (List Int)
  | 0 => []
  | k + 1 => if k = i then minorK m i j k else minorK m i j k ++ [cutAt (m.getD k []) j]
def minorL (m : List (List Int)) (i j : Nat) : List (List Int) := minorK m i j m.length
theorem minorK_len (m : List (List Int)) (i j : Nat) : ∀ k, (minorK m i j k).length ≤ k
  | 0 => Nat.le_refl _
  | k + 1 => by
    have := minorK_len m i j k
    rw [minorK]; split
    · omega
    · rw [List.length_append, List.length_singleton]; omega
theorem ISr.pre {w : World} {hi b off n cap : Nat} {l : List Int} (h : ISr w hi (.slice (some ⟨b, off, none⟩) n cap) l) {j : Nat} (hj : j ≤ l.length) : ISr w hi (.slice (some ⟨b, off, none⟩) j cap) (l.take j) := by
  obtain ⟨a, c, hv, h1, h2, h3⟩ := h
  injection hv with e1 e2 e3
  subst e1 e2 e3
  have hl : (l.take j).length = j := by rw [List.length_take]; omega
  refine ⟨_, _, by rw [hl], by rw [hl]; omega, h2, fun hne => ?_⟩
  obtain ⟨b', off', e, hb, hc⟩ := h3 (by intro e; rw [e] at hne; exact hne (by simp))
  refine ⟨b', off', e, hb, fun i hi => ?_⟩
  rw [hl] at hi
  rw [List.getD_eq_getElem?_getD, List.getElem?_take_of_lt hi, ← List.getD_eq_getElem?_getD]
  exact hc i (by omega)
theorem ISr.suf {w : World} {hi b off n cap : Nat} {l : List Int} (h : ISr w hi (.slice (some ⟨b, off, none⟩) n cap) l) {j : Nat} (hj : j ≤ l.length) : ISr w hi (.slice (some ⟨b, off + j, none⟩) (n - j) (cap - j)) (l.drop j) := by
  obtain ⟨a, c, hv, h1, h2, h3⟩ := h
  injection hv with e1 e2 e3
  subst e1 e2 e3
  have hl : (l.drop j).length = l.length - j := by rw [List.length_drop]
  refine ⟨_, _, by rw [hl], by rw [hl]; omega, by omega, fun hne => ?_⟩
  obtain ⟨b', off', e, hb, hc⟩ := h3 (by intro e; rw [e] at hne; exact hne (by simp))
  injection e with e; injection e with ea eb
  subst ea eb
  refine ⟨_, _, rfl, hb, fun i hi => ?_⟩
  rw [hl] at hi
  rw [List.getD_eq_getElem?_getD, List.getElem?_drop, ← List.getD_eq_getElem?_getD]
  have := hc (j + i) (by omega)
  rwa [← Nat.add_assoc] at this
theorem ISr.none0 {w : World} {hi : Nat} {a : Option Addr} {cap : Nat} (h : cap ≤ maxLen) : ISr w hi (.slice a 0 cap) [] := ⟨a, cap, rfl, Nat.zero_le _, h, fun h => absurd rfl h⟩
theorem OwnI.below2 {w w1 w2 : World} {B B0 : Nat} {v : Value} {l : List Int} (hbe : Below B w w1) (hB : B ≤ w1.heap.size) (hg : w1.grownBy w2 v.ownBlock) (hown : OwnI w1 B0 v l) (hB0 : B ≤ B0) : Below B w w2 :=
  hbe.grown hg hB fun k hk => Nat.le_trans hB0 (World.ownsRow.lt hown k hk).1

theorem undrew {w w' : World} (h : Below w.drew.heap.size w.drew w') : Below w.heap.size w w' := ⟨h.os, h.tape, h.output, h.size, h.block⟩
theorem copyInts_lit (l : List Int) (v : Value) (hb : Nat) (w : World) (h : ISr w hb v l) (hl : l.length ≤ 1000000) :
    Calls Try.prog 59 #[v] w fun e w' => ∃ a n cap, e = .returned (.slice a n cap) ∧ Hid (n = l.length) ∧ OwnI w' w.heap.size (.slice a n cap) l ∧ Below w.heap.size w w' :=
  (copyInts_any l v hb w h hl).mono fun e w' ⟨u, he, ho, hb⟩ => by
    obtain ⟨a, cap, rfl⟩ := ho.form
    exact ⟨a, _, cap, he, rfl, ho, hb⟩
set_option maxRecDepth 100000 in
set_option maxHeartbeats 4000000 in
theorem minor_any (ls : List (List Int)) (i j n : Nat) (v : Value) (hb : Nat) (w : World) (h : ISSr w hb v ls) (hhb : hb ≤ w.heap.size) (hn : n = ls.length) (hl : n ≤ 10) (hi : i < n) (hj : j < n) (hr : ∀ k, k < ls.length → (ls.getD k []).length = n) :
    Calls Try.prog 108 #[v, .int .i64 i, .int .i64 j] w fun e w' => ∃ u, e = .returned u ∧ OwnL w' w.heap.size u (minorL ls i j) ∧ Below w.heap.size w w' := by
  obtain ⟨i0, hi0, hz0, hz1, hz2⟩ := info_parts info_ints
  have HI0 := Lib.hid hi0; clear hi0
  have HZ0 := Lib.hid hz0; clear hz0
  have HZ1 := Lib.hid hz1; clear hz1
  have HZ2 := Lib.hid hz2; clear hz2
  obtain ⟨a, cap, rfl, -, -, hcell⟩ := id h
  rw [← hn]
  have HN := Lib.hid hn; clear hn
  have HC := Lib.hid hcell; clear hcell h
  have HR := Lib.hid hr; clear hr
  go_enter Try.func108, Try.ntmps108
  go_wp2
  go_loopw [7, 8, 9, 12] (fun ov _ _ c wr => ∃ (k : Nat) (acc : List (List Int)), k ≤ n ∧ c = .int .i64 k ∧ acc.length ≤ k ∧ Hid (acc = minorK ls i j k) ∧ Hid (OwnL wr w.heap.size ov acc) ∧ Hid (Below w.heap.size w wr)) (fun _ _ _ c _ => n - (intOf c).toNat)
  case atStart => exact ⟨0, [], by omega, rfl, Nat.le_refl _, Lib.hid rfl, OwnL.nil w _ (Nat.le_refl _), Below.refl _ _⟩
  case round =>
    obtain ⟨k, acc, hk, rfl, hal, hacc, hown, hbe⟩ := hrel
    by_cases hlt : k < n
    · have hkl : k < ls.length := by rw [← HN.out]; exact hlt
      obtain ⟨b, off, V0, rfl, hbb, hcc⟩ := HC.out (by intro e; rw [e] at hkl; exact absurd hkl (Nat.not_lt_zero _))
      have hck := (hbe.out.cell (p := ⟨b, off + k, none⟩) (Nat.lt_of_lt_of_le hbb hhb)).trans (hcc k hkl).1
      have hrow := (hcc k hkl).2
      have hrl := HR.out k hkl
      have HE := Lib.hid (show minorK ls i j (k + 1) = if k = i then acc else acc ++ [cutAt (ls.getD k []) j] by rw [minorK, ← hacc.out])
      clear hcc hkl
      generalize ls.getD k [] = r at *
      generalize V0 k = xk at *
      by_cases hki : k = i
      · have HE2 := Lib.hid (HE.out.trans (if_pos hki))
        have htest : ((k : Int) != (i : Int)) = false := by rw [bne_eq_false_iff_eq]; omega
        clear HE hki
        go_wp2
        go_roundw
        case rel => exact ⟨k + 1, acc, by omega, by go_num, by omega, Lib.hid HE2.out.symm, hown, hbe⟩
        case measure => simp [intOf]; omega
      · have HE2 := Lib.hid (HE.out.trans (if_neg hki))
        have htest : ((k : Int) != (i : Int)) = true := by rw [bne_iff_ne]; omega
        clear HE hki
        obtain ⟨ar, cr, hvr, hc1, hc2, hcr⟩ := id hrow
        obtain ⟨br, or', rfl, hbr, -⟩ := hcr (by intro e; rw [e] at hrl; simp at hrl; omega)
        rw [hrl] at hvr hc1
        subst hvr
        have HROW := Lib.hid hrow
        have HRL := Lib.hid hrl
        have hcm := hc2
        unfold maxLen at hcm
        clear hrow hcr hrl
        have i1 : (0 : Int) ≤ (j : Int) := by omega
        have i2 : (j : Int) ≤ (cr : Int) := by omega
        have i3 : IntKind.i64.wrap ((j : Int) + 1) = (j : Int) + 1 := wr64 _ (by omega)
        have i4 : (0 : Int) ≤ (j : Int) + 1 := by omega
        have i5 : (j : Int) + 1 ≤ (n : Int) := by omega
        have i6 : ((j : Int) + 1).toNat = j + 1 := by omega
        have CP := fun W (B : Below w.heap.size w W) => copyInts_lit (r.take j) (.slice (some ⟨br, or', none⟩) j cr) hb W ((HROW.out.keep B hhb).pre (by rw [HRL.out]; omega)) (by rw [List.length_take, HRL.out]; omega)
        have hbs := hbe.out.size
        by_cases hcap : cr = j + 1
        case' pos =>
          have hnj : n = j + 1 := by omega
          obtain rfl : cr = n := by omega
          have hdr : r.drop (j + 1) = [] := by rw [← hnj, ← HRL.out]; exact List.drop_length
          have i7 : ((j : Int) + 1).toNat = cr := by omega
          have HNJ := Lib.hid hnj
          clear i6 hcap hnj
          have SRC := Lib.hid (show ∀ W, Below w.heap.size w W → ∀ ad, ISr W hb (.slice ad 0 0) (r.drop (j + 1)) from fun W _ ad => by rw [hdr]; exact ISr.none0 (Nat.zero_le _))
          have HDR := Lib.hid hdr
          clear hdr
        case' neg =>
          have SRC := Lib.hid (fun W (B : Below w.heap.size w W) => (HROW.out.keep B hhb).suf (j := j + 1) (by rw [HRL.out]; omega))
        all_goals
          go_wp2_with fail
          have Bd : Below w.heap.size w wr.drew := hbe.out.trans (below_draws _ wr 1)
          go_region_held3 (fun _ => True) (trivial) (first | (go_at_call 59; (with_reducible refine (CP _ Bd).mono ?_); rintro e w2 ⟨au, nu, cu, rfl, hnu, ku, c2⟩; have B2 := below_then Bd Bd.size c2) | (refine step_append_I (by rfl) _ _ (by with_reducible rfl) (by rfl) (by rfl) ku (by first | exact SRC.out _ B2 | exact SRC.out _ B2 _) (by rw [List.length_take, List.length_drop, HRL.out]; omega) c2.size ?_; intro a1 n1 c1 w3 hn1 ho1 hg1; have B3 := undrew (OwnI.below2 c2 c2.size hg1 ku (Nat.le_refl _)); obtain ⟨V, p, hpt⟩ := hown.out.part (w' := w3) B3; have HPT := Lib.hid hpt; have hz3 := Nat.le_trans hbs B3.size) | (refine step_append_lies _ (by rfl) _ _ _ (by with_reducible rfl) w.heap.size 22 i0 _ 1 24 Try.underlying26 HI0.out HZ0.out HZ1.out HZ2.out rfl (by omega) u7 acc.length _ (by rfl) (HPT.out.alloc _) ⟨w3.heap.size, 0, none⟩ 1 1 [.slice a1 n1 c1] (by rfl) (by rfl) (World.news_of_block (cs := #[.slice a1 n1 c1]) (t := 22) (fr := (0, 0)) (heap_alloc_new w3 _)) (by simp [Value.oneCell']) (by omega) (by unfold maxLen; omega) (by omega) (by simp; omega) (w3.heap.size + 1) (by simp) ?_; intro gg cap w1 hown1 hgrow hat hlt))
          have HO := Lib.hid (HPT.out.push ho1.is (Nat.le_refl _) B3.size (Nat.le_refl _) hgrow hown1)
          have HBE := Lib.hid (OwnLp.below (below_then hbe.out hbs B3) hz3 _ hgrow HPT.out (Nat.le_refl _))
          clear hown1 hgrow hat hlt HPT hpt hg1 ho1 hn1 ku hnu c2 B2 B3 Bd CP SRC i1 i2 i3 i4 i5
          go_wp2
          go_roundw
          case rel => exact ⟨k + 1, acc ++ [cutAt r j], by omega, by go_num, by simp; omega, Lib.hid HE2.out.symm, HO, HBE⟩
          case measure => simp [intOf]; omega
    · obtain rfl : k = n := by omega
      have hfin : acc = minorL ls i j := by rw [hacc.out, minorL, ← HN.out]
      subst hfin
      go_wp2
      go_ret
      exact ⟨_, rfl, hown.out, hbe.out⟩
end Go.Proofs.Ytchkcjpahlimjaa
