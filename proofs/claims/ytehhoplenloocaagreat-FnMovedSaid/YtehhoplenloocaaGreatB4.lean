/- B4: texts in one: Difs Minor DetM Det Cpy. -/
import Derived.Test.YtehhoplenloocaaGreatB2
import Derived.Deep.AppendLies
import Derived.Test.YtehhoplenloocaaGreatB1
/- Lists of rows that are made by appending: copies, differences. -/
namespace Go.Proofs.YtehhoplenloocaaGreat
open Go.RowKit
set_option linter.unusedVariables false
set_option linter.unusedSimpArgs false

theorem take_snocL (ls : List (List Int)) (k : Nat) (h : k < ls.length) : ls.take k ++ [ls.getD k []] = ls.take (k + 1) := by
  rw [List.take_succ_eq_append_getElem h, List.getD_eq_getElem?_getD, List.getElem?_eq_getElem h]; rfl
theorem map_snocL {α : Type} (f : List Int → α) (ls : List (List Int)) (k : Nat) (h : k < ls.length) : (ls.take k).map f ++ [f (ls.getD k [])] = (ls.take (k + 1)).map f := by
  rw [← take_snocL ls k h, List.map_append]; rfl

set_option maxHeartbeats 1000000 in
theorem copyPoints_any (ls : List (List Int)) (v : Value) (hb : Nat) (w : World) (h : ISSr w hb v ls) (hhb : hb ≤ w.heap.size) (hl : ls.length ≤ 100000) (hr : ∀ i, i < ls.length → (ls.getD i []).length ≤ 1000000) :
    Calls Tryz.prog 60 #[v] w fun e w' => ∃ u, e = .returned u ∧ OwnL w' w.heap.size u ls ∧ Below w.heap.size w w' := by
  obtain ⟨i0, hi0, hz0, hz1, hz2⟩ := info_parts info_ints
  have HI0 := Lib.hid hi0; clear hi0
  have HZ0 := Lib.hid hz0; clear hz0
  have HZ1 := Lib.hid hz1; clear hz1
  have HZ2 := Lib.hid hz2; clear hz2
  obtain ⟨n, hn⟩ : ∃ n, n = ls.length := ⟨_, rfl⟩
  obtain ⟨a, cap, rfl, -, -, hcell⟩ := id h
  rw [← hn] at hl ⊢
  have HN := Lib.hid hn; clear hn
  have HC := Lib.hid hcell; clear hcell h
  have HR := Lib.hid hr; clear hr
  go_enter Tryz.func60, Tryz.ntmps60
  go_wp2
  go_loopw [3, 5, 8] (fun ov _ i wr => ∃ (k : Nat) (acc : List (List Int)), k ≤ n ∧ i = .int .i64 k ∧ acc.length ≤ k ∧ Hid (acc = ls.take k) ∧ Hid (OwnL wr w.heap.size ov acc) ∧ Hid (Below w.heap.size w wr)) (fun _ _ i _ => n - (intOf i).toNat)
  case atStart => exact ⟨0, [], by omega, rfl, Nat.le_refl _, Lib.hid (by simp), OwnL.nil w _ (Nat.le_refl _), Below.refl _ _⟩
  case round =>
    obtain ⟨k, acc, hk, rfl, hal, hacc, hown, hbe⟩ := hrel
    by_cases hlt : k < n
    · have hkl : k < ls.length := by rw [← HN.out]; exact hlt
      obtain ⟨b, off, V0, rfl, hbb, hcc⟩ := HC.out (by intro e; rw [e] at hkl; exact absurd hkl (Nat.not_lt_zero _))
      have hck := (hbe.out.cell (p := ⟨b, off + k, none⟩) (Nat.lt_of_lt_of_le hbb hhb)).trans (hcc k hkl).1
      have hrow := (hcc k hkl).2.keep hbe.out hhb
      have HE := Lib.hid (take_snocL ls k hkl)
      rw [← hacc.out] at HE
      have CP := copyInts_any (ls.getD k []) (V0 k) hb wr hrow (HR.out k hkl)
      have hbs := hbe.out.size
      clear hcc hkl hrow
      generalize ls.getD k [] = r at *
      generalize V0 k = xk at *
      go_wp2_with fail
      refine CP.mono ?_
      rintro e w2 ⟨u, rfl, ku, c2⟩
      have HK := Lib.hid ku.is
      obtain ⟨V, p, hpt⟩ := hown.out.part c2
      have HPT := Lib.hid hpt
      have HB2 := Lib.hid (below_then hbe.out hbs c2)
      have hs2 := c2.size
      obtain ⟨au, cu, rfl⟩ := ku.form
      clear hpt ku c2 CP
      go_wp2_with (at_builtin; refine wpList_append_own _ rfl _ _ 24 rfl w.heap.size 25 i0 (.slice none 0 0) 1 24 Tryz.underlying24 HI0.out HZ0.out HZ1.out HZ2.out rfl (by decide) _ _ _ rfl (HPT.out.alloc _) ⟨w2.heap.size, 0, none⟩ 1 1 [.slice au r.length cu] rfl rfl ?c1 ?c2 ?c3 ?c4 ?c5 ?_)
      case c1 => exact cell_one_new _ _ _
      case c2 => first | rfl | (intro u hu; simp at hu; subst hu; rfl)
      case c3 => unfold maxLen; omega
      case c4 => omega
      case c5 => first | omega | (simp; omega)
      intro v2 w3 hown2 hgrow _
      have HO := Lib.hid (HPT.out.push HK.out (Nat.le_refl _) hs2 (Nat.le_refl _) hgrow hown2)
      have HBE := Lib.hid (OwnLp.below HB2.out (by omega) _ hgrow HPT.out (Nat.le_refl _))
      clear hown2 hgrow
      go_wp2
      go_roundw
      case rel => exact ⟨k + 1, _, by omega, by go_num, by simp; omega, HE, HO, HBE⟩
      case measure => simp [intOf]; omega
    · obtain rfl : k = n := by omega
      have hfin : acc = ls := by rw [hacc.out, HN.out, List.take_length]
      subst hfin
      go_wp2
      go_ret
      exact ⟨_, rfl, hown.out, hbe.out⟩

/-- the difference of two points of space -/
def diff3 (x f : List Int) : List Int := [x.getD 0 0 - f.getD 0 0, x.getD 1 0 - f.getD 1 0, x.getD 2 0 - f.getD 2 0]
theorem IS.lit3 (w : World) (B : Nat) (h : B ≤ w.heap.size) (x y z : Int) : IS (w.alloc (.cells #[.int .i64 x, .int .i64 y, .int .i64 z] 3)) B (w.heap.size + 1) (.slice (some ⟨w.heap.size, 0, none⟩) 3 3) [x, y, z] := by
  refine IS.of_BK (l := [x, y, z]) ⟨_, heap_alloc_new w _, fun i hi => ?_⟩ (Nat.le_refl _) (by simp [maxLen]) h (by omega)
  match i, hi with
  | 0, _ => rfl
  | 1, _ => rfl
  | 2, _ => rfl
theorem ISr.three {w : World} {hi : Nat} {v : Value} {l : List Int} (h : ISr w hi v l) (hl : l.length = 3) :
    ∃ b off cap, v = .slice (some ⟨b, off, none⟩) 3 cap ∧ b < hi ∧ w.cell? ⟨b, off, none⟩ = some (.int .i64 (l.getD 0 0)) ∧ w.cell? ⟨b, off + 1, none⟩ = some (.int .i64 (l.getD 1 0)) ∧ w.cell? ⟨b, off + 2, none⟩ = some (.int .i64 (l.getD 2 0)) := by
  rcases h.cases with ⟨rfl, -⟩ | ⟨-, -, b, off, cap, rfl, hb, hc⟩
  · simp at hl
  · rw [hl]
    exact ⟨b, off, cap, rfl, hb, by have := hc 0 (by omega); rwa [Nat.add_zero] at this, hc 1 (by omega), hc 2 (by omega)⟩
end Go.Proofs.YtehhoplenloocaaGreat

/- A matrix without a row and a column: the program's walk. -/
namespace Go.Proofs.YtehhoplenloocaaGreat
open Go.RowKit
set_option linter.unusedVariables false
set_option linter.unusedSimpArgs false

def cutAt (r : List Int) (j : Nat) : List Int := r.take j ++ r.drop (j + 1)
def minorK (m : List (List Int)) (i j : Nat) : Nat → List (List Int)
  | 0 => []
  | k + 1 => if k = i then minorK m i j k else minorK m i j k ++ [cutAt (m.getD k []) j]
def minorL (m : List (List Int)) (i j : Nat) : List (List Int) := minorK m i j m.length
theorem minorK_len (m : List (List Int)) (i j : Nat) : ∀ k, (minorK m i j k).length ≤ k
  | 0 => Nat.le_refl _
  | k + 1 => by
    have := minorK_len m i j k
    rw [minorK]; split
    · omega
    · rw [List.length_append, List.length_singleton]; omega
theorem ISr.pre {w : World} {hi b off n cap : Nat} {l : List Int} (h : ISr w hi (.slice (some ⟨b, off, none⟩) n cap) l) {j : Nat} (hj : j ≤ l.length) : ISr w hi (.slice (some ⟨b, off, none⟩) j cap) (l.take j) := by
  obtain ⟨a, c, hv, h1, h2, h3⟩ := h
  injection hv with e1 e2 e3
  subst e1 e2 e3
  have hl : (l.take j).length = j := by rw [List.length_take]; omega
  refine ⟨_, _, by rw [hl], by rw [hl]; omega, h2, fun hne => ?_⟩
  obtain ⟨b', off', e, hb, hc⟩ := h3 (by intro e; rw [e] at hne; exact hne (by simp))
  refine ⟨b', off', e, hb, fun i hi => ?_⟩
  rw [hl] at hi
  rw [List.getD_eq_getElem?_getD, List.getElem?_take_of_lt hi, ← List.getD_eq_getElem?_getD]
  exact hc i (by omega)
theorem ISr.suf {w : World} {hi b off n cap : Nat} {l : List Int} (h : ISr w hi (.slice (some ⟨b, off, none⟩) n cap) l) {j : Nat} (hj : j ≤ l.length) : ISr w hi (.slice (some ⟨b, off + j, none⟩) (n - j) (cap - j)) (l.drop j) := by
  obtain ⟨a, c, hv, h1, h2, h3⟩ := h
  injection hv with e1 e2 e3
  subst e1 e2 e3
  have hl : (l.drop j).length = l.length - j := by rw [List.length_drop]
  refine ⟨_, _, by rw [hl], by rw [hl]; omega, by omega, fun hne => ?_⟩
  obtain ⟨b', off', e, hb, hc⟩ := h3 (by intro e; rw [e] at hne; exact hne (by simp))
  injection e with e; injection e with ea eb
  subst ea eb
  refine ⟨_, _, rfl, hb, fun i hi => ?_⟩
  rw [hl] at hi
  rw [List.getD_eq_getElem?_getD, List.getElem?_drop, ← List.getD_eq_getElem?_getD]
  have := hc (j + i) (by omega)
  rwa [← Nat.add_assoc] at this
theorem ISr.none0 {w : World} {hi : Nat} {a : Option Addr} {cap : Nat} (h : cap ≤ maxLen) : ISr w hi (.slice a 0 cap) [] := ⟨a, cap, rfl, Nat.zero_le _, h, fun h => absurd rfl h⟩
theorem OwnI.below2 {w w1 w2 : World} {B B0 : Nat} {v : Value} {l : List Int} (hbe : Below B w w1) (hB : B ≤ w1.heap.size) (hg : w1.grownBy w2 v.ownBlock) (hown : OwnI w1 B0 v l) (hB0 : B ≤ B0) : Below B w w2 :=
  hbe.grown hg hB fun k hk => Nat.le_trans hB0 (World.ownsRow.lt hown k hk).1

theorem undrew {w w' : World} (h : Below w.drew.heap.size w.drew w') : Below w.heap.size w w' := ⟨h.os, h.tape, h.output, h.size, h.block⟩
theorem copyInts_lit (l : List Int) (v : Value) (hb : Nat) (w : World) (h : ISr w hb v l) (hl : l.length ≤ 1000000) :
    Calls Tryz.prog 62 #[v] w fun e w' => ∃ a n cap, e = .returned (.slice a n cap) ∧ Hid (n = l.length) ∧ OwnI w' w.heap.size (.slice a n cap) l ∧ Below w.heap.size w w' :=
  (copyInts_any l v hb w h hl).mono fun e w' ⟨u, he, ho, hb⟩ => by
    obtain ⟨a, cap, rfl⟩ := ho.form
    exact ⟨a, _, cap, he, rfl, ho, hb⟩
set_option maxRecDepth 100000 in
set_option maxHeartbeats 4000000 in
theorem minor_any (ls : List (List Int)) (i j n : Nat) (v : Value) (hb : Nat) (w : World) (h : ISSr w hb v ls) (hhb : hb ≤ w.heap.size) (hn : n = ls.length) (hl : n ≤ 10) (hi : i < n) (hj : j < n) (hr : ∀ k, k < ls.length → (ls.getD k []).length = n) :
    Calls Tryz.prog 106 #[v, .int .i64 i, .int .i64 j] w fun e w' => ∃ u, e = .returned u ∧ OwnL w' w.heap.size u (minorL ls i j) ∧ Below w.heap.size w w' := by
  obtain ⟨i0, hi0, hz0, hz1, hz2⟩ := info_parts info_ints
  have HI0 := Lib.hid hi0; clear hi0
  have HZ0 := Lib.hid hz0; clear hz0
  have HZ1 := Lib.hid hz1; clear hz1
  have HZ2 := Lib.hid hz2; clear hz2
  obtain ⟨a, cap, rfl, -, -, hcell⟩ := id h
  rw [← hn]
  have HN := Lib.hid hn; clear hn
  have HC := Lib.hid hcell; clear hcell h
  have HR := Lib.hid hr; clear hr
  go_enter Tryz.func106, Tryz.ntmps106
  go_wp2
  go_loopw [7, 8, 9, 12] (fun ov _ _ c wr => ∃ (k : Nat) (acc : List (List Int)), k ≤ n ∧ c = .int .i64 k ∧ acc.length ≤ k ∧ Hid (acc = minorK ls i j k) ∧ Hid (OwnL wr w.heap.size ov acc) ∧ Hid (Below w.heap.size w wr)) (fun _ _ _ c _ => n - (intOf c).toNat)
  case atStart => exact ⟨0, [], by omega, rfl, Nat.le_refl _, Lib.hid rfl, OwnL.nil w _ (Nat.le_refl _), Below.refl _ _⟩
  case round =>
    obtain ⟨k, acc, hk, rfl, hal, hacc, hown, hbe⟩ := hrel
    by_cases hlt : k < n
    · have hkl : k < ls.length := by rw [← HN.out]; exact hlt
      obtain ⟨b, off, V0, rfl, hbb, hcc⟩ := HC.out (by intro e; rw [e] at hkl; exact absurd hkl (Nat.not_lt_zero _))
      have hck := (hbe.out.cell (p := ⟨b, off + k, none⟩) (Nat.lt_of_lt_of_le hbb hhb)).trans (hcc k hkl).1
      have hrow := (hcc k hkl).2
      have hrl := HR.out k hkl
      have HE := Lib.hid (show minorK ls i j (k + 1) = if k = i then acc else acc ++ [cutAt (ls.getD k []) j] by rw [minorK, ← hacc.out])
      clear hcc hkl
      generalize ls.getD k [] = r at *
      generalize V0 k = xk at *
      by_cases hki : k = i
      · have HE2 := Lib.hid (HE.out.trans (if_pos hki))
        have htest : ((k : Int) != (i : Int)) = false := by rw [bne_eq_false_iff_eq]; omega
        clear HE hki
        go_wp2
        go_roundw
        case rel => exact ⟨k + 1, acc, by omega, by go_num, by omega, Lib.hid HE2.out.symm, hown, hbe⟩
        case measure => simp [intOf]; omega
      · have HE2 := Lib.hid (HE.out.trans (if_neg hki))
        have htest : ((k : Int) != (i : Int)) = true := by rw [bne_iff_ne]; omega
        clear HE hki
        obtain ⟨ar, cr, hvr, hc1, hc2, hcr⟩ := id hrow
        obtain ⟨br, or', rfl, hbr, -⟩ := hcr (by intro e; rw [e] at hrl; simp at hrl; omega)
        rw [hrl] at hvr hc1
        subst hvr
        have HROW := Lib.hid hrow
        have HRL := Lib.hid hrl
        have hcm := hc2
        unfold maxLen at hcm
        clear hrow hcr hrl
        have i1 : (0 : Int) ≤ (j : Int) := by omega
        have i2 : (j : Int) ≤ (cr : Int) := by omega
        have i3 : IntKind.i64.wrap ((j : Int) + 1) = (j : Int) + 1 := wr64 _ (by omega)
        have i4 : (0 : Int) ≤ (j : Int) + 1 := by omega
        have i5 : (j : Int) + 1 ≤ (n : Int) := by omega
        have i6 : ((j : Int) + 1).toNat = j + 1 := by omega
        have CP := fun W (B : Below w.heap.size w W) => copyInts_lit (r.take j) (.slice (some ⟨br, or', none⟩) j cr) hb W ((HROW.out.keep B hhb).pre (by rw [HRL.out]; omega)) (by rw [List.length_take, HRL.out]; omega)
        have hbs := hbe.out.size
        by_cases hcap : cr = j + 1
        case' pos =>
          have hnj : n = j + 1 := by omega
          obtain rfl : cr = n := by omega
          have hdr : r.drop (j + 1) = [] := by rw [← hnj, ← HRL.out]; exact List.drop_length
          have i7 : ((j : Int) + 1).toNat = cr := by omega
          have HNJ := Lib.hid hnj
          clear i6 hcap hnj
          have SRC := Lib.hid (show ∀ W, Below w.heap.size w W → ∀ ad, ISr W hb (.slice ad 0 0) (r.drop (j + 1)) from fun W _ ad => by rw [hdr]; exact ISr.none0 (Nat.zero_le _))
          have HDR := Lib.hid hdr
          clear hdr
        case' neg =>
          have SRC := Lib.hid (fun W (B : Below w.heap.size w W) => (HROW.out.keep B hhb).suf (j := j + 1) (by rw [HRL.out]; omega))
        all_goals
          go_wp2_with fail
          have Bd : Below w.heap.size w wr.drew := hbe.out.trans (below_draws _ wr 1)
          go_region_held3 (fun _ => True) (trivial) (first | (go_at_call 62; (with_reducible refine (CP _ Bd).mono ?_); rintro e w2 ⟨au, nu, cu, rfl, hnu, ku, c2⟩; have B2 := below_then Bd Bd.size c2) | (refine step_append_I (by rfl) _ _ (by with_reducible rfl) (by rfl) (by rfl) ku (by first | exact SRC.out _ B2 | exact SRC.out _ B2 _) (by rw [List.length_take, List.length_drop, HRL.out]; omega) c2.size ?_; intro a1 n1 c1 w3 hn1 ho1 hg1; have B3 := undrew (OwnI.below2 c2 c2.size hg1 ku (Nat.le_refl _)); obtain ⟨V, p, hpt⟩ := hown.out.part (w' := w3) B3; have HPT := Lib.hid hpt; have hz3 := Nat.le_trans hbs B3.size) | (refine step_append_lies _ (by rfl) _ _ _ (by with_reducible rfl) w.heap.size 25 i0 _ 1 24 Tryz.underlying24 HI0.out HZ0.out HZ1.out HZ2.out rfl (by omega) u7 acc.length _ (by rfl) (HPT.out.alloc _) ⟨w3.heap.size, 0, none⟩ 1 1 [.slice a1 n1 c1] (by rfl) (by rfl) (World.news_of_block (cs := #[.slice a1 n1 c1]) (t := 25) (fr := (0, 0)) (heap_alloc_new w3 _)) (by simp [Value.oneCell']) (by omega) (by unfold maxLen; omega) (by omega) (by simp; omega) (w3.heap.size + 1) (by simp) ?_; intro gg cap w1 hown1 hgrow hat hlt))
          have HO := Lib.hid (HPT.out.push ho1.is (Nat.le_refl _) B3.size (Nat.le_refl _) hgrow hown1)
          have HBE := Lib.hid (OwnLp.below (below_then hbe.out hbs B3) hz3 _ hgrow HPT.out (Nat.le_refl _))
          clear hown1 hgrow hat hlt HPT hpt hg1 ho1 hn1 ku hnu c2 B2 B3 Bd CP SRC i1 i2 i3 i4 i5
          go_wp2
          go_roundw
          case rel => exact ⟨k + 1, acc ++ [cutAt r j], by omega, by go_num, by simp; omega, Lib.hid HE2.out.symm, HO, HBE⟩
          case measure => simp [intOf]; omega
    · obtain rfl : k = n := by omega
      have hfin : acc = minorL ls i j := by rw [hacc.out, minorL, ← HN.out]
      subst hfin
      go_wp2
      go_ret
      exact ⟨_, rfl, hown.out, hbe.out⟩
end Go.Proofs.YtehhoplenloocaaGreat

/- Determinants by minors, and by the formulas: the plain law. -/
namespace Go.Proofs.YtehhoplenloocaaGreat
set_option linter.unusedVariables false
set_option linter.unusedSimpArgs false

def sgnN (k : Nat) : Int := if k % 2 = 0 then 1 else -1
def detSum (d : List (List Int) → Int) (m : List (List Int)) : Nat → Int
  | 0 => 0
  | k + 1 => detSum d m k + sgnN k * (m.getD 0 []).getD k 0 * d (minorL m 0 k)
def detF : Nat → List (List Int) → Int
  | 0, _ => 1
  | n + 1, m => detSum (detF n) m (n + 1)
/-- a square matrix with small entries -/
structure SqB (n : Nat) (m : List (List Int)) : Prop where
  len : m.length = n
  row : ∀ i, i < n → (m.getD i []).length = n ∧ allIn (m.getD i []) (-100000) 100000 = true
theorem minorK_zero (m : List (List Int)) (j : Nat) : ∀ k, minorK m 0 j k = ((m.take k).drop 1).map (cutAt · j) ∨ m.length < k
  | 0 => .inl (by simp [minorK])
  | k + 1 => by
    rcases Nat.lt_or_ge m.length (k + 1) with h | h
    · exact .inr h
    · left
      rcases minorK_zero m j k with e | e
      · rw [minorK]
        by_cases hk : k = 0
        · subst hk
          rw [if_pos rfl]
          simp only [minorK]
          rw [List.drop_eq_nil_of_le (by rw [List.length_take]; omega)]; rfl
        · rw [if_neg hk, e, ← take_snocL m k (by omega), List.drop_append_of_le_length (by rw [List.length_take]; omega), List.map_append]
          rfl
      · omega
theorem minorL_zero (m : List (List Int)) (j : Nat) : minorL m 0 j = (m.drop 1).map (cutAt · j) := by
  rcases minorK_zero m j m.length with e | e
  · rw [minorL, e, List.take_length]
  · exact absurd e (Nat.lt_irrefl _)
theorem cutAt_len {r : List Int} {j : Nat} (h : j < r.length) : (cutAt r j).length = r.length - 1 := by
  unfold cutAt; rw [List.length_append, List.length_take, List.length_drop]; omega
theorem allIn_sub {r s : List Int} {lo hi : Int} (h : allIn r lo hi = true) (hs : ∀ x ∈ s, x ∈ r) : allIn s lo hi = true := by
  unfold allIn at *; rw [List.all_eq_true] at *; exact fun x hx => h x (hs x hx)
theorem cutAt_in {r : List Int} {j : Nat} {lo hi : Int} (h : allIn r lo hi = true) : allIn (cutAt r j) lo hi = true := by
  refine allIn_sub h fun x hx => ?_
  unfold cutAt at hx
  rcases List.mem_append.1 hx with h | h
  · exact List.mem_of_mem_take h
  · exact List.mem_of_mem_drop h
theorem SqB.minor {n : Nat} {m : List (List Int)} (h : SqB (n + 1) m) {j : Nat} (hj : j < n + 1) : SqB n (minorL m 0 j) := by
  rw [minorL_zero]
  refine ⟨by rw [List.length_map, List.length_drop, h.len]; omega, fun i hi => ?_⟩
  have e : ((m.drop 1).map (cutAt · j)).getD i [] = cutAt (m.getD (1 + i) []) j := by
    rw [List.getD_eq_getElem?_getD, List.getElem?_map, List.getElem?_drop, List.getD_eq_getElem?_getD]
    rw [List.getElem?_eq_getElem (show 1 + i < m.length by rw [h.len]; omega)]; rfl
  obtain ⟨h1, h2⟩ := h.row (1 + i) (by omega)
  rw [e]
  exact ⟨by rw [cutAt_len (by omega), h1]; omega, cutAt_in h2⟩
def detB : Nat → Int
  | 0 => 1
  | n + 1 => ((n : Int) + 1) * 100000 * detB n
theorem mul_abs {a b A B : Int} (h1 : -A ≤ a) (h2 : a ≤ A) (h3 : -B ≤ b) (h4 : b ≤ B) (hA : 0 ≤ A) (hB : 0 ≤ B) : -(A * B) ≤ a * b ∧ a * b ≤ A * B := by
  rcases Int.le_total 0 b with h | h
  · exact mul_bd2 (a := a) (b := b) (M := A) (N := B) h1 h2 h h4 hA
  · have := mul_bd2 (a := a) (b := -b) (M := A) (N := B) h1 h2 (by omega) (by omega) hA
    rw [Int.mul_neg] at this; omega
theorem sgn_mul (k : Nat) (x : Int) (h : -100000 ≤ x ∧ x ≤ 100000) : -100000 ≤ sgnN k * x ∧ sgnN k * x ≤ 100000 := by
  unfold sgnN; split <;> omega
theorem detB_pos : ∀ n, 0 ≤ detB n
  | 0 => by decide
  | n + 1 => by rw [detB]; exact Int.mul_nonneg (by omega) (detB_pos n)
theorem detF_bd : ∀ n m, SqB n m → -(detB n) ≤ detF n m ∧ detF n m ≤ detB n
  | 0, m, _ => by simp [detF, detB]
  | n + 1, m, h => by
    have key : ∀ k, k ≤ n + 1 → -((k : Int) * (100000 * detB n)) ≤ detSum (detF n) m k ∧ detSum (detF n) m k ≤ (k : Int) * (100000 * detB n) := by
      intro k
      induction k with
      | zero => intro _; simp [detSum]
      | succ k ih =>
        intro hk
        have h1 := ih (by omega)
        have h2 := detF_bd n _ (h.minor (j := k) (by omega))
        have h3 := allIn_at (h.row 0 (by omega)).2 k (by rw [(h.row 0 (by omega)).1]; omega)
        have h4 := sgn_mul k _ h3
        have h5 := mul_abs h4.1 h4.2 h2.1 h2.2 (by omega) (detB_pos n)
        have h6 : ((k + 1 : Nat) : Int) * (100000 * detB n) = (k : Int) * (100000 * detB n) + 100000 * detB n := by
          rw [Int.natCast_add, Int.add_mul]; simp
        rw [detSum, h6]
        generalize 100000 * detB n = A at *
        omega
    have := key (n + 1) (Nat.le_refl _)
    rw [detF, detB]
    have e : ((n : Int) + 1) * 100000 * detB n = ((n + 1 : Nat) : Int) * (100000 * detB n) := by rw [Int.mul_assoc]; rfl
    rw [e]; exact this
theorem detSum_bd {n : Nat} {m : List (List Int)} (h : SqB (n + 1) m) (hn : n ≤ 2) : ∀ k, k ≤ n + 1 → -6000000000000000 ≤ detSum (detF n) m k ∧ detSum (detF n) m k ≤ 6000000000000000 := by
  intro k
  have hD : detB n ≤ 20000000000 := by
    rcases (show n = 0 ∨ n = 1 ∨ n = 2 by omega) with rfl | rfl | rfl <;> decide
  have hD0 := detB_pos n
  have key : ∀ k, k ≤ n + 1 → -((k : Int) * 2000000000000000) ≤ detSum (detF n) m k ∧ detSum (detF n) m k ≤ (k : Int) * 2000000000000000 := by
    intro k
    induction k with
    | zero => intro _; simp [detSum]
    | succ k ih =>
      intro hk
      have h1 := ih (by omega)
      have h2 := detF_bd n _ (h.minor (j := k) (by omega))
      have h3 := allIn_at (h.row 0 (by omega)).2 k (by rw [(h.row 0 (by omega)).1]; omega)
      have h4 := sgn_mul k _ h3
      have h5 := mul_abs (A := 100000) (B := 20000000000) (b := detF n (minorL m 0 k)) h4.1 h4.2 (by omega) (by omega) (by omega) (by omega)
      rw [detSum]
      omega
  intro hk
  have := key k hk
  omega
end Go.Proofs.YtehhoplenloocaaGreat

/- Determinants by minors: the walk. -/
namespace Go.Proofs.YtehhoplenloocaaGreat
open Go.RowKit
set_option linter.unusedVariables false
set_option linter.unusedSimpArgs false

theorem detSum_zero {d : List (List Int) → Int} {m : List (List Int)} {k : Nat} (h : (m.getD 0 []).getD k 0 = 0) : detSum d m (k + 1) = detSum d m k := by
  rw [detSum, h]; simp
theorem sgn_step (k : Nat) : -sgnN k = sgnN (k + 1) := by unfold sgnN; split <;> split <;> omega
theorem sgn_bd (k : Nat) : -1 ≤ sgnN k ∧ sgnN k ≤ 1 := by unfold sgnN; split <;> omega

set_option maxHeartbeats 4000000 in
theorem det_any : ∀ (n : Nat), n ≤ 3 → ∀ (m : List (List Int)) (v : Value) (hb : Nat) (w : World), ISSr w hb v m → hb ≤ w.heap.size → SqB n m →
    Calls Tryz.prog 105 #[v] w fun e w' => e = .returned (.int .i64 (detF n m)) ∧ Below w.heap.size w w' := by
  intro n
  induction n with
  | zero =>
    intro _ m v hb w h hhb hs
    obtain ⟨a, cap, rfl, -, -, -⟩ := id h
    rw [hs.len]
    show Calls _ _ _ _ fun e w' => e = .returned (.int .i64 1) ∧ _
    go_enter Tryz.func105, Tryz.ntmps105
    go_wp2
    go_ret
    exact ⟨rfl, Below.refl _ _⟩
  | succ n IH =>
    intro hn m v hb w h hhb hs
    have IH := IH (by omega)
    rcases h.cases with ⟨e, -⟩ | ⟨-, -, b, off, cap, V, rfl, hbb, hcell⟩
    · have := hs.len; rw [e] at this; cases this
    have hm0 := hs.row 0 (by omega)
    obtain ⟨c0, r0⟩ := hcell 0 (by rw [hs.len]; omega)
    rw [Nat.add_zero] at c0
    have hne : ((m.length : Int) == 0) = false := by rw [beq_eq_false_iff_ne, hs.len]; omega
    rw [hs.len] at hne ⊢
    rcases r0.cases with ⟨e, -⟩ | ⟨-, -, br, or', cr, hvr, hbr, hrc⟩
    · have := hm0.1; rw [e] at this; cases this
    rw [hm0.1] at hvr hrc
    have HRC := Lib.hid hrc
    have HM0 := Lib.hid hm0
    have HS := Lib.hid hs
    have HI := Lib.hid h
    have HF := Lib.hid (show detF (n + 1) m = detSum (detF n) m (n + 1) from rfl)
    have HBD := Lib.hid (detSum_bd hs (by omega))
    have HIH := Lib.hid IH
    generalize V 0 = x0 at *
    subst hvr
    rw [hs.len] at HI
    clear hcell hrc hm0 hs h IH r0
    have hn2 : n ≤ 2 := by omega
    obtain ⟨N, hN⟩ : ∃ N, N = n + 1 := ⟨_, rfl⟩
    rw [← hN] at hne c0 HI ⊢
    have hN3 : N ≤ 3 := by omega
    have hpos : 0 < N := by omega
    have HNN := Lib.hid hN
    clear hN hn
    go_enter Tryz.func105, Tryz.ntmps105
    go_wp2
    go_loopw [3, 4, 5, 6, 14] (fun s g _ _ i wr => ∃ (k : Nat) (t sg : Int), k ≤ N ∧ i = .int .i64 k ∧ s = .int .i64 t ∧ g = .int .i64 sg ∧ Hid (t = detSum (detF n) m k) ∧ Hid (sg = sgnN k) ∧ -1 ≤ sg ∧ sg ≤ 1 ∧ -6000000000000000 ≤ t ∧ t ≤ 6000000000000000 ∧ Hid (Below w.heap.size w wr)) (fun _ _ _ _ i _ => N - (intOf i).toNat)
    case atStart => exact ⟨0, 0, 1, by omega, rfl, rfl, rfl, Lib.hid rfl, Lib.hid rfl, by omega, by omega, by omega, by omega, Below.refl _ _⟩
    case round =>
      obtain ⟨k, t, sg, hk, rfl, rfl, rfl, ht, hsg, hs1, hs2, ht1, ht2, hbe⟩ := hrel
      by_cases hlt : k < N
      · have hkN : k < n + 1 := by rw [← HNN.out]; exact hlt
        have hck := (hbe.out.cell (p := ⟨br, or' + k, none⟩) (Nat.lt_of_lt_of_le hbr hhb)).trans (HRC.out k hkN)
        have hxb := allIn_at HM0.out.2 k (by rw [HM0.out.1]; exact hkN)
        have MN := minor_any m 0 k N _ hb wr (HI.out.keep hbe.out hhb) (Nat.le_trans hhb hbe.out.size) (by rw [HS.out.len, HNN.out]) (by omega) (by omega) hlt (fun i hi => by rw [(HS.out.row i (by rw [← HS.out.len]; exact hi)).1, HNN.out])
        have HSQ := Lib.hid (HS.out.minor hkN)
        have HZ := Lib.hid (fun (e : (m.getD 0 []).getD k 0 = 0) => detSum_zero (d := detF n) e)
        have HST := Lib.hid (show detSum (detF n) m (k + 1) = t + sg * (m.getD 0 []).getD k 0 * detF n (minorL m 0 k) by rw [detSum, ht.out, hsg.out])
        have hnb := HBD.out (k + 1) hkN
        have hdb := detF_bd n _ HSQ.out
        have hDb : detB n ≤ 20000000000 := by
          rcases (show n = 0 ∨ n = 1 ∨ n = 2 by omega) with e | e | e <;> subst e <;> decide
        have hsx := sgn_mul k _ hxb
        rw [← hsg.out] at hsx
        have hpr := mul_abs (A := 100000) (B := 20000000000) (b := detF n (minorL m 0 k)) hsx.1 hsx.2 (by omega) (by omega) (by omega) (by omega)
        have HSG := Lib.hid (show -sg = sgnN (k + 1) by rw [hsg.out]; exact sgn_step k)
        rw [HST.out] at hnb
        generalize (m.getD 0 []).getD k 0 = x at *
        generalize hml : minorL m 0 k = ml at *
        have HML := Lib.hid hml; clear hml
        clear hkN hsg
        by_cases hx : x = 0
        · have HZ2 := Lib.hid (ht.out.trans (HZ.out hx).symm)
          subst hx
          clear HZ HST hnb hpr MN hdb hDb hsx hxb
          go_wp2
          go_roundw
          case rel => exact ⟨k + 1, t, -sg, by omega, by go_num, rfl, rfl, HZ2, HSG, by omega, by omega, ht1, ht2, hbe⟩
          case measure => simp [intOf]; omega
        · have hx' : (x != 0) = true := by simpa using hx
          generalize hdd : detF n ml = dd at *
          have HDD := Lib.hid hdd; clear hdd
          clear HZ hdb hDb hx
          go_wp2_with fail
          refine MN.mono ?_
          rintro e w2 ⟨u, rfl, ku, c2⟩
          have HK := Lib.hid ku.is.read
          have HB2 := Lib.hid (below_then hbe.out hbe.out.size c2)
          clear ku c2 MN
          go_wp2_with fail
          refine (HIH.out ml u w2.heap.size w2 HK.out (Nat.le_refl _) HSQ.out).mono ?_
          rintro e w3 ⟨rfl, c3⟩
          rw [HDD.out]
          have HB3 := Lib.hid (below_then HB2.out HB2.out.size c3)
          clear c3
          go_wp2
          go_roundw
          case rel => exact ⟨k + 1, _, -sg, by omega, by go_num, rfl, rfl, Lib.hid HST.out.symm, HSG, by omega, by omega, by omega, by omega, HB3⟩
          case measure => simp [intOf]; omega
      · obtain rfl : k = N := by omega
        have HFIN := Lib.hid (show t = detF k m by rw [HNN.out, HF.out, ht.out, HNN.out])
        go_wp2
        go_ret
        exact ⟨ret_int HFIN.out, hbe.out⟩
end Go.Proofs.YtehhoplenloocaaGreat

/- Lists of rows that the model copies. -/
namespace Go.Proofs.YtehhoplenloocaaGreat
open Go.RowKit
set_option linter.unusedVariables false
set_option linter.unusedSimpArgs false

set_option maxHeartbeats 1000000 in
theorem l7Copy_any (ls : List (List Int)) (v : Value) (hb : Nat) (w : World) (h : ISSr w hb v ls) (hhb : hb ≤ w.heap.size) (hl : ls.length ≤ 100000) (hr : ∀ i, i < ls.length → (ls.getD i []).length ≤ 1000000) :
    Calls Tryz.prog 69 #[v] w fun e w' => ∃ u, e = .returned u ∧ OwnL w' w.heap.size u ls ∧ Below w.heap.size w w' := by
  obtain ⟨i0, hi0, hz0, hz1, hz2⟩ := info_parts info_ints
  have HI0 := Lib.hid hi0; clear hi0
  have HZ0 := Lib.hid hz0; clear hz0
  have HZ1 := Lib.hid hz1; clear hz1
  have HZ2 := Lib.hid hz2; clear hz2
  obtain ⟨n, hn⟩ : ∃ n, n = ls.length := ⟨_, rfl⟩
  obtain ⟨a, cap, rfl, -, -, hcell⟩ := id h
  rw [← hn] at hl ⊢
  have HN := Lib.hid hn; clear hn
  have HC := Lib.hid hcell; clear hcell h
  have HR := Lib.hid hr; clear hr
  go_enter Tryz.func69, Tryz.ntmps69
  go_wp2
  go_loopw [3, 4] (fun ov i wr => ∃ (k : Nat) (acc : List (List Int)), k ≤ n ∧ i = .int .i64 k ∧ acc.length ≤ k ∧ Hid (acc = ls.take k) ∧ Hid (OwnL wr w.heap.size ov acc) ∧ Hid (Below w.heap.size w wr)) (fun _ i _ => n - (intOf i).toNat)
  case atStart => exact ⟨0, [], by omega, rfl, Nat.le_refl _, Lib.hid (by simp), OwnL.lit0 w _ (Nat.le_refl _), below1 _ _⟩
  case round =>
    obtain ⟨k, acc, hk, rfl, hal, hacc, hown, hbe⟩ := hrel
    by_cases hlt : k < n
    · have hkl : k < ls.length := by rw [← HN.out]; exact hlt
      obtain ⟨b, off, V0, rfl, hbb, hcc⟩ := HC.out (by intro e; rw [e] at hkl; exact absurd hkl (Nat.not_lt_zero _))
      have hck := ((hbe.out.trans ((below1 wr (.cells #[] 3)).mono hbe.out.size)).cell (p := ⟨b, off + k, none⟩) (Nat.lt_of_lt_of_le hbb hhb)).trans (hcc k hkl).1
      have hrow := ((hcc k hkl).2.keep hbe.out hhb).keep (below1 wr (.cells #[] 3)) (by have := hbe.out.size; omega)
      have HE := Lib.hid (take_snocL ls k hkl)
      rw [← hacc.out] at HE
      have hrl := HR.out k hkl
      have hbs := hbe.out.size
      have HROW := Lib.hid hrow
      clear hcc hkl hrow
      generalize ls.getD k [] = r at *
      generalize V0 k = xk at *
      have hck0 := hck
      go_wp2_with (at_builtin; refine wpList_append_I rfl _ _ rfl rfl rfl (OwnI.lit0 wr wr.heap.size (Nat.le_refl _)) HROW.out (by simp; omega) (by simp) ?_)
      intro au cu w2 hown2 hg2
      have hown2 : OwnI w2 wr.heap.size (.slice au r.length cu) r := hown2
      have c2 := (below1 wr (.cells #[] 3)).grown hg2 (by simp) (fun k hk => by simp [Value.ownBlock] at hk; omega)
      have HK := Lib.hid hown2.is
      obtain ⟨V, p, hpt⟩ := hown.out.part c2
      have HPT := Lib.hid hpt
      have HB2 := Lib.hid (below_then hbe.out hbs c2)
      have hs2 := c2.size
      clear hpt hown2 c2 hg2
      go_wp2_with (at_builtin; refine wpList_append_own _ rfl _ _ 24 rfl w.heap.size 25 i0 (.slice none 0 0) 1 24 Tryz.underlying24 HI0.out HZ0.out HZ1.out HZ2.out rfl (by decide) _ _ _ rfl (HPT.out.alloc _) ⟨w2.heap.size, 0, none⟩ 1 1 [.slice au r.length cu] rfl rfl ?c1 ?c2 ?c3 ?c4 ?c5 ?_)
      case c1 => exact cell_one_new _ _ _
      case c2 => first | rfl | (intro u hu; simp at hu; subst hu; rfl)
      case c3 => unfold maxLen; omega
      case c4 => omega
      case c5 => first | omega | (simp; omega)
      intro v2 w3 hown2 hgrow _
      have HO := Lib.hid (HPT.out.push HK.out (Nat.le_refl _) hs2 (Nat.le_refl _) hgrow hown2)
      have HBE := Lib.hid (OwnLp.below HB2.out (by omega) _ hgrow HPT.out (Nat.le_refl _))
      clear hown2 hgrow
      go_wp2
      go_roundw
      case rel => exact ⟨k + 1, _, by omega, by go_num, by simp; omega, HE, HO, HBE⟩
      case measure => simp [intOf]; omega
    · obtain rfl : k = n := by omega
      have hfin : acc = ls := by rw [hacc.out, HN.out, List.take_length]
      subst hfin
      go_wp2
      go_ret
      exact ⟨_, rfl, hown.out, hbe.out⟩
end Go.Proofs.YtehhoplenloocaaGreat
