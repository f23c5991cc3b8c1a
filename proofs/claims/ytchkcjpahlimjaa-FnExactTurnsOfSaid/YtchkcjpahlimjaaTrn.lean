/- The turns of a cone: the walks. -/
import Derived.Test.YtchkcjpahlimjaaSplI
namespace Go.Proofs.Ytchkcjpahlimjaa
open Go.RowKit
set_option linter.unusedVariables false
set_option linter.unusedSimpArgs false

theorem splitP_len (p q : Int) : ∀ (k : Nat) (x y : Int), (splitP p q k x y).length ≤ k + 1
  | 0, x, y => by simp [splitP]
  | k + 1, x, y => by
    by_cases h : x * q - y * p = 0
    · rw [splitP_zero p q _ h]; simp
    · rw [splitP_succ p q k h]
      have := splitP_len p q k (nextX x y p q) (nextY x y p q)
      simp; omega
/-- what is known of all vectors of a split cone -/
structure SplAll (L : List (List Int)) : Prop where
  row : ∀ i, i < L.length → ∃ a b, L.getD i [] = [a, b] ∧ (-30 ≤ a ∧ a ≤ 30) ∧ (-30 ≤ b ∧ b ≤ 30)
  cr : ∀ i, i + 1 < L.length → crossI (L.getD i []) (L.getD (i + 1) []) = 1
theorem splitP_all {p q : Int} (hp : -30 ≤ p ∧ p ≤ 30) (hq : -30 ≤ q ∧ q ≤ 30) : ∀ (k : Nat) (x y : Int), Spl p q x y k → SplAll (splitP p q k x y) ∧ (splitP p q k x y).getD 0 [] = [x, y] ∧ 0 < (splitP p q k x y).length
  | 0, x, y, h => ⟨⟨fun i hi => by
      obtain rfl : i = 0 := by simp [splitP] at hi; omega
      exact ⟨x, y, rfl, h.bx, h.byy⟩, fun i hi => by simp [splitP] at hi⟩, rfl, by simp [splitP]⟩
  | k + 1, x, y, h => by
    by_cases h0 : x * q - y * p = 0
    · rw [splitP_zero p q _ h0]
      refine ⟨⟨fun i hi => ?_, fun i hi => ?_⟩, rfl, by simp⟩
      · obtain rfl : i = 0 := by simp at hi; omega
        exact ⟨x, y, rfl, h.bx, h.byy⟩
      · simp at hi
    · obtain ⟨k', hk', hn⟩ := h.next hp hq h0
      obtain rfl : k' = k := by omega
      obtain ⟨⟨hr, hc⟩, h1, h2⟩ := splitP_all hp hq k' _ _ hn
      have hd : 0 < x * q - y * p := by have := h.d0; omega
      have hx := (nx_cross (p := p) (q := q) hd (par_cross' h.bx h.byy h.g)).1
      rw [splitP_succ p q k' h0]
      refine ⟨⟨fun i hi => ?_, fun i hi => ?_⟩, rfl, by simp⟩
      · match i with
        | 0 => exact ⟨x, y, rfl, h.bx, h.byy⟩
        | i + 1 => rw [List.getD_cons_succ]; exact hr i (by simpa using hi)
      · match i with
        | 0 =>
          rw [List.getD_cons_zero, List.getD_cons_succ, h1]
          simp only [crossI, List.getD_cons_zero, List.getD_cons_succ]; exact hx
        | i + 1 => rw [List.getD_cons_succ, List.getD_cons_succ]; exact hc i (by simpa using hi)
theorem splitC_all (U V : List Int) : SplAll (splitC U V) ∧ (splitC U V).length ≤ 1801 := by
  cases h : coneB U V
  · have e : splitC U V = [] := by unfold splitC; rw [h]; rfl
    rw [e]; exact ⟨⟨fun i hi => absurd hi (Nat.not_lt_zero _), fun i hi => absurd hi (Nat.not_lt_zero _)⟩, by simp⟩
  · obtain ⟨x, y, p, q, rfl, rfl, bx, bY, bp, bq, hg, hg2, hd⟩ := cone_parts h
    have e : splitC [x, y] [p, q] = splitP p q (x * q - y * p).toNat x y := by unfold splitC; rw [h]; simp [crossI]
    rw [e]
    refine ⟨(splitP_all bp bq _ _ _ ⟨bx, bY, hg, by omega, by omega⟩).1, ?_⟩
    have := splitP_len p q (x * q - y * p).toNat x y
    have := cross_bd30 bx bY bp bq
    omega
def turnsL (L : List (List Int)) : List Int := (List.range (L.length - 2)).map fun k => crossI (L.getD k []) (L.getD (k + 2) [])
theorem range_snoc {α : Type} (f : Nat → α) (j : Nat) : (List.range j).map f ++ [f j] = (List.range (j + 1)).map f := by rw [List.range_succ, List.map_append]; rfl

set_option maxRecDepth 100000 in
set_option maxHeartbeats 8000000 in
theorem implTurnsOf_any (U V : List Int) (v1 v2 : Value) (hb : Nat) (w : World) (i1 : ISr w hb v1 U) (i2 : ISr w hb v2 V) (hhb : hb ≤ w.heap.size) :
    Calls Try.prog 24 #[.agg #[v1, v2]] w fun e w' => ∃ u, e = .returned u ∧ OwnI w' w.heap.size u (turnsL (splitC U V)) ∧ Below w.heap.size w w' := by
  have HB0 := Lib.hid (below1 w (.cells #[v1, v2] 28))
  have C0 := implSplitCone_any U V v1 v2 hb _ (i1.keep HB0.out hhb) (i2.keep HB0.out hhb) (by have := HB0.out.size; omega)
  obtain ⟨hall, hlen⟩ := splitC_all U V
  have HR := Lib.hid hall.row
  generalize splitC U V = L at *
  obtain ⟨i0, hi0, hz0, hz1, hz2⟩ := info_parts info_int
  have HI0 := Lib.hid hi0; clear hi0
  have HZ0 := Lib.hid hz0; clear hz0
  have HZ1 := Lib.hid hz1; clear hz1
  have HZ2 := Lib.hid hz2; clear hz2
  have HT := Lib.hid (show turnsL L = (List.range (L.length - 2)).map fun k => crossI (L.getD k []) (L.getD (k + 2) []) from rfl)
  obtain ⟨n, hn⟩ : ∃ n, n = L.length := ⟨_, rfl⟩
  rw [← hn] at hlen HT
  have HN := Lib.hid hn
  clear hn hall
  obtain ⟨a1, c1, rfl, -⟩ := id i1
  obtain ⟨a2, c2, rfl, -⟩ := id i2
  clear i1 i2
  go_enter Try.func24, Try.ntmps24
  go_wp2_with fail
  refine C0.mono ?_
  rintro e w2 ⟨u2, rfl, hown, -, b2⟩
  have HIS := Lib.hid hown.is.read
  have HB2 := Lib.hid (below_then HB0.out HB0.out.size b2)
  obtain ⟨al, cl, rfl, -, -, hcell⟩ := id hown.is.read
  rw [← HN.out]
  have HC := Lib.hid hcell
  clear hown b2 hcell C0 HB0
  go_wp2
  go_loopw [4, 5] (fun ov i wr => ∃ (j : Nat) (acc : List Int), (j = 0 ∨ j + 2 ≤ n) ∧ i = .int .i64 ((j : Int) + 1) ∧ acc.length ≤ j ∧ Hid (acc = (List.range j).map fun k => crossI (L.getD k []) (L.getD (k + 2) [])) ∧ Hid (OwnI wr w2.heap.size ov acc) ∧ Hid (Below w2.heap.size w2 wr)) (fun _ i _ => n - (intOf i).toNat)
  case atStart => exact ⟨0, [], .inl rfl, rfl, Nat.le_refl _, Lib.hid rfl, OwnI.nil _ _, Below.refl _ _⟩
  case round =>
    obtain ⟨j, acc, hj, rfl, hal, hacc, hown, hbe⟩ := hrel
    by_cases hlt : j + 2 < n
    · have hjl : j < L.length := by rw [← HN.out]; omega
      have hjl2 : j + 2 < L.length := by rw [← HN.out]; omega
      obtain ⟨b, off, Vf, rfl, hbb, hcc⟩ := HC.out (by intro e; rw [e] at hjl; exact absurd hjl (Nat.not_lt_zero _))
      have HCW0 := Lib.hid (hcc j hjl).1
      have HCW2 := Lib.hid (show w2.cell? ⟨b, off + (j + 1 + 1), none⟩ = some (Vf (j + 2)) from (hcc (j + 2) hjl2).1)
      have hc0 := (hbe.out.cell (p := ⟨b, off + j, none⟩) hbb).trans (hcc j hjl).1
      have hc2 := (hbe.out.cell (p := ⟨b, off + (j + 1 + 1), none⟩) hbb).trans (hcc (j + 2) hjl2).1
      have hr0 := (hcc j hjl).2.keep hbe.out (Nat.le_refl _)
      have hr2 := (hcc (j + 2) hjl2).2.keep hbe.out (Nat.le_refl _)
      have HE := Lib.hid (range_snoc (fun k => crossI (L.getD k []) (L.getD (k + 2) [])) j)
      rw [← hacc.out] at HE
      obtain ⟨x0, y0, e0, bx0, by0⟩ := HR.out j hjl
      obtain ⟨x2, y2, e2, bx2, by2⟩ := HR.out (j + 2) hjl2
      rw [e0] at hr0
      rw [e2] at hr2
      rw [e0, e2, show crossI [x0, y0] [x2, y2] = x0 * y2 - y0 * x2 by simp [crossI]] at HE
      have CR := fun W (h0 : ISr W w2.heap.size (Vf j) [x0, y0]) (h2 : ISr W w2.heap.size (Vf (j + 2)) [x2, y2]) => cross_any [x0, y0] [x2, y2] _ _ _ _ W h0 h2 rfl rfl (in9 bx0 by0) (in9 bx2 by2)
      rw [show crossI [x0, y0] [x2, y2] = x0 * y2 - y0 * x2 by simp [crossI]] at CR
      have HR0 := Lib.hid hr0
      have HR2 := Lib.hid hr2
      generalize Vf j = u0 at *
      generalize Vf (j + 2) = u2' at *
      generalize x0 * y2 - y0 * x2 = q at *
      have hbs := hbe.out.size
      have hi1 : (0 : Int) ≤ (j : Int) := by omega
      have hi2 : (j : Int) < (n : Int) := by omega
      have hi3 : (j : Int) + 1 + 1 < (n : Int) := by omega
      have hi4 : (0 : Int) ≤ (j : Int) + 1 + 1 := by omega
      have hto : ((j : Int) + 1 + 1).toNat = j + 1 + 1 := by omega
      clear hcc hjl hjl2 hr0 hr2 e0 e2 bx0 by0 bx2 by2
      have CR1 := CR wr.drew HR0.out HR2.out
      have hw1 := wr64 (j : Int) (by omega)
      have hw2 := wr64 ((j : Int) + 1 + 1) (by omega)
      clear CR
      go_wp2_with fail
      go_region_held3 (fun w' => w'.cell? ⟨b, off + j, none⟩ = some u0 ∧ w'.cell? ⟨b, off + (j + 1 + 1), none⟩ = some u2')
        (go_keep)
        (first
          | (go_at_call 60; (with_reducible refine CR1.mono ?_); rintro e w7 ⟨rfl, d7, hw7⟩
             have O7 := Lib.hid (show OwnI w7 w2.heap.size u4 acc by rw [hw7]; exact hown.out)
             have B7 := Lib.hid (show Below wr.heap.size wr w7 by rw [hw7]; exact (below_draws _ wr 1).trans (below_draws _ _ d7))
             have S7 := Lib.hid B7.out.size
             have s7 : w2.heap.size ≤ w7.heap.size := Nat.le_trans hbs S7.out
             have t0 := (B7.out.cell (p := ⟨b, off + j, none⟩) (Nat.lt_of_lt_of_le hbb hbs)).trans hc0
             have t2 := (B7.out.cell (p := ⟨b, off + (j + 1 + 1), none⟩) (Nat.lt_of_lt_of_le hbb hbs)).trans hc2
             clear hw7)
          | (refine step_append_lies _ (by rfl) _ _ _ (by rfl) w2.heap.size 3 i0 _ 1 8 Try.underlying22 HI0.out HZ0.out HZ1.out HZ2.out rfl (by omega) u4 acc.length (ivs acc) (by rfl) (O7.out.alloc _) ⟨w7.heap.size, 0, none⟩ 1 1 [.int .i64 q] (by rfl) (by rfl) (World.news_of_block (cs := #[.int .i64 q]) (t := 3) (fr := (0, 0)) (heap_alloc_new w7 _)) (by simp [Value.oneCell']) (by omega) (by unfold maxLen; omega) (by omega) (by simp; omega) (w7.heap.size + 1) (by simp) ?_; intro gg cap w1 hown1 hgrow hat hlt; have HBE := Lib.hid (OwnI.below (hbe.out.trans (B7.out.mono hbs)) s7 _ hgrow O7.out (Nat.le_refl _)); have s0 := (HBE.out.cell (p := ⟨b, off + j, none⟩) hbb).trans HCW0.out; have s2 := (HBE.out.cell (p := ⟨b, off + (j + 1 + 1), none⟩) hbb).trans HCW2.out))
      have HO := Lib.hid (OwnI.push hown1); clear hown1
      clear hgrow hat hlt t0 t2 s0 s2 hw1 hw2 CR1
      go_wp2
      go_roundw
      case rel => exact ⟨j + 1, _, .inr (by omega), by go_num, by simp; omega, HE, HO, HBE⟩
      case measure => simp [intOf]; omega
    · have hfin : acc = turnsL L := by
        rw [hacc.out, HT.out]
        congr 2
        omega
      subst hfin
      go_wp2
      go_ret
      exact ⟨_, rfl, hown.out.lower HB2.out.size, HB2.out.trans (hbe.out.mono HB2.out.size)⟩
theorem turn_eq {x0 y0 x1 y1 x2 y2 : Int} (h1 : x0 * y1 - y0 * x1 = 1) (h2 : x1 * y2 - y1 * x2 = 1) : x0 + x2 = (x0 * y2 - y0 * x2) * x1 ∧ y0 + y2 = (x0 * y2 - y0 * x2) * y1 := by
  constructor <;> grind
theorem mul_tdiv_self {t x s : Int} (h : s = t * x) (hx : x ≠ 0) : Int.tdiv s x = t := by
  rw [h]; exact Int.mul_tdiv_cancel t hx

set_option maxRecDepth 100000 in
set_option maxHeartbeats 8000000 in
theorem specTurnsOf_any (U V : List Int) (v1 v2 : Value) (hb : Nat) (w : World) (i1 : ISr w hb v1 U) (i2 : ISr w hb v2 V) (hhb : hb ≤ w.heap.size) :
    Calls Try.prog 23 #[.agg #[v1, v2]] w fun e w' => ∃ u, e = .returned u ∧ OwnI w' w.heap.size u (turnsL (splitC U V)) ∧ Below w.heap.size w w' := by
  have HB0 := Lib.hid (below2 w (.cells #[v1, v2] 28) (.cells #[] 3))
  have HO0 := Lib.hid (OwnI.lit0 (w.alloc (.cells #[v1, v2] 28)) w.heap.size (by simp))
  have hz0 : ((w.alloc (.cells #[v1, v2] 28)).alloc (.cells #[] 3)).heap.size = w.heap.size + 2 := by simp
  have HZ0 := Lib.hid hz0
  rw [World.size_alloc] at HO0
  have C0 := specSplitCone_any U V v1 v2 hb _ (i1.keep HB0.out hhb) (i2.keep HB0.out hhb) (by have := HB0.out.size; omega)
  clear hz0
  obtain ⟨hall, hlen⟩ := splitC_all U V
  have HR := Lib.hid hall.row
  have HCR := Lib.hid hall.cr
  generalize splitC U V = L at *
  obtain ⟨i0, hi0, hz0, hz1, hz2⟩ := info_parts info_int
  have HI0 := Lib.hid hi0; clear hi0
  have HJ0 := Lib.hid hz0; clear hz0
  have HJ1 := Lib.hid hz1; clear hz1
  have HJ2 := Lib.hid hz2; clear hz2
  have HT := Lib.hid (show turnsL L = (List.range (L.length - 2)).map fun k => crossI (L.getD k []) (L.getD (k + 2) []) from rfl)
  obtain ⟨n, hn⟩ : ∃ n, n = L.length := ⟨_, rfl⟩
  rw [← hn] at hlen HT
  have HN := Lib.hid hn
  clear hn hall
  obtain ⟨a1, c1, rfl, -⟩ := id i1
  obtain ⟨a2, c2, rfl, -⟩ := id i2
  clear i1 i2
  go_enter Try.func23, Try.ntmps23
  go_wp2_with fail
  refine C0.mono ?_
  rintro e w2 ⟨u2, rfl, hown, b2⟩
  have HIS := Lib.hid (hown.is)
  rw [HZ0.out] at HIS
  have HB2 := Lib.hid (below_then HB0.out HB0.out.size b2)
  have HO2 := Lib.hid (HO0.out.kept b2)
  have HS2 := Lib.hid (show w.heap.size + 2 ≤ w2.heap.size by rw [← HZ0.out]; exact b2.size)
  obtain ⟨al, cl, rfl, -⟩ := id hown.is.read
  rw [← HN.out]
  clear hown b2 C0 HB0 HO0 HZ0
  go_wp2
  go_loopw [3, 5] (fun ov i wr => ∃ (j : Nat) (acc : List Int), (j = 0 ∨ j + 2 ≤ n) ∧ i = .int .i64 ((j : Int) + 1) ∧ acc.length ≤ j ∧ Hid (acc = (List.range j).map fun k => crossI (L.getD k []) (L.getD (k + 2) [])) ∧ Hid (OwnI wr w.heap.size ov acc) ∧ Hid (∀ g, ov.ownBlock = some g → g = w.heap.size + 1 ∨ w2.heap.size ≤ g) ∧ Hid (∀ k, w.heap.size + 2 ≤ k → k < w2.heap.size → wr.heap[k]? = w2.heap[k]?) ∧ Hid (Below w.heap.size w2 wr)) (fun _ i _ => n - (intOf i).toNat)
  case atStart => exact ⟨0, [], .inl rfl, rfl, Nat.le_refl _, Lib.hid rfl, HO2, Lib.hid (fun g hg => by simp [Value.ownBlock] at hg; omega), Lib.hid (fun _ _ _ => rfl), Below.refl _ _⟩
  case round =>
    obtain ⟨j, acc, hj, rfl, hal, hacc, hown, hog, hkp, hbe⟩ := hrel
    by_cases hlt : j + 2 < n
    · have hjl : j < L.length := by rw [← HN.out]; omega
      have hjl1 : j + 1 < L.length := by rw [← HN.out]; omega
      have hjl2 : j + 2 < L.length := by rw [← HN.out]; omega
      have hisw := HIS.out.of_blocks (w' := wr) (fun k h1 h2 _ => hkp.out k h1 h2)
      rcases hisw.cases with ⟨e, -⟩ | ⟨-, -, b, off, cap, Vf, hve, hlb, hbb, hbk, hrow, -⟩
      · rw [e] at hjl; exact absurd hjl (Nat.not_lt_zero _)
      injection hve with ee1 ee2 ee3
      subst ee1
      clear ee2 ee3
      have hc0 := hbk.cell hjl
      have hc1 := hbk.cell hjl1
      have hc2 : wr.cell? ⟨b, off + (j + 1 + 1), none⟩ = some (Vf (j + 2)) := hbk.cell hjl2
      have hr0 := hrow j hjl
      have hr1 := hrow (j + 1) hjl1
      have hr2 := hrow (j + 2) hjl2
      have HE := Lib.hid (range_snoc (fun k => crossI (L.getD k []) (L.getD (k + 2) [])) j)
      rw [← hacc.out] at HE
      have k1 := HCR.out j hjl1
      have k2 := HCR.out (j + 1) hjl2
      obtain ⟨x0, y0, e0, bx0, by0⟩ := HR.out j hjl
      obtain ⟨x1, y1, e1, bx1, by1⟩ := HR.out (j + 1) hjl1
      obtain ⟨x2, y2, e2, bx2, by2⟩ := HR.out (j + 2) hjl2
      rw [e0] at hr0 k1
      rw [e1] at hr1 k1 k2
      rw [show j + 1 + 1 = j + 2 from rfl, e2] at k2
      rw [e2] at hr2
      rw [e0, e2, show crossI [x0, y0] [x2, y2] = x0 * y2 - y0 * x2 by simp [crossI]] at HE
      simp only [crossI, List.getD_cons_zero, List.getD_cons_succ] at k1 k2
      have HS := Lib.hid (turn_eq k1 k2)
      have hqb := cross_bd30 bx0 by0 bx2 by2
      have HYN := Lib.hid (show x1 = 0 → y1 ≠ 0 from fun h1 h2 => by rw [h1, h2] at k1; simp at k1)
      have CA := l2Add_any [x0, y0] [x2, y2] (Vf j) (Vf (j + 2)) w2.heap.size wr.drew hr0.read hr2.read (by have := hbe.out.size; exact this) (by simp) (by simp) (fun k hk => by
        match k, hk with
        | 0, _ => simp only [List.getD_cons_zero]; omega
        | 1, _ => simp only [List.getD_cons_succ, List.getD_cons_zero]; omega)
      rw [show List.zipWith (· + ·) [x0, y0] [x2, y2] = [x0 + x2, y0 + y2] from rfl] at CA
      obtain ⟨b1, o1, cc1, hv1, hl1, hh1, d0, d1⟩ := hr1.at2
      rw [hv1] at hc1
      generalize Vf j = u0 at *
      generalize Vf (j + 2) = u2' at *
      obtain ⟨q, hq⟩ : ∃ q, q = x0 * y2 - y0 * x2 := ⟨_, rfl⟩
      rw [← hq] at HE HS hqb
      clear hq
      have hbs := hbe.out.size
      have hi1 : (0 : Int) ≤ (j : Int) := by omega
      have hi2 : (j : Int) < (n : Int) := by omega
      have hi3 : (j : Int) + 1 + 1 < (n : Int) := by omega
      have hi4 : (0 : Int) ≤ (j : Int) + 1 + 1 := by omega
      have hi5 : (j : Int) + 1 < (n : Int) := by omega
      have hi6 : (0 : Int) ≤ (j : Int) + 1 := by omega
      have hto : ((j : Int) + 1 + 1).toNat = j + 1 + 1 := by omega
      have hto1 : ((j : Int) + 1).toNat = j + 1 := by omega
      have hw1 := wr64 (j : Int) (by omega)
      have hw2 := wr64 ((j : Int) + 1 + 1) (by omega)
      clear hisw hrow hbk hjl hjl1 hjl2 hr0 hr1 hr2 e0 e1 e2 k1 k2 hv1
      go_wp2_with fail
      go_region_held3 (fun w' => w'.cell? ⟨b, off + j, none⟩ = some u0 ∧ w'.cell? ⟨b, off + (j + 1 + 1), none⟩ = some u2')
        (go_keep)
        (first
          | (go_at_call 64; (with_reducible refine CA.mono ?_); rintro e w3 ⟨us, rfl, is3, b3⟩
             have B3 := Lib.hid (show Below wr.heap.size wr w3 from (below_draws _ wr 1).trans b3)
             have t0 := (B3.out.cell (p := ⟨b, off + j, none⟩) (Nat.lt_of_lt_of_le hbb hbs)).trans hc0
             have t2 := (B3.out.cell (p := ⟨b, off + (j + 1 + 1), none⟩) (Nat.lt_of_lt_of_le hbb hbs)).trans hc2))
      have HW3 := Lib.hid (show w2.heap.size ≤ wr.heap.size ∧ wr.heap.size ≤ w3.heap.size from ⟨hbs, B3.out.size⟩)
      have HO3 := Lib.hid (hown.out.kept B3.out)
      have HKP3 := Lib.hid (show ∀ k, w.heap.size + 2 ≤ k → k < w2.heap.size → w3.heap[k]? = w2.heap[k]? from fun k h1 h2 => (B3.out.block k (by omega)).trans (hkp.out k h1 h2))
      have HBE3 := Lib.hid (hbe.out.trans (B3.out.mono (by have := HS2.out; omega)))
      have HOG3 := hog
      have HLT := Lib.hid (World.ownsRow.lt hown.out)
      obtain ⟨bs, os, cs, rfl, lbs, hbs3, s0, s1⟩ := is3.at2
      have t1 := (B3.out.cell (p := ⟨b, off + (j + 1), none⟩) (Nat.lt_of_lt_of_le hbb hbs)).trans hc1
      have r0 := (B3.out.cell (p := ⟨b1, o1, none⟩) (Nat.lt_of_lt_of_le hh1 hbs)).trans d0
      have r1 := (B3.out.cell (p := ⟨b1, o1 + 1, none⟩) (Nat.lt_of_lt_of_le hh1 hbs)).trans d1
      have lbs' : wr.heap.size ≤ bs := lbs
      have agS : u3.ownBlock ≠ some bs := fun e => by have := (HLT.out bs e).2; omega
      have agB : u3.ownBlock ≠ some b := fun e => by have := HOG3.out b e; omega
      have agR : u3.ownBlock ≠ some b1 := fun e => by have := HOG3.out b1 e; omega
      clear t0 t2 hc0 hc1 hc2 d0 d1 b3 is3 lbs hbe hkp hown hog hw1 hw2
      go_wp2_with fail
      by_cases hx : x1 = 0
      · have hbit : ((x1 == 0) = true) := by simpa using hx
        have hne1 : ¬ y1 = 0 := HYN.out hx
        have hne2 : (y1 == 0) = false := by simpa using hne1
        have hsv : Int.tdiv (y0 + y2) y1 = q := mul_tdiv_self HS.out.2 (by exact HYN.out hx)
        clear hx
        rw [hbit]
        have HBI := l1Bit_any true w3
        rw [show bitI true = 1 from rfl] at HBI
        refine HBI.mono ?_
        clear HBI
        rintro e w' ⟨rfl, rfl⟩
        go_wp2_with fail
        have hws := wr64 (Int.tdiv (y0 + y2) y1) (by rw [hsv]; omega)
        have hws2 : wrap64 (Int.tdiv (y0 + y2) y1) = q := by rw [hsv]; unfold wrap64; omega
        have hws3 : IntKind.i64.wrap (Int.tdiv (y0 + y2) y1) = q := by rw [hws, hsv]
        clear hws
        have hwq := wr64 q (by omega)
        go_region_held3 (fun w' => w'.cell? ⟨bs, os + 1, none⟩ = some (.int .i64 (y0 + y2)) ∧ w'.cell? ⟨b, off + (j + 1), none⟩ = some (.slice (some ⟨b1, o1, none⟩) 2 cc1) ∧ w'.cell? ⟨b1, o1 + 1, none⟩ = some (.int .i64 y1))
          (first
            | go_keep
            | (go_split_ands
               refine ⟨?_, ?_, ?_⟩
               · (rw [hgrow.cell_far _ (by simp; omega) (by intro e; exact agS e.symm)]; assumption)
               · (rw [hgrow.cell_far _ (by simp; omega) (by intro e; exact agB e.symm)]; assumption)
               · (rw [hgrow.cell_far _ (by simp; omega) (by intro e; exact agR e.symm)]; assumption)))
          ((refine step_append_lies _ (by rfl) _ _ _ (by rfl) w.heap.size 3 i0 _ 1 8 Try.underlying22 HI0.out HJ0.out HJ1.out HJ2.out rfl (by omega) u3 acc.length (ivs acc) (by rfl) ((HO3.out.alloc _).drew) ⟨w3.heap.size, 0, none⟩ 1 1 [.int .i64 q] (by rfl) (by rfl) (World.news_of_block (cs := #[.int .i64 q]) (t := 3) (fr := (0, 0)) (heap_alloc_new w3 _)) (by simp [Value.oneCell']) (by omega) (by unfold maxLen; omega) (by omega) (by simp; omega) (w3.heap.size + 1) (by simp) ?_; intro gg cap w1 hown1 hgrow hat hlt))
        have HO := Lib.hid (OwnI.push hown1); clear hown1
        have HBE := Lib.hid (OwnI.below HBE3.out (by have := HW3.out; have := HS2.out; omega) _ (grown_undrew hgrow) HO3.out (Nat.le_refl _))
        have HKP := Lib.hid (show ∀ k, w.heap.size + 2 ≤ k → k < w2.heap.size → w1.heap[k]? = w2.heap[k]? from fun k h1 h2 => by
          have := HW3.out
          rw [(grown_undrew hgrow).block k (by simp; omega) (by intro e; have := HOG3.out k e.symm; omega), Below.heap_alloc _ _ _ (by omega)]
          exact HKP3.out k h1 h2)
        have HOG := Lib.hid (show ∀ g, (Value.slice (some ⟨gg, 0, Option.none⟩) (acc.length + 1) cap).ownBlock = some g → g = w.heap.size + 1 ∨ w2.heap.size ≤ g from fun g hg => by
          simp [Value.ownBlock] at hg; subst hg
          rcases hat with h | h
          · exact HOG3.out _ h
          · right; have := HW3.out; omega)
        clear hgrow hat hlt hws2 hws3 hsv hne1 hne2 hwq
        go_wp2
        go_roundw
        case rel => exact ⟨j + 1, _, .inr (by omega), by go_num, by simp; omega, HE, HO, HOG, HKP, HBE⟩
        case measure => simp [intOf]; omega
      · have hbit : ((x1 == 0) = false) := by simpa using hx
        have hne1 : ¬ x1 = 0 := hx
        have hne2 : (x1 == 0) = false := by simpa using hne1
        have hsv : Int.tdiv (x0 + x2) x1 = q := mul_tdiv_self HS.out.1 (by exact hx)
        clear hx
        rw [hbit]
        have HBI := l1Bit_any false w3
        rw [show bitI false = 0 from rfl] at HBI
        refine HBI.mono ?_
        clear HBI
        rintro e w' ⟨rfl, rfl⟩
        go_wp2_with fail
        have hws := wr64 (Int.tdiv (x0 + x2) x1) (by rw [hsv]; omega)
        have hws2 : wrap64 (Int.tdiv (x0 + x2) x1) = q := by rw [hsv]; unfold wrap64; omega
        have hws3 : IntKind.i64.wrap (Int.tdiv (x0 + x2) x1) = q := by rw [hws, hsv]
        clear hws
        have hwq := wr64 q (by omega)
        go_region_held3 (fun w' => w'.cell? ⟨bs, os, none⟩ = some (.int .i64 (x0 + x2)) ∧ w'.cell? ⟨b, off + (j + 1), none⟩ = some (.slice (some ⟨b1, o1, none⟩) 2 cc1) ∧ w'.cell? ⟨b1, o1, none⟩ = some (.int .i64 x1))
          (first
            | go_keep
            | (go_split_ands
               refine ⟨?_, ?_, ?_⟩
               · (rw [hgrow.cell_far _ (by simp; omega) (by intro e; exact agS e.symm)]; assumption)
               · (rw [hgrow.cell_far _ (by simp; omega) (by intro e; exact agB e.symm)]; assumption)
               · (rw [hgrow.cell_far _ (by simp; omega) (by intro e; exact agR e.symm)]; assumption)))
          ((refine step_append_lies _ (by rfl) _ _ _ (by rfl) w.heap.size 3 i0 _ 1 8 Try.underlying22 HI0.out HJ0.out HJ1.out HJ2.out rfl (by omega) u3 acc.length (ivs acc) (by rfl) ((HO3.out.alloc _).drew) ⟨w3.heap.size, 0, none⟩ 1 1 [.int .i64 q] (by rfl) (by rfl) (World.news_of_block (cs := #[.int .i64 q]) (t := 3) (fr := (0, 0)) (heap_alloc_new w3 _)) (by simp [Value.oneCell']) (by omega) (by unfold maxLen; omega) (by omega) (by simp; omega) (w3.heap.size + 1) (by simp) ?_; intro gg cap w1 hown1 hgrow hat hlt))
        have HO := Lib.hid (OwnI.push hown1); clear hown1
        have HBE := Lib.hid (OwnI.below HBE3.out (by have := HW3.out; have := HS2.out; omega) _ (grown_undrew hgrow) HO3.out (Nat.le_refl _))
        have HKP := Lib.hid (show ∀ k, w.heap.size + 2 ≤ k → k < w2.heap.size → w1.heap[k]? = w2.heap[k]? from fun k h1 h2 => by
          have := HW3.out
          rw [(grown_undrew hgrow).block k (by simp; omega) (by intro e; have := HOG3.out k e.symm; omega), Below.heap_alloc _ _ _ (by omega)]
          exact HKP3.out k h1 h2)
        have HOG := Lib.hid (show ∀ g, (Value.slice (some ⟨gg, 0, Option.none⟩) (acc.length + 1) cap).ownBlock = some g → g = w.heap.size + 1 ∨ w2.heap.size ≤ g from fun g hg => by
          simp [Value.ownBlock] at hg; subst hg
          rcases hat with h | h
          · exact HOG3.out _ h
          · right; have := HW3.out; omega)
        clear hgrow hat hlt hws2 hws3 hsv hne1 hne2 hwq
        go_wp2
        go_roundw
        case rel => exact ⟨j + 1, _, .inr (by omega), by go_num, by simp; omega, HE, HO, HOG, HKP, HBE⟩
        case measure => simp [intOf]; omega
    · have hfin : acc = turnsL L := by
        rw [hacc.out, HT.out]
        congr 2
        omega
      subst hfin
      go_wp2
      go_ret
      exact ⟨_, rfl, hown.out, HB2.out.trans (hbe.out)⟩
end Go.Proofs.Ytchkcjpahlimjaa
