/- The factors of the rows (up to three of them), and the model's point of a cell: walks. -/
import Derived.Test.YtehhoplenloocaaCelM
import Derived.Test.YtehhoplenloocaaHerA
import Derived.Test.YtehhoplenloocaaB4
import Derived.Deep.RegionHeld3
namespace Go.Proofs.Ytehhoplenloocaa
open Go.RowKit
set_option linter.unusedVariables false
set_option linter.unusedSimpArgs false

theorem range_snocG {α : Type} (f : Nat → α) (k : Nat) : (List.range (k + 1)).map f = (List.range k).map f ++ [f k] := by
  rw [List.range_succ, List.map_append]; rfl
theorem BK.of_ownG {w : World} {B g cap n : Nat} {t : TypeId} {xs : List Value} {f : Nat → Value} (h : w.ownsRow B t 1 (.slice (some ⟨g, 0, none⟩) n cap) n xs) (hf : ∀ i, i < n → xs[i]? = some (f i)) : BK w g 0 n t f ∧ n ≤ cap ∧ cap ≤ maxLen := by
  rcases h.2 with ⟨e, -⟩ | ⟨g', cap', cur, e, -, hh, hn, hc, hs, ht⟩
  · cases e
  · injection e with e1 e2 e3
    injection e1 with e1
    injection e1 with e1
    subst e1 e3
    refine ⟨⟨cur, hh, fun i hi => ?_⟩, hn, hc⟩
    rw [Nat.zero_add, ← Array.getElem?_toList]
    have e1 : (cur.toList.take (n * 1))[i]? = xs[i]? := by rw [ht]
    rw [List.getElem?_take_of_lt (by omega)] at e1
    rw [e1]; exact hf i hi
theorem ISSr.of_BKG {w : World} {hi g n cap : Nat} {V : Nat → Value} {ls : List (List Int)} (hb : BK w g 0 n 30 V) (hn : n = ls.length) (hcap : n ≤ cap) (hm : cap ≤ maxLen) (hg : g < hi) (hr : ∀ i, i < n → ISr w hi (V i) (ls.getD i [])) : ISSr w hi (.slice (some ⟨g, 0, none⟩) n cap) ls := by
  subst hn
  exact ⟨_, cap, rfl, hcap, hm, fun _ => ⟨g, 0, V, rfl, hg, fun i hi => ⟨hb.cell hi, hr i hi⟩⟩⟩
def facG (m : List (List Int)) (x : List Int) (r : Nat) : Int := dN (m.set r x)
theorem facG_det {m : List (List Int)} {x : List Int} {n r : Nat} (h : SqB n (m.set r x)) (h1 : 1 ≤ n) (h3 : n ≤ 3) : detM (m.set r x) = facG m x r := by
  have hl := h.len
  unfold facG
  rw [dN_det (by rw [hl]; exact h) (by omega) (by omega)]

set_option maxRecDepth 100000 in
set_option maxHeartbeats 8000000 in
theorem l8FactorsG_any (m : List (List Int)) (x : List Int) (n : Nat) (v vx : Value) (hb : Nat) (w : World) (h : ISSr w hb v m) (ix : ISr w hb vx x) (hhb : hb ≤ w.heap.size) (hn : m.length = n) (h1 : 1 ≤ n) (h3 : n ≤ 3) (hS : ∀ r, r < n → SqB n (m.set r x)) :
    Calls Try.prog 153 #[v, vx] w fun e w' => ∃ u, e = .returned u ∧ OwnI w' w.heap.size u ((List.range n).map (facG m x)) ∧ Below w.heap.size w w' := by
  obtain ⟨i0, hi0, hz0, hz1, hz2⟩ := info_parts info_ints
  have HI0 := Lib.hid hi0; clear hi0
  have HZ0 := Lib.hid hz0; clear hz0
  have HZ1 := Lib.hid hz1; clear hz1
  have HZ2 := Lib.hid hz2; clear hz2
  obtain ⟨j0, hj0, hy0, hy1, hy2⟩ := info_parts info_int
  have HJ0 := Lib.hid hj0; clear hj0
  have HY0 := Lib.hid hy0; clear hy0
  have HY1 := Lib.hid hy1; clear hy1
  have HY2 := Lib.hid hy2; clear hy2
  obtain ⟨b, off, cap, V, rfl, hbb, hcell⟩ := (h.cases).resolve_left (fun e => by rw [e.1] at hn; simp at hn; omega) |>.2.2
  obtain ⟨ax, cx, rfl, -⟩ := id ix
  have HN := Lib.hid hn
  rw [hn] at hcell ⊢
  have HC := Lib.hid hcell
  have HX := Lib.hid ix
  have HSQ := Lib.hid hS
  clear h ix hcell hS hn
  generalize x.length = xl at *
  have hblt : b < w.heap.size := Nat.lt_of_lt_of_le hbb hhb
  go_enter Try.func153, Try.ntmps153
  go_wp2
  go_loopw [5, 6, 7, 8] (fun ov r _ _ wr => ∃ (k : Nat) (acc : List Int), k ≤ n ∧ r = .int .i64 k ∧ acc.length = k ∧ Hid (acc = (List.range k).map (facG m x)) ∧ Hid (OwnI wr w.heap.size ov acc) ∧ Hid (Below w.heap.size w wr)) (fun _ r _ _ _ => n - (intOf r).toNat)
  case atStart => exact ⟨0, [], by omega, rfl, rfl, Lib.hid rfl, OwnI.lit0 w _ (Nat.le_refl _), below1 w _⟩
  case round =>
    obtain ⟨k, acc, hk, rfl, hal, hacc, hown, hbe⟩ := hrel
    by_cases hlt : k < n
    · have hdec : decide ((k : Int) < n) = true := by simp; omega
      generalize wr = w1 at *
      have hwz := hbe.out.size
      have HAL := Lib.hid hal
      clear hal
      go_wp2
      go_loopw [7, 8] (fun pv i wr2 => ∃ (j : Nat), j ≤ n ∧ i = .int .i64 j ∧ Hid (wr2.ownsRow w1.heap.size 30 1 pv j ((List.range j).map fun i => if i = k then .slice ax xl cx else V i)) ∧ Hid (Below w1.heap.size w1 wr2)) (fun _ i _ => n - (intOf i).toNat)
      case atStart => exact ⟨0, by omega, rfl, Lib.hid (World.ownsRow_lit w1 #[] 0 (Nat.le_refl _) (by simp [maxLen]) rfl), Lib.hid (below1 w1 _)⟩
      case round =>
        obtain ⟨j, hj, rfl, hpo, hb2⟩ := hrel
        have hz2 := hb2.out.size
        by_cases hjt : j < n
        · have hck := (hb2.out.cell (p := ⟨b, off + j, none⟩) (Nat.lt_of_lt_of_le hblt hwz)).trans ((hbe.out.cell (p := ⟨b, off + j, none⟩) hblt).trans (HC.out j hjt).1)
          have HSN := Lib.hid (range_snocG (fun i => if i = k then Value.slice ax xl cx else V i) j)
          obtain ⟨aj, cj, hvj, -⟩ := (HC.out j hjt).2
          by_cases hjk : j = k
          all_goals
            have hde : ((j : Int) == (k : Int)) = decide (j = k) := by rw [Bool.eq_iff_iff]; simp; omega
          case pos =>
            rw [if_pos hjk] at HSN
            clear hvj hck hde
            subst hjk
            go_wp2_with (at_builtin; refine wpList_append_own _ rfl _ _ 24 rfl w1.heap.size 30 i0 (.slice none 0 0) 1 24 Try.underlying24 HI0.out HZ0.out HZ1.out HZ2.out rfl (by decide) _ _ _ rfl (World.ownsRow.alloc hpo.out _) ⟨wr.heap.size, 0, none⟩ 1 1 [.slice ax xl cx] rfl rfl ?c1 ?c2 ?c3 ?c4 ?c5 ?_)
            case c1 => exact cell_one_new _ _ _
            case c2 => first | rfl | (intro u hu; simp at hu; subst hu; rfl)
            case c3 => unfold maxLen; omega
            case c4 => omega
            case c5 => first | omega | (simp; omega)
            intro v2 w3 hown2 hgrow _
            rw [← HSN.out] at hown2
            have HO := Lib.hid hown2
            have HBE := Lib.hid ((hb2.out.alloc hz2 _).grown hgrow (by simp; omega) fun k hk => (World.ownsRow.lt hpo.out k hk).1)
            clear hown2 hgrow
            go_wp2
            go_roundw
            case rel => exact ⟨j + 1, by omega, by go_num, HO, HBE⟩
            case measure => simp [intOf]; omega
          case neg =>
            rw [if_neg hjk] at HSN
            rw [decide_eq_false hjk] at hde
            rw [hvj] at hck HSN
            clear hvj
            generalize (m.getD j []).length = lj at *
            go_wp2_with (at_builtin; refine wpList_append_own _ rfl _ _ 24 rfl w1.heap.size 30 i0 (.slice none 0 0) 1 24 Try.underlying24 HI0.out HZ0.out HZ1.out HZ2.out rfl (by decide) _ _ _ rfl (World.ownsRow.alloc hpo.out _) ⟨wr.heap.size, 0, none⟩ 1 1 [.slice aj lj cj] rfl rfl ?c1 ?c2 ?c3 ?c4 ?c5 ?_)
            case c1 => exact cell_one_new _ _ _
            case c2 => first | rfl | (intro u hu; simp at hu; subst hu; rfl)
            case c3 => unfold maxLen; omega
            case c4 => omega
            case c5 => first | omega | (simp; omega)
            intro v2 w3 hown2 hgrow _
            rw [← HSN.out] at hown2
            have HO := Lib.hid hown2
            have HBE := Lib.hid ((hb2.out.alloc hz2 _).grown hgrow (by simp; omega) fun k hk => (World.ownsRow.lt hpo.out k hk).1)
            clear hown2 hgrow
            go_wp2
            go_roundw
            case rel => exact ⟨j + 1, by omega, by go_num, HO, HBE⟩
            case measure => simp [intOf]; omega
        · have hjn : j = n := by omega
          rw [hjn] at hpo ⊢
          clear hjn hjt hj j
          have hdec2 : decide ((n : Int) < n) = false := by simp
          obtain ⟨g, cap2, rfl, -, hgl⟩ := hpo.out.form (by omega)
          obtain ⟨bk, hn3, hmx⟩ := BK.of_ownG (f := fun i => if i = k then .slice ax xl cx else V i) hpo.out (fun i hi => by
            rw [List.getElem?_map, List.getElem?_range hi]; rfl)
          have B4 : Below w.heap.size w wr := hbe.out.trans (hb2.out.mono hwz)
          have IQ := ISSr.of_BKG (ls := m.set k x) (hi := wr.heap.size) bk (by rw [List.length_set]; exact HN.out.symm) hn3 hmx hgl (fun i hi => by
            rw [getD_setR (by rw [HN.out]; exact hlt)]
            show ISr wr wr.heap.size (if i = k then _ else _) _
            by_cases e : i = k
            · rw [if_pos e, if_pos e]; exact (HX.out.keep B4 hhb).upto (Nat.le_trans hhb B4.size)
            · rw [if_neg e, if_neg e]; exact ((HC.out i hi).2.keep B4 hhb).upto (Nat.le_trans hhb B4.size))
          have hsq := HSQ.out k hlt
          have DC := toBelow (specDet_any (m.set k x) _ wr.heap.size wr IQ (by rw [hsq.len]; exact hsq) (by rw [hsq.len]; exact h1) (by rw [hsq.len]; exact h3))
          rw [facG_det hsq h1 h3] at DC
          have HSN := Lib.hid (range_snocG (facG m x) k)
          rw [← hacc.out] at HSN
          have HOWN := Lib.hid (hown.out.kept hb2.out)
          have HAL2 := HAL.out
          clear IQ bk hpo hsq
          generalize facG m x k = dk at *
          go_wp2_with fail
          refine DC.mono ?_
          rintro e w5 ⟨rfl, c5⟩
          have hz5 := c5.size
          have HB5 := Lib.hid (B4.trans (c5.mono B4.size))
          have HOWN5 := Lib.hid (OwnI.kept HOWN.out (c5))
          clear c5 DC
          go_wp2_with (at_builtin; refine wpList_append_own _ rfl _ _ 30 rfl w.heap.size 3 j0 (.int .i64 0) 1 8 Try.underlying30 HJ0.out HY0.out HY1.out HY2.out rfl (by decide) _ _ _ rfl (HOWN5.out.alloc _) ⟨w5.heap.size, 0, none⟩ 1 1 [.int .i64 dk] rfl rfl ?c1 ?c2 ?c3 ?c4 ?c5 ?_)
          case c1 => exact cell_one_new _ _ _
          case c2 => first | rfl | (intro u hu; simp at hu; subst hu; rfl)
          case c3 => unfold maxLen; omega
          case c4 => omega
          case c5 => first | omega | (simp; omega)
          intro v2 w6 hown2 hgrow _
          have HO := Lib.hid (OwnI.push (l := acc) (by rw [HAL.out]; exact hown2))
          rw [← HSN.out] at HO
          have HBE := Lib.hid (OwnI.below HB5.out HB5.out.size _ hgrow HOWN5.out (Nat.le_refl _))
          clear hown2 hgrow HAL2
          go_wp2
          go_roundw
          case rel => exact ⟨k + 1, _, by omega, by go_num, by simp, Lib.hid rfl, HO, HBE⟩
          case measure => simp [intOf]; omega
    · have hkn : k = n := by omega
      have HF := Lib.hid hown.out
      rw [hacc.out, hkn] at HF
      have hdec : decide ((k : Int) < n) = false := by simp; omega
      clear hkn
      go_wp2
      go_ret
      exact ⟨_, rfl, HF.out, hbe.out⟩
end Go.Proofs.Ytehhoplenloocaa
