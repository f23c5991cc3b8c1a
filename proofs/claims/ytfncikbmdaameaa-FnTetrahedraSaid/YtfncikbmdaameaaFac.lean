/- The factors of the rows (three of them): the model's walk. -/
import Derived.Test.YtfncikbmdaameaaTetE
import Derived.Test.YtfncikbmdaameaaB4
import Derived.Test.YtfncikbmdaameaaTHas
namespace Go.Proofs.Ytfncikbmdaameaa
open Go.RowKit
set_option linter.unusedVariables false
set_option linter.unusedSimpArgs false

theorem range_snoc {α : Type} (f : Nat → α) (k : Nat) : (List.range (k + 1)).map f = (List.range k).map f ++ [f k] := by
  rw [List.range_succ, List.map_append]; rfl
def facF (m : List (List Int)) (x : List Int) (r : Nat) : Int := det3 (m.set r x)

set_option maxRecDepth 100000 in
set_option maxHeartbeats 8000000 in
theorem l8Factors_any (m : List (List Int)) (x : List Int) (v vx : Value) (hb : Nat) (w : World) (h : ISSr w hb v m) (ix : ISr w hb vx x) (hhb : hb ≤ w.heap.size) (h3 : m.length = 3) (hS : ∀ r, r < 3 → SqB 3 (m.set r x)) :
    Calls Try.prog 181 #[v, vx] w fun e w' => ∃ u, e = .returned u ∧ OwnI w' w.heap.size u ((List.range 3).map (facF m x)) ∧ Below w.heap.size w w' := by
  obtain ⟨i0, hi0, hz0, hz1, hz2⟩ := info_parts info_ints
  have HI0 := Lib.hid hi0; clear hi0
  have HZ0 := Lib.hid hz0; clear hz0
  have HZ1 := Lib.hid hz1; clear hz1
  have HZ2 := Lib.hid hz2; clear hz2
  obtain ⟨j0, hj0, hy0, hy1, hy2⟩ := info_parts info_int
  have HJ0 := Lib.hid hj0; clear hj0
  have HY0 := Lib.hid hy0; clear hy0
  have HY1 := Lib.hid hy1; clear hy1
  have HY2 := Lib.hid hy2; clear hy2
  obtain ⟨b, off, cap, V, rfl, hbb, hcell⟩ := h.three h3
  obtain ⟨ax, cx, rfl, -⟩ := id ix
  have HC := Lib.hid hcell
  have HX := Lib.hid ix
  have H3 := Lib.hid h3
  have HSQ := Lib.hid hS
  clear h ix hcell h3 hS
  generalize x.length = xl at *
  have hblt : b < w.heap.size := Nat.lt_of_lt_of_le hbb hhb
  go_enter Try.func181, Try.ntmps181
  go_wp2
  go_loopw [5, 6, 7, 8] (fun ov r _ _ wr => ∃ (k : Nat) (acc : List Int), k ≤ 3 ∧ r = .int .i64 k ∧ acc.length = k ∧ Hid (acc = (List.range k).map (facF m x)) ∧ Hid (OwnI wr w.heap.size ov acc) ∧ Hid (Below w.heap.size w wr)) (fun _ r _ _ _ => 3 - (intOf r).toNat)
  case atStart => exact ⟨0, [], by omega, rfl, rfl, Lib.hid rfl, OwnI.lit0 w _ (Nat.le_refl _), below1 w _⟩
  case round =>
    obtain ⟨k, acc, hk, rfl, hal, hacc, hown, hbe⟩ := hrel
    by_cases hlt : k < 3
    · have hdec : decide ((k : Int) < 3) = true := by simp; omega
      generalize wr = w1 at *
      have hwz := hbe.out.size
      go_wp2
      go_loopw [7, 8] (fun pv i wr2 => ∃ (j : Nat), j ≤ 3 ∧ i = .int .i64 j ∧ Hid (wr2.ownsRow w1.heap.size 46 1 pv j ((List.range j).map fun i => if i = k then .slice ax xl cx else V i)) ∧ Hid (Below w1.heap.size w1 wr2)) (fun _ i _ => 3 - (intOf i).toNat)
      case atStart => exact ⟨0, by omega, rfl, Lib.hid (World.ownsRow_lit w1 #[] 0 (Nat.le_refl _) (by simp [maxLen]) rfl), Lib.hid (below1 w1 _)⟩
      case round =>
        obtain ⟨j, hj, rfl, hpo, hb2⟩ := hrel
        have hz2 := hb2.out.size
        by_cases hjt : j < 3
        · have hck := (hb2.out.cell (p := ⟨b, off + j, none⟩) (Nat.lt_of_lt_of_le hblt hwz)).trans ((hbe.out.cell (p := ⟨b, off + j, none⟩) hblt).trans (HC.out j hjt).1)
          have HSN := Lib.hid (range_snoc (fun i => if i = k then Value.slice ax xl cx else V i) j)
          obtain ⟨aj, cj, hvj, -⟩ := (HC.out j hjt).2
          by_cases hjk : j = k
          all_goals
            have hde : ((j : Int) == (k : Int)) = decide (j = k) := by rw [Bool.eq_iff_iff]; simp; omega
          case pos =>
            rw [if_pos hjk] at HSN
            clear hvj hck hde
            subst hjk
            go_wp2_with (at_builtin; refine wpList_append_own _ rfl _ _ 24 rfl w1.heap.size 46 i0 (.slice none 0 0) 1 24 Try.underlying24 HI0.out HZ0.out HZ1.out HZ2.out rfl (by decide) _ _ _ rfl (World.ownsRow.alloc hpo.out _) ⟨wr.heap.size, 0, none⟩ 1 1 [.slice ax xl cx] rfl rfl ?c1 ?c2 ?c3 ?c4 ?c5 ?_)
            case c1 => exact cell_one_new _ _ _
            case c2 => first | rfl | (intro u hu; simp at hu; subst hu; rfl)
            case c3 => unfold maxLen; omega
            case c4 => omega
            case c5 => first | omega | (simp; omega)
            intro v2 w3 hown2 hgrow _
            rw [← HSN.out] at hown2
            have HO := Lib.hid hown2
            have HBE := Lib.hid ((hb2.out.alloc hz2 _).grown hgrow (by simp; omega) fun k hk => (World.ownsRow.lt hpo.out k hk).1)
            clear hown2 hgrow
            go_wp2
            go_roundw
            case rel => exact ⟨j + 1, by omega, by go_num, HO, HBE⟩
            case measure => simp [intOf]; omega
          case neg =>
            rw [if_neg hjk] at HSN
            rw [decide_eq_false hjk] at hde
            rw [hvj] at hck HSN
            clear hvj
            generalize (m.getD j []).length = lj at *
            go_wp2_with (at_builtin; refine wpList_append_own _ rfl _ _ 24 rfl w1.heap.size 46 i0 (.slice none 0 0) 1 24 Try.underlying24 HI0.out HZ0.out HZ1.out HZ2.out rfl (by decide) _ _ _ rfl (World.ownsRow.alloc hpo.out _) ⟨wr.heap.size, 0, none⟩ 1 1 [.slice aj lj cj] rfl rfl ?c1 ?c2 ?c3 ?c4 ?c5 ?_)
            case c1 => exact cell_one_new _ _ _
            case c2 => first | rfl | (intro u hu; simp at hu; subst hu; rfl)
            case c3 => unfold maxLen; omega
            case c4 => omega
            case c5 => first | omega | (simp; omega)
            intro v2 w3 hown2 hgrow _
            rw [← HSN.out] at hown2
            have HO := Lib.hid hown2
            have HBE := Lib.hid ((hb2.out.alloc hz2 _).grown hgrow (by simp; omega) fun k hk => (World.ownsRow.lt hpo.out k hk).1)
            clear hown2 hgrow
            go_wp2
            go_roundw
            case rel => exact ⟨j + 1, by omega, by go_num, HO, HBE⟩
            case measure => simp [intOf]; omega
        · obtain rfl : j = 3 := by omega
          obtain ⟨g, cap2, rfl, -, hgl⟩ := hpo.out.form (by omega)
          obtain ⟨bk, hn3, hmx⟩ := BK.of_own (f := fun i => if i = k then .slice ax xl cx else V i) hpo.out (fun i hi => by
            rw [List.getElem?_map, List.getElem?_range hi]; rfl)
          have B4 : Below w.heap.size w wr := hbe.out.trans (hb2.out.mono hwz)
          have IQ := ISSr.of_BK (ls := m.set k x) (hi := wr.heap.size) bk (by rw [List.length_set]; exact H3.out.symm) hn3 hmx hgl (fun i hi => by
            rw [getD_setL (by rw [H3.out]; exact hlt)]
            show ISr wr wr.heap.size (if i = k then _ else _) _
            by_cases e : i = k
            · rw [if_pos e, if_pos e]; exact (HX.out.keep B4 hhb).upto (Nat.le_trans hhb B4.size)
            · rw [if_neg e, if_neg e]; exact ((HC.out i hi).2.keep B4 hhb).upto (Nat.le_trans hhb B4.size))
          have DC := toBelow (l3Det_any (m.set k x) _ wr.heap.size wr IQ (HSQ.out k hlt))
          have HSN := Lib.hid (range_snoc (facF m x) k)
          rw [← hacc.out] at HSN
          have HFX := Lib.hid (show facF m x k = det3 (m.set k x) from rfl)
          rw [HFX.out] at HSN
          have HOWN := Lib.hid (hown.out.kept hb2.out)
          clear IQ bk hpo HFX
          generalize det3 (m.set k x) = dk at *
          go_wp2_with fail
          refine DC.mono ?_
          rintro e w5 ⟨rfl, c5⟩
          have hz5 := c5.size
          have hob : ∀ q, u5.ownBlock = some q → w.heap.size ≤ q ∧ q < w1.heap.size := World.ownsRow.lt hown.out
          have HB5 := Lib.hid (B4.trans (c5.mono B4.size))
          have HOWN5 := Lib.hid (OwnI.kept HOWN.out (c5))
          clear c5 DC
          go_wp2_with (at_builtin; refine wpList_append_own _ rfl _ _ 46 rfl w.heap.size 3 j0 (.int .i64 0) 1 8 Try.underlying46 HJ0.out HY0.out HY1.out HY2.out rfl (by decide) _ _ _ rfl (HOWN5.out.alloc _) ⟨w5.heap.size, 0, none⟩ 1 1 [.int .i64 dk] rfl rfl ?c1 ?c2 ?c3 ?c4 ?c5 ?_)
          case c1 => exact cell_one_new _ _ _
          case c2 => first | rfl | (intro u hu; simp at hu; subst hu; rfl)
          case c3 => unfold maxLen; omega
          case c4 => omega
          case c5 => first | omega | (simp; omega)
          intro v2 w6 hown2 hgrow _
          have HO := Lib.hid (OwnI.push (l := acc) (by rw [hal]; exact hown2))
          rw [← HSN.out] at HO
          have HBE := Lib.hid (OwnI.below HB5.out HB5.out.size _ hgrow HOWN5.out (Nat.le_refl _))
          clear hown2 hgrow
          go_wp2
          go_roundw
          case rel => exact ⟨k + 1, _, by omega, by go_num, by simp, Lib.hid rfl, HO, HBE⟩
          case measure => simp [intOf]; omega
    · obtain rfl : k = 3 := by omega
      have HF := Lib.hid hown.out
      rw [hacc.out] at HF
      go_wp2
      go_ret
      exact ⟨_, rfl, HF.out, hbe.out⟩
end Go.Proofs.Ytfncikbmdaameaa
