/- Where a point is, of a tetrahedron: the program's walk. -/
import Derived.Test.YtfncikbmdaameaaTet
import Derived.Test.YtfncikbmdaameaaTetE
import Derived.Test.YtfncikbmdaameaaTimes
namespace Go.Proofs.Ytfncikbmdaameaa
open Go.RowKit
set_option linter.unusedVariables false
set_option linter.unusedSimpArgs false

def plc (S : Nat → Int) : Nat → Int
  | 0 => 1
  | k + 1 => if S k = 0 then 0 else plc S k
theorem plc_bd (S : Nat → Int) : ∀ k, plc S k = 0 ∨ plc S k = 1
  | 0 => .inr rfl
  | k + 1 => by rw [plc]; split
                · exact .inl rfl
                · exact plc_bd S k
def placeN (S : Nat → Int) (n : Nat) : Int := if (List.range n).all (fun i => decide (0 ≤ S i)) then plc S n else -1
theorem placeN_neg {S : Nat → Int} {n k : Nat} (hk : k < n) (h : S k < 0) : placeN S n = -1 := by
  unfold placeN
  rw [if_neg]
  intro ha
  rw [List.all_eq_true] at ha
  have := ha k (List.mem_range.2 hk)
  simp at this; omega
theorem placeN_pos {S : Nat → Int} {n : Nat} (h : ∀ i, i < n → 0 ≤ S i) : placeN S n = plc S n := by
  unfold placeN
  rw [if_pos]
  rw [List.all_eq_true]
  intro i hi
  have := h i (List.mem_range.1 hi)
  simpa using this
/-- the sign of the first determinant taken out -/
def sgd (all d : Int) : Int := if all < 0 then -d else d
def tS (ls : List (List Int)) (x : List Int) (k : Nat) : Int := sgd (det3 (edgesF ls)) (det3 (edgesF (ls.set k x)))
theorem getD_setL {ls : List (List Int)} {k i : Nat} {x : List Int} (h : k < ls.length) : (ls.set k x).getD i [] = if i = k then x else ls.getD i [] := by
  rw [List.getD_eq_getElem?_getD, List.getElem?_set]
  by_cases e : k = i
  · subst e; simp [h]
  · rw [if_neg e, if_neg (fun e' => e e'.symm), ← List.getD_eq_getElem?_getD]
theorem Four.set {M : Int} {ls : List (List Int)} (h : Four M ls) {x : List Int} (hx : x.length = 3 ∧ allIn x (-M) M = true) {k : Nat} (hk : k < 4) : Four M (ls.set k x) := by
  refine ⟨by rw [List.length_set]; exact h.1, fun i hi => ?_⟩
  rw [List.length_set] at hi
  rw [getD_setL (by rw [h.1]; exact hk)]
  split
  · exact hx
  · exact h.2 i hi
theorem BK.of_own {w : World} {B g cap n : Nat} {t : TypeId} {xs : List Value} {f : Nat → Value} (h : w.ownsRow B t 1 (.slice (some ⟨g, 0, none⟩) n cap) n xs) (hf : ∀ i, i < n → xs[i]? = some (f i)) : BK w g 0 n t f ∧ n ≤ cap ∧ cap ≤ maxLen := by
  rcases h.2 with ⟨e, -⟩ | ⟨g', cap', cur, e, -, hh, hn, hc, hs, ht⟩
  · cases e
  · injection e with e1 e2 e3
    injection e1 with e1
    injection e1 with e1
    subst e1 e3
    refine ⟨⟨cur, hh, fun i hi => ?_⟩, hn, hc⟩
    rw [Nat.zero_add, ← Array.getElem?_toList]
    have e1 : (cur.toList.take (n * 1))[i]? = xs[i]? := by rw [ht]
    rw [List.getElem?_take_of_lt (by omega)] at e1
    rw [e1]; exact hf i hi
theorem ISSr.of_BK {w : World} {hi g n cap : Nat} {V : Nat → Value} {ls : List (List Int)} (hb : BK w g 0 n 46 V) (hn : n = ls.length) (hcap : n ≤ cap) (hm : cap ≤ maxLen) (hg : g < hi) (hr : ∀ i, i < n → ISr w hi (V i) (ls.getD i [])) : ISSr w hi (.slice (some ⟨g, 0, none⟩) n cap) ls := by
  subst hn
  exact ⟨_, cap, rfl, hcap, hm, fun _ => ⟨g, 0, V, rfl, hg, fun i hi => ⟨hb.cell hi, hr i hi⟩⟩⟩

set_option maxRecDepth 100000 in
set_option maxHeartbeats 8000000 in
theorem tetraHas_any (ls : List (List Int)) (x : List Int) (v vx : Value) (hb : Nat) (w : World) (h : ISSr w hb v ls) (ix : ISr w hb vx x) (hhb : hb ≤ w.heap.size) (hF : Four 50000 ls) (hx : x.length = 3 ∧ allIn x (-50000) 50000 = true) :
    Calls Try.prog 155 #[v, vx] w fun e w' => e = .returned (.int .i64 (placeN (tS ls x) 4)) ∧ Below w.heap.size w w' := by
  obtain ⟨i0, hi0, hz0, hz1, hz2⟩ := info_parts info_ints
  have HI0 := Lib.hid hi0; clear hi0
  have HZ0 := Lib.hid hz0; clear hz0
  have HZ1 := Lib.hid hz1; clear hz1
  have HZ2 := Lib.hid hz2; clear hz2
  obtain ⟨b, off, cap, V, rfl, hbb, hcap, hcell, h1⟩ := h.four hF.1
  obtain ⟨ax, cx, hvx, -⟩ := id ix
  have hcap1 : ¬ cap = 1 := by omega
  have PD0 := DiffCalls (ls := ls) (B := w.heap.size) hF h1 (hcell 0 (by omega)).2 hhb
  have PE0 := fun W u B ku => DetCall hF W u B ku
  have HDB := Lib.hid (det3_bd (edgesF_sq hF))
  have HFK := Lib.hid (fun (k : Nat) (hk : k < 4) => hF.set hx hk)
  have HS := Lib.hid (show ∀ k, tS ls x k = sgd (det3 (edgesF ls)) (det3 (edgesF (ls.set k x))) from fun _ => rfl)
  have H4 := Lib.hid hF.1
  have HC := Lib.hid hcell
  have HX := Lib.hid ix
  have HPN := Lib.hid (fun (k : Nat) (hk : k < 4) => placeN_neg (S := tS ls x) hk)
  have HPP := Lib.hid (placeN_pos (S := tS ls x) (n := 4))
  have HPC := Lib.hid (show ∀ k, plc (tS ls x) (k + 1) = if tS ls x k = 0 then 0 else plc (tS ls x) k from fun _ => rfl)
  have hc0 := (hcell 0 (by omega)).1
  have hc1 := (hcell 1 (by omega)).1
  have hc2 := (hcell 2 (by omega)).1
  have hc3 := (hcell 3 (by omega)).1
  rw [Nat.add_zero] at hc0
  have HVX := Lib.hid hvx
  have HP1 := Lib.hid (show plc (tS ls x) 0 = 1 from rfl)
  clear h hF hx h1 hcell ix
  subst hvx
  clear HVX
  generalize x.length = xl at *
  generalize hall : det3 (edgesF ls) = all at *
  clear hall
  have hlt : b < w.heap.size := Nat.lt_of_lt_of_le hbb hhb
  go_enter Try.func155, Try.ntmps155
  go_wp2_with fail
  have Bd : Below w.heap.size w w.drew := below_draws _ w 1
  go_region_held3 (fun w' => w'.cell? ⟨b, off, none⟩ = some (V 0)) (first | exact hc0 | exact z0 | exact y0) (first | (go_at_call 162; (with_reducible refine (PD0 _ Bd Bd.size).mono ?_); rintro e w2 ⟨u, rfl, ku, c2⟩; have B2 := below_then Bd Bd.size c2; have z0 := (B2.cell (p := ⟨b, off, none⟩) hlt).trans hc0) | (go_at_call 161; (with_reducible refine (PE0 _ _ _ ku).mono ?_); rintro e w3 ⟨rfl, c3⟩; have B3 := below_then B2 B2.size c3; have y0 := (B3.cell (p := ⟨b, off, none⟩) hlt).trans hc0))
  have HB3 := Lib.hid B3
  clear z0 y0 B2 c2 c3 ku Bd B3 PD0 PE0
  go_wp2
  go_loopw [5, 7, 8, 9, 19] (fun pl _ _ _ i wr => ∃ (k : Nat) (p : Int), k ≤ 4 ∧ i = .int .i64 k ∧ pl = .int .i64 p ∧ Hid (p = plc (tS ls x) k) ∧ Hid (∀ i, i < k → 0 ≤ tS ls x i) ∧ Hid (Below w.heap.size w wr)) (fun _ _ _ _ i _ => 4 - (intOf i).toNat)
  case atStart => exact ⟨0, 1, by omega, rfl, rfl, Lib.hid HP1.out.symm, Lib.hid (fun i hi => absurd hi (Nat.not_lt_zero _)), HB3⟩
  case round =>
    obtain ⟨k, p, hk, rfl, rfl, hp, hnn, hbe⟩ := hrel
    by_cases hkt : k < 4
    · have q0 := (hbe.out.cell (p := ⟨b, off, none⟩) hlt).trans hc0
      have q1 := (hbe.out.cell (p := ⟨b, off + 1, none⟩) hlt).trans hc1
      have q2 := (hbe.out.cell (p := ⟨b, off + 2, none⟩) hlt).trans hc2
      have q3 := (hbe.out.cell (p := ⟨b, off + 3, none⟩) hlt).trans hc3
      have hwz := hbe.out.size
      go_wp2_with (at_builtin; refine wpList_append_lies _ rfl _ _ 24 rfl w.heap.size 46 i0 (.slice none 0 0) 1 24 Try.underlying24 HI0.out HZ0.out HZ1.out HZ2.out rfl (by decide) (.slice none 0 0) 0 [] rfl ⟨rfl, .inl ⟨rfl, rfl⟩⟩ ⟨b, off, none⟩ 4 cap [V 0, V 1, V 2, V 3] rfl rfl ?c1 ?c2 (by omega) ?c3 ?c4 ?c5 _ rfl ?_)
      case c1 =>
        intro j u hj
        have ha : (⟨b, off, none⟩ : Addr).add j = ⟨b, off + j, none⟩ := by simp only [Addr.add]; split <;> simp_all
        rw [ha]
        match j, hj with
        | 0, hj => simp at hj; rw [← hj]; exact q0
        | 1, hj => simp at hj; rw [← hj]; exact q1
        | 2, hj => simp at hj; rw [← hj]; exact q2
        | 3, hj => simp at hj; rw [← hj]; exact q3
      case c2 =>
        intro u hu
        have hone : ∀ i, i < 4 → (V i).oneCell' = true := fun i hi => by
          obtain ⟨ai, ci, e, -⟩ := (HC.out i hi).2
          rw [e]; rfl
        simp at hu
        rcases hu with rfl | rfl | rfl | rfl
        · exact hone 0 (by omega)
        · exact hone 1 (by omega)
        · exact hone 2 (by omega)
        · exact hone 3 (by omega)
      case c3 => simp [maxLen]
      case c4 => omega
      case c5 => first | omega | (simp; omega)
      intro g cap2 w3 hown2 hgrow hat hgl
      have hgw : g = wr.heap.size := by
        rcases hat with e | e
        · cases e
        · exact e
      obtain ⟨bk, hn4, hmx⟩ := BK.of_own (f := V) hown2 (fun i hi => by
        match i, hi with
        | 0, _ => rfl
        | 1, _ => rfl
        | 2, _ => rfl
        | 3, _ => rfl)
      try simp only [Nat.zero_add] at bk hn4
      have hge : w.heap.size ≤ g := by omega
      have B3 : Below w.heap.size w w3 := hbe.out.grown hgrow hwz (fun k hk => by cases hk)
      have ck := bk.cell hkt
      have fk := bk.frozen (0 + k)
      have bk2 := bk.set hkt (.slice ax xl cx)
      have B4 : Below w.heap.size w (w3.setCell ⟨g, 0 + k, none⟩ (.slice ax xl cx)) := by
        refine ⟨B3.os, B3.tape, B3.output, by simpa using B3.size, fun i hi => ?_⟩
        rw [Below.heap_setCell _ _ _ _ (by show i ≠ g; omega)]
        exact B3.block i hi
      have hz4 : (w3.setCell ⟨g, 0 + k, none⟩ (.slice ax xl cx)).heap.size = w3.heap.size := by simp
      have hV2 : ∀ i, i < 4 → ISr (w3.setCell ⟨g, 0 + k, none⟩ (.slice ax xl cx)) (w3.setCell ⟨g, 0 + k, none⟩ (.slice ax xl cx)).heap.size (if i = k then .slice ax xl cx else V i) ((ls.set k x).getD i []) := by
        intro i hi
        rw [getD_setL (by rw [H4.out]; exact hkt)]
        by_cases e : i = k
        · rw [if_pos e, if_pos e]; exact (HX.out.keep B4 hhb).upto (Nat.le_trans hhb B4.size)
        · rw [if_neg e, if_neg e]; exact ((HC.out i hi).2.keep B4 hhb).upto (Nat.le_trans hhb B4.size)
      have IQ := ISSr.of_BK (ls := ls.set k x) bk2 (by rw [List.length_set]; exact H4.out.symm) hn4 hmx (by rw [hz4]; exact hgl) hV2
      obtain ⟨b', off', cap', V', hv', hbb', hcap', hcell', h1'⟩ := IQ.four (by rw [List.length_set]; exact H4.out)
      injection hv' with e1 e2 e3
      injection e1 with e1
      injection e1 with e1 e4
      subst e1 e3 e4
      have PD := DiffCalls (ls := ls.set k x) (B := (w3.setCell ⟨g, 0 + k, none⟩ (.slice ax xl cx)).heap.size) (HFK.out k hkt) h1' (hcell' 0 (by omega)).2 (Nat.le_refl _)
      have PE := fun W u B ku => DetCall (HFK.out k hkt) W u B ku
      have d0 := (hcell' 0 (by omega)).1
      obtain ⟨db1, db2⟩ := det3_bd (edgesF_sq (HFK.out k hkt))
      have HSK := Lib.hid (HS.out k)
      have HPCK := Lib.hid (HPC.out k)
      have HPNK := Lib.hid (HPN.out k hkt)
      have hcap2 : ¬ cap2 = 1 := by omega
      rw [Nat.zero_add] at d0
      have HB4 := Lib.hid B4
      have hsz4 : g < (w3.setCell ⟨g, 0 + k, none⟩ (.slice ax xl cx)).heap.size := by rw [hz4]; exact hgl
      simp only [Nat.zero_add] at ck fk HB4 hz4 hsz4 PD d0
      generalize V' 0 = y00 at *
      generalize det3 (edgesF (ls.set k x)) = dk at *
      clear IQ hV2 B4 bk2 bk hown2 hgrow hat hcell' h1' q0 q1 q2 q3 B3 hgw
      go_wp2_with fail
      generalize hw4 : w3.setCell ⟨g, k, none⟩ (.slice ax xl cx) = w4 at *
      clear hw4
      have Bd : Below w4.heap.size w4 w4.drew := below_draws _ w4 1
      go_region_held3 (fun w' => w'.cell? ⟨g, 0, none⟩ = some y00) (first | exact d0 | exact z0 | exact y0) (first | (go_at_call 162; (with_reducible refine (PD _ Bd Bd.size).mono ?_); rintro e w5 ⟨u, rfl, ku, c2⟩; have B2 := below_then Bd Bd.size c2; have z0 := (B2.cell (p := ⟨g, 0, none⟩) hsz4).trans d0) | (go_at_call 161; (with_reducible refine (PE _ _ _ ku).mono ?_); rintro e w6 ⟨rfl, c3⟩; have B3 := below_then B2 B2.size c3; have y0 := (B3.cell (p := ⟨g, 0, none⟩) hsz4).trans d0))
      have HB6 := Lib.hid (HB4.out.trans (B3.mono HB4.out.size))
      clear z0 y0 B2 c2 c3 ku Bd B3 PD PE d0 ck fk
      have hwn := wr64 (-dk) (by omega)
      by_cases ha : all < 0
      all_goals
        first | (have HSG := Lib.hid (HSK.out.trans (by unfold sgd; rw [if_pos ha])); have hdir : (-dk < 0 ∨ dk = 0 ∨ 0 < -dk) := by omega) | (have HSG := Lib.hid (HSK.out.trans (by unfold sgd; rw [if_neg ha])); have hdir : (dk < 0 ∨ dk = 0 ∨ 0 < dk) := by omega)
        rcases hdir with hdir | hdir | hdir
        · have HRES := Lib.hid (HPNK.out (by rw [HSG.out]; exact hdir))
          clear HSG HSK HPNK HPCK
          go_wp2
          go_ret
          exact ⟨ret_int HRES.out.symm, HB6.out⟩
        · have HPL := Lib.hid (HPCK.out.trans (by rw [HSG.out, if_pos (by omega)]))
          have HNN := Lib.hid (fun i (hi : i < k + 1) => if e : i = k then by rw [e, HSG.out]; omega else hnn.out i (by omega))
          clear HSG HSK HPNK HPCK
          go_wp2
          go_roundw
          case rel => exact ⟨k + 1, 0, by omega, by go_num, rfl, Lib.hid HPL.out.symm, HNN, HB6⟩
          case measure => simp [intOf]; omega
        · have HPL := Lib.hid (HPCK.out.trans (by rw [HSG.out, if_neg (by omega)]))
          have HNN := Lib.hid (fun i (hi : i < k + 1) => if e : i = k then by rw [e, HSG.out]; omega else hnn.out i (by omega))
          clear HSG HSK HPNK HPCK
          go_wp2
          go_roundw
          case rel => exact ⟨k + 1, p, by omega, by go_num, rfl, Lib.hid (by rw [HPL.out]; exact hp.out), HNN, HB6⟩
          case measure => simp [intOf]; omega
    · obtain rfl : k = 4 := by omega
      have HRES := Lib.hid (HPP.out hnn.out)
      go_wp2
      go_ret
      exact ⟨ret_int (by rw [HRES.out]; exact hp.out), hbe.out⟩
end Go.Proofs.Ytfncikbmdaameaa
