/- The hull of points in order: l7Hull. -/
import Derived.Test.YtehhoplenloocaaPut
import Derived.Deep.RegionHeld3
import Derived.Deep.DeepCutAuto
namespace Go.Proofs.Ytehhoplenloocaa
open Go.RowKit
set_option linter.unusedVariables false
set_option linter.unusedSimpArgs false

def Rk (r : List Int) : Prop := r.length = 2 ∧ allIn r (-1000000) 1000000 = true
abbrev VR := Value × List Int
def pv (L : List VR) : List Pt := L.map fun q => ptOf q.2
/-- v is a slice of the call's own, from block B on, of rows that lie below hi -/
def OwnP (w : World) (B hi : Nat) (v : Value) (L : List VR) : Prop :=
  w.ownsRow B 30 1 v L.length (L.map (·.1)) ∧ (∃ g cap, v = .slice (some ⟨g, 0, none⟩) L.length cap) ∧ ∀ q ∈ L, ISr w hi q.1 q.2 ∧ Rk q.2
theorem OwnP.lit0 (w : World) (B hi : Nat) (h : B ≤ w.heap.size) : OwnP (w.alloc (.cells #[] 30)) B hi (.slice (some ⟨w.heap.size, 0, none⟩) 0 0) [] :=
  ⟨World.ownsRow_lit w #[] 0 h (by simp [maxLen]) rfl, ⟨_, _, rfl⟩, fun q hq => by simp at hq⟩
theorem OwnP.kept {w w' : World} {B hi : Nat} {v : Value} {L : List VR} (h : OwnP w B hi v L) (hb : Below w.heap.size w w') (hh : hi ≤ w.heap.size) : OwnP w' B hi v L :=
  ⟨World.ownsRow.kept h.1 (row := none) ⟨hb.os, hb.tape, hb.output, hb.size, fun k hk _ => hb.block k hk⟩ (by cases v.ownBlock <;> simp), h.2.1, fun q hq => ⟨(h.2.2 q hq).1.keep hb hh, (h.2.2 q hq).2⟩⟩
theorem OwnP.lt {w : World} {B hi g cap n : Nat} {L : List VR} (h : OwnP w B hi (.slice (some ⟨g, 0, none⟩) n cap) L) : B ≤ g ∧ g < w.heap.size := World.ownsRow.lt h.1 g rfl
theorem OwnP.cell {w : World} {B hi g cap : Nat} {L : List VR} (h : OwnP w B hi (.slice (some ⟨g, 0, none⟩) L.length cap) L) {i : Nat} {q : VR} (hi' : L[i]? = some q) : w.cell? ⟨g, i, none⟩ = some q.1 := by
  have hl := (List.getElem?_eq_some_iff.1 hi').1
  rw [own_cells h.1 hl, List.getD_eq_getElem?_getD, List.getElem?_map, hi']; rfl
theorem OwnP.take {w : World} {B hi g cap : Nat} {L : List VR} (h : OwnP w B hi (.slice (some ⟨g, 0, none⟩) L.length cap) L) {k : Nat} (hk : k ≤ L.length) : OwnP w B hi (.slice (some ⟨g, 0, none⟩) k cap) (L.take k) := by
  have hl : (L.take k).length = k := by rw [List.length_take]; omega
  refine ⟨?_, ⟨g, cap, by rw [hl]⟩, fun q hq => h.2.2 q (List.mem_of_mem_take hq)⟩
  rw [hl, List.map_take]
  exact own_take h.1 hk
theorem OwnP.push {w w4 : World} {B hi g cap : Nat} {v xv : Value} {x : List Int} {L : List VR} {o : Obj} (h : OwnP w B hi v L) (hx : ISr w hi xv x) (hk : Rk x) (hB : hi ≤ B) (hBw : B ≤ w.heap.size) (hg : (w.alloc o).grownBy w4 v.ownBlock)
    (ho : w4.ownsRow B 30 1 (.slice (some ⟨g, 0, none⟩) (L.length + 1) cap) (L.length + 1) (L.map (·.1) ++ [xv])) : OwnP w4 B hi (.slice (some ⟨g, 0, none⟩) (L.length + 1) cap) (L ++ [(xv, x)]) ∧ Below B w w4 := by
  have hb : Below B w w4 := ((Below.refl B w).alloc hBw o).grown hg (by simp; omega) fun q hq => (World.ownsRow.lt h.1 q hq).1
  refine ⟨⟨by rw [List.length_append, List.map_append]; exact ho, ⟨g, cap, by rw [List.length_append]; rfl⟩, fun q hq => ?_⟩, hb⟩
  rcases List.mem_append.1 hq with hq | hq
  · exact ⟨(h.2.2 q hq).1.keep hb hB, (h.2.2 q hq).2⟩
  · simp at hq; subst hq; exact ⟨hx.keep hb hB, hk⟩
theorem pv_append (a b : List VR) : pv (a ++ b) = pv a ++ pv b := by unfold pv; rw [List.map_append]
theorem pv_reverse (a : List VR) : pv a.reverse = (pv a).reverse := by unfold pv; rw [List.map_reverse]
theorem pv_len (a : List VR) : (pv a).length = a.length := by unfold pv; simp
/-- the points of a pass -/
def passP (ls : List (List Int)) (p : Nat) : List Pt := if p = 0 then ptsOf ls else (ptsOf ls).reverse
def outP (ls : List (List Int)) : Nat → List Pt
  | 0 => []
  | p + 1 => outP ls p ++ (chain (passP ls p)).tail.reverse
theorem outP_two (ls : List (List Int)) : outP ls 2 = hullP (ptsOf ls) := by
  simp [outP, passP, hullP]
theorem chain_step {S : List Pt} {k : Nat} (h : k < S.length) : (S.take (k + 1)).foldl chStep [] = chStep ((S.take k).foldl chStep []) (S.getD k o0) := by
  rw [List.take_succ_eq_append_getElem h, List.foldl_append, List.getD_eq_getElem?_getD, List.getElem?_eq_getElem h]; rfl
theorem passP_len (ls : List (List Int)) (p : Nat) : (passP ls p).length = ls.length := by unfold passP ptsOf; split <;> simp
theorem passP_at0 (ls : List (List Int)) (k : Nat) : (passP ls 0).getD k o0 = ptOf (ls.getD k []) := ptOf_getD ls k
theorem passP_at1 (ls : List (List Int)) (k : Nat) (h : k < ls.length) : (passP ls 1).getD k o0 = ptOf (ls.getD (ls.length - 1 - k) []) := by
  have hl : (ptsOf ls).length = ls.length := by unfold ptsOf; simp
  rw [← ptOf_getD]
  show (ptsOf ls).reverse.getD k o0 = _
  rw [List.getD_eq_getElem?_getD, List.getD_eq_getElem?_getD, List.getElem?_reverse (by rw [hl]; exact h), hl]
def vlen : Value → Nat
  | .slice _ n _ => n
  | _ => 0
theorem take_last {ps : List VR} {st : List VR} {q : Nat} (hq : q = (ps ++ st.reverse).length) (hne : st ≠ []) : (ps ++ st.reverse).take (q - 1) = ps ++ st.tail.reverse := by
  subst hq
  cases st with
  | nil => exact absurd rfl hne
  | cons a st =>
    rw [List.reverse_cons, ← List.append_assoc, List.length_append, List.length_singleton, Nat.add_sub_cancel, List.take_left, List.tail_cons]
theorem at_last {ps st : List VR} {a b : VR} {q : Nat} (hq : q = (ps ++ (b :: a :: st).reverse).length) : (ps ++ (b :: a :: st).reverse)[q - 1]? = some b ∧ (ps ++ (b :: a :: st).reverse)[q - 2]? = some a := by
  subst hq
  have e : ps ++ (b :: a :: st).reverse = (ps ++ st.reverse) ++ [a, b] := by simp
  rw [e, List.length_append]
  constructor
  · rw [List.getElem?_append_right (by simp)]
    simp [Nat.add_sub_cancel_left]
  · rw [List.getElem?_append_right (by simp)]
    simp
theorem pv_cons (a : VR) (st : List VR) : pv (a :: st) = ptOf a.2 :: pv st := rfl
theorem pv_tail (st : List VR) : pv st.tail = (pv st).tail := by cases st <;> rfl
/-- the test of the innermost loop -/
def contB (x : List Int) : List VR → Bool
  | b :: a :: _ => decide (tn (ptOf a.2) (ptOf b.2) (ptOf x) ≤ 0)
  | _ => false
theorem pop_cont {x : List Int} {st : List VR} (h : contB x st = true) : 2 ≤ st.length ∧ st ≠ [] ∧ pop (ptOf x) (pv st.tail) = pop (ptOf x) (pv st) ∧ st.tail ≠ [] := by
  match st, h with
  | b :: a :: r, h =>
    have h' : tn (ptOf a.2) (ptOf b.2) (ptOf x) ≤ 0 := by simpa [contB] using h
    refine ⟨by simp, by simp, ?_, by simp⟩
    rw [List.tail_cons, pv_cons b, pv_cons a, pop_cons2, if_pos h']
theorem pop_stop {x : List Int} {st : List VR} (h : contB x st = false) : pop (ptOf x) (pv st) = pv st := by
  match st, h with
  | b :: a :: r, h =>
    have h' : ¬ tn (ptOf a.2) (ptOf b.2) (ptOf x) ≤ 0 := by simpa [contB] using h
    rw [pv_cons b, pv_cons a, pop_cons2, if_neg h']
  | [b], _ => exact pop_one _ _
  | [], _ => rfl
set_option maxRecDepth 100000 in
set_option maxHeartbeats 16000000 in
theorem l7Hull_any (ls : List (List Int)) (v : Value) (hb : Nat) (w : World) (h : ISSr w hb v ls) (hhb : hb ≤ w.heap.size) (hR : ∀ i, i < ls.length → Rk (ls.getD i [])) (h1 : 1 ≤ ls.length) (hl : ls.length ≤ 1000) :
    Calls Try.prog 163 #[v] w fun e w' => ∃ u L, e = .returned u ∧ OwnP w' w.heap.size hb u L ∧ pv L = hullP (ptsOf ls) ∧ Below w.heap.size w w' := by
  obtain ⟨i0, hi0, hz0, hz1, hz2⟩ := info_parts info_ints
  have HI0 := Lib.hid hi0; clear hi0
  have HZ0 := Lib.hid hz0; clear hz0
  have HZ1 := Lib.hid hz1; clear hz1
  have HZ2 := Lib.hid hz2; clear hz2
  rcases h.cases with ⟨rfl, a, cap, rfl⟩ | ⟨hpos, hlen, b, off, cap, V, rfl, hbb, hcell⟩
  · simp at h1
  obtain ⟨n, hn⟩ : ∃ n, n = ls.length := ⟨_, rfl⟩
  rw [← hn] at hlen hpos h1 hl ⊢
  have HN := Lib.hid hn; clear hn
  have HC := Lib.hid hcell; clear hcell h
  have HR := Lib.hid hR; clear hR
  have HO0 := Lib.hid (OwnP.lit0 w w.heap.size hb (Nat.le_refl _))
  have HB0 := Lib.hid (below1 w (.cells #[] 30))
  go_enter Try.func163, Try.ntmps163
  go_wp2
  go_loopw [3, 4] (fun ov i wr => ∃ (p : Nat) (ps : List VR), p ≤ 2 ∧ i = .int .i64 p ∧ ps.length ≤ 1000 * p ∧ Hid (pv ps = outP ls p) ∧ Hid (OwnP wr w.heap.size hb ov ps) ∧ Hid (Below w.heap.size w wr)) (fun _ i _ => 2 - (intOf i).toNat)
  case atStart => exact ⟨0, [], by omega, rfl, by simp, Lib.hid rfl, HO0, HB0⟩
  case round =>
    obtain ⟨p, ps, hp, rfl, hpl, hps, hown, hbe⟩ := hrel
    by_cases hlt : p < 2
    case neg =>
      obtain rfl : p = 2 := by omega
      have HF := Lib.hid (hps.out.trans (outP_two ls))
      go_wp2
      go_ret
      exact ⟨_, ps, rfl, hown.out, HF.out, hbe.out⟩
    case pos =>
      obtain ⟨g0, cap0, e0, -⟩ : ∃ g cap, u3 = .slice (some ⟨g, 0, none⟩) ps.length cap ∧ True := by obtain ⟨g, c, e⟩ := hown.out.2.1; exact ⟨g, c, e, trivial⟩
      subst e0
      obtain ⟨m, hm⟩ : ∃ m, m = ps.length := ⟨_, rfl⟩
      have HM := Lib.hid hm
      rw [← hm] at hpl
      have hown' := hown.out
      rw [← hm]
      rw [← hm] at hown'
      have HOWN := Lib.hid hown'
      clear hm hown hown'
      have hdec : decide ((p : Int) < 2) = true := by rw [decide_eq_true_eq]; omega
      obtain ⟨wy, hwy⟩ : ∃ wy, wy = wr := ⟨_, rfl⟩
      subst hwy
      go_wp2_with fail
      go_loopw [3, 6] (fun ov i wr => ∃ (k : Nat) (st : List VR), k ≤ n ∧ i = .int .i64 k ∧ st.length ≤ k ∧ Hid (0 < k → st ≠ []) ∧ Hid (pv st = ((passP ls p).take k).foldl chStep []) ∧ Hid (OwnP wr w.heap.size hb ov (ps ++ st.reverse)) ∧ Hid (Below w.heap.size w wr)) (fun _ i _ => n - (intOf i).toNat)
      case atStart => exact ⟨0, [], by omega, rfl, Nat.le_refl _, Lib.hid (fun h => by omega), Lib.hid rfl, Lib.hid (by simpa using HOWN.out), hbe⟩
      case round =>
        obtain ⟨k, st, hk, rfl, hst, HNE, HST, HO, HB⟩ := hrel
        clear HOWN
        by_cases hkn : k < n
        case neg =>
          obtain rfl : k = n := by omega
          have hne := HNE.out (by omega)
          obtain ⟨g, cp, hu⟩ := HO.out.2.1
          obtain ⟨q, hq⟩ : ∃ q, q = (ps ++ st.reverse).length := ⟨_, rfl⟩
          have hqv : q = m + st.length := by rw [hq, HM.out]; simp
          have hsp := List.length_pos_iff.2 hne
          subst hu
          have ho := HO.out
          have TK := ho.take (k := q - 1) (by omega)
          rw [take_last hq hne] at TK
          have hcp : q ≤ cp ∧ cp ≤ 9223372036854775807 := by
            rcases ho.1.2 with ⟨e, -⟩ | ⟨g', cap', cur, e, hb', hg, hn', hc', hs, ht⟩
            · simp at e
            · injection e with e1 e2 e3
              subst e3
              unfold maxLen at hc'
              exact ⟨by rw [hq]; exact hn', by omega⟩
          rw [← hq]
          have HTK := Lib.hid TK
          have HPV := Lib.hid (show pv (ps ++ st.tail.reverse) = outP ls (p + 1) by
            rw [pv_append, pv_reverse, pv_tail, hps.out, HST.out]
            have hl := passP_len ls p
            rw [List.take_of_length_le (by rw [hl, HN.out]; exact Nat.le_refl _)]; rfl)
          have HLN := Lib.hid (show (ps ++ st.tail.reverse).length ≤ 1000 * (p + 1) by
            have := HM.out
            simp; omega)
          obtain ⟨q1, hq1⟩ : ∃ q1 : Nat, (q : Int) - 1 = q1 := ⟨q - 1, by omega⟩
          have hq2 : q - 1 = q1 := by omega
          rw [hq2] at HTK
          have i1 : (0 : Int) ≤ (q1 : Int) := by omega
          have i2 : q1 ≤ cp := by omega
          have i3 : ¬ cp = 0 := by omega
          have i4 : ((q1 : Int)).toNat = q1 := by omega
          clear TK ho hq hqv hsp hne HNE HST HO hq2
          go_wp2
          go_roundw
          case rel => exact ⟨p + 1, ps ++ st.tail.reverse, by omega, by go_num, HLN.out, HPV, HTK, HB⟩
          case measure => simp [intOf]; omega
        case pos =>
          obtain ⟨ix, hix⟩ : ∃ ix, ix = if p = 0 then k else n - 1 - k := ⟨_, rfl⟩
          have hixn : ix < n := by rw [hix]; split <;> omega
          have hixl : ix < ls.length := by rw [← HN.out]; exact hixn
          have HPT := Lib.hid (show (passP ls p).getD k o0 = ptOf (ls.getD ix []) by
            rw [hix]
            rcases (show p = 0 ∨ p = 1 by omega) with rfl | rfl
            · rw [if_pos rfl]; exact passP_at0 ls k
            · rw [if_neg (by omega), HN.out]; exact passP_at1 ls k (by rw [← HN.out]; exact hkn))
          have ck := (HB.out.cell (p := ⟨b, off + k, none⟩) (Nat.lt_of_lt_of_le hbb hhb)).trans (HC.out k (by rw [← HN.out]; exact hkn)).1
          have cx := (HB.out.cell (p := ⟨b, off + ix, none⟩) (Nat.lt_of_lt_of_le hbb hhb)).trans (HC.out ix hixl).1
          have ir := (HC.out ix hixl).2
          have HRX := Lib.hid (HR.out ix hixl)
          obtain ⟨ax, cxx, hvx, -⟩ := id ir
          have HIR := Lib.hid ir
          rw [hvx] at cx
          rw [hvx] at HIR
          have hR2 := HRX.out.1
          rw [hR2] at cx HIR
          clear ir hvx hR2 hixl
          generalize ls.getD ix [] = x at *
          have hdk : decide ((k : Int) < (n : Int)) = true := by rw [decide_eq_true_eq]; omega
          generalize hVk : V k = vk at *
          go_upto_if 26 with fail
          go_cut [7] (fun s wx => s = .slice ax 2 cxx ∧ wr = wx)
          case first =>
            as_aux_lemma =>
              rcases (show p = 0 ∨ p = 1 by omega) with h0 | h0
              · subst h0
                rw [if_pos rfl] at hix
                subst hix
                rw [cx] at ck
                injection ck with ck
                subst ck
                go_wp2_with fail
                go_meet
                exact ⟨rfl, rfl⟩
              · subst h0
                rw [if_neg (by omega)] at hix
                have e1 : (n : Int) - 1 - (k : Int) = (ix : Int) := by omega
                have e2 : (0 : Int) ≤ (ix : Int) := by omega
                have e3 : (ix : Int) < (n : Int) := by omega
                have e4 : (((1 : Nat) : Int) == 1) = true := rfl
                clear hix
                go_wp2_with fail
                go_meet
                exact ⟨rfl, rfl⟩
          case rest =>
            obtain ⟨rfl, rfl⟩ := hcut
            clear ck cx hVk hix hixn
            go_wp2_with fail
            go_loopw [3] (fun ov wr => ∃ (sv : List VR), sv.length ≤ k ∧ Hid (0 < k → sv ≠ []) ∧ Hid (pop (ptOf x) (pv sv) = pop (ptOf x) (pv st)) ∧ Hid (OwnP wr w.heap.size hb ov (ps ++ sv.reverse)) ∧ Hid (Below w.heap.size w wr)) (fun ov _ => vlen ov)
            case atStart => exact ⟨st, hst, HNE, Lib.hid rfl, HO, HB⟩
            case round =>
              clear HO HB
              obtain ⟨sv, hsv, HNV, HPO, HOV, HBV⟩ := hrel
              obtain ⟨g, cp, hu⟩ := HOV.out.2.1
              obtain ⟨q, hq⟩ : ∃ q, q = (ps ++ sv.reverse).length := ⟨_, rfl⟩
              have hqv : q = m + sv.length := by rw [hq, HM.out]; simp
              subst hu
              have hcp : q ≤ cp ∧ cp ≤ 9223372036854775807 := by
                rcases HOV.out.1.2 with ⟨e, -⟩ | ⟨g', cap', cur, e, hb', hg, hn', hc', hs, ht⟩
                · simp at e
                · injection e with e1 e2 e3
                  subst e3
                  unfold maxLen at hc'
                  exact ⟨by rw [hq]; exact hn', by omega⟩
              have HQ := Lib.hid hq
              have hov := HOV.out
              have hlg := hov.lt
              rw [← hq] at hov
              rw [← hq]
              have HOQ := Lib.hid hov
              clear hov HOV hq
              have hwz := HBV.out.size
              go_upto_region 12 with fail
              go_cut [56] (fun s wx => s = .bool (contB x sv) ∧ Hid (Below wr.heap.size wr wx))
              case first =>
                as_aux_lemma =>
                  by_cases h2 : 2 ≤ sv.length
                  · obtain ⟨bq, aq, rs, rfl⟩ : ∃ bq aq rs, sv = bq :: aq :: rs := by
                      match sv, h2 with
                      | bq :: aq :: rs, _ => exact ⟨bq, aq, rs, rfl⟩
                    have hov := HOQ.out
                    have al := at_last HQ.out
                    rw [HQ.out] at hov
                    have k1 := hov.cell al.1
                    have k2 := hov.cell al.2
                    have ra := hov.2.2 aq (by simp)
                    have rb := hov.2.2 bq (by simp)
                    obtain ⟨a1, q1, e1, -⟩ := id ra.1
                    obtain ⟨a2, q2, e2, -⟩ := id rb.1
                    rw [ra.2.1] at e1
                    rw [rb.2.1] at e2
                    rw [e1] at k2
                    rw [e2] at k1
                    have TT := fun W (B : Below wr.heap.size wr W) => l7Turn_any aq.2 bq.2 x _ _ (.slice ax 2 cxx) hb W (ra.1.keep B (by omega)) (rb.1.keep B (by omega)) ((HIR.out.keep HBV.out hhb).keep B (by omega)) (by have := B.size; omega) ra.2.1 rb.2.1 HRX.out.1 ra.2.2 rb.2.2 HRX.out.2
                    rw [e1, e2] at TT
                    have HCN := Lib.hid (show contB x (bq :: aq :: rs) = decide (tn (ptOf aq.2) (ptOf bq.2) (ptOf x) ≤ 0) from rfl)
                    generalize tn (ptOf aq.2) (ptOf bq.2) (ptOf x) = t at *
                    have hql : (m : Int) + 2 ≤ (q : Int) := by simp at hqv; omega
                    obtain ⟨y1, hy1⟩ : ∃ y1 : Nat, (q : Int) - 1 = y1 := ⟨q - 1, by omega⟩
                    obtain ⟨y2, hy2⟩ : ∃ y2 : Nat, (q : Int) - 2 = y2 := ⟨q - 2, by omega⟩
                    rw [show q - 1 = y1 by omega] at k1
                    rw [show q - 2 = y2 by omega] at k2
                    have i1 : (y1 : Int) < (q : Int) := by omega
                    have i2 : (y2 : Int) < (q : Int) := by omega
                    have i3 : (0 : Int) ≤ (y1 : Int) := by omega
                    have i4 : (0 : Int) ≤ (y2 : Int) := by omega
                    have i5 : decide ((m : Int) + 2 ≤ (q : Int)) = true := by rw [decide_eq_true_eq]; exact hql
                    have v1 := wr64 ((m : Int) + 2) (by omega)
                    have v2 := wr64 (y1 : Int) (by omega)
                    have v3 := wr64 (y2 : Int) (by omega)
                    have v4 : IntKind.i64.wrap ((q : Int) - 1) = y1 := by rw [hy1]; exact v2
                    have v5 : IntKind.i64.wrap ((q : Int) - 2) = y2 := by rw [hy2]; exact v3
                    have v6 : ((y1 : Int)).toNat = y1 := by omega
                    have v7 : ((y2 : Int)).toNat = y2 := by omega
                    have hBd : Below wr.heap.size wr wr.drew := below_draws wr.heap.size wr 1
                    have TT1 := TT wr.drew hBd
                    have lg := hlg.2
                    have K1 := Lib.hid k1
                    have K2 := Lib.hid k2
                    clear hov al ra rb e1 e2 hqv HOQ HQ HNV HPO hsv
                    go_region_held3 (fun w' => w'.cell? ⟨g, y1, none⟩ = some (.slice a2 2 q2) ∧ w'.cell? ⟨g, y2, none⟩ = some (.slice a1 2 q1))
                      (first | exact ⟨k1, k2⟩ | exact ⟨z1, z2⟩ | go_keep)
                      ((go_at_call 165; (with_reducible refine TT1.mono ?_); rintro e w8 ⟨rfl, c8⟩; have BB := below_then (below_draws wr.heap.size wr 1) (Nat.le_refl _) c8; have z1 := (BB.cell (p := ⟨g, y1, none⟩) lg).trans K1.out; have z2 := (BB.cell (p := ⟨g, y2, none⟩) lg).trans K2.out))
                    go_wp2_with fail
                    go_meet
                    exact ⟨congrArg Value.bool HCN.out.symm, Lib.hid BB⟩
                  · have hcf : contB x sv = false := by
                      match sv, h2 with
                      | [], _ => rfl
                      | [b], _ => rfl
                      | a :: b :: r, h2 => exact absurd (by simp) h2
                    have HCF := Lib.hid hcf
                    have i5 : decide ((m : Int) + 2 ≤ (q : Int)) = false := by rw [decide_eq_false_iff_not]; omega
                    have i6 : ¬ ((m : Int) + 2 ≤ (q : Int)) := by omega
                    have v1 := wr64 ((m : Int) + 2) (by omega)
                    clear hcf h2 hqv
                    go_quiet (fail)
                    go_wp2_with fail
                    go_meet
                    exact ⟨congrArg Value.bool HCF.out.symm, Lib.hid (below_draws wr.heap.size wr nq)⟩
              case rest =>
                obtain ⟨rfl, HC5⟩ := hcut
                have HB5 := Lib.hid (below_then HBV.out HBV.out.size HC5.out)
                have HO5 := Lib.hid (HOQ.out.kept HC5.out (by omega))
                have hws := HC5.out.size
                have hls : w.heap.size ≤ wc.heap.size := by omega
                cases hcb : contB x sv
                case true =>
                  obtain ⟨p1, p2, p3, p4⟩ := pop_cont hcb
                  have ho := HO5.out
                  have hq' := HQ.out
                  rw [hq'] at ho
                  have TK := ho.take (k := q - 1) (by omega)
                  rw [take_last hq' p2] at TK
                  have HTK := Lib.hid TK
                  have HPO2 := Lib.hid (p3.trans HPO.out)
                  have HNV2 := Lib.hid (show 0 < k → sv.tail ≠ [] from fun _ => p4)
                  have hln : sv.tail.length ≤ k := by simp; omega
                  obtain ⟨y1, hy1⟩ : ∃ y1 : Nat, (q : Int) - 1 = y1 := ⟨q - 1, by omega⟩
                  rw [show q - 1 = y1 by omega] at HTK
                  have i1 : (0 : Int) ≤ (y1 : Int) := by omega
                  have i2 : y1 ≤ cp := by omega
                  have i3 : ¬ cp = 0 := by omega
                  have i4 : ((y1 : Int)).toNat = y1 := by omega
                  have i5 : y1 < q := by omega
                  clear TK ho hq' p1 p2 p3 p4 hcb HPO HNV HOQ HO5 HQ hqv
                  go_wp2
                  go_roundw
                  case rel => exact ⟨sv.tail, hln, HNV2, HPO2, HTK, HB5⟩
                  case measure => simp [vlen]; omega
                case false =>
                  have hst2 := pop_stop hcb
                  have HST2 := Lib.hid (show pv ((Value.slice ax 2 cxx, x) :: sv) = ((passP ls p).take (k + 1)).foldl chStep [] by
                    rw [chain_step (by rw [passP_len, ← HN.out]; exact hkn), ← HST.out, HPT.out]
                    show ptOf x :: pv sv = ptOf x :: pop (ptOf x) (pv st)
                    rw [← HPO.out, hst2])
                  have ho := HO5.out
                  have how := ho.1
                  rw [← HQ.out] at how
                  have HOW := Lib.hid how
                  clear how
                  have hqb : q ≤ 100000 := by omega
                  have HQV := Lib.hid hqv
                  clear hst2 hcb hqv
                  go_wp2_with (at_builtin; refine wpList_append_lies _ rfl _ _ _ rfl w.heap.size 30 i0 _ 1 24 Try.underlying24 HI0.out HZ0.out HZ1.out HZ2.out rfl (by omega) (.slice (some ⟨g, 0, none⟩) q cp) q ((ps ++ sv.reverse).map (·.1)) rfl (World.ownsRow.alloc HOW.out _) ⟨wc.heap.size, 0, none⟩ 1 1 [.slice ax 2 cxx] rfl rfl (World.news_of_block (cs := #[.slice ax 2 cxx]) (t := 30) (fr := (0, 0)) (heap_alloc_new wc _)) (by simp [Value.oneCell']) (by omega) (by unfold maxLen; omega) (by omega) (by simp; omega) (wc.heap.size + 1) (by simp) ?_)
                  intro gg cap4 w4 hown4 hgrow hat hlt4
                  have hown5 : w4.ownsRow w.heap.size 30 1 (.slice (some ⟨gg, 0, none⟩) ((ps ++ sv.reverse).length + 1) cap4) ((ps ++ sv.reverse).length + 1) ((ps ++ sv.reverse).map (·.1) ++ [.slice ax 2 cxx]) := by
                    have g := hown4
                    rw [HQ.out] at g
                    have e : List.map (fun x => x.fst) (ps ++ sv.reverse) ++ [Value.slice ax 2 cxx] = List.map (fun x => x.fst) ps ++ ((List.map (fun x => x.fst) sv).reverse ++ [Value.slice ax 2 cxx]) := by simp
                    rw [e]; exact g
                  have PSH := ho.push (HIR.out.keep HB5.out hhb) HRX.out hhb hls hgrow hown5
                  rw [← HQ.out] at PSH
                  have HO6 := Lib.hid (show OwnP w4 w.heap.size hb (.slice (some ⟨gg, 0, none⟩) (q + 1) cap4) (ps ++ ((Value.slice ax 2 cxx, x) :: sv).reverse) by rw [List.reverse_cons, ← List.append_assoc]; exact PSH.1)
                  have HB6 := Lib.hid (HB5.out.trans PSH.2)
                  clear PSH hown5 hown4 hgrow hat hlt4 ho HOW HOQ HO5 HQ HQV HPO HNV HST HNE
                  go_wp2
                  go_roundw
                  case rel => exact ⟨k + 1, (Value.slice ax 2 cxx, x) :: sv, by omega, by go_num, by simp; omega, Lib.hid (fun _ => by simp), HST2, HO6, HB6⟩
                  case measure => simp [intOf]; omega
end Go.Proofs.Ytehhoplenloocaa
