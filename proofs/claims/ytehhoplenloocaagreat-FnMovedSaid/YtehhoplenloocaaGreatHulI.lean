/- HullOf of the program: the walk. -/
import Derived.Test.YtehhoplenloocaaGreatSrt
import Derived.Test.YtehhoplenloocaaGreatB11
import Derived.Deep.DeepCutAuto
import Derived.Deep.RegionHeld3
namespace Go.Proofs.YtehhoplenloocaaGreat
open Go.RowKit
open Go.Sort (Holds)
set_option linter.unusedVariables false
set_option linter.unusedSimpArgs false

theorem pop_mem {x z : Pt} {st : List Pt} (h : z ∈ pop x st) : z ∈ st := by
  obtain ⟨q, e⟩ := pop_suffix x st
  rw [e]; exact List.mem_append_right _ h
theorem chainF_mem {z : Pt} : ∀ (S st : List Pt), z ∈ S.foldl chStep st → z ∈ st ∨ z ∈ S
  | [], st, h => .inl h
  | x :: S, st, h => by
    rcases chainF_mem S (chStep st x) h with g | g
    · unfold chStep at g
      rcases List.mem_cons.1 g with e | g
      · exact .inr (by rw [e]; simp)
      · exact .inl (pop_mem g)
    · exact .inr (List.mem_cons_of_mem _ g)
theorem hullP_sub {S : List Pt} {z : Pt} (h : z ∈ hullP S) : z ∈ S := by
  unfold hullP chain at h
  rcases List.mem_append.1 h with g | g
  · rcases chainF_mem _ _ (List.mem_of_mem_tail (List.mem_reverse.1 g)) with k | k
    · cases k
    · exact k
  · rcases chainF_mem _ _ (List.mem_of_mem_tail (List.mem_reverse.1 g)) with k | k
    · cases k
    · exact List.mem_reverse.1 k
theorem take_lastR {ps : List (List Int)} {st : List (List Int)} {q : Nat} (hq : q = (ps ++ st.reverse).length) (hne : st ≠ []) : (ps ++ st.reverse).take (q - 1) = ps ++ st.tail.reverse := by
  subst hq
  cases st with
  | nil => exact absurd rfl hne
  | cons a st =>
    rw [List.reverse_cons, ← List.append_assoc, List.length_append, List.length_singleton, Nat.add_sub_cancel, List.take_left, List.tail_cons]
theorem at_lastR {ps st : List (List Int)} {a b : List Int} {q : Nat} (hq : q = (ps ++ (b :: a :: st).reverse).length) : (ps ++ (b :: a :: st).reverse).getD (q - 1) [] = b ∧ (ps ++ (b :: a :: st).reverse).getD (q - 2) [] = a := by
  subst hq
  have e : ps ++ (b :: a :: st).reverse = (ps ++ st.reverse) ++ [a, b] := by simp
  rw [e, List.length_append, List.getD_eq_getElem?_getD, List.getD_eq_getElem?_getD]
  constructor
  · rw [List.getElem?_append_right (by simp)]
    simp [Nat.add_sub_cancel_left]
  · rw [List.getElem?_append_right (by simp)]
    simp
theorem ptsOf_cons (a : List Int) (st : List (List Int)) : ptsOf (a :: st) = ptOf a :: ptsOf st := rfl
theorem ptsOf_tail (st : List (List Int)) : ptsOf st.tail = (ptsOf st).tail := by cases st <;> rfl
theorem ptsOf_rev (st : List (List Int)) : ptsOf st.reverse = (ptsOf st).reverse := by unfold ptsOf; rw [List.map_reverse]
/-- the test of the innermost loop -/
def contR (x : List Int) : List (List Int) → Bool
  | b :: a :: _ => decide (tn (ptOf a) (ptOf b) (ptOf x) ≤ 0)
  | _ => false
theorem popR_cont {x : List Int} {st : List (List Int)} (h : contR x st = true) : 2 ≤ st.length ∧ st ≠ [] ∧ pop (ptOf x) (ptsOf st.tail) = pop (ptOf x) (ptsOf st) ∧ st.tail ≠ [] := by
  match st, h with
  | b :: a :: r, h =>
    have h' : tn (ptOf a) (ptOf b) (ptOf x) ≤ 0 := by simpa [contR] using h
    refine ⟨by simp, by simp, ?_, by simp⟩
    rw [List.tail_cons, ptsOf_cons b, ptsOf_cons a, pop_cons2, if_pos h']
theorem popR_stop {x : List Int} {st : List (List Int)} (h : contR x st = false) : pop (ptOf x) (ptsOf st) = ptsOf st := by
  match st, h with
  | b :: a :: r, h =>
    have h' : ¬ tn (ptOf a) (ptOf b) (ptOf x) ≤ 0 := by simpa [contR] using h
    rw [ptsOf_cons b, ptsOf_cons a, pop_cons2, if_neg h']
  | [b], _ => exact pop_one _ _
  | [], _ => rfl
def dAt {n : Nat} (d : Array (Fin n)) (p : Nat) : Array (Fin n) := if p % 2 = 0 then d else d.reverse
theorem dAt_size {n : Nat} (d : Array (Fin n)) (p : Nat) : (dAt d p).size = d.size := by unfold dAt; split <;> simp
theorem dAt_next {n : Nat} (d : Array (Fin n)) (p : Nat) : (dAt d p).reverse = dAt d (p + 1) := by
  unfold dAt
  rcases (show p % 2 = 0 ∨ p % 2 = 1 by omega) with h | h
  · rw [if_pos h, if_neg (by omega)]
  · rw [if_neg (by omega), if_pos (by omega), Array.reverse_reverse]
theorem passP_dAt {n : Nat} (rows : Fin n → List Int) (d : Array (Fin n)) (p : Nat) (hp : p < 2) : passP (rowsD rows d) p = ptsOf (rowsD rows (dAt d p)) := by
  unfold passP dAt
  rcases (show p = 0 ∨ p = 1 by omega) with rfl | rfl
  · simp
  · simp [rowsD_rev, ptsOf_rev]
theorem rowsD_at {n : Nat} [Inhabited (Fin n)] (rows : Fin n → List Int) (d : Array (Fin n)) (k : Nat) (hk : k < d.size) : (rowsD rows d).getD k [] = rows d[k]! := by
  unfold rowsD
  rw [List.getD_eq_getElem?_getD, List.getElem?_map, Array.getElem?_toList, Array.getElem?_eq_getElem hk, getElem!_pos d k hk]; rfl
theorem hullOk_no {ls : List (List Int)} (h : hullOk ls = false) : hullV ls = ([], false) := by unfold hullV; rw [h]; rfl
theorem hullOk_yes {ls : List (List Int)} (h : hullOk ls = true) : hullV ls = (hullR ls, true) := by unfold hullV; rw [h]; rfl

theorem OwnL.form0 {w : World} {B : Nat} {v : Value} {ls : List (List Int)} (h : OwnL w B v ls) : ∃ a c, v = .slice a ls.length c := by
  obtain ⟨V, p, h1, -⟩ := h
  rcases h1.2 with ⟨rfl, h0⟩ | ⟨g, cap, cur, rfl, -⟩
  · exact ⟨none, 0, by rw [h0]⟩
  · exact ⟨_, _, rfl⟩
theorem OwnL.formG {w : World} {B : Nat} {v : Value} {ls : List (List Int)} (h : OwnL w B v ls) (hl : 0 < ls.length) : ∃ g cap, v = .slice (some ⟨g, 0, none⟩) ls.length cap ∧ B ≤ g ∧ g < w.heap.size ∧ ls.length ≤ cap ∧ cap ≤ 9223372036854775807 := by
  obtain ⟨V, p, h1, -⟩ := h
  rcases h1.2 with ⟨-, h0⟩ | ⟨g, cap, cur, rfl, hg, hh, hn, hc, -⟩
  · omega
  · unfold maxLen at hc
    exact ⟨g, cap, rfl, hg, (World.ownsRow.lt h1 g rfl).2, hn, by omega⟩
theorem OwnL.takeN {w : World} {B g cap n : Nat} {ls : List (List Int)} (h : OwnL w B (.slice (some ⟨g, 0, none⟩) n cap) ls) (hn : n = ls.length) {k : Nat} (hk : k ≤ n) : OwnL w B (.slice (some ⟨g, 0, none⟩) k cap) (ls.take k) := by
  subst hn; exact h.takeK hk
theorem OwnL.cellN {w : World} {B g cap n : Nat} {ls : List (List Int)} (h : OwnL w B (.slice (some ⟨g, 0, none⟩) n cap) ls) (hn : n = ls.length) {i : Nat} (hi : i < n) : ∃ u, w.cell? ⟨g, i, none⟩ = some u ∧ ISr w w.heap.size u (ls.getD i []) := by
  subst hn; exact h.cellK hi
theorem grownG_below {w2 wy wr : World} {g : Nat} (h : w2.grownBy wy (some g)) (hb : Below w2.heap.size wy wr) : w2.grownBy wr (some g) :=
  ⟨hb.os.trans h.os, hb.tape.trans h.tape, hb.output.trans h.output, Nat.le_trans h.size hb.size, fun k hk hne => (hb.block k hk).trans (h.block k hk hne)⟩
theorem grownG_trans {w2 wy wr : World} {g : Nat} (h : w2.grownBy wy (some g)) (hb : wy.grownBy wr (some g)) : w2.grownBy wr (some g) :=
  ⟨hb.os.trans h.os, hb.tape.trans h.tape, hb.output.trans h.output, Nat.le_trans h.size hb.size, fun k hk hne => (hb.block k (Nat.lt_of_lt_of_le hk h.size) hne).trans (h.block k hk hne)⟩
set_option maxRecDepth 100000 in
set_option maxHeartbeats 16000000 in
theorem implHullOf_any (ls : List (List Int)) (v : Value) (hb : Nat) (w : World) (h : ISSr w hb v ls) (hhb : hb ≤ w.heap.size) (h1 : 1 ≤ ls.length) (h200 : ls.length ≤ 200) :
    Calls Tryz.prog 30 #[v] w fun e w' => ∃ u, e = .returned (.tuple #[u, .bool (hullV ls).2]) ∧ ISS w' w.heap.size w'.heap.size u (hullV ls).1 ∧ Below w.heap.size w w' := by
  obtain ⟨i0, hi0, hz0, hz1, hz2⟩ := info_parts info_ints
  have HI0 := Lib.hid hi0; clear hi0
  have HZ0 := Lib.hid hz0; clear hz0
  have HZ1 := Lib.hid hz1; clear hz1
  have HZ2 := Lib.hid hz2; clear hz2
  rcases h.cases with ⟨rfl, a, cap, rfl⟩ | ⟨hpos, hlen, b, off, cap, V0, rfl, hbb, hcell⟩
  · simp at h1
  have HBAD := Lib.hid (fun k (hk : k < ls.length) (h : ptB (ls.getD k []) 50 = false) => hullOk_no (ls := ls) (by unfold hullOk; rw [flatB_no hk h]; simp))
  have HST0 := Lib.hid (fun k (hk : k < ls.length) => flatK_step ls 50 k hk)
  have HFUL := Lib.hid (flatK_full ls 50)
  have H := Lib.hid h
  obtain ⟨n, hn⟩ : ∃ n, n = ls.length := ⟨_, rfl⟩
  rw [← hn] at hlen hpos h1 h200 H HBAD HST0 HFUL ⊢
  have HN := Lib.hid hn
  have HC := Lib.hid hcell
  clear hn h hcell
  have hd200 : ¬ (200 : Int) < (n : Int) := by omega
  go_enter Tryz.func30, Tryz.ntmps30
  go_wp2
  go_loop [5, 17] (fun _ i => ∃ k : Nat, k ≤ n ∧ i = .int .i64 k ∧ Hid (flatK ls 50 k = true)) (fun _ i => n - (intOf i).toNat)
  case atStart => exact ⟨0, by omega, rfl, Lib.hid rfl⟩
  case round =>
    obtain ⟨k, hk, rfl, HALL⟩ := hrel
    by_cases hlt : k < n
    · obtain ⟨hc, hrow⟩ := HC.out k (by rw [← HN.out]; exact hlt)
      have Q := isPoint_any (ls.getD k []) (V0 k) 50 hb w hrow (by omega) (by omega)
      have HS := Lib.hid (HST0.out k hlt)
      have HNO := Lib.hid (HBAD.out k hlt)
      clear hrow
      generalize V0 k = vk at *
      cases hs : ptB (ls.getD k []) 50
      · rw [hs] at Q
        have HR := Lib.hid (HNO.out hs)
        clear hs
        go_wp2_with (go_at_call 48; (with_reducible refine Q.mono ?_); rintro e w' ⟨rfl, rfl⟩)
        go_ret2
        rw [HR.out]
        exact ⟨_, rfl, ISS.nil _ _ _, Below.refl _ _⟩
      · rw [hs] at Q
        have HK := Lib.hid (show flatK ls 50 (k + 1) = true by rw [HS.out, HALL.out, hs]; rfl)
        clear hs
        go_wp2_with (go_at_call 48; (with_reducible refine Q.mono ?_); rintro e w' ⟨rfl, rfl⟩)
        go_round
        case rel => exact ⟨k + 1, by omega, by go_num, HK⟩
        case measure => simp [intOf]; omega
    obtain rfl : k = n := by omega
    have hf : flatB ls 50 = true := by rw [← HFUL.out]; exact HALL.out
    have HRK := Lib.hid (fun i (hi : i < ls.length) => pt_ok (flatB_at hf i hi))
    have HOKH := Lib.hid (show hullOk ls = inB (hullR ls).length 3 12 by unfold hullOk; rw [hf, decide_eq_true (show ls.length ≤ 200 by rw [← HN.out]; exact h200)]; rfl)
    have HFL := Lib.hid (fun i (hi : i < ls.length) => flat_at hf hi)
    have CP := copyPoints_any ls (.slice (some ⟨b, off, none⟩) k cap) hb w H.out hhb (by rw [← HN.out]; omega) (fun i hi => by rw [(HFL.out i hi).1]; omega)
    clear HALL HST0 HBAD HFUL hlt hk HC
    go_wp2_with fail
    with_reducible refine CP.mono ?_
    rintro e w1 ⟨u, rfl, ku, c1⟩
    obtain ⟨g, cpu, V, rfl, hcpu, hcpm, hgB, hgw, hra, hdd⟩ := ku.holds (by rw [← HN.out]; exact hpos)
    have hN0 : 0 < ls.length := by rw [← HN.out]; exact hpos
    letI : Inhabited (Fin ls.length) := ⟨⟨0, hN0⟩⟩
    obtain ⟨d, hds, hhd, hdm⟩ := hdd
    have SO := sort_any HN.out hN0 (by rw [← HN.out]; omega) V (fun i => ls.getD i.val []) g cpu d w1 hra (fun i => (HFL.out i.val i.isLt).1) hds hhd hgw
    have B1 := Lib.hid c1
    have HRA1 := Lib.hid hra
    rw [← HN.out] at hcpu ⊢
    clear ku c1 CP hhd hra
    go_wp2_with fail
    with_reducible refine SO.mono ?_
    rintro e w2 ⟨rfl, d', hd's, hh', hpw, hmem, hgr⟩
    have hw12 := hgr.size
    have HRA := Lib.hid (fun i => (HRA1.out i).grown hgr)
    have B2 := Lib.hid (B1.out.trans (grown_belowG hgr B1.out.size hgB))
    have HH0 := Lib.hid hh'
    have hg2 : g < w2.heap.size := by omega
    have HD := Lib.hid hd's
    obtain ⟨A, hA⟩ : ∃ A, A = rowsD (fun i : Fin ls.length => ls.getD i.val []) d' := ⟨_, rfl⟩
    have hmemA : ∀ z, z ∈ ptsOf A ↔ z ∈ srtP (ptsOf ls) := by
      intro z
      rw [srtP_mem, hA]
      unfold ptsOf rowsD
      rw [List.map_map, List.mem_map, List.mem_map]
      constructor
      · rintro ⟨i, -, rfl⟩
        refine ⟨ls.getD i.val [], ?_, rfl⟩
        rw [List.getD_eq_getElem?_getD, List.getElem?_eq_getElem i.isLt]; exact List.getElem_mem _
      · rintro ⟨r, hr, rfl⟩
        obtain ⟨i, hi, rfl⟩ := List.getElem_of_mem hr
        refine ⟨⟨i, hi⟩, (hmem _).2 (hdm _), ?_⟩
        show ptOf (ls.getD i []) = _
        rw [List.getD_eq_getElem?_getD, List.getElem?_eq_getElem hi]; rfl
    rw [← hA] at hpw
    have HDUP := Lib.hid (hull_dup hpw (srtP_pair (ptsOf ls)) hmemA)
    have HA := Lib.hid hA
    have HAL : A.length = k := by rw [hA, rowsD_len, hd's, HN.out]
    have HAL := Lib.hid HAL
    clear SO hd's hh' hpw hmem hgr hmemA hA hdm hds HRA1
    have HB0 := Lib.hid (Below.refl w2.heap.size w2)
    have HO0 := Lib.hid (OwnL.nil w2 w2.heap.size (Nat.le_refl _))
    clear HO0 HB0
    go_wp2
    go_loopw [7, 8] (fun ov i wr => ∃ (p : Nat) (ps : List (List Int)), p ≤ 2 ∧ i = .int .i64 p ∧ ps.length ≤ 1000 * p ∧ Hid (ptsOf ps = outP A p) ∧ Hid (∀ r, r ∈ ps → Rk r) ∧ Hid (OwnL wr w2.heap.size ov ps) ∧ Hid (Holds V wr g 0 (dAt d' p)) ∧ Hid (w2.grownBy wr (some g))) (fun _ i _ => 2 - (intOf i).toNat)
    case atStart => exact ⟨0, [], by omega, rfl, by simp, Lib.hid rfl, Lib.hid (fun r hr => by simp at hr), Lib.hid (OwnL.nil w2 w2.heap.size (Nat.le_refl _)), HH0, Lib.hid (World.grownBy.refl _ _)⟩
    case round =>
      obtain ⟨p, ps, hp, rfl, hpl, hps, HRKS, hown, HH, HG⟩ := hrel
      have hzr := HG.out.size
      by_cases hlt : p < 2
      case neg =>
        obtain rfl : p = 2 := by omega
        have hpts : ptsOf ps = hullP (ptsOf A) := hps.out.trans (outP_two A)
        have hrows : ps = (ptsOf ps).map rowP := by
          unfold ptsOf
          rw [List.map_map]
          conv => lhs; rw [← List.map_id ps]
          exact List.map_congr_left fun r hr => (row_pt (HRKS.out r hr).1).symm
        have hB9 : Below w.heap.size w wr := B2.out.trans (grown_belowG HG.out (Nat.le_trans B1.out.size hw12) hgB)
        have IQ := implIsPolygon_any ps u7 wr.heap.size wr hown.out.is.read (Nat.le_refl _)
        have hlow : w.heap.size ≤ w2.heap.size := Nat.le_trans B1.out.size hw12
        have HHV : Hid (isPolyB ps = true ∧ hullV ls = (ps, true) ∨ isPolyB ps = false ∧ hullV ls = ([], false)) := by
          apply Lib.hid
          by_cases h2 : 2 ≤ (srtP (ptsOf ls)).length
          · have e1 : ptsOf ps = hullP (srtP (ptsOf ls)) := hpts.trans (HDUP.out.1 h2)
            have e2 : ps = hullR ls := by rw [hrows, e1]; rfl
            cases hq : isPolyB ps
            · right
              refine ⟨rfl, hullOk_no ?_⟩
              rw [HOKH.out]
              cases hi : inB (hullR ls).length 3 12
              · rfl
              exfalso
              have hi' := inB_iff.1 hi
              have hfl : flatB ps 50 = true := by
                unfold flatB
                rw [List.all_eq_true]
                intro r hr
                have hz : ptOf r ∈ hullP (srtP (ptsOf ls)) := by
                  rw [← e1]; exact List.mem_map.2 ⟨r, hr, rfl⟩
                have hz2 := hullP_sub hz
                rw [srtP_mem] at hz2
                obtain ⟨s, hs, e3⟩ := List.mem_map.1 hz2
                obtain ⟨i, hi2, rfl⟩ := List.getElem_of_mem hs
                have := flatB_at hf i hi2
                rw [List.getD_eq_getElem?_getD, List.getElem?_eq_getElem hi2] at this
                rw [pt_inj (HRKS.out r hr).1 (ptB_len this).1 e3.symm]
                exact this
              have h3 : 3 ≤ (hullP (srtP (ptsOf ls))).length := by
                have : (hullR ls).length = (hullP (srtP (ptsOf ls))).length := by unfold hullR; simp
                omega
              have hloc := hullP_loc (srtP_pair (ptsOf ls)) h3
              have hpl2 : isPolyB ps = true := by
                have hl3 : ps.length = (hullP (srtP (ptsOf ls))).length := by rw [← e1]; unfold ptsOf; simp
                unfold isPolyB
                rw [hfl, e2, hi]
                rw [← e2]
                have hpf : pf ps = fun i => (hullP (srtP (ptsOf ls))).getD i o0 := by
                  funext i
                  unfold pf
                  rw [← ptOf_getD, e1]
                rw [hpf, hl3, (locB_iff h3).2 hloc]; rfl
              rw [hpl2] at hq; cases hq
            · left
              refine ⟨rfl, ?_⟩
              rw [hullOk_yes, e2]
              rw [HOKH.out, ← e2, inB_iff]
              have := isPoly_parts hq
              omega
          · right
            have e1 : (ptsOf ps).length < 3 := by rw [hpts]; exact HDUP.out.2 (by omega)
            have e2 : ps.length < 3 := by unfold ptsOf at e1; simpa using e1
            constructor
            · cases hq : isPolyB ps
              · rfl
              · have := (isPoly_parts hq).1; omega
            · apply hullOk_no
              rw [HOKH.out, inB_not]
              have := hullR_short (ls := ls) (by omega)
              omega
        clear hrows hpts HDUP HRA HFL HRK HOKH hf
        rcases HHV.out with ⟨hq, hv⟩ | ⟨hq, hv⟩
        · rw [hq] at IQ
          have HV := Lib.hid hv
          clear hq hv HHV
          go_wp2_with (go_at_call 28; (with_reducible refine IQ.mono ?_); rintro e w9 ⟨rfl, c9⟩)
          go_ret2
          rw [HV.out]
          exact ⟨_, rfl, (hown.out.is.keep c9 (Nat.le_refl _)).mono hlow c9.size, below_then hB9 hB9.size c9⟩
        · rw [hq] at IQ
          have HV := Lib.hid hv
          clear hq hv HHV
          go_wp2_with (go_at_call 28; (with_reducible refine IQ.mono ?_); rintro e w9 ⟨rfl, c9⟩)
          go_ret2
          rw [HV.out]
          exact ⟨_, rfl, ISS.nil _ _ _, below_then hB9 hB9.size c9⟩
      case pos =>
        obtain ⟨a0, cap0, e0⟩ := hown.out.form0
        subst e0
        obtain ⟨m, hm⟩ : ∃ m, m = ps.length := ⟨_, rfl⟩
        have HM := Lib.hid hm
        rw [← hm] at hpl
        have hown' := hown.out
        rw [← hm]
        rw [← hm] at hown'
        have HOWN := Lib.hid hown'
        clear hm hown hown' HDUP HOKH hf
        have hdec : decide ((p : Int) < 2) = true := by rw [decide_eq_true_eq]; omega
        obtain ⟨wy, hwy⟩ : ∃ wy, wy = wr := ⟨_, rfl⟩
        subst hwy
        have hk200 : k ≤ 200 := h200
        have hHdec : Holds V wy g 0 (dAt d' p) := HH.out
        go_wp2_with fail
        go_loopw [7, 11, 37] (fun ov _ i wr => ∃ (j : Nat) (st : List (List Int)), j ≤ k ∧ i = .int .i64 j ∧ st.length ≤ j ∧ Hid (0 < j → st ≠ []) ∧ Hid (ptsOf st = ((passP A p).take j).foldl chStep []) ∧ Hid (∀ r, r ∈ st → Rk r) ∧ Hid (OwnL wr w2.heap.size ov (ps ++ st.reverse)) ∧ Hid (Below w2.heap.size wy wr)) (fun _ _ i _ => k - (intOf i).toNat)
        case atStart => exact ⟨0, [], by omega, rfl, Nat.le_refl _, Lib.hid (fun h => by omega), Lib.hid rfl, Lib.hid (fun r hr => by simp at hr), Lib.hid (by simpa using HOWN.out), Lib.hid (Below.refl _ _)⟩
        case round =>
          obtain ⟨j, st, hj, rfl, hst, HNE, HST, HRS, HO, HB⟩ := hrel
          clear HOWN hHdec
          have hwyr := HB.out.size
          by_cases hjk : j < k
          case neg =>
            obtain rfl : j = k := by omega
            have hne := HNE.out (by omega)
            obtain ⟨q, hq⟩ : ∃ q, q = (ps ++ st.reverse).length := ⟨_, rfl⟩
            have hqv : q = m + st.length := by rw [hq, HM.out]; simp
            have hsp := List.length_pos_iff.2 hne
            obtain ⟨g', cp, hu, hg1, hg2', hqc, hcm⟩ := HO.out.formG (by rw [← hq]; omega)
            subst hu
            have ho := HO.out
            rw [← hq] at ho hqc
            have TK := ho.takeN hq (k := q - 1) (by omega)
            rw [take_lastR hq hne] at TK
            rw [← hq]
            have HPV := Lib.hid (show ptsOf (ps ++ st.tail.reverse) = outP A (p + 1) by
              rw [ptsOf_append, ptsOf_rev, ptsOf_tail, hps.out, HST.out]
              have hl := passP_len A p
              rw [List.take_of_length_le (by rw [hl, HAL.out]; exact Nat.le_refl _)]; rfl)
            have HLN := Lib.hid (show (ps ++ st.tail.reverse).length ≤ 1000 * (p + 1) by
              have := HM.out
              simp; omega)
            have HRK2 := Lib.hid (show ∀ r, r ∈ ps ++ st.tail.reverse → Rk r from fun r hr => by
              rcases List.mem_append.1 hr with h | h
              · exact HRKS.out r h
              · exact HRS.out r (List.mem_of_mem_tail (List.mem_reverse.1 h)))
            obtain ⟨q1, hq1⟩ : ∃ q1 : Nat, (q : Int) - 1 = q1 := ⟨q - 1, by omega⟩
            have hq2 : q - 1 = q1 := by omega
            rw [hq2] at TK
            have HHr := Go.Proofs.YtehhoplenloocaaGreat.Holds.below HH.out HB.out hg2
            have RV := reverse_any HN.out hN0 (by rw [← HN.out]; omega) V g cpu (dAt d' p) wr (fun i => (HRA.out i).1) ((dAt_size d' p).trans HD.out) HHr (by omega)
            have HTK := Lib.hid TK
            have i1 : (0 : Int) ≤ (q1 : Int) := by omega
            have i2 : q1 ≤ cp := by omega
            have i3 : ¬ cp = 0 := by omega
            have i4 : ((q1 : Int)).toNat = q1 := by omega
            have i5 : max (0 : Int) (q1 : Int) = q1 := by omega
            have i6 : (q1 : Int) ≤ (cp : Int) := by omega
            have HGW := Lib.hid (grownG_below HG.out HB.out)
            clear TK ho hq hqv hsp hne HNE HST HO hq2 HRS
            go_wp2_with (go_at_call 63; (with_reducible refine RV.mono ?_); rintro e w9 ⟨rfl, hh9, hg9⟩)
            have HO9 := Lib.hid (HTK.out.grownG hg9 hg2)
            have HG9 := Lib.hid (grownG_trans HGW.out hg9)
            rw [dAt_next] at hh9
            have HH9 := Lib.hid hh9
            clear RV hh9 hg9 HTK HGW HHr
            go_roundw
            case rel => exact ⟨p + 1, ps ++ st.tail.reverse, by omega, by go_num, HLN.out, HPV, HRK2, HO9, HH9, HG9⟩
            case measure => simp [intOf]; omega
          case pos =>
            obtain ⟨ix, hix⟩ : ∃ ix : Fin ls.length, ix = (dAt d' p)[j]! := ⟨_, rfl⟩
            have hjs : j < (dAt d' p).size := by rw [dAt_size, HD.out, ← HN.out]; exact hjk
            have HHr := Go.Proofs.YtehhoplenloocaaGreat.Holds.below HH.out HB.out hg2
            have ck := (HHr j hjs).1
            rw [← hix, Nat.zero_add] at ck
            have HGW := grownG_below HG.out HB.out
            have ir := (HRA.out ix).2 wr (fun b hb hlt => HGW.block b hlt (by intro e; injection e with e; exact hb e))
            have HPT := Lib.hid (show (passP A p).getD j o0 = ptOf (ls.getD ix.val []) by
              rw [HA.out, passP_dAt _ _ _ hlt, ptOf_getD, rowsD_at _ _ _ hjs, ← hix])
            have HRX := Lib.hid (show Rk (ls.getD ix.val []) from HRK.out ix.val ix.isLt)
            obtain ⟨ax, cxx, hvx, -⟩ := id ir
            rw [hvx] at ck ir
            have hR2 := HRX.out.1
            rw [hR2] at ck ir
            have HIR := Lib.hid (fun W (B : Below w2.heap.size wr W) => ir.keep B (Nat.le_refl _))
            clear hvx hR2 hix hjs HHr HGW ir
            generalize ls.getD ix.val [] = x at *
            have hdk : decide ((j : Int) < (k : Int)) = true := by rw [decide_eq_true_eq]; omega
            obtain ⟨wz, hwz⟩ : ∃ wz, wz = wr := ⟨_, rfl⟩
            subst hwz
            go_wp2_with fail
            go_loopw [7] (fun ov wr => ∃ (sv : List (List Int)), sv.length ≤ j ∧ Hid (0 < j → sv ≠ []) ∧ Hid (pop (ptOf x) (ptsOf sv) = pop (ptOf x) (ptsOf st)) ∧ Hid (∀ r, r ∈ sv → Rk r) ∧ Hid (OwnL wr w2.heap.size ov (ps ++ sv.reverse)) ∧ Hid (Below w2.heap.size wz wr)) (fun ov _ => vlen ov)
            case atStart => exact ⟨st, hst, HNE, Lib.hid rfl, HRS, HO, Lib.hid (Below.refl _ _)⟩
            case round =>
              clear HO ck
              obtain ⟨sv, hsv, HNV, HPO, HRV, HOV, HBV⟩ := hrel
              obtain ⟨q, hq⟩ : ∃ q, q = (ps ++ sv.reverse).length := ⟨_, rfl⟩
              have hqv : q = m + sv.length := by rw [hq, HM.out]; simp
              obtain ⟨av, cp, hu⟩ := HOV.out.form0
              subst hu
              have HQ := Lib.hid hq
              have hov := HOV.out
              rw [← hq] at hov
              rw [← hq]
              have HOQ := Lib.hid hov
              have hwzr := HBV.out.size
              have HIX := Lib.hid (HIR.out _ HBV.out)
              clear hov HOV hq
              go_upto_region 19 with fail
              go_cut [62] (fun s wx => s = .bool (contR x sv) ∧ Hid (Below wr.heap.size wr wx))
              case first =>
                as_aux_lemma =>
                  by_cases h2 : 2 ≤ sv.length
                  · obtain ⟨bq, aq, rs, rfl⟩ : ∃ bq aq rs, sv = bq :: aq :: rs := by
                      match sv, h2 with
                      | bq :: aq :: rs, _ => exact ⟨bq, aq, rs, rfl⟩
                    have hov := HOQ.out
                    obtain ⟨g', cp', hu, hg1, hg2', hqc, hcm⟩ := hov.formG (by rw [← HQ.out]; omega)
                    rw [← HQ.out] at hu hqc
                    injection hu with e1 e2 e3
                    subst e1 e3
                    have al := at_lastR HQ.out
                    obtain ⟨ub, k1, rb⟩ := hov.cellN HQ.out (i := q - 1) (by omega)
                    obtain ⟨ua, k2, ra⟩ := hov.cellN HQ.out (i := q - 2) (by omega)
                    rw [al.1] at rb
                    rw [al.2] at ra
                    have Ka := HRV.out aq (by simp)
                    have Kb := HRV.out bq (by simp)
                    obtain ⟨a1, q1, e1, -⟩ := id ra
                    obtain ⟨a2, q2, e2, -⟩ := id rb
                    rw [Ka.1] at e1
                    rw [Kb.1] at e2
                    subst e1 e2
                    have TT := fun W (B : Below wr.heap.size wr W) => turn_any aq bq x _ _ (.slice ax 2 cxx) wr.heap.size W (ra.keep B (Nat.le_refl _)) (rb.keep B (Nat.le_refl _)) ((HIX.out.keep B (by omega)).upto (by omega)) B.size Ka.1 Kb.1 HRX.out.1 Ka.2 Kb.2 HRX.out.2
                    have HCN := Lib.hid (show contR x (bq :: aq :: rs) = decide (tn (ptOf aq) (ptOf bq) (ptOf x) ≤ 0) from rfl)
                    generalize tn (ptOf aq) (ptOf bq) (ptOf x) = t at *
                    have hql : (m : Int) + 2 ≤ (q : Int) := by simp at hqv; omega
                    obtain ⟨y1, hy1⟩ : ∃ y1 : Nat, (q : Int) - 1 = y1 := ⟨q - 1, by omega⟩
                    obtain ⟨y2, hy2⟩ : ∃ y2 : Nat, (q : Int) - 2 = y2 := ⟨q - 2, by omega⟩
                    rw [show q - 1 = y1 by omega] at k1
                    rw [show q - 2 = y2 by omega] at k2
                    have i1 : (y1 : Int) < (q : Int) := by omega
                    have i2 : (y2 : Int) < (q : Int) := by omega
                    have i3 : (0 : Int) ≤ (y1 : Int) := by omega
                    have i4 : (0 : Int) ≤ (y2 : Int) := by omega
                    have i5 : decide ((m : Int) + 2 ≤ (q : Int)) = true := by rw [decide_eq_true_eq]; exact hql
                    have v1 := wr64 ((m : Int) + 2) (by omega)
                    have v2 := wr64 (y1 : Int) (by omega)
                    have v3 := wr64 (y2 : Int) (by omega)
                    have v4 : IntKind.i64.wrap ((q : Int) - 1) = y1 := by rw [hy1]; exact v2
                    have v5 : IntKind.i64.wrap ((q : Int) - 2) = y2 := by rw [hy2]; exact v3
                    have v6 : ((y1 : Int)).toNat = y1 := by omega
                    have v7 : ((y2 : Int)).toNat = y2 := by omega
                    have TT1 := TT wr.drew (below_draws wr.heap.size wr 1)
                    have K1 := Lib.hid k1
                    have K2 := Lib.hid k2
                    clear hov al ra rb hqv HOQ HQ HNV HPO hsv HRV Ka Kb
                    go_region_held3 (fun w' => w'.cell? ⟨g', y1, none⟩ = some (.slice a2 2 q2) ∧ w'.cell? ⟨g', y2, none⟩ = some (.slice a1 2 q1))
                      (first | exact ⟨k1, k2⟩ | exact ⟨z1, z2⟩ | go_keep)
                      ((go_at_call 59; (with_reducible refine TT1.mono ?_); rintro e w8 ⟨rfl, c8⟩; have BB := below_then (below_draws wr.heap.size wr 1) (Nat.le_refl _) c8; have z1 := (BB.cell (p := ⟨g', y1, none⟩) hg2').trans K1.out; have z2 := (BB.cell (p := ⟨g', y2, none⟩) hg2').trans K2.out))
                    go_wp2_with fail
                    go_meet
                    exact ⟨congrArg Value.bool HCN.out.symm, Lib.hid BB⟩
                  · have hcf : contR x sv = false := by
                      match sv, h2 with
                      | [], _ => rfl
                      | [b], _ => rfl
                      | a :: b :: r, h2 => exact absurd (by simp) h2
                    have HCF := Lib.hid hcf
                    have i5 : decide ((m : Int) + 2 ≤ (q : Int)) = false := by rw [decide_eq_false_iff_not]; omega
                    have i6 : ¬ ((m : Int) + 2 ≤ (q : Int)) := by omega
                    have v1 := wr64 ((m : Int) + 2) (by omega)
                    clear hcf h2 hqv
                    go_quiet (fail)
                    go_wp2_with fail
                    go_meet
                    exact ⟨congrArg Value.bool HCF.out.symm, Lib.hid (below_draws wr.heap.size wr nq)⟩
              case rest =>
                obtain ⟨rfl, HC5⟩ := hcut
                have HB5 := Lib.hid (below_then (B := w2.heap.size) HBV.out (by omega) HC5.out)
                have HO5 := Lib.hid (HOQ.out.kept HC5.out)
                have hws := HC5.out.size
                cases hcb : contR x sv
                case true =>
                  obtain ⟨p1, p2, p3, p4⟩ := popR_cont hcb
                  have ho := HO5.out
                  obtain ⟨g', cp', hu, hg1, hg2', hqc, hcm⟩ := ho.formG (by rw [← HQ.out]; omega)
                  rw [← HQ.out] at hu hqc
                  injection hu with e1 e2 e3
                  subst e1 e3
                  have TK := ho.takeN HQ.out (k := q - 1) (by omega)
                  rw [take_lastR HQ.out p2] at TK
                  have HTK := Lib.hid TK
                  have HPO2 := Lib.hid (p3.trans HPO.out)
                  have HNV2 := Lib.hid (show 0 < j → sv.tail ≠ [] from fun _ => p4)
                  have HRV2 := Lib.hid (show ∀ r, r ∈ sv.tail → Rk r from fun r hr => HRV.out r (List.mem_of_mem_tail hr))
                  have hln : sv.tail.length ≤ j := by simp; omega
                  obtain ⟨y1, hy1⟩ : ∃ y1 : Nat, (q : Int) - 1 = y1 := ⟨q - 1, by omega⟩
                  rw [show q - 1 = y1 by omega] at HTK
                  have i1 : (0 : Int) ≤ (y1 : Int) := by omega
                  have i2 : y1 ≤ cp := by omega
                  have i3 : ¬ cp = 0 := by omega
                  have i4 : ((y1 : Int)).toNat = y1 := by omega
                  have i5 : y1 < q := by omega
                  have i6 : (y1 : Int) ≤ (cp : Int) := by omega
                  clear TK ho p1 p2 p3 p4 hcb HPO HNV HOQ HO5 HQ hqv HRV
                  go_wp2
                  go_roundw
                  case rel => exact ⟨sv.tail, hln, HNV2, HPO2, HRV2, HTK, HB5⟩
                  case measure => simp [vlen]; omega
                case false =>
                  have hst2 := popR_stop hcb
                  have HST2 := Lib.hid (show ptsOf (x :: sv) = ((passP A p).take (j + 1)).foldl chStep [] by
                    rw [chain_step (by rw [passP_len, HAL.out]; exact hjk), ← HST.out, HPT.out]
                    show ptOf x :: ptsOf sv = ptOf x :: pop (ptOf x) (ptsOf st)
                    rw [← HPO.out, hst2])
                  have HRX2 := Lib.hid (show ∀ r, r ∈ x :: sv → Rk r from fun r hr => by
                    rcases List.mem_cons.1 hr with e | h
                    · rw [e]; exact HRX.out
                    · exact HRV.out r h)
                  have CI := copyInts_any x (.slice ax 2 cxx) w2.heap.size wc (HIR.out _ HB5.out) (by rw [HRX.out.1]; omega)
                  have hqb : q ≤ 100000 := by omega
                  clear hst2 hcb hqv
                  go_wp2_with fail
                  with_reducible refine CI.mono ?_
                  rintro e w8 ⟨ux, rfl, kx, c8⟩
                  have HK := Lib.hid kx.is
                  obtain ⟨V8, p8, hpt⟩ := HO5.out.part c8
                  obtain ⟨acc, hacc⟩ : ∃ acc, acc = ps ++ sv.reverse := ⟨_, rfl⟩
                  rw [← hacc] at hpt
                  have hal : acc.length ≤ 100000 := by rw [hacc, ← HQ.out]; exact hqb
                  have HACC := Lib.hid hacc
                  have HPT8 := Lib.hid hpt
                  have HB8 := Lib.hid (below_then (B := w2.heap.size) HB5.out (by omega) c8)
                  have hs8 := c8.size
                  obtain ⟨au, cu, rfl⟩ := kx.form
                  clear hpt kx c8 CI hacc
                  go_wp2_with (at_builtin; go_loud (refine wpList_append_own _ rfl _ _ 24 rfl w2.heap.size 25 i0 (.slice none 0 0) 1 24 Tryz.underlying24 HI0.out HZ0.out HZ1.out HZ2.out rfl (by decide) _ _ _ rfl (HPT8.out.alloc _) ⟨w8.heap.size, 0, none⟩ 1 1 [.slice au x.length cu] rfl rfl ?c1 ?c2 ?c3 ?c4 ?c5 ?_))
                  case c1 => exact cell_one_new _ _ _
                  case c2 => first | rfl | (intro u hu; simp at hu; subst hu; rfl)
                  case c3 => unfold maxLen; omega
                  case c4 => omega
                  case c5 => first | omega | (simp; omega)
                  intro v9 w9 hown9 hgrow9 _
                  have HO9 := HPT8.out.push HK.out (Nat.le_refl _) hs8 (Nat.le_refl _) hgrow9 hown9
                  have HB9 := Lib.hid (HB.out.trans (OwnLp.below (B := w2.heap.size) HB8.out (by omega) _ hgrow9 HPT8.out (Nat.le_refl _)))
                  have HO9 := Lib.hid (show OwnL w9 w2.heap.size v9 (ps ++ (x :: sv).reverse) by rw [List.reverse_cons, ← List.append_assoc, ← HACC.out]; exact HO9)
                  clear hown9 hgrow9 HPT8 HOQ HO5 HQ HPO HNV HST HNE HIX HRV HIR
                  go_wp2
                  go_roundw
                  case rel => exact ⟨j + 1, x :: sv, by omega, by go_num, by simp; omega, Lib.hid (fun _ => by simp), HST2, HRX2, HO9, HB9⟩
                  case measure => simp [intOf]; omega
end Go.Proofs.YtehhoplenloocaaGreat
