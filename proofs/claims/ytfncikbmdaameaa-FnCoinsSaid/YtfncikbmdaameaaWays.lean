/- The numbers of ways to pay: the plain functions and the walks. -/
import Derived.Test.YtfncikbmdaameaaCoinA
namespace Go.Proofs.Ytfncikbmdaameaa
open Go.RowKit
set_option linter.unusedVariables false
set_option linter.unusedSimpArgs false

/-- one coin, from place k on -/
def wIn (c n : Nat) : Nat → Nat → List Int → List Int
  | 0, _, L => L
  | f + 1, k, L => if k ≤ n then wIn c n f (k + 1) (L.set k (wrap64 (L.getD k 0 + L.getD (k - c) 0))) else L
def wCoin (n : Nat) (L : List Int) (c : Int) : List Int := wIn c.toNat n (n + 1 - c.toNat) c.toNat L
def wAll (l : List Int) (n : Nat) : List Int := l.foldl (wCoin n) ((List.replicate (n + 1) 0).set 0 1)
theorem wIn_len (c n : Nat) : ∀ f k L, (wIn c n f k L).length = L.length
  | 0, k, L => rfl
  | f + 1, k, L => by unfold wIn; split <;> simp [wIn_len c n f]
theorem wCoin_len (n : Nat) (L : List Int) (c : Int) : (wCoin n L c).length = L.length := wIn_len _ _ _ _ _
theorem wFold_len (n : Nat) : ∀ (l : List Int) (L : List Int), (l.foldl (wCoin n) L).length = L.length
  | [], L => rfl
  | c :: l, L => by rw [List.foldl_cons, wFold_len n l, wCoin_len]
theorem fold_take {α : Type} (f : α → Int → α) (a : α) (l : List Int) (k : Nat) (h : k < l.length) : (l.take (k + 1)).foldl f a = f ((l.take k).foldl f a) (l.getD k 0) := by
  rw [List.take_succ_eq_append_getElem h, List.foldl_append, List.getD_eq_getElem?_getD, List.getElem?_eq_getElem h]; rfl
theorem getD_setW (L : List Int) (k i : Nat) (x : Int) (hk : k < L.length) : (L.set k x).getD i 0 = if i = k then x else L.getD i 0 := by
  rw [List.getD_eq_getElem?_getD, List.getD_eq_getElem?_getD, List.getElem?_set]
  by_cases e : i = k
  · subst e; simp [hk]
  · rw [if_neg (fun h => e h.symm), if_neg e]

def waysV (l : List Int) (n : Int) : Int := if coinsB l && inB n 0 500 then (wAll l n.toNat).getD n.toNat 0 else -1
theorem coins_mem {l : List Int} (h : coinsB l = true) : l.length ≤ 6 ∧ l ≠ [] ∧ ∀ k, k < l.length → 1 ≤ l.getD k 0 ∧ l.getD k 0 ≤ 30 := by
  simp only [coinsB, Bool.and_eq_true, inB_iff] at h
  obtain ⟨⟨h1, h2⟩, -⟩ := h
  refine ⟨by omega, fun e => by subst e; simp at h1, fun k hk => ?_⟩
  have := List.all_eq_true.1 h2 (l.getD k 0) (by rw [List.getD_eq_getElem?_getD, List.getElem?_eq_getElem hk]; exact List.getElem_mem hk)
  exact inB_iff.1 this

/-- a row of the call's own holds the list -/
def LR (w : World) (b n : Nat) (L : List Int) : Prop := w.rowIs b 3 n (fun i => .int .i64 (L.getD i 0))
theorem LR.set {w : World} {b n : Nat} {L : List Int} (h : LR w b n L) (hL : L.length = n) {k : Nat} (hk : k < n) (x : Int) : LR (w.setCell ⟨b, k, none⟩ (.int .i64 x)) b n (L.set k x) :=
  (World.rowIs.set h k (.int .i64 x)).congr fun i _ => by
    show (if i = k then Value.int .i64 x else Value.int .i64 (L.getD i 0)) = _
    rw [getD_setW L k i x (by omega)]; split <;> rfl
theorem LR.cell {w : World} {b n : Nat} {L : List Int} (h : LR w b n L) {k : Nat} (hk : k < n) : w.cell? ⟨b, k, none⟩ = some (.int .i64 (L.getD k 0)) := World.rowIs.cell h hk

theorem LR.drew {w : World} {b n : Nat} {L : List Int} (h : LR w b n L) : LR w.drew b n L := h
theorem ways_start (w : World) (N : Nat) : LR ((w.alloc (.cells (madeCells #[.int .i64 0] (N + 1)) 3)).setCell ⟨w.heap.size, 0, none⟩ (.int .i64 1)) w.heap.size (N + 1) ((List.replicate (N + 1) 0).set 0 1) := by
  have h0 : LR (w.alloc (.cells (madeCells #[.int .i64 0] (N + 1)) 3)) w.heap.size (N + 1) (List.replicate (N + 1) 0) := (World.rowIs_made w (.int .i64 0) (N + 1) 3).congr fun i hi => by
    rw [List.getD_eq_getElem?_getD]; simp [hi]
  exact LR.set h0 (by simp) (k := 0) (by omega) 1
theorem ways_below (w : World) (N : Nat) : Below w.heap.size w ((w.alloc (.cells (madeCells #[.int .i64 0] (N + 1)) 3)).setCell ⟨w.heap.size, 0, none⟩ (.int .i64 1)) :=
  (below1 w _).setCell (Nat.le_refl _) _
theorem wIn_step {C N k f : Nat} {L T : List Int} (h : wIn C N (f + 1) k L = T) (hk : k ≤ N) : wIn C N f (k + 1) (L.set k (wrap64 (L.getD k 0 + L.getD (k - C) 0))) = T := by
  unfold wIn at h; rwa [if_pos hk] at h

set_option maxHeartbeats 2000000 in
theorem implCountWays_any (l : List Int) (v : Value) (n : Int) (hb : Nat) (w : World) (h : ISr w hb v l) (hhb : hb ≤ w.heap.size) :
    Calls Try.prog 47 #[v, .int .i64 n] w fun e w' => e = .returned (.int .i64 (waysV l n)) ∧ Below w.heap.size w w' := by
  have HA := fun w' (h' : ISr w' hb v l) => implAreCoins_any l v hb w' h'
  by_cases hin : coinsB l = true ∧ inB n 0 500 = true
  · obtain ⟨i1, i2⟩ := hin
    have hv : waysV l n = (wAll l n.toNat).getD n.toNat 0 := by simp [waysV, i1, i2]
    rw [hv]; clear hv
    obtain ⟨c1, c2, c3⟩ := coins_mem i1
    obtain ⟨n1, n2⟩ := inB_iff.1 i2
    obtain ⟨N, rfl⟩ : ∃ N : Nat, n = N := ⟨n.toNat, by omega⟩
    have H1 := HA w h
    rw [i1] at H1
    rcases h.cases with ⟨rfl, a, cap, rfl⟩ | ⟨hpos, hlen, b, off, cap, rfl, hbb, hcell⟩
    · exact absurd rfl c2
    · clear h HA
      have HC := Lib.hid hcell; clear hcell
      have HM := Lib.hid c3; clear c3 c2
      obtain ⟨m, hm⟩ : ∃ m, m = l.length := ⟨_, rfl⟩
      rw [← hm] at hpos hlen c1 H1 ⊢
      have HL := Lib.hid hm; clear hm i1
      rw [Int.toNat_natCast]
      have hmk := run_make_row' (P := Try.prog) 46 3 (.int .i64 0) 8 Try.underlying46 info_int rfl .i64 .i64 (N + 1) (by omega) (by omega)
      have e1 : ((N + 1 : Nat) : Int) = (N : Int) + 1 := by omega
      rw [e1] at hmk
      clear e1
      have hnew := fun d => (World.rowIs_made (w.drewN d) (.int .i64 0) (N + 1) 3).cell (i := 0) (by omega)
      have hfz := fun d => (World.rowIs_made (w.drewN d) (.int .i64 0) (N + 1) 3).frozen 0
      simp only [World.heap_drewN] at hnew hfz
      go_enter Try.func47, Try.ntmps47
      go_wp2_with (first | (go_at_call 57; (with_reducible refine H1.mono ?_); rintro e w' ⟨rfl, d, rfl⟩) | (go_at_call 119; (with_reducible refine (within_any _ _ _ _).mono ?_); rintro e w' ⟨rfl, rfl⟩))
      clear hnew hfz hmk H1
      have hst := Lib.hid (ways_start (w.drewN d) N)
      go_loopw [7, 8, 24] (fun _ _ i wr => ∃ j : Nat, j ≤ m ∧ i = .int .i64 j ∧ Hid (LR wr w.heap.size (N + 1) ((l.take j).foldl (wCoin N) ((List.replicate (N + 1) 0).set 0 1))) ∧ Hid (Below w.heap.size w wr)) (fun _ _ i _ => m - (intOf i).toNat)
      case atStart => exact ⟨0, by omega, rfl, hst.out, (below_draws _ w d).trans (ways_below (w.drewN d) N)⟩
      case round =>
        obtain ⟨j, hj, rfl, hrow, hbe⟩ := hrel
        by_cases hlt : j < m
        · have hjl : j < l.length := by rw [← HL.out]; exact hlt
          have hcb := HM.out j hjl
          have hft := Lib.hid (fold_take (wCoin N) ((List.replicate (N + 1) 0).set 0 1) l j hjl)
          have hlen0 : ((l.take j).foldl (wCoin N) ((List.replicate (N + 1) 0).set 0 1)).length = N + 1 := by rw [wFold_len]; simp
          have hcj := (hbe.out.cell (p := ⟨b, off + j, none⟩) (Nat.lt_of_lt_of_le hbb hhb)).trans (HC.out j hjl)
          obtain ⟨C, hC⟩ : ∃ C : Nat, l.getD j 0 = C := ⟨(l.getD j 0).toNat, by omega⟩
          rw [hC] at hcj hft hcb
          have HW := hft.out
          have e0 : ∀ L, wCoin N L (C : Int) = wIn C N (N + 1 - C) C L := fun L => by unfold wCoin; rw [Int.toNat_natCast]
          rw [e0] at HW
          clear hft hC hjl e0
          have HLen := Lib.hid hlen0; clear hlen0
          generalize (l.take j).foldl (wCoin N) ((List.replicate (N + 1) 0).set 0 1) = L0 at *
          generalize hL1 : (l.take (j + 1)).foldl (wCoin N) ((List.replicate (N + 1) 0).set 0 1) = L1 at *
          have HL1 := Lib.hid hL1; clear hL1
          have HT := Lib.hid HW; clear HW
          have C1 : 1 ≤ C := by omega
          have C2 : C ≤ 30 := by omega
          clear hcb
          go_wp2
          obtain ⟨wo, hwo⟩ : ∃ wo : World, wo = wr := ⟨_, rfl⟩
          have HWO := Lib.hid hwo; clear hwo
          go_loopw [8] (fun k wi => ∃ (K : Nat) (L : List Int), C ≤ K ∧ K ≤ N + 1 + C ∧ k = .int .i64 K ∧ Hid (L.length = N + 1) ∧ Hid (LR wi w.heap.size (N + 1) L) ∧ Hid (wIn C N (N + 1 - K) K L = L1) ∧ Hid (Below w.heap.size w wi)) (fun k _ => N + 1 - (intOf k).toNat)
          case atStart => exact ⟨C, L0, Nat.le_refl _, by omega, rfl, HLen, hrow, HT.out.symm, hbe⟩
          case round =>
            obtain ⟨K, L, hK, hK2, rfl, hl, hr, ht, hb2⟩ := hrel
            by_cases hkn : K ≤ N
            · have x1 := hr.out.cell (k := K) (by omega)
              have x2 := hr.out.cell (k := K - C) (by omega)
              have xf := World.rowIs.frozen hr.out K
              have e2 : N + 1 - K = (N - K) + 1 := by omega
              have htt := ht.out
              rw [e2] at htt
              have hs1 := Lib.hid (wIn_step htt hkn)
              have hs2 := Lib.hid (LR.set hr.out hl.out (k := K) (by omega) (wrap64 (L.getD K 0 + L.getD (K - C) 0)))
              have hs3 := Lib.hid (hb2.out.setCell (p := ⟨w.heap.size, K, none⟩) (Nat.le_refl _) (.int .i64 (wrap64 (L.getD K 0 + L.getD (K - C) 0))))
              have hs4 : Hid ((L.set K (wrap64 (L.getD K 0 + L.getD (K - C) 0))).length = N + 1) := by rw [List.length_set]; exact hl
              clear e2 htt ht
              generalize L.getD K 0 = x at *
              generalize L.getD (K - C) 0 = y at *
              generalize L.set K (wrap64 (x + y)) = L' at *
              go_wp2
              go_region
              all_goals
                go_wp2
                go_roundw
                case rel => exact ⟨K + 1, L', by omega, by omega, by go_num, hs4, LR.drew hs2.out, (by rw [show N + 1 - (K + 1) = N - K from by omega]; exact hs1.out), hs3.out.drew⟩
                case measure => simp [intOf]; omega
            · have hfin : L = L1 := by
                have := ht.out
                rw [show N + 1 - K = 0 from by omega] at this
                exact this
              have HF := Lib.hid hfin; clear hfin
              go_wp2
              go_roundw
              case rel => exact ⟨j + 1, by omega, by go_num, (by rw [HL1.out, ← HF.out]; exact hr), hb2⟩
              case measure => simp [intOf]; omega
        · obtain rfl : j = m := by omega
          have hlast := hrow.out.cell (k := N) (by omega)
          rw [HL.out, List.take_length] at hlast
          have HX := Lib.hid (show (wAll l N).getD N 0 = (l.foldl (wCoin N) ((List.replicate (N + 1) 0).set 0 1)).getD N 0 from rfl)
          generalize (l.foldl (wCoin N) ((List.replicate (N + 1) 0).set 0 1)).getD N 0 = x at *
          go_wp2
          go_ret
          exact ⟨ret_int HX.out.symm, hbe.out⟩
  · have hv : waysV l n = -1 := by
      rcases and2_false hin with i1 | ⟨i1, i2⟩ <;> simp [waysV, *]
    rw [hv]; clear hv
    have H1 := HA w h
    obtain ⟨a, cap, rfl, -, -, -⟩ := h
    rcases and2_false hin with i1 | ⟨i1, i2⟩
    all_goals
      rw [i1] at H1
      clear hin HA
      go_enter Try.func47, Try.ntmps47
      go_wp2_with (first | (go_at_call 57; (with_reducible refine H1.mono ?_); rintro e w' ⟨rfl, d, rfl⟩) | (go_at_call 119; (with_reducible refine (within_any _ _ _ _).mono ?_); rintro e w' ⟨rfl, rfl⟩))
      go_ret
      exact ⟨rfl, below_draws _ _ _⟩
set_option maxHeartbeats 2000000 in
theorem specCountWays_any (l : List Int) (v : Value) (n : Int) (hb : Nat) (w : World) (h : ISr w hb v l) (hhb : hb ≤ w.heap.size) :
    Calls Try.prog 53 #[v, .int .i64 n] w fun e w' => e = .returned (.int .i64 (waysV l n)) ∧ Below w.heap.size w w' := by
  have HA := fun w' (h' : ISr w' hb v l) => specAreCoins_any l v hb w' h'
  by_cases hin : coinsB l = true ∧ inB n 0 500 = true
  · obtain ⟨i1, i2⟩ := hin
    have hv : waysV l n = (wAll l n.toNat).getD n.toNat 0 := by simp [waysV, i1, i2]
    rw [hv]; clear hv
    obtain ⟨c1, c2, c3⟩ := coins_mem i1
    obtain ⟨n1, n2⟩ := inB_iff.1 i2
    obtain ⟨N, rfl⟩ : ∃ N : Nat, n = N := ⟨n.toNat, by omega⟩
    have H1 := HA w h
    rw [i1] at H1
    rcases h.cases with ⟨rfl, a, cap, rfl⟩ | ⟨hpos, hlen, b, off, cap, rfl, hbb, hcell⟩
    · exact absurd rfl c2
    · clear h HA
      have HC := Lib.hid hcell; clear hcell
      have HM := Lib.hid c3; clear c3 c2
      obtain ⟨m, hm⟩ : ∃ m, m = l.length := ⟨_, rfl⟩
      rw [← hm] at hpos hlen c1 H1 ⊢
      have HL := Lib.hid hm; clear hm i1
      rw [Int.toNat_natCast]
      have hmk := run_make_row' (P := Try.prog) 46 3 (.int .i64 0) 8 Try.underlying46 info_int rfl .i64 .i64 (N + 1) (by omega) (by omega)
      have e1 : ((N + 1 : Nat) : Int) = (N : Int) + 1 := by omega
      rw [e1] at hmk
      clear e1
      have hnew := fun d => (World.rowIs_made (w.drewN d) (.int .i64 0) (N + 1) 3).cell (i := 0) (by omega)
      have hfz := fun d => (World.rowIs_made (w.drewN d) (.int .i64 0) (N + 1) 3).frozen 0
      simp only [World.heap_drewN] at hnew hfz
      go_enter Try.func53, Try.ntmps53
      go_wp2_with (first | (go_at_call 58; (with_reducible refine H1.mono ?_); rintro e w' ⟨rfl, d, rfl⟩) | (go_at_call 122; (with_reducible refine (l1In_any _ _ _ _).mono ?_); rintro e w' ⟨rfl, rfl⟩))
      clear hnew hfz hmk H1
      have hst := Lib.hid (ways_start (w.drewN d) N)
      go_loopw [6, 7] (fun i _ wr => ∃ j : Nat, j ≤ m ∧ i = .int .i64 j ∧ Hid (LR wr w.heap.size (N + 1) ((l.take j).foldl (wCoin N) ((List.replicate (N + 1) 0).set 0 1))) ∧ Hid (Below w.heap.size w wr)) (fun i _ _ => m - (intOf i).toNat)
      case atStart => exact ⟨0, by omega, rfl, hst.out, (below_draws _ w d).trans (ways_below (w.drewN d) N)⟩
      case round =>
        obtain ⟨j, hj, rfl, hrow, hbe⟩ := hrel
        by_cases hlt : j < m
        · have hjl : j < l.length := by rw [← HL.out]; exact hlt
          have hcb := HM.out j hjl
          have hft := Lib.hid (fold_take (wCoin N) ((List.replicate (N + 1) 0).set 0 1) l j hjl)
          have hlen0 : ((l.take j).foldl (wCoin N) ((List.replicate (N + 1) 0).set 0 1)).length = N + 1 := by rw [wFold_len]; simp
          have hcj := (hbe.out.cell (p := ⟨b, off + j, none⟩) (Nat.lt_of_lt_of_le hbb hhb)).trans (HC.out j hjl)
          obtain ⟨C, hC⟩ : ∃ C : Nat, l.getD j 0 = C := ⟨(l.getD j 0).toNat, by omega⟩
          rw [hC] at hcj hft hcb
          have hcj0 := HC.out j hjl
          rw [hC] at hcj0
          have HCJ := Lib.hid hcj0; clear hcj0
          have HW := hft.out
          have e0 : ∀ L, wCoin N L (C : Int) = wIn C N (N + 1 - C) C L := fun L => by unfold wCoin; rw [Int.toNat_natCast]
          rw [e0] at HW
          clear hft hC hjl e0
          have HLen := Lib.hid hlen0; clear hlen0
          generalize (l.take j).foldl (wCoin N) ((List.replicate (N + 1) 0).set 0 1) = L0 at *
          generalize hL1 : (l.take (j + 1)).foldl (wCoin N) ((List.replicate (N + 1) 0).set 0 1) = L1 at *
          have HL1 := Lib.hid hL1; clear hL1
          have HT := Lib.hid HW; clear HW
          have C1 : 1 ≤ C := by omega
          have C2 : C ≤ 30 := by omega
          clear hcb
          go_wp2
          obtain ⟨wo, hwo⟩ : ∃ wo : World, wo = wr := ⟨_, rfl⟩
          have HWO := Lib.hid hwo; clear hwo
          go_loopw [7] (fun k wi => ∃ (K : Nat) (L : List Int), C ≤ K ∧ K ≤ N + 1 + C ∧ k = .int .i64 K ∧ Hid (L.length = N + 1) ∧ Hid (LR wi w.heap.size (N + 1) L) ∧ Hid (wIn C N (N + 1 - K) K L = L1) ∧ Hid (Below w.heap.size w wi)) (fun k _ => N + 1 - (intOf k).toNat)
          case atStart => exact ⟨C, L0, Nat.le_refl _, by omega, rfl, HLen, hrow, HT.out.symm, hbe⟩
          case round =>
            obtain ⟨K, L, hK, hK2, rfl, hl, hr, ht, hb2⟩ := hrel
            by_cases hkn : K ≤ N
            · have x1 := hr.out.cell (k := K) (by omega)
              have x2 := hr.out.cell (k := K - C) (by omega)
              have xf := World.rowIs.frozen hr.out K
              have xj := (hb2.out.cell (p := ⟨b, off + j, none⟩) (Nat.lt_of_lt_of_le hbb hhb)).trans HCJ.out
              have e2 : N + 1 - K = (N - K) + 1 := by omega
              have htt := ht.out
              rw [e2] at htt
              have hs1 := Lib.hid (wIn_step htt hkn)
              have hs2 := Lib.hid (LR.set hr.out hl.out (k := K) (by omega) (wrap64 (L.getD K 0 + L.getD (K - C) 0)))
              have hs3 := Lib.hid (hb2.out.setCell (p := ⟨w.heap.size, K, none⟩) (Nat.le_refl _) (.int .i64 (wrap64 (L.getD K 0 + L.getD (K - C) 0))))
              have hs4 : Hid ((L.set K (wrap64 (L.getD K 0 + L.getD (K - C) 0))).length = N + 1) := by rw [List.length_set]; exact hl
              clear e2 htt ht
              generalize L.getD K 0 = x at *
              generalize L.getD (K - C) 0 = y at *
              generalize L.set K (wrap64 (x + y)) = L' at *
              go_wp2
              go_region
              all_goals
                go_wp2
                go_roundw
                case rel => exact ⟨K + 1, L', by omega, by omega, by go_num, hs4, LR.drew hs2.out, (by rw [show N + 1 - (K + 1) = N - K from by omega]; exact hs1.out), hs3.out.drew⟩
                case measure => simp [intOf]; omega
            · have hfin : L = L1 := by
                have := ht.out
                rw [show N + 1 - K = 0 from by omega] at this
                exact this
              have HF := Lib.hid hfin; clear hfin
              go_wp2
              go_roundw
              case rel => exact ⟨j + 1, by omega, by go_num, (by rw [HL1.out, ← HF.out]; exact hr), hb2⟩
              case measure => simp [intOf]; omega
        · obtain rfl : j = m := by omega
          have hlast := hrow.out.cell (k := N) (by omega)
          rw [HL.out, List.take_length] at hlast
          have HX := Lib.hid (show (wAll l N).getD N 0 = (l.foldl (wCoin N) ((List.replicate (N + 1) 0).set 0 1)).getD N 0 from rfl)
          generalize (l.foldl (wCoin N) ((List.replicate (N + 1) 0).set 0 1)).getD N 0 = x at *
          go_wp2
          go_ret
          exact ⟨ret_int HX.out.symm, hbe.out⟩
  · have hv : waysV l n = -1 := by
      rcases and2_false hin with i1 | ⟨i1, i2⟩ <;> simp [waysV, *]
    rw [hv]; clear hv
    have H1 := HA w h
    obtain ⟨a, cap, rfl, -, -, -⟩ := h
    rcases and2_false hin with i1 | ⟨i1, i2⟩
    all_goals
      rw [i1] at H1
      clear hin HA
      go_enter Try.func53, Try.ntmps53
      go_wp2_with (first | (go_at_call 58; (with_reducible refine H1.mono ?_); rintro e w' ⟨rfl, d, rfl⟩) | (go_at_call 122; (with_reducible refine (l1In_any _ _ _ _).mono ?_); rintro e w' ⟨rfl, rfl⟩))
      go_ret
      exact ⟨rfl, below_draws _ _ _⟩
end Go.Proofs.Ytfncikbmdaameaa
