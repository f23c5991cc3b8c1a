/- Slices of slices as the laws copy and measure them. -/
import Derived.Test.YtchkcjpahlimjaaISS
import Derived.Test.YtchkcjpahlimjaaConeL
import Derived.Deep.RegionHeld3
namespace Go.Proofs.Ytchkcjpahlimjaa
open Go.RowKit
set_option linter.unusedVariables false
set_option linter.unusedSimpArgs false

theorem info_ints : (Try.prog.info? 22).map (fun i => (i.zero, i.size, i.bytes)) = some (some (.slice none 0 0), 1, 24) := by kernel_rfl
theorem rowIs_block {w w' : World} {b n : Nat} {t : TypeId} {f : Nat → Value} (h : w.rowIs b t n f) (e : w'.heap[b]? = w.heap[b]?) : w'.rowIs b t n f := by
  obtain ⟨c, h1, h2⟩ := h
  exact ⟨c, e.trans h1, h2⟩
theorem rowIs_put {w : World} {b n k : Nat} {t : TypeId} {V : Nat → Value} {z : Value} (h : w.rowIs b t n (fun j => if j < k then V j else z)) (u : Value) :
    (w.setCell ⟨b, k, none⟩ u).rowIs b t n (fun j => if j < k + 1 then (fun j => if j = k then u else V j) j else z) := by
  refine (h.set k u).congr fun j _ => ?_
  by_cases e : j = k
  · subst e; simp
  · by_cases e2 : j < k
    · simp [e, e2, show j < k + 1 by omega]
    · simp [e, e2, show ¬ j < k + 1 by omega]
theorem ISS.of_rows {w : World} {b n lo hi : Nat} {V : Nat → Value} {z : Value} {ls : List (List Int)} (h : w.rowIs b 22 n (fun j => if j < n then V j else z)) (hn : n = ls.length) (hm : n ≤ maxLen)
    (hr : ∀ j, j < n → IS w (b + 1 + j) (b + 1 + j + 1) (V j) (ls.getD j [])) (hlo : lo ≤ b) (hhi : b + 1 + n ≤ hi) : ISS w lo hi (.slice (some ⟨b, 0, none⟩) n n) ls := by
  subst hn
  refine ⟨_, _, rfl, Nat.le_refl _, hm, fun _ => ⟨b, 0, V, rfl, hlo, by omega, (BK.of_rowIs h).congr (fun i hi => by simp [hi]), fun i hi => (hr i hi).mono (by omega) (by omega), fun i j hij hj => ?_⟩⟩
  rcases (hr j hj).blk with h0 | ⟨bj, e1, l1, u1, -⟩
  · exact .inl h0
  · right
    rcases (hr i (by omega)).blk with h0 | ⟨bi, e2, l2, u2, -⟩
    · rw [e1, h0]; simp
    · rw [e1, e2]; intro e; injection e with e; omega

set_option maxHeartbeats 2000000 in
theorem toIntSS_any (ls : List (List Int)) (v : Value) (hi : Nat) (w : World) (h : ISSr w hi v ls) (hh : hi ≤ w.heap.size) (hl : ls.length ≤ 1048576) (hrl : ∀ i, i < ls.length → (ls.getD i []).length ≤ 1048576) :
    Calls Try.prog 42 #[v] w fun e w' => ∃ v', e = .returned v' ∧ ISS w' w.heap.size (w.heap.size + 1 + ls.length) v' ls ∧ Below w.heap.size w w' ∧ w'.heap.size = w.heap.size + 1 + ls.length := by
  obtain ⟨n, hn⟩ : ∃ n, n = ls.length := ⟨_, rfl⟩
  have hmk := run_make_row' (P := Try.prog) 26 22 (.slice none 0 0) 24 Try.underlying26 info_ints rfl .i64 .i64 n (by omega) (by omega)
  have hnew := (World.rowIs_made w (.slice none 0 0) n 22)
  have hbel := below1 w (.cells (madeCells #[.slice none 0 0] n) 22)
  rcases h.cases with ⟨rfl, a, cap, rfl⟩ | ⟨hpos, hlen, b, off, cap, V0, rfl, hbb, hcell⟩
  · simp at hn; subst hn
    simp only [show ((0 : Nat) : Int) = 0 from rfl] at hmk
    go_enter Try.func42, Try.ntmps42
    go_wp2
    refine wp_loop_rounds 1 ?_
    rw [rounds_succ]
    go_wp2
    go_ret
    refine ⟨_, rfl, ISS.of_rows (V := fun _ => .slice none 0 0) (z := .slice none 0 0) (ls := []) (hnew.congr (fun j hj => by omega)) rfl (by simp [maxLen]) (fun i hi => absurd hi (Nat.not_lt_zero _)) (Nat.le_refl _) (by simp), hbel, by simp⟩
  · rw [← hn] at hlen hpos hl ⊢
    have HN := Lib.hid hn; clear hn
    have HC := Lib.hid hcell; clear hcell
    have HRL := Lib.hid hrl; clear hrl
    go_enter Try.func42, Try.ntmps42
    go_wp2
    clear hmk
    go_loopw [4] (fun i wr => ∃ (k : Nat) (V : Nat → Value), k ≤ n ∧ i = .int .i64 k ∧ Hid (wr.rowIs w.heap.size 22 n (fun j => if j < k then V j else .slice none 0 0)) ∧ Hid (∀ j, j < k → IS wr (w.heap.size + 1 + j) (w.heap.size + 1 + j + 1) (V j) (ls.getD j [])) ∧ Hid (Below w.heap.size w wr) ∧ wr.heap.size = w.heap.size + 1 + k) (fun i _ => n - (intOf i).toNat)
    case atStart => exact ⟨0, fun _ => .slice none 0 0, by omega, rfl, hnew.congr (fun j _ => by simp), fun j hj => absurd hj (Nat.not_lt_zero _), hbel, by simp⟩
    case round =>
      obtain ⟨k, V, hk, rfl, hrow, hrs, hbe, hsz⟩ := hrel
      by_cases hlt : k < n
      · have hck := (hbe.out.cell (p := ⟨b, off + k, none⟩) (by exact Nat.lt_of_lt_of_le hbb hh)).trans (HC.out k (by rw [← HN.out]; exact hlt)).1
        have HT := toIntS_any (ls.getD k []) (V0 k) hi wr ((HC.out k (by rw [← HN.out]; exact hlt)).2.keep hbe.out hh) (by omega) (HRL.out k (by rw [← HN.out]; exact hlt))
        generalize V0 k = xk at *
        have HSZ := Lib.hid hsz; clear hsz
        go_wp2_with fail
        refine HT.mono ?_
        rintro e w2 ⟨u, rfl, ku, c2, s2⟩
        have hrow2 := rowIs_block hrow.out (c2.block w.heap.size (by rw [HSZ.out]; omega))
        have hbe2 := below_then hbe.out hbe.out.size c2
        have hs2 : w2.heap.size = w.heap.size + 1 + (k + 1) := by rw [s2, HSZ.out]; omega
        have KU : IS w2 (w.heap.size + 1 + k) (w.heap.size + 1 + k + 1) u (ls.getD k []) := by rw [HSZ.out] at ku; exact ku
        have KR : ∀ j, j < k → IS w2 (w.heap.size + 1 + j) (w.heap.size + 1 + j + 1) (V j) (ls.getD j []) := fun j hj => (hrs.out j hj).keep c2 (by rw [HSZ.out]; omega)
        obtain ⟨au, cu, hu, -⟩ := id KU
        generalize hq : Value.slice au (ls.getD k []).length cu = q at hu
        subst u
        have d0 := hrow2.cell hlt
        rw [if_neg (Nat.lt_irrefl _)] at d0
        have d1 := hrow2.frozen k
        have HROW := Lib.hid (rowIs_put hrow2 q)
        have HB := Lib.hid (hbe2.setCell (p := ⟨w.heap.size, k, none⟩) (Nat.le_refl _) q)
        have HKU := Lib.hid (KU.setOther (a := ⟨w.heap.size, k, none⟩) (.inl (by show w.heap.size < _; omega)) q)
        have HKR := Lib.hid (fun j hj => (KR j hj).setOther (a := ⟨w.heap.size, k, none⟩) (.inl (by show w.heap.size < _; omega)) q)
        have HS2 := Lib.hid hs2
        clear hrow2 hbe2 hs2 KU KR ku c2 s2 HT hrow hrs hbe HSZ
        generalize hlk : ls.getD k [] = lk at HKU hq
        have HLK := Lib.hid hlk; clear hlk
        subst q
        go_wp2_with fail
        go_roundw
        case rel =>
          refine ⟨k + 1, fun j => if j = k then .slice au lk.length cu else V j, by omega, by go_num, HROW.out, ?_, HB.out, by simp; exact HS2.out⟩
          intro j hj
          show IS _ _ _ (if j = k then _ else _) _
          by_cases e : j = k
          · subst e; rw [if_pos rfl, HLK.out]; exact HKU.out
          · rw [if_neg e]; exact HKR.out j (by omega)
        case measure => simp [intOf]; omega
      · obtain rfl : k = n := by omega
        clear HC
        go_wp2
        go_ret
        refine ⟨_, rfl, ISS.of_rows hrow.out HN.out (by unfold maxLen; omega) hrs.out (Nat.le_refl _) (by omega), hbe.out, hsz⟩

/-- the rows and their cells, up to row k -/
def totK (ls : List (List Int)) : Nat → Nat
  | 0 => ls.length
  | i + 1 => totK ls i + (ls.getD i []).length
theorem totK_mono (ls : List (List Int)) (i : Nat) : ∀ j, i ≤ j → totK ls i ≤ totK ls j
  | 0, h => by have : i = 0 := by omega
               subst this; exact Nat.le_refl _
  | j + 1, h => by
    by_cases e : i = j + 1
    · subst e; exact Nat.le_refl _
    · have := totK_mono ls i j (by omega)
      rw [show totK ls (j + 1) = totK ls j + (ls.getD j []).length from rfl]; omega
def totS (ls : List (List Int)) : Nat := totK ls ls.length
theorem totS_len {ls : List (List Int)} {B : Nat} (h : totS ls ≤ B) : ls.length ≤ B ∧ ∀ i, i < ls.length → (ls.getD i []).length ≤ B := by
  unfold totS at h
  refine ⟨Nat.le_trans (totK_mono ls 0 _ (Nat.zero_le _)) h, fun i hi => ?_⟩
  have h1 := totK_mono ls (i + 1) _ hi
  rw [show totK ls (i + 1) = totK ls i + (ls.getD i []).length from rfl] at h1
  omega

set_option maxHeartbeats 2000000 in
theorem szIntSS_any (ls : List (List Int)) (v : Value) (left : Int) (hb : Nat) (w : World) (h : ISSr w hb v ls) (h0 : 0 ≤ left) (h1 : left ≤ 1048576) :
    Calls Try.prog 40 #[v, .int .i64 left] w fun e w' => e = .returned (.int .i64 (szL (totS ls) left)) ∧ w = w' := by
  obtain ⟨n, hn⟩ : ∃ n, n = ls.length := ⟨_, rfl⟩
  rcases h.cases with ⟨rfl, a, cap, rfl⟩ | ⟨hpos, hlen, b, off, cap, V0, rfl, hbb, hcell⟩
  · have e : szL (totS []) left = left := by unfold szL totS totK; simp; omega
    rw [e]
    go_enter Try.func40, Try.ntmps40
    go_wp2
    refine wp_loop_rounds 1 ?_
    rw [rounds_succ]
    go_wp2
    go_ret
    exact ⟨rfl, rfl⟩
  · rw [← hn] at hlen hpos ⊢
    by_cases hbig : left < n
    · have e : szL (totS ls) left = -1 := by
        have := totK_mono ls 0 ls.length (Nat.zero_le _)
        unfold szL totS; rw [if_pos]
        rw [show totK ls 0 = ls.length from rfl] at this; omega
      rw [e]
      clear e hcell hn
      go_enter Try.func40, Try.ntmps40
      go_wp2
      go_ret
      exact ⟨rfl, rfl⟩
    · have HN := Lib.hid hn; clear hn
      have HC := Lib.hid hcell; clear hcell
      have hn1 : n ≤ left := by omega
      have ht0 : totK ls 0 = n := HN.out.symm
      go_enter Try.func40, Try.ntmps40
      go_wp2
      go_loopw [1, 5] (fun m i wr => ∃ (k : Nat) (r : Int), k ≤ n ∧ i = .int .i64 k ∧ m = .int .i64 r ∧ 0 ≤ r ∧ r ≤ 1048576 ∧ Hid (r = left - totK ls k) ∧ w = wr) (fun _ i _ => n - (intOf i).toNat)
      case atStart => exact ⟨0, left - n, by omega, rfl, by first | rfl | (congr 1), by omega, by omega, Lib.hid (by rw [ht0]), rfl⟩
      case round =>
        obtain ⟨k, r, hk, rfl, rfl, hr0, hr1, hr, rfl⟩ := hrel
        by_cases hlt : k < n
        · have hck := (HC.out k (by rw [← HN.out]; exact hlt)).1
          have HT := szIntS_any (ls.getD k []) (V0 k) r hb w (HC.out k (by rw [← HN.out]; exact hlt)).2 hr0 hr1
          have hts : totK ls (k + 1) = totK ls k + (ls.getD k []).length := rfl
          have htm := totK_mono ls (k + 1) n hlt
          generalize V0 k = xk at *
          by_cases hc : r < (ls.getD k []).length
          · have e1 : szL (ls.getD k []).length r = -1 := by unfold szL; rw [if_pos hc]
            have e2 : szL (totS ls) left = -1 := by
              unfold szL totS; rw [if_pos]
              rw [← HN.out]; have := hr.out; omega
            rw [e1] at HT
            have HE2 := Lib.hid e2
            clear e1 e2 hts htm hc
            go_wp2_with (go_at_call 54; (with_reducible refine HT.mono ?_); rintro e w' ⟨rfl, rfl⟩)
            go_ret
            exact ⟨ret_int HE2.out.symm, rfl⟩
          · have e1 : szL (ls.getD k []).length r = r - (ls.getD k []).length := by unfold szL; rw [if_neg hc]
            have HR := Lib.hid (show r - ((ls.getD k []).length : Int) = left - totK ls (k + 1) by rw [hts]; have := hr.out; omega)
            rw [e1] at HT
            have hr0' : 0 ≤ r - ((ls.getD k []).length : Int) := by omega
            have hr1' : r - ((ls.getD k []).length : Int) ≤ 1048576 := by omega
            clear e1 hts htm hc hr hr0 hr1
            generalize r - ((ls.getD k []).length : Int) = r' at *
            go_wp2_with (go_at_call 54; (with_reducible refine HT.mono ?_); rintro e w' ⟨rfl, rfl⟩)
            go_roundw
            case rel => exact ⟨k + 1, r', by omega, by go_num, rfl, hr0', hr1', HR.out, trivial⟩
            case measure => simp [intOf]; omega
        · obtain rfl : k = n := by omega
          clear HC
          go_wp2
          go_ret
          refine ⟨ret_int ?_, rfl⟩
          unfold szL totS
          rw [← HN.out, if_neg (by have := hr.out; omega)]
          exact hr.out
end Go.Proofs.Ytchkcjpahlimjaa
