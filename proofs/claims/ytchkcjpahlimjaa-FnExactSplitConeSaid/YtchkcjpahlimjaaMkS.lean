/- Marking slices of slices; what is written only between two block numbers. -/
import Derived.Test.YtchkcjpahlimjaaOnly
namespace Go.Proofs.Ytchkcjpahlimjaa
open Go.RowKit
set_option linter.unusedVariables false
set_option linter.unusedSimpArgs false

/-- the cells of the first i rows -/
def totL (ls : List (List Int)) : Nat → Nat
  | 0 => 0
  | i + 1 => totL ls i + (ls.getD i []).length
/-- the rows, marked from k on -/
def markLL (ls : List (List Int)) (k : Int) : List (List Int) := (List.range ls.length).map fun (i : Nat) => markL (ls.getD i []).length (k + totL ls i)
theorem markLL_len (ls : List (List Int)) (k : Int) : (markLL ls k).length = ls.length := by simp [markLL]
theorem markLL_getD (ls : List (List Int)) (k : Int) (i : Nat) (h : i < ls.length) : (markLL ls k).getD i [] = markL (ls.getD i []).length (k + totL ls i) := by
  rw [List.getD_eq_getElem?_getD]; simp [markLL, h]
theorem totL_mono (ls : List (List Int)) (i : Nat) : ∀ j, i ≤ j → totL ls i ≤ totL ls j
  | 0, h => by have : i = 0 := by omega
               subst this; exact Nat.le_refl _
  | j + 1, h => by
    by_cases e : i = j + 1
    · subst e; exact Nat.le_refl _
    · have := totL_mono ls i j (by omega)
      rw [show totL ls (j + 1) = totL ls j + (ls.getD j []).length from rfl]; omega

set_option maxHeartbeats 1000000 in
theorem markIntSS_any (ls : List (List Int)) (v : Value) (lo hi : Nat) (k : Int) (w : World) (h : ISS w lo hi v ls) (hk : 0 ≤ k) (hk' : k + totL ls ls.length ≤ 4611686018427387904) :
    Calls Try.prog 21 #[v, .int .i64 k] w fun e w' => e = .returned (.int .i64 (k + totL ls ls.length)) ∧ ISS w' lo hi v (markLL ls k) ∧ Only lo hi w w' := by
  rcases h.cases with ⟨rfl, a, cap, rfl⟩ | ⟨hpos, hlen, b, off, cap, V, rfl, hb1, hb2, hcs, hrow, hdd⟩
  · go_enter Try.func21, Try.ntmps21
    go_wp2
    refine wp_loop_rounds 1 ?_
    rw [rounds_succ]
    go_wp2
    go_ret
    exact ⟨ret_int (by simp [totL]), h, Only.refl _ _ _⟩
  · obtain ⟨a0, cap0, hv0, hc1, hc2, -⟩ := h
    injection hv0 with e1 e2 e3
    subst e3
    have hres : ∀ w', BK w' b off ls.length 22 V → (∀ i, i < ls.length → IS w' lo hi (V i) (markL (ls.getD i []).length (k + totL ls i))) → ISS w' lo hi (.slice (some ⟨b, off, none⟩) ls.length cap) (markLL ls k) := by
      intro w' hcs' hrow'
      refine ⟨_, _, by rw [markLL_len], by rw [markLL_len]; exact hc1, hc2, fun _ => ⟨b, off, V, rfl, hb1, hb2, ?_⟩⟩
      rw [markLL_len]
      exact ⟨hcs', fun i hi => by rw [markLL_getD _ _ _ hi]; exact hrow' i hi, hdd⟩
    have HRES := Lib.hid hres; clear hres e1 hc1 hc2
    have HR0 := Lib.hid hrow; clear hrow
    have HCS := Lib.hid hcs; clear hcs
    have HDD := Lib.hid hdd; clear hdd
    obtain ⟨n, hn⟩ : ∃ n, n = ls.length := ⟨_, rfl⟩
    rw [← hn] at hlen hpos hk' HCS HRES HR0 HDD ⊢
    clear hn
    go_enter Try.func21, Try.ntmps21
    go_wp2
    go_loopw [1, 5] (fun m i wr => ∃ j : Nat, j ≤ n ∧ i = .int .i64 j ∧ m = .int .i64 (k + totL ls j) ∧ Hid (BK wr b off n 22 V) ∧ Hid (∀ i, i < n → IS wr lo hi (V i) (if i < j then markL (ls.getD i []).length (k + totL ls i) else ls.getD i [])) ∧ Hid (Only lo hi w wr)) (fun _ i _ => n - (intOf i).toNat)
    case atStart => exact ⟨0, by omega, rfl, by simp [totL], HCS, (fun i hi => by rw [if_neg (Nat.not_lt_zero _)]; exact HR0.out i hi), Only.refl _ _ _⟩
    case round =>
      obtain ⟨j, hj, rfl, rfl, hcs, hrow, honly⟩ := hrel
      by_cases hlt : j < n
      · have hc := hcs.out.cell hlt
        have hrj := hrow.out j hlt
        rw [if_neg (Nat.lt_irrefl _)] at hrj
        have ht1 := totL_mono ls (j + 1) n hlt
        have ht2 : totL ls (j + 1) = totL ls j + (ls.getD j []).length := rfl
        have HQ := markIntS_any (ls.getD j []) (V j) lo hi (k + totL ls j) wr hrj (by omega) (by omega)
        have hblk := hrj.blk
        have HT := Lib.hid ht2
        have hbwr := hcs.out.lt
        have hne : blkOf (V j) ≠ some b := by
          intro e
          rcases hblk with h | ⟨b', h, _, _, cs, hcs'⟩
          · rw [h] at e; cases e
          · rw [h] at e; injection e with e; subst e
            obtain ⟨c2, hc2, _⟩ := hcs.out
            rw [hcs'] at hc2; injection hc2 with hc2; injection hc2 with _ hc2 _
            exact absurd hc2 (by decide)
        have HNEXT : ∀ w', IS w' lo hi (V j) (markL (ls.getD j []).length (k + totL ls j)) → wr.grownBy w' (blkOf (V j)) →
            BK w' b off n 22 V ∧ (∀ i, i < n → IS w' lo hi (V i) (if i < j + 1 then markL (ls.getD i []).length (k + totL ls i) else ls.getD i [])) ∧ Only lo hi w w' := by
          intro w' hi' hg'
          refine ⟨hcs.out.of_block (hg'.block b hbwr (fun e => hne e.symm)), fun i hi => ?_, honly.out.trans (Only.of_grown hg' hblk)⟩
          by_cases e : i = j
          · subst e; rw [if_pos (by omega)]; exact hi'
          · have hr := (hrow.out i hi).grown hg' (by
              rcases Nat.lt_or_ge i j with h | h
              · rcases HDD.out i j h hlt with h' | h'
                · rw [h']; cases blkOf (V i) <;> simp
                · exact .inr fun e => h' e.symm
              · exact HDD.out j i (by omega) hi)
            by_cases e2 : i < j
            · rw [if_pos e2] at hr; rw [if_pos (by omega)]; exact hr
            · rw [if_neg e2] at hr; rw [if_neg (by omega)]; exact hr
        clear hrj hblk hne ht2
        generalize (ls.getD j []).length = m at *
        generalize V j = vj at *
        go_wp2_with fail
        refine HQ.mono ?_
        rintro e w1 ⟨rfl, hi1, hg1⟩
        obtain ⟨n1, n2, n3⟩ := HNEXT w1 hi1 hg1
        have N1 := Lib.hid n1; have N2 := Lib.hid n2; have N3 := Lib.hid n3
        clear n1 n2 n3 HNEXT hi1 hg1 hcs hrow honly hc
        go_wp2
        go_roundw
        case rel => exact ⟨j + 1, by omega, by go_num, by rw [HT.out]; congr 1; omega, N1, N2, N3⟩
        case measure => simp [intOf]; omega
      · obtain rfl : j = n := by omega
        have hall : ∀ i, i < j → IS wr lo hi (V i) (markL (ls.getD i []).length (k + totL ls i)) := fun i hi => by
          have := hrow.out i hi; rwa [if_pos hi] at this
        have HALL := Lib.hid hall; clear hall
        go_wp2
        go_ret
        exact ⟨rfl, HRES.out _ hcs.out HALL.out, honly.out⟩

set_option maxHeartbeats 1000000 in
theorem heldIntSS_any (ls : List (List Int)) (v : Value) (hi : Nat) (k : Int) (w : World) (h : ISSr w hi v (markLL ls k)) (hk : 0 ≤ k) (hk' : k + totL ls ls.length ≤ 4611686018427387904) :
    Calls Try.prog 22 #[v, .int .i64 k] w fun e w' => e = .returned (.int .i64 (k + totL ls ls.length)) ∧ w = w' := by
  rcases h.cases with ⟨h0, a, cap, rfl⟩ | ⟨hpos, hlen, b, off, cap, V, rfl, hb, hcell⟩
  · have : ls.length = 0 := by have := congrArg List.length h0; rw [markLL_len] at this; exact this
    rw [this]
    clear h h0 this
    go_enter Try.func22, Try.ntmps22
    go_wp2
    refine wp_loop_rounds 1 ?_
    rw [rounds_succ]
    go_wp2
    go_ret
    exact ⟨ret_int (by simp [totL]), rfl⟩
  · rw [markLL_len] at hpos hlen hcell ⊢
    clear h
    obtain ⟨n, hn⟩ : ∃ n, n = ls.length := ⟨_, rfl⟩
    rw [← hn] at hpos hlen hcell hk' ⊢
    have HN := Lib.hid hn; clear hn
    have HC := Lib.hid hcell; clear hcell
    go_enter Try.func22, Try.ntmps22
    go_wp2
    go_loop [1, 5] (fun m i => ∃ j : Nat, j ≤ n ∧ i = .int .i64 j ∧ m = .int .i64 (k + totL ls j)) (fun _ i => n - (intOf i).toNat)
    case atStart => exact ⟨0, by omega, rfl, by simp [totL]⟩
    case round =>
      obtain ⟨j, hj, rfl, rfl⟩ := hrel
      by_cases hlt : j < n
      · have hc := (HC.out j hlt).1
        have hrj := (HC.out j hlt).2
        rw [markLL_getD _ _ _ (by rw [← HN.out]; exact hlt)] at hrj
        have ht1 := totL_mono ls (j + 1) n hlt
        have ht2 : totL ls (j + 1) = totL ls j + (ls.getD j []).length := rfl
        have HQ := heldIntS_any (ls.getD j []).length (V j) hi (k + totL ls j) w hrj (by omega) (by omega)
        have HT := Lib.hid ht2
        clear hrj ht2
        generalize (ls.getD j []).length = m at *
        generalize V j = vj at *
        go_wp2_with fail
        refine HQ.mono ?_
        rintro e w1 ⟨rfl, rfl⟩
        go_wp2
        go_round
        case rel => exact ⟨j + 1, by omega, by go_num, by rw [HT.out]; congr 1; omega⟩
        case measure => simp [intOf]; omega
      · obtain rfl : j = n := by omega
        go_wp2
        go_ret
        exact ⟨rfl, rfl⟩
end Go.Proofs.Ytchkcjpahlimjaa
