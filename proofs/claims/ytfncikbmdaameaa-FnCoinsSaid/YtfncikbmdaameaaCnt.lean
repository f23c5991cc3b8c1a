/- Ways to pay, coin by coin: the plain law. -/
import Derived.Test.YtfncikbmdaameaaWays
import Derived.Test.YtfncikbmdaameaaFewC
import Derived.Test.YtfncikbmdaameaaGapW
import Derived.Test.YtfncikbmdaameaaTwo
import Derived.Test.YtfncikbmdaameaaDed
namespace Go.Proofs.Ytfncikbmdaameaa
open Go.RowKit
set_option linter.unusedVariables false
set_option linter.unusedSimpArgs false

/-- the ways with the coins of a list, the last one first -/
def wy : List Nat → Nat → Int
  | [], n => if n = 0 then 1 else 0
  | c :: r, n => sumN (fun j => if j * c ≤ n then wy r (n - j * c) else 0) (n + 1)
theorem wy_step (c : Nat) (r : List Nat) (n : Nat) (hc : 1 ≤ c) : wy (c :: r) n = wy r n + if c ≤ n then wy (c :: r) (n - c) else 0 := by
  rw [wy, sumN_first]
  have e0 : (if 0 * c ≤ n then wy r (n - 0 * c) else 0) = wy r n := by simp
  rw [e0]
  congr 1
  by_cases h : c ≤ n
  · rw [if_pos h, wy]
    rw [sumN_tail _ (n - c + 1) n (by omega) fun i hi => by
      have : i ≤ i * c := Nat.le_mul_of_pos_right i hc
      rw [if_neg]; rw [Nat.add_mul]; omega]
    refine sumN_congr _ _ _ fun i _ => ?_
    have : (i + 1) * c = i * c + c := by rw [Nat.add_mul, Nat.one_mul]
    by_cases g : i * c ≤ n - c
    · rw [if_pos g, if_pos (by omega), this]; congr 1; omega
    · rw [if_neg g, if_neg (by omega)]
  · rw [if_neg h, sumN_congr _ (fun _ => 0) n fun i _ => by
      have : (i + 1) * c = i * c + c := by rw [Nat.add_mul, Nat.one_mul]
      rw [if_neg (by omega)], sumN_zero]
theorem wy_bd : ∀ (L : List Nat) (n : Nat), n ≤ 500 → 0 ≤ wy L n ∧ wy L n ≤ ((501 ^ L.length : Nat) : Int)
  | [], n, _ => by unfold wy; split <;> simp
  | c :: r, n, hn => by
    rw [wy]
    have h0 := sumN_le (f := fun _ => 0) (g := fun j => if j * c ≤ n then wy r (n - j * c) else 0) (n + 1) fun i _ => by
      try dsimp only
      split
      · exact (wy_bd r _ (by omega)).1
      · omega
    have h1 := sumN_le (f := fun j => if j * c ≤ n then wy r (n - j * c) else 0) (g := fun _ => ((501 ^ r.length : Nat) : Int)) (n + 1) fun i _ => by
      try dsimp only
      split
      · exact (wy_bd r _ (by omega)).2
      · exact Int.natCast_nonneg _
    rw [sumN_zero] at h0
    rw [sumN_const] at h1
    refine ⟨h0, Int.le_trans h1 ?_⟩
    rw [List.length_cons, Nat.pow_succ, Nat.mul_comm]
    rw [← Int.natCast_mul]
    exact Int.ofNat_le.2 (Nat.mul_le_mul_right _ (by omega))
theorem wy_wrap {L : List Nat} (hL : L.length ≤ 6) {n : Nat} (hn : n ≤ 500) : wrap64 (wy L n) = wy L n := by
  have h := wy_bd L n hn
  have : 501 ^ L.length ≤ 501 ^ 6 := Nat.pow_le_pow_right (by omega) hL
  have e : (501 : Nat) ^ 6 ≤ 20000000000000000 := by decide
  have this := Nat.le_trans this e
  unfold wrap64; omega
theorem wIn_wy {c N : Nat} {r : List Nat} (hc : 1 ≤ c) (hN : N ≤ 500) (hr : r.length ≤ 5) : ∀ (f k : Nat) (L : List Int), L.length = N + 1 → c ≤ k → N + 1 ≤ k + f → (∀ i, i ≤ N → L.getD i 0 = if i < k then wy (c :: r) i else wy r i) → ∀ i, i ≤ N → (wIn c N f k L).getD i 0 = wy (c :: r) i
  | 0, k, L, _, _, hf, h, i, hi => by rw [wIn, h i hi, if_pos (by omega)]
  | f + 1, k, L, hl, hk, hf, h, i, hi => by
    rw [wIn]
    by_cases g : k ≤ N
    · rw [if_pos g]
      refine wIn_wy hc hN hr f (k + 1) _ (by rw [List.length_set]; exact hl) (by omega) (by omega) (fun i hi => ?_) i hi
      rw [getD_setW L k i _ (by omega)]
      by_cases e : i = k
      · subst e
        rw [if_pos rfl, if_pos (by omega), h i hi, if_neg (by omega), h (i - c) (by omega), if_pos (by omega)]
        have := wy_step c r i hc
        rw [if_pos hk] at this
        rw [← this]
        exact wy_wrap (by simp; omega) (by omega)
      · rw [if_neg e, h i hi]
        by_cases g2 : i < k
        · rw [if_pos g2, if_pos (by omega)]
        · rw [if_neg g2, if_neg (by omega)]
    · rw [if_neg g, h i hi, if_pos (by omega)]
theorem wCoin_wy {c : Int} {N : Nat} {r : List Nat} {L : List Int} (hc : 1 ≤ c) (hN : N ≤ 500) (hr : r.length ≤ 5) (hl : L.length = N + 1) (h : ∀ i, i ≤ N → L.getD i 0 = wy r i) (i : Nat) (hi : i ≤ N) : (wCoin N L c).getD i 0 = wy (c.toNat :: r) i := by
  unfold wCoin
  refine wIn_wy (by omega) hN hr _ _ L hl (Nat.le_refl _) (by omega) (fun i hi => ?_) i hi
  rw [h i hi]
  split
  · rw [wy_step c.toNat r i (by omega), if_neg (by omega)]; omega
  · rfl
theorem wFold_wy {N : Nat} (hN : N ≤ 500) : ∀ (l : List Int) (r : List Nat) (L : List Int), (∀ c ∈ l, 1 ≤ c) → l.length + r.length ≤ 6 → L.length = N + 1 → (∀ i, i ≤ N → L.getD i 0 = wy r i) → ∀ i, i ≤ N → (l.foldl (wCoin N) L).getD i 0 = wy ((l.map Int.toNat).reverse ++ r) i
  | [], r, L, _, _, _, h, i, hi => by simpa using h i hi
  | c :: l, r, L, hc, hlr, hl, h, i, hi => by
    rw [List.foldl_cons]
    rw [List.length_cons] at hlr
    rw [wFold_wy hN l (c.toNat :: r) (wCoin N L c) (fun x hx => hc x (by simp [hx])) (by simp; omega) (by rw [wCoin_len]; exact hl) (fun i hi => wCoin_wy (hc c (by simp)) hN (by omega) hl h i hi) i hi]
    simp
/-- the coins, the last one first -/
def cnR (l : List Int) : List Nat := (l.map Int.toNat).reverse
theorem ways_wy {l : List Int} {n : Int} (h : coinsB l = true) (h0 : 0 ≤ n) (h1 : n ≤ 500) : waysV l n = wy (cnR l) n.toNat := by
  obtain ⟨c1, c2, c3⟩ := coins_mem h
  unfold waysV
  rw [if_pos (by rw [h, inB_iff.2 ⟨h0, h1⟩]; rfl)]
  unfold wAll
  rw [wFold_wy (by omega) l [] _ (fun c hc => by
    obtain ⟨i, hi, rfl⟩ := List.getElem_of_mem hc
    have := c3 i hi
    rw [List.getD_eq_getElem?_getD, List.getElem?_eq_getElem hi] at this
    exact this.1) (by simpa using c1) (by simp) (fun i hi => by
      rw [getD_setW _ 0 i 1 (by simp), wy]
      by_cases e : i = 0
      · simp [e]
      · rw [if_neg e, if_neg e, List.getD_eq_getElem?_getD, List.getElem?_replicate]; split <;> rfl) _ (Nat.le_refl _)]
  simp [cnR]
theorem ways_no {l : List Int} {n : Int} (h : ¬ (coinsB l = true ∧ 0 ≤ n ∧ n ≤ 500)) : waysV l n = -1 := by
  unfold waysV
  rw [if_neg]
  intro g
  simp only [Bool.and_eq_true, inB_iff] at g
  exact h g
theorem ways_yes {l : List Int} {n : Int} (h : 0 ≤ waysV l n) : coinsB l = true ∧ 0 ≤ n ∧ n ≤ 500 := by
  refine Classical.byContradiction fun g => ?_
  rw [ways_no g] at h; omega
/-! ### which sums there are -/
theorem wy_nonneg : ∀ (L : List Nat) (n : Nat), 0 ≤ wy L n
  | [], n => by unfold wy; split <;> omega
  | c :: r, n => by
    rw [wy]
    have h0 := sumN_le (f := fun _ => 0) (g := fun j => if j * c ≤ n then wy r (n - j * c) else 0) (n + 1) fun i _ => by
      try dsimp only
      split
      · exact wy_nonneg r _
      · omega
    rwa [sumN_zero] at h0
theorem sumN_some {f : Nat → Int} : ∀ n : Nat, (∀ i, i < n → 0 ≤ f i) → (0 < sumN f n ↔ ∃ i, i < n ∧ 0 < f i)
  | 0, _ => by simp [sumN]
  | n + 1, h => by
    have ih := sumN_some n fun i hi => h i (by omega)
    have h0 : 0 ≤ sumN f n := by
      have := sumN_le (f := fun _ => 0) (g := f) n fun i hi => h i (by omega)
      rwa [sumN_zero] at this
    have hn := h n (by omega)
    rw [sumN]
    constructor
    · intro g
      by_cases e : 0 < sumN f n
      · obtain ⟨i, hi, hp⟩ := ih.1 e
        exact ⟨i, by omega, hp⟩
      · exact ⟨n, by omega, by omega⟩
    · rintro ⟨i, hi, hp⟩
      by_cases e : i = n
      · subst e; omega
      · have := ih.2 ⟨i, by omega, hp⟩; omega
theorem wy_pos (c : Nat) (r : List Nat) (n : Nat) (hc : 1 ≤ c) : 0 < wy (c :: r) n ↔ ∃ j, j * c ≤ n ∧ 0 < wy r (n - j * c) := by
  rw [wy, sumN_some _ fun i _ => by
    try dsimp only
    split
    · exact wy_nonneg r _
    · omega]
  constructor
  · rintro ⟨i, -, h⟩
    by_cases g : i * c ≤ n
    · rw [if_pos g] at h; exact ⟨i, g, h⟩
    · rw [if_neg g] at h; omega
  · rintro ⟨j, h, hp⟩
    have := Nat.le_mul_of_pos_right j hc
    exact ⟨j, by omega, by rw [if_pos h]; exact hp⟩
theorem wy_rk : ∀ (L L' : List Nat) (n : Nat), (∀ c ∈ L, 1 ≤ c ∧ c ∈ L') → 0 < wy L n → ∃ k, rk L' k n
  | [], L', n, _, h => by
    have : n = 0 := Classical.byContradiction fun e => by rw [wy, if_neg e] at h; omega
    subst this; exact ⟨0, rfl⟩
  | c :: r, L', n, hL, h => by
    obtain ⟨j, hj, hp⟩ := (wy_pos c r n (hL c (by simp)).1).1 h
    obtain ⟨k, hk⟩ := wy_rk r L' _ (fun x hx => hL x (by simp [hx])) hp
    obtain ⟨k', hk'⟩ := rk_many (hL c (by simp)).2 j k _ hk
    exact ⟨k', by rwa [Nat.sub_add_cancel hj] at hk'⟩
theorem wy_more : ∀ (L : List Nat) (c n : Nat), (∀ c ∈ L, 1 ≤ c) → c ∈ L → 0 < wy L n → 0 < wy L (n + c)
  | [], c, n, _, h, _ => by simp at h
  | d :: r, c, n, hL, h, hp => by
    have hd := hL d (by simp)
    rcases List.mem_cons.1 h with e | h
    · subst e
      rw [wy_step c r (n + c) hd, if_pos (by omega), Nat.add_sub_cancel]
      have := wy_nonneg r (n + c); omega
    · obtain ⟨j, hj, hq⟩ := (wy_pos d r n hd).1 hp
      have := wy_more r c (n - j * d) (fun x hx => hL x (by simp [hx])) h hq
      exact (wy_pos d r (n + c) hd).2 ⟨j, by omega, by rw [show n + c - j * d = n - j * d + c by omega]; exact this⟩
theorem wy_zero : ∀ (L : List Nat), (∀ c ∈ L, 1 ≤ c) → 0 < wy L 0
  | [], _ => by simp [wy]
  | d :: r, hL => (wy_pos d r 0 (hL d (by simp))).2 ⟨0, by simp, by simpa using wy_zero r fun x hx => hL x (by simp [hx])⟩
theorem rk_wy (L L' : List Nat) (hL : ∀ c ∈ L, 1 ≤ c) (hm : ∀ c ∈ L', c ∈ L) : ∀ (k n : Nat), rk L' k n → 0 < wy L n
  | 0, n, h => by have : n = 0 := h
                  subst this; exact wy_zero L hL
  | k + 1, n, h => by
    rcases h with h | ⟨c, hc, hle, h⟩
    · exact rk_wy L L' hL hm k n h
    · have := wy_more L c _ hL (hm c hc) (rk_wy L L' hL hm k _ h)
      rwa [Nat.sub_add_cancel hle] at this
theorem fold_conv {t : List Int} {n : Nat} : ∀ (l : List Int) (b : Int), 0 ≤ l.foldl (bstep t n) b → 0 ≤ b ∨ ∃ c, c ∈ l ∧ c ≤ n ∧ 0 ≤ t.getD ((n : Int) - c).toNat 0
  | [], b, h => .inl h
  | c :: l, b, h => by
    rw [List.foldl_cons] at h
    rcases fold_conv l _ h with g | ⟨d, hd, h1, h2⟩
    · unfold bstep at g
      split at g
      · rename_i k; exact .inr ⟨c, by simp, k.1, k.2.1⟩
      · exact .inl g
    · exact .inr ⟨d, by simp [hd], h1, h2⟩
theorem few_rk {l : List Int} (hl : ∀ c ∈ l, 1 ≤ c) : ∀ (N n : Nat), n ≤ N → 0 ≤ (fwT l n).getD n 0 → ∃ k, rk (l.map Int.toNat) k n
  | N, 0, _, _ => ⟨0, rfl⟩
  | 0, n + 1, h, _ => by omega
  | N + 1, n + 1, hn, h => by
    rw [fwT_last] at h
    rcases fold_conv l _ h with g | ⟨c, hc, h1, h2⟩
    · omega
    · have hc1 := hl c hc
      have e : (((n + 1 : Nat) : Int) - c).toNat = n + 1 - c.toNat := by omega
      rw [e, fwT_getD l _ n (by omega)] at h2
      obtain ⟨k, hk⟩ := few_rk hl N (n + 1 - c.toNat) (by omega) h2
      refine ⟨k + 1, ?_⟩
      have := rk_add (L := l.map Int.toNat) (c := c.toNat) (List.mem_map.2 ⟨c, hc, rfl⟩) hk
      rwa [Nat.sub_add_cancel (by omega)] at this
theorem coins_one {l : List Int} (h : coinsB l = true) : ∀ c ∈ l, 1 ≤ c ∧ c ≤ 30 := by
  obtain ⟨c1, c2, c3⟩ := coins_mem h
  exact mem_of_getD c3
theorem way_few {l : List Int} (h : coinsB l = true) (n : Nat) : 0 < wy (cnR l) n ↔ 0 ≤ (fwT l n).getD n 0 := by
  have h1 := coins_one h
  have hm : ∀ c ∈ cnR l, 1 ≤ c ∧ c ∈ l.map Int.toNat := by
    intro c hc
    unfold cnR at hc
    rw [List.mem_reverse] at hc
    refine ⟨?_, hc⟩
    obtain ⟨x, hx, rfl⟩ := List.mem_map.1 hc
    have := h1 x hx; omega
  constructor
  · intro g
    obtain ⟨k, hk⟩ := wy_rk _ (l.map Int.toNat) n hm g
    exact few_nonneg (fun c hc => (h1 c hc).1) k n hk
  · intro g
    obtain ⟨k, hk⟩ := few_rk (fun c hc => (h1 c hc).1) n n (Nat.le_refl _) g
    exact rk_wy _ _ (fun c hc => (hm c hc).1) (fun c hc => by unfold cnR; rw [List.mem_reverse]; exact hc) k n hk
/-! ### the statement's tests -/
theorem coins_few {l : List Int} {n : Int} (h : 0 ≤ waysV l n) : (0 < waysV l n ↔ 0 ≤ fewV l n) := by
  obtain ⟨h1, h2, h3⟩ := ways_yes h
  rw [ways_wy h1 h2 h3, way_few h1]
  unfold fewV
  rw [if_pos (by rw [h1, inB_iff.2 ⟨h2, h3⟩]; rfl)]
theorem upTo_take {l : List Int} {m : Nat} : ∀ k, k ≤ m → upTo (l.take m) k = upTo l k
  | 0, _ => rfl
  | k + 1, hk => by
    have e : ∀ i, i < m → (l.take m).getD i 0 = l.getD i 0 := fun i hi => by
      rw [List.getD_eq_getElem?_getD, List.getElem?_take_of_lt hi, ← List.getD_eq_getElem?_getD]
    rw [upTo, upTo, upTo_take k (by omega), e k (by omega), e (k - 1) (by omega)]
theorem upTo_pre {l : List Int} : ∀ n k, k ≤ n → upTo l n = true → upTo l k = true
  | 0, k, hk, h => by have : k = 0 := by omega
                      subst this; exact h
  | n + 1, k, hk, h => by
    by_cases e : k = n + 1
    · subst e; exact h
    · rw [upTo, Bool.and_eq_true] at h
      exact upTo_pre n k (by omega) h.1
theorem coins_take {l : List Int} (h : coinsB l = true) (h2 : 1 < l.length) : coinsB (l.take (l.length - 1)) = true := by
  unfold coinsB at h ⊢
  simp only [Bool.and_eq_true, inB_iff] at h ⊢
  obtain ⟨⟨h1, h3⟩, h4⟩ := h
  have hl : (l.take (l.length - 1)).length = l.length - 1 := by rw [List.length_take]; omega
  refine ⟨⟨by rw [hl]; omega, ?_⟩, by rw [hl, upTo_take _ (Nat.le_refl _)]; exact upTo_pre _ _ (by omega) h4⟩
  unfold allIn at h3 ⊢
  rw [List.all_eq_true] at h3 ⊢
  exact fun x hx => h3 x (List.mem_of_mem_take hx)
theorem cnR_take {l : List Int} (h2 : 1 ≤ l.length) : cnR l = (l.getD (l.length - 1) 0).toNat :: cnR (l.take (l.length - 1)) := by
  have e : l = l.take (l.length - 1) ++ [l.getD (l.length - 1) 0] := by
    have := List.take_succ_eq_append_getElem (l := l) (i := l.length - 1) (by omega)
    rw [show l.length - 1 + 1 = l.length by omega, List.take_length] at this
    rw [List.getD_eq_getElem?_getD, List.getElem?_eq_getElem (by omega)]; exact this
  conv => lhs; rw [e]
  unfold cnR; rw [List.map_append, List.reverse_append]; rfl
theorem ways_last {l : List Int} {n : Int} (h : 0 ≤ waysV l n) (h2 : 1 < l.length) : (if l.getD (l.length - 1) 0 ≤ n then waysV (l.take (l.length - 1)) n + waysV l (n - l.getD (l.length - 1) 0) else waysV (l.take (l.length - 1)) n) = waysV l n := by
  obtain ⟨h1, h3, h4⟩ := ways_yes h
  have hc := (coins_mem h1).2.2 (l.length - 1) (by omega)
  have hcn := cnR_take (l := l) (by omega)
  rw [ways_wy h1 h3 h4, ways_wy (coins_take h1 h2) h3 h4, hcn, wy_step _ _ _ (by omega)]
  split
  · rename_i g
    rw [ways_wy h1 (by omega) (by omega), if_pos (by omega), hcn]
    congr 2; omega
  · rename_i g
    rw [if_neg (by omega)]; omega
theorem gapD_is (l : List Int) : ∀ n, 0 ≤ gapD l n → (fwT l (gapD l n).toNat).getD (gapD l n).toNat 0 < 0 ∧ ∀ m : Nat, gapD l n < m → m < n → 0 ≤ (fwT l m).getD m 0
  | 0, h => by simp [gapD] at h
  | n + 1, h => by
    rw [gapD] at h ⊢
    by_cases g : (fwT l n).getD n 0 < 0
    · rw [if_pos g] at h ⊢
      exact ⟨g, fun m h1 h2 => by omega⟩
    · rw [if_neg g] at h ⊢
      obtain ⟨a, b⟩ := gapD_is l n h
      refine ⟨a, fun m h1 h2 => ?_⟩
      by_cases e : m = n
      · subst e; omega
      · exact b m h1 (by omega)
theorem gap_above {l : List Int} (h : 0 ≤ gapV l) (h2 : gapV l < 480) {k : Int} (hk : 1 ≤ k) (hk' : k < 20) : 1 ≤ waysV l (gapV l + k) := by
  unfold gapV at h h2 ⊢
  split at h
  · rename_i g
    rw [if_pos g] at h2 ⊢
    simp only [Bool.and_eq_true, decide_eq_true_eq] at g
    rw [ways_wy g.1 (by omega) (by omega)]
    have hp := (way_few g.1 (gapD l 870 + k).toNat).2 ((gapD_is l 870 h).2 _ (by omega) (by omega))
    omega
  · omega
theorem gap_at {l : List Int} (h : 0 ≤ gapV l) (h2 : gapV l < 480) : waysV l (gapV l) = 0 := by
  unfold gapV at h h2 ⊢
  split at h
  · rename_i g
    rw [if_pos g] at h2 ⊢
    simp only [Bool.and_eq_true, decide_eq_true_eq] at g
    rw [ways_wy g.1 (by omega) (by omega)]
    have hp := way_few g.1 (gapD l 870).toNat
    have hq := (gapD_is l 870 h).1
    have := wy_nonneg (cnR l) (gapD l 870).toNat
    omega
  · omega
/-! ### two coins -/
theorem wy_one (a n N : Nat) (ha : 1 ≤ a) (hN : n ≤ N) : wy [a] n = sumN (fun i => if i * a = n then 1 else 0) (N + 1) := by
  rw [wy, sumN_tail (fun i => if i * a = n then (1 : Int) else 0) (n + 1) (N + 1) (by omega) fun i hi => by
    have := Nat.le_mul_of_pos_right i ha
    rw [if_neg (by omega)]]
  refine sumN_congr _ _ _ fun i _ => ?_
  rw [wy]
  by_cases h : i * a = n
  · rw [if_pos h, if_pos (by omega), if_pos (by omega)]
  · rw [if_neg h]
    by_cases g : i * a ≤ n
    · rw [if_pos g, if_neg (by omega)]
    · rw [if_neg g]
theorem wy_two (a b n : Nat) (ha : 1 ≤ a) (hb : 1 ≤ b) : wy [b, a] n = sumN (fun i => if i * a ≤ n ∧ b ∣ n - i * a then 1 else 0) (n + 1) := by
  have e1 : wy [b, a] n = sumN (fun j => sumN (fun i => if i * a + j * b = n then (1 : Int) else 0) (n + 1)) (n + 1) := by
    rw [wy]
    refine sumN_congr _ _ _ fun j _ => ?_
    by_cases g : j * b ≤ n
    · rw [if_pos g, wy_one a (n - j * b) n ha (by omega)]
      refine sumN_congr _ _ _ fun i _ => ?_
      by_cases e : i * a = n - j * b
      · rw [if_pos e, if_pos (by omega)]
      · rw [if_neg e, if_neg (by omega)]
    · rw [if_neg g, sumN_congr _ (fun _ => 0) (n + 1) fun i _ => if_neg (by omega), sumN_zero]
  rw [e1, sumN_swap (fun j i => if i * a + j * b = n then (1 : Int) else 0) (n + 1) (n + 1)]
  refine sumN_congr _ _ _ fun i _ => ?_
  by_cases h : i * a ≤ n ∧ b ∣ n - i * a
  · rw [if_pos h]
    obtain ⟨h1, q, hq⟩ := h
    have hqn : q ≤ q * b := Nat.le_mul_of_pos_right q hb
    rw [Nat.mul_comm b q] at hq
    rw [sumN_single (j := q) (by omega) fun j _ hne => if_neg fun e => hne (Nat.eq_of_mul_eq_mul_right hb (by omega))]
    exact if_pos (by omega)
  · rw [if_neg h, sumN_congr _ (fun _ => 0) (n + 1) fun j _ => if_neg fun e => h ⟨by omega, j, by rw [Nat.mul_comm b j]; omega⟩, sumN_zero]
theorem count_step (x b : Nat) (hb : 1 ≤ b) : ∀ N : Nat, sumN (fun i => if x ≤ i ∧ b ∣ i - x then (1 : Int) else 0) N = if x < N then (((N - 1 - x) / b + 1 : Nat) : Int) else 0
  | 0 => by simp [sumN]
  | N + 1 => by
    rw [sumN, count_step x b hb N]
    by_cases h1 : x < N
    · rw [if_pos h1, if_pos (show x < N + 1 by omega)]
      have e : N + 1 - 1 - x = (N - 1 - x) + 1 := by omega
      rw [e, Nat.succ_div]
      have e2 : N - x = N - 1 - x + 1 := by omega
      by_cases g : b ∣ N - x
      · rw [if_pos (show x ≤ N ∧ b ∣ N - x from ⟨by omega, g⟩), if_pos (show b ∣ N - 1 - x + 1 by rw [← e2]; exact g)]; push_cast; omega
      · rw [if_neg (show ¬ (x ≤ N ∧ b ∣ N - x) from fun h => g h.2), if_neg (show ¬ b ∣ N - 1 - x + 1 by rw [← e2]; exact g)]; push_cast; omega
    · rw [if_neg h1]
      by_cases g : x = N
      · subst g
        rw [if_pos (show x ≤ x ∧ b ∣ x - x from ⟨Nat.le_refl _, by rw [Nat.sub_self]; exact Nat.dvd_zero b⟩), if_pos (show x < x + 1 by omega)]
        rw [Nat.add_sub_cancel, Nat.sub_self, Nat.zero_div]; rfl
      · rw [if_neg (show ¬ (x ≤ N ∧ b ∣ N - x) by omega), if_neg (show ¬ x < N + 1 by omega)]; rfl
theorem two_ways {a b n : Int} {x : Nat} (h : twoB a b n = true) (hx : First a b n x) (hab : a < b) : waysV [a, b] n = twoV a b n x := by
  unfold twoV
  rw [if_pos h]
  simp only [twoB, Bool.and_eq_true, inB_iff, decide_eq_true_eq] at h
  obtain ⟨⟨⟨h1, h2⟩, h3⟩, h4⟩ := h
  have hc : coinsB [a, b] = true := by
    unfold coinsB allIn upTo upTo upTo
    simp [inB]; omega
  rw [ways_wy hc h4.1 h4.2]
  obtain ⟨A, rfl⟩ : ∃ A : Nat, a = A := ⟨a.toNat, by omega⟩
  obtain ⟨B, rfl⟩ : ∃ B : Nat, b = B := ⟨b.toNat, by omega⟩
  obtain ⟨N, rfl⟩ : ∃ N : Nat, n = N := ⟨n.toNat, by omega⟩
  have hg1 : Nat.gcd A B = 1 := by
    have h1 := gcdI_pos_right A B h2.1
    unfold gcdI Int.gcd at h1 h3
    simp at h1 h3
    omega
  have e : wy (cnR [(A : Int), (B : Int)]) (N : Int).toNat = wy [B, A] N := by simp [cnR]
  rw [e, wy_two A B N (by omega) (by omega)]
  obtain ⟨hz, hm⟩ := hx
  have hz' : (B : Int) ∣ (N : Int) - A * x := Int.dvd_of_tmod_eq_zero hz
  have key : ∀ i : Nat, (i * A ≤ N ∧ B ∣ N - i * A) ↔ (i * A ≤ N ∧ (x ≤ i ∧ B ∣ i - x)) := by
    intro i
    have hcast : i * A ≤ N → ((N - i * A : Nat) : Int) = (N : Int) - A * i := by
      intro g; rw [Int.ofNat_sub g]; push_cast; rw [Int.mul_comm]
    constructor
    · rintro ⟨g, d⟩
      refine ⟨g, ?_⟩
      have d' : (B : Int) ∣ (N : Int) - A * i := by rw [← hcast g]; exact Int.ofNat_dvd.2 d
      have hxi : x ≤ i := Classical.byContradiction fun c => hm i (by omega) (Int.tmod_eq_zero_of_dvd d')
      refine ⟨hxi, ?_⟩
      have dd : (B : Int) ∣ ((A * (i - x) : Nat) : Int) := by
        have := Int.dvd_sub hz' d'
        have e2 : (N : Int) - A * x - ((N : Int) - A * i) = ((A * (i - x) : Nat) : Int) := by
          push_cast; rw [Int.ofNat_sub hxi]; grind
        rwa [e2] at this
      have hc2 : Nat.Coprime B A := by rw [Nat.Coprime, Nat.gcd_comm]; exact hg1
      exact hc2.dvd_of_dvd_mul_left (Int.ofNat_dvd.1 dd)
    · rintro ⟨g, hxi, q, hq⟩
      refine ⟨g, ?_⟩
      apply Int.ofNat_dvd.1
      rw [hcast g]
      have e2 : (N : Int) - A * i = ((N : Int) - A * x) - A * (i - x : Nat) := by
        rw [Int.ofNat_sub hxi]; grind
      rw [e2, hq]
      refine Int.dvd_sub hz' ?_
      push_cast
      exact Int.dvd_mul_of_dvd_right (Int.dvd_mul_right _ _)
  have hA : 1 ≤ A := by omega
  have hle : ∀ i : Nat, i * A ≤ N ↔ i < N / A + 1 := fun i => by
    rw [Nat.lt_succ_iff, Nat.le_div_iff_mul_le (by omega)]
  have hdl : N / A ≤ N := Nat.div_le_self _ _
  rw [sumN_congr _ (fun i => if i * A ≤ N ∧ (x ≤ i ∧ B ∣ i - x) then (1 : Int) else 0) (N + 1) fun i _ => by
    by_cases g : i * A ≤ N ∧ B ∣ N - i * A
    · rw [if_pos g, if_pos ((key i).1 g)]
    · rw [if_neg g, if_neg fun g' => g ((key i).2 g')]]
  rw [sumN_tail _ (N / A + 1) (N + 1) (by omega) fun i hi => if_neg fun g => by have := (hle i).1 g.1; omega]
  rw [sumN_congr _ (fun i => if x ≤ i ∧ B ∣ i - x then (1 : Int) else 0) (N / A + 1) fun i hi => by
    have g1 := (hle i).2 hi
    by_cases g : x ≤ i ∧ B ∣ i - x
    · rw [if_pos g, if_pos ⟨g1, g⟩]
    · rw [if_neg g, if_neg fun g' => g g'.2]]
  rw [count_step x B (by omega)]
  by_cases g : (N : Int) < A * x
  · rw [if_pos g, if_neg]
    intro c
    have := (hle x).2 c
    have e3 : ((x * A : Nat) : Int) = A * x := by push_cast; rw [Int.mul_comm]
    omega
  · have e3 : ((x * A : Nat) : Int) = A * x := by push_cast; rw [Int.mul_comm]
    have hxn : x * A ≤ N := by omega
    rw [if_neg g, if_pos ((hle x).1 hxn)]
    have e4 : (N : Int) - A * x = ((N - x * A : Nat) : Int) := by rw [Int.ofNat_sub hxn, e3]
    rw [e4, ← Int.natCast_mul, ← Int.natCast_ediv]
    rw [← Nat.div_div_eq_div_mul, Nat.mul_comm x A, Nat.sub_mul_div]
    rw [show N / A + 1 - 1 - x = N / A - x by omega]; push_cast; rfl
end Go.Proofs.Ytfncikbmdaameaa
