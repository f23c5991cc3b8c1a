/- The leaders of classes and the points of a cell: plain law. -/
import Derived.Test.YtehhoplenloocaaGreatB18
import Derived.Test.YtehhoplenloocaaGreatLat
namespace Go.Proofs.YtehhoplenloocaaGreat
open Go.RowKit
set_option linter.unusedVariables false
set_option linter.unusedSimpArgs false

/-- the leaders of the classes, their first k numbers -/
def ldK (H : List (List Int)) : Nat → List (List Int)
  | 0 => [[]]
  | k + 1 => stepL (ldK H k) 0 (atM H k k - 1)
theorem ldK_mem (H : List (List Int)) : ∀ k v, v ∈ ldK H k ↔ v.length = k ∧ ∀ c, c < k → 0 ≤ v.getD c 0 ∧ v.getD c 0 < atM H c c
  | 0, v => by
    constructor
    · intro h
      simp [ldK] at h
      subst h; exact ⟨rfl, fun c hc => by omega⟩
    · rintro ⟨h, -⟩
      rw [List.length_eq_zero_iff.1 h]; simp [ldK]
  | k + 1, v => by
    rw [ldK, stepL, List.mem_flatMap]
    constructor
    · rintro ⟨u, hu, hv⟩
      obtain ⟨h1, h2⟩ := (ldK_mem H k u).1 hu
      unfold longer at hv
      rw [List.mem_map] at hv
      obtain ⟨i, hi, rfl⟩ := hv
      rw [List.mem_range] at hi
      refine ⟨by simp [h1], fun c hc => ?_⟩
      by_cases e : c < k
      · rw [List.getD_eq_getElem?_getD, List.getElem?_append_left (by omega), ← List.getD_eq_getElem?_getD]; exact h2 c e
      · obtain rfl : c = k := by omega
        rw [List.getD_eq_getElem?_getD, List.getElem?_append_right (by omega), h1]
        simp; omega
    · rintro ⟨h1, h2⟩
      refine ⟨v.take k, (ldK_mem H k _).2 ⟨by rw [List.length_take]; omega, fun c hc => ?_⟩, ?_⟩
      · rw [List.getD_eq_getElem?_getD, List.getElem?_take_of_lt hc, ← List.getD_eq_getElem?_getD]; exact h2 c (by omega)
      · unfold longer
        rw [List.mem_map]
        have hk := h2 k (by omega)
        refine ⟨(v.getD k 0).toNat, by rw [List.mem_range]; omega, ?_⟩
        have e1 : (0 : Int) + ((v.getD k 0).toNat : Int) = v.getD k 0 := by omega
        rw [e1, List.getD_eq_getElem?_getD, List.getElem?_eq_getElem (show k < v.length by omega)]
        have e2 : v.take (k + 1) = v := by rw [← h1, List.take_length]
        conv => rhs; rw [← e2]
        rw [List.take_succ_eq_append_getElem (show k < v.length by omega)]; rfl
theorem nodup_map_of {α β : Type} {f : α → β} : ∀ {l : List α}, l.Nodup → (∀ x ∈ l, ∀ y ∈ l, f x = f y → x = y) → (l.map f).Nodup
  | [], _, _ => List.nodup_nil
  | a :: l, h, hf => by
    rw [List.nodup_cons] at h
    rw [List.map_cons, List.nodup_cons]
    refine ⟨fun hm => ?_, nodup_map_of h.2 fun x hx y hy => hf x (by simp [hx]) y (by simp [hy])⟩
    obtain ⟨b, hb, e⟩ := List.mem_map.1 hm
    exact h.1 (hf b (by simp [hb]) a (by simp) e ▸ hb)
theorem longer_nodup (v : List Int) (lo : Int) (j : Nat) : (longer v lo j).Nodup := by
  unfold longer
  refine nodup_map_of List.nodup_range fun x _ y _ e => ?_
  have := List.append_cancel_left e
  injection this with e1 _
  omega
theorem stepL_nodup {k : Nat} : ∀ {out : List (List Int)} (lo hi : Int), out.Nodup → (∀ v ∈ out, v.length = k) → (stepL out lo hi).Nodup
  | [], lo, hi, _, _ => by simp [stepL]
  | v :: out, lo, hi, h, hl => by
    rw [List.nodup_cons] at h
    have ih := stepL_nodup lo hi h.2 fun u hu => hl u (by simp [hu])
    have e : stepL (v :: out) lo hi = longer v lo (hi + 1 - lo).toNat ++ stepL out lo hi := rfl
    rw [e, List.nodup_append]
    refine ⟨longer_nodup _ _ _, ih, fun a ha b hb e2 => ?_⟩
    subst e2
    unfold stepL at hb
    rw [List.mem_flatMap] at hb
    obtain ⟨u, hu, hb⟩ := hb
    unfold longer at ha hb
    rw [List.mem_map] at ha hb
    obtain ⟨i, -, rfl⟩ := ha
    obtain ⟨j, -, e3⟩ := hb
    have := List.append_inj_left e3 (by rw [hl u (by simp [hu]), hl v (by simp)])
    exact h.1 (this ▸ hu)
theorem ldK_nodup (H : List (List Int)) : ∀ k, (ldK H k).Nodup
  | 0 => by simp [ldK]
  | k + 1 => stepL_nodup _ _ (ldK_nodup H k) fun v hv => ((ldK_mem H k v).1 hv).1
theorem ldK_len (H : List (List Int)) (k : Nat) : (ldK H (k + 1)).length = (ldK H k).length * (atM H k k).toNat := by
  rw [ldK, stepL_len]; congr 2; omega
theorem ldK_len0 (H : List (List Int)) : (ldK H 0).length = 1 := rfl
/-- as many leaders as the determinant tells -/
theorem HX.det {n : Nat} {H : List (List Int)} (h : HX n H) (h1 : 1 ≤ n) (h3 : n ≤ 3) : 0 < dN H ∧ ((ldK H n).length : Int) = dN H := by
  have z := h.tri
  rcases (show n = 1 ∨ n = 2 ∨ n = 3 by omega) with rfl | rfl | rfl
  · have p0 := h.pos 0 (by omega)
    rw [dN_at1 h.sq, ldK_len, ldK_len0]
    omega
  · have p0 := h.pos 0 (by omega)
    have p1 := h.pos 1 (by omega)
    rw [dN_at2 h.sq, ldK_len, ldK_len, ldK_len0, z 1 0 (by omega)]
    have := Int.mul_pos p0 p1
    rw [Int.mul_zero, Int.sub_zero, Nat.one_mul, Int.natCast_mul, Int.toNat_of_nonneg (by omega), Int.toNat_of_nonneg (by omega)]
    exact ⟨this, rfl⟩
  · have p0 := h.pos 0 (by omega)
    have p1 := h.pos 1 (by omega)
    have p2 := h.pos 2 (by omega)
    rw [dN_at3 h.sq, ldK_len, ldK_len, ldK_len, ldK_len0, z 1 0 (by omega), z 2 0 (by omega), z 2 1 (by omega)]
    have := Int.mul_pos p0 (Int.mul_pos p1 p2)
    simp only [Int.mul_zero, Int.zero_mul, Int.sub_zero, Int.add_zero]
    rw [Nat.one_mul, Int.natCast_mul, Int.natCast_mul, Int.toNat_of_nonneg (by omega), Int.toNat_of_nonneg (by omega), Int.toNat_of_nonneg (by omega), Int.mul_assoc]
    exact ⟨this, rfl⟩
theorem ldK_mono {n : Nat} {H : List (List Int)} (h : HX n H) : ∀ k, k < n → (ldK H k).length ≤ (ldK H (k + 1)).length := fun k hk => by
  rw [ldK_len]
  have := h.pos k hk
  exact Nat.le_mul_of_pos_right _ (by omega)
theorem ldK_le {n : Nat} {H : List (List Int)} (h : HX n H) : ∀ m k, k + m = n → (ldK H k).length ≤ (ldK H n).length
  | 0, k, e => by rw [show k = n by omega]; exact Nat.le_refl _
  | m + 1, k, e => Nat.le_trans (ldK_mono h k (by omega)) (ldK_le h m (k + 1) (by omega))
theorem ldK_pos {n : Nat} {H : List (List Int)} (h : HX n H) : ∀ k, k ≤ n → 0 < (ldK H k).length
  | 0, _ => by rw [ldK_len0]; omega
  | k + 1, hk => by
    rw [ldK_len]
    have := h.pos k (by omega)
    exact Nat.mul_pos (ldK_pos h k (by omega)) (by omega)
theorem ldK_dia {n : Nat} {H : List (List Int)} (h : HX n H) {k : Nat} (hk : k < n) : (atM H k k).toNat ≤ (ldK H n).length := by
  refine Nat.le_trans ?_ (ldK_le h (n - (k + 1)) (k + 1) (by omega))
  rw [ldK_len]
  exact Nat.le_mul_of_pos_left _ (ldK_pos h k (by omega))
theorem mul_lt_zero {a h : Int} (hh : 0 < h) (h1 : -h < a * h) (h2 : a * h < h) : a = 0 := by
  rcases Int.lt_trichotomy a 0 with e | e | e
  · have : a * h ≤ -1 * h := Int.mul_le_mul_of_nonneg_right (by omega) (by omega)
    omega
  · exact e
  · have : 1 * h ≤ a * h := Int.mul_le_mul_of_nonneg_right (by omega) (by omega)
    omega
/-- two leaders of one class are the same -/
theorem ld_unique {n : Nat} {H : List (List Int)} (h : HX n H) (h3 : n ≤ 3) {x y : List Int} (hx : x ∈ ldK H n) (hy : y ∈ ldK H n) (hl : InL H (fun j => x.getD j 0 - y.getD j 0)) : x = y := by
  obtain ⟨lx, bx⟩ := (ldK_mem H n x).1 hx
  obtain ⟨ly, by'⟩ := (ldK_mem H n y).1 hy
  obtain ⟨a, b, c, hz⟩ := hl
  have key : ∀ j, j < n → x.getD j 0 = y.getD j 0 := by
    have z := h.tri
    have k0 : 0 < n → x.getD 0 0 = y.getD 0 0 ∧ a = 0 := fun h0 => by
      have e := hz 0
      dsimp only at e
      rw [z 1 0 (by omega), z 2 0 (by omega)] at e
      have := bx 0 h0
      have := by' 0 h0
      have ha := mul_lt_zero (a := a) (h.pos 0 h0) (by omega) (by omega)
      rw [ha] at e
      exact ⟨by omega, ha⟩
    have k1 : 1 < n → x.getD 1 0 = y.getD 1 0 ∧ b = 0 := fun h0 => by
      have e := hz 1
      dsimp only at e
      rw [(k0 (by omega)).2, z 2 1 (by omega)] at e
      have := bx 1 h0
      have := by' 1 h0
      have ha := mul_lt_zero (a := b) (h.pos 1 h0) (by omega) (by omega)
      rw [ha] at e
      exact ⟨by omega, ha⟩
    have k2 : 2 < n → x.getD 2 0 = y.getD 2 0 := fun h0 => by
      have e := hz 2
      dsimp only at e
      rw [(k0 (by omega)).2, (k1 (by omega)).2] at e
      have := bx 2 h0
      have := by' 2 h0
      have ha := mul_lt_zero (a := c) (h.pos 2 h0) (by omega) (by omega)
      rw [ha] at e
      omega
    intro j hj
    rcases (show j = 0 ∨ j = 1 ∨ j = 2 by omega) with rfl | rfl | rfl
    · exact (k0 hj).1
    · exact (k1 hj).1
    · exact k2 hj
  apply List.ext_getElem (by omega)
  intro j h1 h2
  have := key j (by omega)
  rw [List.getD_eq_getElem?_getD, List.getD_eq_getElem?_getD, List.getElem?_eq_getElem h1, List.getElem?_eq_getElem h2] at this
  exact this

/-! ### the points of the cell -/
def sgF (d f : Int) : Int := if d < 0 then -f else f
/-- the point of the cell, less the first t rows' parts -/
def celK (M : List (List Int)) (x : List Int) : Nat → List Int
  | 0 => x
  | t + 1 => subW (celK M x t) (M.getD t []) (flW (sgF (dN M) (dN (M.set t x))) (dN M).natAbs)
def celP (M : List (List Int)) (x : List Int) : List Int := celK M x M.length
theorem dN_bdB {n : Nat} {M : List (List Int)} {B : Int} (hs : Sq n M) (h1 : 1 ≤ n) (h3 : n ≤ 3) (hB : 1 ≤ B) (hb : ∀ i j, -B ≤ atM M i j ∧ atM M i j ≤ B) : -(6 * (B * (B * B))) ≤ dN M ∧ dN M ≤ 6 * (B * (B * B)) := by
  have m : ∀ a b c d, -(B * B) ≤ atM M a b * atM M c d ∧ atM M a b * atM M c d ≤ B * B := fun a b c d => mul_bdH (hb a b) (hb c d)
  have b1 : B * 1 ≤ B * B := Int.mul_le_mul_of_nonneg_left hB (by omega)
  have b2 : 1 * (B * B) ≤ B * (B * B) := Int.mul_le_mul_of_nonneg_right hB (by omega)
  rcases (show n = 1 ∨ n = 2 ∨ n = 3 by omega) with rfl | rfl | rfl
  · rw [dN_at1 hs]; have := hb 0 0; omega
  · rw [dN_at2 hs]; have := m 0 0 1 1; have := m 0 1 1 0; omega
  · rw [dN_at3 hs]
    have t : ∀ a b c d e f g h i j, -(2 * (B * (B * B))) ≤ atM M a b * (atM M c d * atM M e f - atM M g h * atM M i j) ∧ atM M a b * (atM M c d * atM M e f - atM M g h * atM M i j) ≤ 2 * (B * (B * B)) := fun a b c d e f g h i j => by
      have h1 := m c d e f
      have h2 := m g h i j
      have := mul_bdH (N := 2 * (B * B)) (hb a b) (b := atM M c d * atM M e f - atM M g h * atM M i j) (by omega)
      rw [show B * (2 * (B * B)) = 2 * (B * (B * B)) by grind] at this
      exact this
    have t1 := t 0 0 1 1 2 2 1 2 2 1
    have t2 := t 0 1 1 0 2 2 1 2 2 0
    have t3 := t 0 2 1 0 2 1 1 1 2 0
    omega
/-- entries in bounds, and the determinant is not nought -/
structure CM (n : Nat) (M : List (List Int)) : Prop where
  sq : Sq n M
  bd : ∀ i j, -100 ≤ atM M i j ∧ atM M i j ≤ 100
  nz : ¬ dN M = 0
  one : 1 ≤ n
  three : n ≤ 3
theorem CM.setB {n : Nat} {M : List (List Int)} (h : CM n M) {x : List Int} (hx : x.length = n) (hb : ∀ j, -1000 ≤ x.getD j 0 ∧ x.getD j 0 ≤ 1000) {t : Nat} (ht : t < n) : Sq n (M.set t x) ∧ ∀ i j, -1000 ≤ atM (M.set t x) i j ∧ atM (M.set t x) i j ≤ 1000 := by
  refine ⟨h.sq.set ht hx, fun i j => ?_⟩
  rw [atM_set (by rw [h.sq.len]; exact ht)]
  split
  · exact hb j
  · have := h.bd i j; omega
theorem CM.fac {n : Nat} {M : List (List Int)} (h : CM n M) {x : List Int} (hx : x.length = n) (hb : ∀ j, -1000 ≤ x.getD j 0 ∧ x.getD j 0 ≤ 1000) {t : Nat} (ht : t < n) : -6000000000 ≤ sgF (dN M) (dN (M.set t x)) ∧ sgF (dN M) (dN (M.set t x)) ≤ 6000000000 := by
  have h1 := h.setB hx hb ht
  have := dN_bdB h1.1 h.one h.three (B := 1000) (by omega) h1.2
  unfold sgF; split <;> omega
theorem celK_at {n : Nat} {M : List (List Int)} (h : CM n M) {x : List Int} (hx : x.length = n) (hb : ∀ j, -1000 ≤ x.getD j 0 ∧ x.getD j 0 ≤ 1000) : ∀ t, t ≤ n →
    (celK M x t).length = n ∧ (∃ q : Nat → Int, (∀ j, (celK M x t).getD j 0 = x.getD j 0 - (if 0 < t then q 0 * atM M 0 j else 0) - (if 1 < t then q 1 * atM M 1 j else 0) - (if 2 < t then q 2 * atM M 2 j else 0)) ∧ ∀ i, i < t → q i = flW (sgF (dN M) (dN (M.set i x))) (dN M).natAbs) ∧
    ∀ j, -(1000 + t * 1000000000000) ≤ (celK M x t).getD j 0 ∧ (celK M x t).getD j 0 ≤ 1000 + t * 1000000000000
  | 0, _ => ⟨hx, ⟨fun _ => 0, fun j => by simp [celK], fun i hi => by omega⟩, fun j => by simpa [celK] using hb j⟩
  | t + 1, ht => by
    obtain ⟨h1, ⟨q, h2, h3⟩, h4⟩ := celK_at h hx hb t (by omega)
    have hf := h.fac hx hb (show t < n by omega)
    have hnz := h.nz
    have hd : 0 < ((dN M).natAbs : Int) := by omega
    have hfl := flW_at hd (x := sgF (dN M) (dN (M.set t x))) (by omega)
    obtain ⟨Q, hQ⟩ : ∃ Q, Q = flW (sgF (dN M) (dN (M.set t x))) (dN M).natAbs := ⟨_, rfl⟩
    have hth := h.three
    have hQb : -7000000000 ≤ Q ∧ Q ≤ 7000000000 := by rw [hQ]; omega
    have hlen : (celK M x (t + 1)).length = n := by
      rw [celK, subW_len _ (by rw [h1, h.sq.row t (by omega)]), h1]
    have hat : ∀ j, (celK M x (t + 1)).getD j 0 = (celK M x t).getD j 0 - Q * atM M t j := fun j => by
      by_cases hj : j < n
      · rw [celK, subW_at _ _ _ (by rw [h1, h.sq.row t (by omega)]) (by rw [h1]; exact hj), ← hQ]
        have hp := mul_bdH (M := 100) (h.bd t j) hQb
        have := h4 j
        unfold atM at hp ⊢
        rw [show wrap64 ((M.getD t []).getD j 0 * Q) = (M.getD t []).getD j 0 * Q from wrap_id (by omega), Int.mul_comm Q]
        exact wrap_id (by omega)
      · rw [List.getD_eq_getElem?_getD, List.getElem?_eq_none (by omega), List.getD_eq_getElem?_getD, List.getElem?_eq_none (by omega), h.sq.out (by omega)]; simp
    refine ⟨hlen, ⟨fun i => if i = t then Q else q i, fun j => ?_, fun i hi => ?_⟩, fun j => ?_⟩
    · rw [hat, h2]
      rcases (show t = 0 ∨ t = 1 ∨ t = 2 by have := h.three; omega) with rfl | rfl | rfl <;> simp <;> omega
    · dsimp only
      split
      · rename_i e; subst e; exact hQ
      · exact h3 i (by omega)
    · rw [hat]
      have hp := mul_bdH (M := 7000000000) hQb (h.bd t j)
      have := h4 j
      omega
theorem celP_len {n : Nat} {M : List (List Int)} (h : CM n M) {x : List Int} (hx : x.length = n) (hb : ∀ j, -1000 ≤ x.getD j 0 ∧ x.getD j 0 ≤ 1000) : (celP M x).length = n := by
  unfold celP; rw [h.sq.len]; exact (celK_at h hx hb n (Nat.le_refl _)).1
/-- the point of the cell is in the class -/
theorem celP_class {n : Nat} {M : List (List Int)} (h : CM n M) {x : List Int} (hx : x.length = n) (hb : ∀ j, -1000 ≤ x.getD j 0 ∧ x.getD j 0 ≤ 1000) : InL M (fun j => x.getD j 0 - (celP M x).getD j 0) := by
  obtain ⟨q, hq, -⟩ := (celK_at h hx hb n (Nat.le_refl _)).2.1
  refine ⟨q 0, q 1, q 2, fun j => ?_⟩
  unfold celP
  dsimp only
  rw [h.sq.len, hq]
  have h1 := h.one
  rw [if_pos (by omega)]
  by_cases e1 : 1 < n
  · rw [if_pos e1]
    by_cases e2 : 2 < n
    · rw [if_pos e2]; omega
    · rw [if_neg e2, h.sq.out2 (show n ≤ 2 by omega)]; simp; omega
  · rw [if_neg e1, if_neg (by omega), h.sq.out2 (show n ≤ 2 by omega), h.sq.out2 (show n ≤ 1 by omega)]; simp; omega
theorem cel_inj {n : Nat} {M H : List (List Int)} (h : CM n M) (hH : HX n H) (hi : ∀ z, InL H z ↔ InL M z) (hd : (ldK H n).length ≤ 500) {x y : List Int} (hx : x ∈ ldK H n) (hy : y ∈ ldK H n) (e : celP M x = celP M y) : x = y := by
  have hin : ∀ v, v ∈ ldK H n → v.length = n ∧ ∀ j, -1000 ≤ v.getD j 0 ∧ v.getD j 0 ≤ 1000 := fun v hv => by
    obtain ⟨l, b⟩ := (ldK_mem H n v).1 hv
    refine ⟨l, fun j => ?_⟩
    by_cases hj : j < n
    · have := b j hj
      have := ldK_dia hH hj
      omega
    · rw [List.getD_eq_getElem?_getD, List.getElem?_eq_none (by omega)]; simp
  obtain ⟨lx, bx⟩ := hin x hx
  obtain ⟨ly, by'⟩ := hin y hy
  refine ld_unique hH h.three hx hy ((hi _).2 ?_)
  have c1 := celP_class h lx bx
  have c2 := celP_class h ly by'
  exact (c1.add (c2.smul (-1))).congr fun j => by rw [e]; omega
end Go.Proofs.YtehhoplenloocaaGreat
