/- Polygons under affine moves of determinant one or minus one: plain law. -/
import Derived.Test.YtehhoplenloocaaGreatB15
import Derived.Test.YtehhoplenloocaaGreatB12
import Derived.Test.YtehhoplenloocaaGreatNrmP
namespace Go.Proofs.YtehhoplenloocaaGreat
set_option linter.unusedVariables false
set_option linter.unusedSimpArgs false

/-! ### affine moves -/
structure Aff where
  A : Int
  B : Int
  C : Int
  E : Int
  X : Int
  Y : Int
def Aff.lin (T : Aff) (v : Pt) : Pt := (T.A * v.1 + T.B * v.2, T.C * v.1 + T.E * v.2)
def Aff.f (T : Aff) (v : Pt) : Pt := (T.A * v.1 + T.B * v.2 + T.X, T.C * v.1 + T.E * v.2 + T.Y)
def Aff.det (T : Aff) : Int := T.A * T.E - T.B * T.C
theorem Aff.sub (T : Aff) (a b : Pt) : subP (T.f a) (T.f b) = T.lin (subP a b) := by
  unfold Aff.f Aff.lin subP
  apply Prod.ext <;> dsimp only <;> grind
theorem Aff.cross (T : Aff) (u v : Pt) : crossP (T.lin u) (T.lin v) = T.det * crossP u v := by
  unfold Aff.lin Aff.det crossP; dsimp only; grind
theorem Aff.tn (T : Aff) (a b c : Pt) : tn (T.f a) (T.f b) (T.f c) = T.det * Go.Proofs.YtehhoplenloocaaGreat.tn a b c := by
  unfold Go.Proofs.YtehhoplenloocaaGreat.tn
  rw [T.sub, T.sub, T.cross]
theorem Aff.gcd (T : Aff) (hd : T.det = 1 ∨ T.det = -1) (v : Pt) : Int.gcd (T.lin v).1 (T.lin v).2 = Int.gcd v.1 v.2 := by
  have h1 : ((Int.gcd v.1 v.2 : Nat) : Int) ∣ (T.lin v).1 := Int.dvd_add (Int.dvd_mul_of_dvd_right (Int.gcd_dvd_left ..)) (Int.dvd_mul_of_dvd_right (Int.gcd_dvd_right ..))
  have h2 : ((Int.gcd v.1 v.2 : Nat) : Int) ∣ (T.lin v).2 := Int.dvd_add (Int.dvd_mul_of_dvd_right (Int.gcd_dvd_left ..)) (Int.dvd_mul_of_dvd_right (Int.gcd_dvd_right ..))
  have e1 : T.det * v.1 = T.E * (T.lin v).1 - T.B * (T.lin v).2 := by unfold Aff.lin Aff.det; dsimp only; grind
  have e2 : T.det * v.2 = T.A * (T.lin v).2 - T.C * (T.lin v).1 := by unfold Aff.lin Aff.det; dsimp only; grind
  have g1 : ((Int.gcd (T.lin v).1 (T.lin v).2 : Nat) : Int) ∣ T.det * v.1 := by
    rw [e1]; exact Int.dvd_sub (Int.dvd_mul_of_dvd_right (Int.gcd_dvd_left ..)) (Int.dvd_mul_of_dvd_right (Int.gcd_dvd_right ..))
  have g2 : ((Int.gcd (T.lin v).1 (T.lin v).2 : Nat) : Int) ∣ T.det * v.2 := by
    rw [e2]; exact Int.dvd_sub (Int.dvd_mul_of_dvd_right (Int.gcd_dvd_right ..)) (Int.dvd_mul_of_dvd_right (Int.gcd_dvd_left ..))
  have un : ∀ x y : Int, x ∣ T.det * y → x ∣ y := fun x y h => by
    rcases hd with e | e <;> rw [e] at h
    · rwa [Int.one_mul] at h
    · rw [show (-1 : Int) * y = -y by omega] at h; exact Int.dvd_neg.1 h
  refine Nat.dvd_antisymm ?_ ?_
  · exact Int.natCast_dvd_natCast.1 (Int.dvd_coe_gcd (un _ _ g1) (un _ _ g2))
  · exact Int.natCast_dvd_natCast.1 (Int.dvd_coe_gcd h1 h2)
theorem Aff.gP (T : Aff) (hd : T.det = 1 ∨ T.det = -1) (a b : Pt) : gP (T.f a) (T.f b) = Go.Proofs.YtehhoplenloocaaGreat.gP a b := by
  have h := T.gcd hd (subP b a)
  rw [← T.sub] at h
  unfold Go.Proofs.YtehhoplenloocaaGreat.gP
  unfold subP at h
  exact congrArg _ h

/-! ### neighbours -/
theorem mod_two {x n : Nat} (h : x < 2 * n) : x % n = if x < n then x else x - n := by
  split
  · rename_i h1; exact Nat.mod_eq_of_lt h1
  · rename_i h1
    rw [Nat.mod_eq_sub_mod (by omega), Nat.mod_eq_of_lt (by omega)]
theorem nb_one {n k : Nat} (hn : 0 < n) (hk : k < n) : nbI n k 1 = if k + 1 < n then k + 1 else 0 := by
  unfold nbI
  rw [if_pos rfl, mod_two (by omega)]
  split <;> omega
theorem nb_neg {n k : Nat} (hn : 0 < n) (hk : k < n) : nbI n k (-1) = if k = 0 then n - 1 else k - 1 := by
  unfold nbI
  rw [if_neg (by omega), mod_two (by omega)]
  split <;> split <;> omega
/-- the corners told anew from the corner r on, forwards or backwards -/
def sgR (n r : Nat) (d : Int) (k : Nat) : Nat := if d = 1 then (if r + k < n then r + k else r + k - n) else (if k ≤ r then r - k else r + n - k)
theorem sgR_p (n r k : Nat) : sgR n r 1 k = if r + k < n then r + k else r + k - n := by unfold sgR; rw [if_pos rfl]
theorem sgR_m (n r k : Nat) : sgR n r (-1) k = if k ≤ r then r - k else r + n - k := by unfold sgR; rw [if_neg (by decide)]
theorem sgR_lt {n r : Nat} {d : Int} (hr : r < n) {k : Nat} (hk : k < n) : sgR n r d k < n := by
  unfold sgR; split <;> split <;> omega
theorem sgR_nb {n r : Nat} (h2 : 2 ≤ n) {d : Int} (hd : d = 1 ∨ d = -1) (hr : r < n) {k : Nat} (hk : k < n) {st : Int} (hs : st = 1 ∨ st = -1) : sgR n r d (nbI n k st) = nbI n (sgR n r d k) (d * st) := by
  have hl := sgR_lt (d := d) hr hk
  rcases hd with rfl | rfl <;> rcases hs with rfl | rfl
  · rw [show (1 : Int) * 1 = 1 by rfl, nb_one (by omega) hk, nb_one (by omega) hl]
    rw [sgR_p, sgR_p]
    repeat' split
    all_goals omega
  · rw [show (1 : Int) * -1 = -1 by rfl, nb_neg (by omega) hk, nb_neg (by omega) hl]
    rw [sgR_p, sgR_p]
    repeat' split
    all_goals omega
  · rw [show (-1 : Int) * 1 = -1 by rfl, nb_one (by omega) hk, nb_neg (by omega) hl]
    rw [sgR_m, sgR_m]
    repeat' split
    all_goals omega
  · rw [show (-1 : Int) * -1 = 1 by rfl, nb_neg (by omega) hk, nb_one (by omega) hl]
    rw [sgR_m, sgR_m]
    repeat' split
    all_goals omega
theorem sgR_onto {n r : Nat} {d : Int} (hd : d = 1 ∨ d = -1) (hr : r < n) {j : Nat} (hj : j < n) : ∃ k, k < n ∧ sgR n r d k = j := by
  rcases hd with rfl | rfl
  · by_cases h : r ≤ j
    · exact ⟨j - r, by omega, by rw [sgR_p]; split <;> omega⟩
    · exact ⟨j + n - r, by omega, by rw [sgR_p]; split <;> omega⟩
  · by_cases h : j ≤ r
    · exact ⟨r - j, by omega, by rw [sgR_m]; split <;> omega⟩
    · exact ⟨r + n - j, by omega, by rw [sgR_m]; split <;> omega⟩
theorem sgR_inj {n r : Nat} {d : Int} (hr : r < n) {i j : Nat} (hi : i < n) (hj : j < n) (h : sgR n r d i = sgR n r d j) : i = j := by
  unfold sgR at h
  split at h <;> split at h <;> split at h <;> omega
/-- the turn of three corners of a polygon -/
theorem tp_cyc {n : Nat} {p : Nat → Pt} (h : TP n p) {a b c : Nat} (ha : a < n) (hb : b < n) (hc : c < n) (ho : (a < b ∧ b < c) ∨ (b < c ∧ c < a) ∨ (c < a ∧ a < b)) : 0 < tn (p a) (p b) (p c) := by
  rcases ho with ⟨h1, h2⟩ | ⟨h1, h2⟩ | ⟨h1, h2⟩
  · exact h a b c h1 h2 hc
  · rw [← tn_rot]; exact h b c a h1 h2 ha
  · rw [← tn_rot, ← tn_rot]; exact h c a b h1 h2 hb
theorem tp_rel {n r : Nat} {p : Nat → Pt} (h : TP n p) (T : Aff) (hd : T.det = 1 ∨ T.det = -1) (hr : r < n) : TP n (fun k => T.f (p (sgR n r T.det k))) := by
  intro i j k hij hjk hk
  show 0 < tn (T.f _) (T.f _) (T.f _)
  rw [T.tn]
  have li := sgR_lt (d := T.det) hr (show i < n by omega)
  have lj := sgR_lt (d := T.det) hr (show j < n by omega)
  have lk := sgR_lt (d := T.det) hr hk
  rcases hd with e | e
  · rw [e] at li lj lk ⊢
    rw [Int.one_mul]
    refine tp_cyc h li lj lk ?_
    rw [sgR_p, sgR_p, sgR_p]
    split <;> split <;> split <;> omega
  · rw [e] at li lj lk ⊢
    have := tp_cyc h li lk lj (by
      rw [sgR_m, sgR_m, sgR_m]
      split <;> split <;> split <;> omega)
    rw [tn_swap2] at this
    omega
/-- one of finitely many points is the least -/
theorem least_of (q : Nat → Pt) : ∀ n, 1 ≤ n → (∀ i j, i < n → j < n → i ≠ j → q i ≠ q j) → ∃ r, r < n ∧ ∀ k, k < n → k ≠ r → ltP (q r) (q k)
  | 0, h, _ => by omega
  | 1, _, _ => ⟨0, by omega, fun k h1 h2 => by omega⟩
  | n + 2, _, hi => by
    obtain ⟨r, hr, hl⟩ := least_of q (n + 1) (by omega) fun i j a b c => hi i j (by omega) (by omega) c
    rcases ltP_total (q r) (q (n + 1)) with h | h | h
    · exact ⟨r, by omega, fun k h1 h2 => by
        by_cases e : k = n + 1
        · rw [e]; exact h
        · exact hl k (by omega) h2⟩
    · exact absurd h (hi r (n + 1) (by omega) (by omega) (by omega))
    · exact ⟨n + 1, by omega, fun k h1 h2 => by
        by_cases e : k = r
        · rw [e]; exact h
        · exact ltP_trans h (hl k (by omega) e)⟩

/-! ### sums -/
def sgN (f : Nat → Int) : Nat → Int
  | 0 => 0
  | k + 1 => sgN f k + f k
theorem sgN_range (f : Nat → Int) : ∀ n, ((List.range n).map f).sum = sgN f n
  | 0 => rfl
  | n + 1 => by rw [List.range_succ, List.map_append, List.sum_append, sgN_range f n]; simp [sgN]
theorem perm_sum {l l' : List Int} (h : l.Perm l') : l.sum = l'.sum := by
  induction h with
  | nil => rfl
  | cons x _ ih => rw [List.sum_cons, List.sum_cons, ih]
  | swap x y l => simp only [List.sum_cons]; omega
  | trans _ _ i1 i2 => rw [i1, i2]
theorem sgN_bij {n : Nat} (f : Nat → Int) (σ : Nat → Nat) (h1 : ∀ k, k < n → σ k < n) (h2 : ∀ i j, i < n → j < n → σ i = σ j → i = j) (h3 : ∀ j, j < n → ∃ k, k < n ∧ σ k = j) : sgN (fun k => f (σ k)) n = sgN f n := by
  have hp : ((List.range n).map σ).Perm (List.range n) := by
    refine (List.perm_ext_iff_of_nodup ?_ List.nodup_range).2 fun a => ?_
    · rw [List.nodup_iff_pairwise_ne, List.pairwise_map]
      refine List.Pairwise.imp_of_mem (fun {i j} hi hj (hij : i < j) e => ?_) List.pairwise_lt_range
      have := h2 i j (List.mem_range.1 hi) (List.mem_range.1 hj) e
      omega
    · rw [List.mem_map]
      constructor
      · rintro ⟨k, hk, rfl⟩; exact List.mem_range.2 (h1 k (List.mem_range.1 hk))
      · intro ha
        obtain ⟨k, hk, e⟩ := h3 a (List.mem_range.1 ha)
        exact ⟨k, List.mem_range.2 hk, e⟩
  have := perm_sum (hp.map f)
  rw [List.map_map, sgN_range, sgN_range] at this
  exact this
theorem sgN_congr {f g : Nat → Int} : ∀ n, (∀ k, k < n → f k = g k) → sgN f n = sgN g n
  | 0, _ => rfl
  | n + 1, h => by rw [sgN, sgN, sgN_congr n fun k hk => h k (by omega), h n (by omega)]
theorem sgN_smul (c : Int) (f : Nat → Int) : ∀ n, sgN (fun k => c * f k) n = c * sgN f n
  | 0 => by simp [sgN]
  | n + 1 => by rw [sgN, sgN, sgN_smul c f n, Int.mul_add]
theorem sgN_add (f g : Nat → Int) : ∀ n, sgN (fun k => f k + g k) n = sgN f n + sgN g n
  | 0 => rfl
  | n + 1 => by rw [sgN, sgN, sgN, sgN_add f g n]; omega
theorem nb_lt {n k : Nat} (hk : k < n) (st : Int) : nbI n k st < n := nbI_lt (by omega) st
theorem nb_back {n k : Nat} (hk : k < n) {st : Int} (hs : st = 1 ∨ st = -1) : nbI n (nbI n k st) (-st) = k := by
  rcases hs with rfl | rfl
  · rw [nb_neg (by omega) (nb_lt hk 1), nb_one (by omega) hk]
    repeat' split
    all_goals omega
  · rw [show -(-1 : Int) = 1 by rfl, nb_one (by omega) (nb_lt hk (-1)), nb_neg (by omega) hk]
    repeat' split
    all_goals omega
theorem sgN_nb {n : Nat} (f : Nat → Int) {st : Int} (hs : st = 1 ∨ st = -1) : sgN (fun k => f (nbI n k st)) n = sgN f n := by
  refine sgN_bij f _ (fun k hk => nb_lt hk st) (fun i j hi hj e => ?_) fun j hj => ⟨nbI n j (-st), nb_lt hj _, ?_⟩
  · rw [← nb_back hi hs, e, nb_back hj hs]
  · have := nb_back hj (st := -st) (by omega)
    rwa [Int.neg_neg] at this

/-! ### area and boundary by the neighbours -/
theorem arK_sg (ls : List (List Int)) : ∀ k, arK ls k = sgN (arT ls) k
  | 0 => rfl
  | k + 1 => by rw [arK, sgN, arK_sg ls k]
theorem bdK_sg (ls : List (List Int)) : ∀ k, bdK ls k = sgN (sdI ls) k
  | 0 => rfl
  | k + 1 => by rw [bdK, sgN, bdK_sg ls k]
theorem ar_tn (ls : List (List Int)) (o : Pt) : arL ls = sgN (fun k => tn o (pf ls k) (pf ls (nbI ls.length k 1))) ls.length := by
  have e : ∀ k, tn o (pf ls k) (pf ls (nbI ls.length k 1)) = arT ls k + (crossP o (pf ls k) + -1 * (fun j => crossP o (pf ls j)) (nbI ls.length k 1)) := fun k => by
    have : arT ls k = crossP (pf ls k) (pf ls (nbI ls.length k 1)) := by unfold arT nbI; rw [if_pos rfl]; rfl
    rw [this]
    unfold tn crossP subP; dsimp only; grind
  have e2 : sgN (fun k => tn o (pf ls k) (pf ls (nbI ls.length k 1))) ls.length = sgN (fun k => arT ls k + (crossP o (pf ls k) + -1 * (fun j => crossP o (pf ls j)) (nbI ls.length k 1))) ls.length := sgN_congr _ fun k _ => e k
  rw [e2, sgN_add, sgN_add, sgN_smul, sgN_nb (n := ls.length) (fun j => crossP o (pf ls j)) (st := 1) (.inl rfl)]
  unfold arL
  rw [arK_sg]; omega
end Go.Proofs.YtehhoplenloocaaGreat
