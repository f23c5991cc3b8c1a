/- The frames of a polygon's corners: plain law. -/
import Derived.Test.YtehhoplenloocaaGreatNrmM
import Derived.Test.YtehhoplenloocaaGreatPrm
import Derived.Test.YtehhoplenloocaaGreatB11
import Derived.Test.YtehhoplenloocaaGreatB15
import Derived.Test.YtehhoplenloocaaGreatB18
namespace Go.Proofs.YtehhoplenloocaaGreat
open Go.RowKit
set_option linter.unusedVariables false
set_option linter.unusedSimpArgs false

/-- the neighbor of a corner at the side st -/
def nbI (n k : Nat) (st : Int) : Nat := if st = 1 then (k + 1) % n else (k + n - 1) % n
theorem nbI_lt {n k : Nat} (hn : 0 < n) (st : Int) : nbI n k st < n := by unfold nbI; split <;> exact Nat.mod_lt _ hn
def cU (ls : List (List Int)) (k : Nat) (st : Int) : List Int := primQ (minusI (ls.getD (nbI ls.length k st) []) (ls.getD k []))
def cC (ls : List (List Int)) (k : Nat) (st : Int) : List Int := ls.getD (nbI ls.length k (-st)) []
def frR (u w : List Int) (st : Int) (a c x : List Int) : List Int :=
  [crossI (minusI x a) w - crossI (minusI c a) w / (st * crossI u (minusI c a)) * (st * crossI u (minusI x a)), st * crossI u (minusI x a)]
def frL (ls : List (List Int)) (k : Nat) (st : Int) (w : List Int) : List (List Int) := ls.map (frR (cU ls k st) w st (ls.getD k []) (cC ls k st))
def cW (u : List Int) : List Int := rowP (ptnP (ptOf u))
def frC (ls : List (List Int)) (k : Nat) (st : Int) : List (List Int) := frL ls k st (cW (cU ls k st))
theorem frR_P (u w : List Int) (st : Int) (a c x : List Int) : frR u w st a c x = rowP (nrmP (ptOf u) (ptOf w) st (ptOf a) (ptOf c) (ptOf x)) := rfl
theorem mul_lt_zeroN {a h : Int} (hh : 0 < h) (h1 : -h < a * h) (h2 : a * h < h) : a = 0 := by
  rcases Int.lt_trichotomy a 0 with e | e | e
  · have : a * h ≤ -1 * h := Int.mul_le_mul_of_nonneg_right (by omega) (by omega)
    omega
  · exact e
  · have : 1 * h ≤ a * h := Int.mul_le_mul_of_nonneg_right (by omega) (by omega)
    omega
theorem flW_div {x d : Int} (hd : 0 < d) (hx : -1000000000000000 ≤ x ∧ x ≤ 1000000000000000) : flW x d = x / d := by
  obtain ⟨h1, h2, -, -⟩ := flW_at hd hx
  have e1 := Int.mul_ediv_add_emod x d
  have e2 := Int.emod_nonneg x (show d ≠ 0 by omega)
  have e3 := Int.emod_lt_of_pos x hd
  have h4 : d * (flW x d - x / d) = x % d - (x - d * flW x d) := by rw [Int.mul_sub]; omega
  have h5 : (flW x d - x / d) * d = x % d - (x - d * flW x d) := by rw [Int.mul_comm]; exact h4
  have := mul_lt_zeroN (a := flW x d - x / d) hd (by omega) (by omega)
  omega
/-- the turn at a corner -/
theorem corner_turn {ls : List (List Int)} (hp : isPolyB ls = true) {k : Nat} (hk : k < ls.length) {st : Int} (hs : st = 1 ∨ st = -1) : 0 < st * crossI (minusI (ls.getD (nbI ls.length k st) []) (ls.getD k [])) (minusI (cC ls k st) (ls.getD k [])) := by
  obtain ⟨h3, h12, hf⟩ := isPoly_parts hp
  have hl : locB ls.length (pf ls) = true := by
    unfold isPolyB at hp; simp only [Bool.and_eq_true] at hp; exact hp.2.2
  obtain ⟨j, hj⟩ : ∃ j, j = (k + ls.length - 1) % ls.length := ⟨_, rfl⟩
  have hjl : j < ls.length := by rw [hj]; exact Nat.mod_lt _ (by omega)
  have h := (locAt_iff.1 (List.all_eq_true.1 hl j (List.mem_range.2 hjl))).1
  have e1 : (j + 1) % ls.length = k := by
    rcases Nat.eq_zero_or_pos k with e | e
    · have : j = ls.length - 1 := by rw [hj, e, Nat.mod_eq_of_lt (by omega)]; omega
      rw [this, show ls.length - 1 + 1 = ls.length by omega, Nat.mod_self, e]
    · have : j = k - 1 := by rw [hj, show k + ls.length - 1 = (k - 1) + ls.length by omega, Nat.add_mod_right, Nat.mod_eq_of_lt (by omega)]
      rw [this, show k - 1 + 1 = k by omega, Nat.mod_eq_of_lt hk]
  have e2 : (j + 2) % ls.length = (k + 1) % ls.length := by
    rw [show j + 2 = (j + 1) + 1 by omega, ← e1, Nat.mod_add_mod]
  rw [e1, e2] at h
  have hr := tn_rot (pf ls j) (pf ls k) (pf ls ((k + 1) % ls.length))
  rw [← hr] at h
  rcases hs with rfl | rfl
  · have a1 : nbI ls.length k 1 = (k + 1) % ls.length := by unfold nbI; rw [if_pos rfl]
    have a2 : nbI ls.length k (-1) = j := by unfold nbI; rw [if_neg (by omega), hj]
    unfold cC
    rw [a1, a2]
    have : crossI (minusI (ls.getD ((k + 1) % ls.length) []) (ls.getD k [])) (minusI (ls.getD j []) (ls.getD k [])) = tn (pf ls k) (pf ls ((k + 1) % ls.length)) (pf ls j) := rfl
    rw [this]; omega
  · have a1 : nbI ls.length k (- -1) = (k + 1) % ls.length := by unfold nbI; rw [if_pos (by omega)]
    have a2 : nbI ls.length k (-1) = j := by unfold nbI; rw [if_neg (by omega), hj]
    unfold cC
    rw [a1, a2]
    have : crossI (minusI (ls.getD j []) (ls.getD k [])) (minusI (ls.getD ((k + 1) % ls.length) []) (ls.getD k [])) = tn (pf ls k) (pf ls j) (pf ls ((k + 1) % ls.length)) := rfl
    rw [this]
    have := tn_swap2 (pf ls k) (pf ls ((k + 1) % ls.length)) (pf ls j)
    omega
theorem two_form {r : List Int} (h : r.length = 2) : r = [r.getD 0 0, r.getD 1 0] := by
  match r, h with
  | [_, _], _ => rfl
/-- a primitive vector along a vector that is not nought -/
theorem prim_two {v : List Int} (h : v.length = 2) (h0 : ¬ (v.getD 0 0 = 0 ∧ v.getD 1 0 = 0)) : 1 ≤ gcdL v ∧ v.getD 0 0 = gcdL v * (primQ v).getD 0 0 ∧ v.getD 1 0 = gcdL v * (primQ v).getD 1 0 ∧ Int.gcd ((primQ v).getD 0 0) ((primQ v).getD 1 0) = 1 := by
  rw [two_form h] at h0 ⊢
  generalize v.getD 0 0 = x at *
  generalize v.getD 1 0 = y at *
  simp only [List.getD_cons_zero, List.getD_cons_succ] at h0
  have hg : gcdL [x, y] = (Int.gcd x y : Int) := by rw [gcdL_pair]; rfl
  have hpos : 0 < Int.gcd x y := by
    rcases Nat.eq_zero_or_pos (Int.gcd x y) with e | e
    · rw [Int.gcd_eq_zero_iff] at e; exact absurd e h0
    · exact e
  obtain ⟨x', hx⟩ := Int.gcd_dvd_left x y
  obtain ⟨y', hy⟩ := Int.gcd_dvd_right x y
  have e : primQ [x, y] = [x.tdiv (Int.gcd x y), y.tdiv (Int.gcd x y)] := by
    unfold primQ
    rw [hg, show max ((Int.gcd x y : Nat) : Int) 1 = (Int.gcd x y : Int) by omega]; rfl
  have ex : x.tdiv (Int.gcd x y) = x' := by conv => lhs; arg 1; rw [hx]
                                            exact Int.mul_tdiv_cancel_left _ (by omega)
  have ey : y.tdiv (Int.gcd x y) = y' := by conv => lhs; arg 1; rw [hy]
                                            exact Int.mul_tdiv_cancel_left _ (by omega)
  rw [e, hg, ex, ey]
  simp only [List.getD_cons_zero, List.getD_cons_succ]
  refine ⟨by omega, hx, hy, ?_⟩
  have h1 : Int.gcd x y = Int.gcd x y * Int.gcd x' y' := by
    have := Int.gcd_mul_left (Int.gcd x y : Int) x' y'
    rw [← hx, ← hy] at this
    simpa using this
  have h2 : Int.gcd x y * 1 = Int.gcd x y * Int.gcd x' y' := by rw [Nat.mul_one]; exact h1
  exact (Nat.eq_of_mul_eq_mul_left hpos h2).symm
theorem cU_facts {ls : List (List Int)} (hp : isPolyB ls = true) {k : Nat} (hk : k < ls.length) {st : Int} (hs : st = 1 ∨ st = -1) :
    1 ≤ gcdL (minusI (ls.getD (nbI ls.length k st) []) (ls.getD k [])) ∧ Int.gcd ((cU ls k st).getD 0 0) ((cU ls k st).getD 1 0) = 1 ∧ 0 < st * crossI (cU ls k st) (minusI (cC ls k st) (ls.getD k [])) ∧ (cU ls k st).length = 2 := by
  have ht := corner_turn hp hk hs
  obtain ⟨v, hv⟩ : ∃ v, v = minusI (ls.getD (nbI ls.length k st) []) (ls.getD k []) := ⟨_, rfl⟩
  have hl : v.length = 2 := by rw [hv]; rfl
  rw [← hv] at ht
  have hcu : cU ls k st = primQ v := by unfold cU; rw [← hv]
  rw [hcu, ← hv]
  have h0 : ¬ (v.getD 0 0 = 0 ∧ v.getD 1 0 = 0) := fun e => by
    unfold crossI at ht
    rw [e.1, e.2] at ht; simp at ht
  obtain ⟨g1, g2, g3, g4⟩ := prim_two hl h0
  refine ⟨g1, g4, ?_, by rw [primQ_len, hl]⟩
  unfold crossI at ht ⊢
  rw [g2, g3] at ht
  generalize (primQ v).getD 0 0 = p at *
  generalize (primQ v).getD 1 0 = q at *
  generalize gcdL v = g at *
  have e : st * (g * p * (minusI (cC ls k st) (ls.getD k [])).getD 1 0 - g * q * (minusI (cC ls k st) (ls.getD k [])).getD 0 0) = g * (st * (p * (minusI (cC ls k st) (ls.getD k [])).getD 1 0 - q * (minusI (cC ls k st) (ls.getD k [])).getD 0 0)) := by grind
  rw [e] at ht
  rcases Int.lt_or_le 0 (st * (p * (minusI (cC ls k st) (ls.getD k [])).getD 1 0 - q * (minusI (cC ls k st) (ls.getD k [])).getD 0 0)) with h | h
  · exact h
  · have := Int.mul_nonpos_of_nonneg_of_nonpos (show 0 ≤ g by omega) h
    omega
/-- whatever the partner -/
theorem frL_eq {ls : List (List Int)} (hp : isPolyB ls = true) {k : Nat} (hk : k < ls.length) {st : Int} (hs : st = 1 ∨ st = -1) {w : List Int} (hw : crossI (cU ls k st) w = 1) : frL ls k st w = frC ls k st := by
  obtain ⟨-, hg, hpos, -⟩ := cU_facts hp hk hs
  unfold frC frL
  refine List.map_congr_left fun x _ => ?_
  rw [frR_P, frR_P]
  congr 1
  exact nrmP_indep (show crossP (ptOf (cU ls k st)) (ptOf w) = 1 from hw) (show crossP (ptOf (cU ls k st)) (ptOf (cW (cU ls k st))) = 1 from ptnP_one hg) hs _ _ _ hpos
end Go.Proofs.YtehhoplenloocaaGreat
