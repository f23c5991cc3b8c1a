/- B5: texts in one: TurnM Turn TurnS SplM SplL Part Less Bez Nxt SplS SplI Trn SplW. -/
import Derived.Test.YtehhoplenloocaaB2
import Derived.Test.YtehhoplenloocaaB4
import Derived.Test.YtehhoplenloocaaB1
import Derived.Test.YtehhoplenloocaaB3
import Derived.Deep.Onto
/- Cones out of turns: the plain law. -/
namespace Go.Proofs.Ytehhoplenloocaa
set_option linter.unusedVariables false
set_option linter.unusedSimpArgs false

/-- the last two vectors behind k turns: x0 x1 the one before, y0 y1 the last one -/
def tnK (l : List Int) : Nat → Int × Int × Int × Int
  | 0 => (1, 0, 0, 1)
  | k + 1 => let s := tnK l k; (s.2.2.1, s.2.2.2, l.getD k 0 * s.2.2.1 - s.1, l.getD k 0 * s.2.2.2 - s.2.1)
def tnB (l : List Int) (k : Nat) : List Int := [(tnK l k).2.2.1, (tnK l k).2.2.2]
def turnOk (l : List Int) : Bool := inB l.length 1 10 && allIn l 2 30 && coneB [1, 0] (tnB l l.length)
theorem tn_mono (l : List Int) (h : ∀ k, k < l.length → 2 ≤ l.getD k 0) : ∀ k, k ≤ l.length → (tnK l k).2.2.1 < (tnK l k).1 ∧ (tnK l k).2.1 < (tnK l k).2.2.2 ∧ (tnK l k).2.2.1 ≤ 0 ∧ 0 < (tnK l k).2.2.2
  | 0, _ => by simp [tnK]
  | k + 1, hk => by
    obtain ⟨h1, h2, h3, h4⟩ := tn_mono l h k (by omega)
    have hn := h k (by omega)
    simp only [tnK]
    generalize l.getD k 0 = n at *
    generalize (tnK l k).1 = a at *
    generalize (tnK l k).2.1 = b at *
    generalize (tnK l k).2.2.1 = c at *
    generalize (tnK l k).2.2.2 = d at *
    have e1 : n * c ≤ 2 * c := by
      have := Int.mul_le_mul_of_nonpos_right hn h3; omega
    have e2 : 2 * d ≤ n * d := Int.mul_le_mul_of_nonneg_right hn (by omega)
    omega
theorem tn_grow (l : List Int) (h : ∀ k, k < l.length → 2 ≤ l.getD k 0) (j : Nat) : ∀ k, j ≤ k → k ≤ l.length → (tnK l k).2.2.1 ≤ (tnK l j).2.2.1 ∧ (tnK l j).2.2.2 ≤ (tnK l k).2.2.2
  | 0, hj, _ => by have : j = 0 := by omega
                   subst this; omega
  | k + 1, hj, hk => by
    by_cases e : j = k + 1
    · subst e; omega
    · have h1 := tn_grow l h j k (by omega) (by omega)
      have h2 := tn_mono l h (k + 1) hk
      have e1 : (tnK l (k + 1)).1 = (tnK l k).2.2.1 := rfl
      have e2 : (tnK l (k + 1)).2.1 = (tnK l k).2.2.2 := rfl
      omega
def bd31 : Nat → Int
  | 0 => 1
  | k + 1 => 31 * bd31 k
theorem bd31_le : ∀ k, k ≤ 10 → 1 ≤ bd31 k ∧ bd31 k ≤ 819628286980801 := by decide
theorem tn_bd (l : List Int) (h : ∀ k, k < l.length → 2 ≤ l.getD k 0 ∧ l.getD k 0 ≤ 30) : ∀ k, k ≤ l.length → (-(bd31 k) ≤ (tnK l k).1 ∧ (tnK l k).1 ≤ bd31 k) ∧ (-(bd31 k) ≤ (tnK l k).2.1 ∧ (tnK l k).2.1 ≤ bd31 k) ∧ (-(bd31 k) ≤ (tnK l k).2.2.1 ∧ (tnK l k).2.2.1 ≤ bd31 k) ∧ (-(bd31 k) ≤ (tnK l k).2.2.2 ∧ (tnK l k).2.2.2 ≤ bd31 k)
  | 0, _ => by simp [tnK, bd31]
  | k + 1, hk => by
    obtain ⟨h1, h2, h3, h4⟩ := tn_bd l h k (by omega)
    have hn := h k (by omega)
    simp only [tnK, bd31]
    generalize l.getD k 0 = n at *
    generalize (tnK l k).1 = a at *
    generalize (tnK l k).2.1 = b at *
    generalize (tnK l k).2.2.1 = c at *
    generalize (tnK l k).2.2.2 = d at *
    generalize bd31 k = B at *
    have key : ∀ x : Int, -B ≤ x → x ≤ B → -(30 * B) ≤ n * x ∧ n * x ≤ 30 * B := by
      intro x hx hx'
      have g1 : n * x ≤ n * B := Int.mul_le_mul_of_nonneg_left hx' (by omega)
      have g2 : n * B ≤ 30 * B := Int.mul_le_mul_of_nonneg_right hn.2 (by omega)
      have g3 : n * (-B) ≤ n * x := Int.mul_le_mul_of_nonneg_left hx (by omega)
      rw [Int.mul_neg] at g3
      omega
    have k1 := key c h3.1 h3.2
    have k2 := key d h4.1 h4.2
    omega
theorem tn_big {l : List Int} (h : ∀ k, k < l.length → 2 ≤ l.getD k 0) {j : Nat} (hj : j ≤ l.length) (hb : allIn (tnB l j) (-30) 30 = false) : turnOk l = false := by
  have hc : coneB [1, 0] (tnB l l.length) = false := by
    have g := tn_grow l h j l.length hj (Nat.le_refl _)
    have m1 := tn_mono l h j hj
    have m2 := tn_mono l h l.length (Nat.le_refl _)
    have : allIn (tnB l l.length) (-30) 30 = false := by
      unfold tnB at hb ⊢
      generalize (tnK l j).2.2.1 = c at *
      generalize (tnK l j).2.2.2 = d at *
      generalize (tnK l l.length).2.2.1 = e at *
      generalize (tnK l l.length).2.2.2 = f at *
      rw [← Bool.not_eq_true] at hb ⊢
      simp [allIn, inB] at hb ⊢
      omega
    unfold coneB ptB
    rw [this]; simp
  unfold turnOk; rw [hc]; simp
end Go.Proofs.Ytehhoplenloocaa

/- ConeOfTurns: the program's walk. -/
namespace Go.Proofs.Ytehhoplenloocaa
open Go.RowKit
set_option linter.unusedVariables false
set_option linter.unusedSimpArgs false

/-- the answer: a cone and whether there is one -/
def turnV (l : List Int) : (List Int × List Int) × Bool := if turnOk l then (([1, 0], tnB l l.length), true) else (([], []), false)
theorem turnV_no {l : List Int} (h : turnOk l = false) : turnV l = (([], []), false) := by unfold turnV; rw [h]; rfl
theorem turnV_yes {l : List Int} (h : turnOk l = true) : turnV l = (([1, 0], tnB l l.length), true) := by unfold turnV; rw [h]; rfl
theorem IS.at2 {w : World} {lo hi : Nat} {v : Value} {x y : Int} (h : IS w lo hi v [x, y]) : ∃ b off cap, v = .slice (some ⟨b, off, none⟩) 2 cap ∧ lo ≤ b ∧ b < hi ∧ w.cell? ⟨b, off, none⟩ = some (.int .i64 x) ∧ w.cell? ⟨b, off + 1, none⟩ = some (.int .i64 y) := by
  rcases h.cases with ⟨e, -⟩ | ⟨-, -, b, off, cap, rfl, -, -, h1, h2, h3⟩
  · cases e
  · refine ⟨b, off, cap, rfl, h1, h2, ?_, ?_⟩
    · have := h3.cell (i := 0) (by simp); rwa [Nat.add_zero] at this
    · exact h3.cell (i := 1) (by simp)

end Go.Proofs.Ytehhoplenloocaa

/- ConeOfTurns: the model's walk. -/
namespace Go.Proofs.Ytehhoplenloocaa
open Go.RowKit
set_option linter.unusedVariables false
set_option linter.unusedSimpArgs false

theorem allIn_of {l : List Int} {lo hi : Int} (h : ∀ k, k < l.length → inB (l.getD k 0) lo hi = true) : allIn l lo hi = true := by
  unfold allIn
  rw [List.all_eq_true]
  intro x hx
  obtain ⟨i, hi, rfl⟩ := List.mem_iff_getElem.1 hx
  have := h i hi
  rwa [List.getD_eq_getElem?_getD, List.getElem?_eq_getElem hi] at this
theorem turn_small {l : List Int} {j : Nat} (hj : j ≤ l.length) (hb : allIn (tnB l j) (-30) 30 = false) : turnOk l = false := by
  cases h : allIn l 2 30
  · unfold turnOk; rw [h]; simp
  · exact tn_big (fun k hk => (allIn_at h k hk).1) hj hb
theorem turn_bad {l : List Int} {j : Nat} (hj : j < l.length) (hb : inB (l.getD j 0) 2 30 = false) : turnOk l = false := by
  unfold turnOk; rw [allIn_false _ _ _ j hj hb]; simp

end Go.Proofs.Ytehhoplenloocaa

/- Cones that are split: the plain law. -/
namespace Go.Proofs.Ytehhoplenloocaa
set_option linter.unusedVariables false
set_option linter.unusedSimpArgs false

/-- Euclid's steps with their factors: a, b, r, s -/
structure ESt where
  a0 : Int
  a1 : Int
  b0 : Int
  b1 : Int
  r : Int
  s : Int
def eStep (e : ESt) : ESt := ⟨e.b0, e.b1, e.a0 - Int.tdiv e.r e.s * e.b0, e.a1 - Int.tdiv e.r e.s * e.b1, e.s, e.r - Int.tdiv e.r e.s * e.s⟩
def eNext (e : ESt) : ESt := if e.s = 0 then e else eStep e
def eIt : Nat → ESt → ESt
  | 0, e => e
  | k + 1, e => eIt k (eNext e)
def eSt (x y : Int) : ESt := ⟨1, 0, 0, 1, x, y⟩
def smallB (m x : Int) : Bool := decide (-m ≤ x) && decide (x ≤ m)
def eOk (e : ESt) : Bool := smallB 60 e.a0 && smallB 60 e.a1 && smallB 60 e.b0 && smallB 60 e.b1 && smallB 60 e.r && smallB 60 e.s
def eAll : Nat → ESt → Bool
  | 0, e => eOk e && decide (e.s = 0) && smallB 30 (e.a0 * e.r) && smallB 30 (e.a1 * e.r) && decide (e.r * e.r = 1)
  | k + 1, e => eOk e && eAll k (eNext e)
def rowOk (x : Int) : Bool := (List.range 61).all fun j => decide (Nat.gcd x.natAbs ((j : Int) - 30).natAbs ≠ 1) || eAll 10 (eSt x ((j : Int) - 30))
set_option maxRecDepth 1000000 in
theorem all_ok : ((List.range 61).all fun i => rowOk ((i : Int) - 30)) = true := by decide +kernel
end Go.Proofs.Ytehhoplenloocaa

/- Cones that are split: the plain law, second part. -/
namespace Go.Proofs.Ytehhoplenloocaa
set_option linter.unusedVariables false
set_option linter.unusedSimpArgs false

theorem box_ok {x y : Int} (hx : -30 ≤ x ∧ x ≤ 30) (hy : -30 ≤ y ∧ y ≤ 30) (hg : Int.gcd x y = 1) : eAll 10 (eSt x y) = true := by
  have h1 := List.all_eq_true.1 all_ok (x + 30).toNat (List.mem_range.2 (by omega))
  rw [show (((x + 30).toNat : Nat) : Int) - 30 = x by omega] at h1
  have h2 := List.all_eq_true.1 h1 (y + 30).toNat (List.mem_range.2 (by omega))
  rw [show (((y + 30).toNat : Nat) : Int) - 30 = y by omega] at h2
  rw [Bool.or_eq_true, decide_eq_true_eq] at h2
  rcases h2 with h2 | h2
  · exact absurd hg h2
  · exact h2
theorem eIt_succ : ∀ (k : Nat) (e : ESt), eIt (k + 1) e = eNext (eIt k e)
  | 0, e => rfl
  | k + 1, e => by rw [show eIt (k + 1 + 1) e = eIt (k + 1) (eNext e) from rfl, eIt_succ k (eNext e)]; rfl
theorem eAll_ok : ∀ (n : Nat) (e : ESt), eAll n e = true → ∀ k, k ≤ n → eOk (eIt k e) = true
  | 0, e, h, k, hk => by
    obtain rfl : k = 0 := by omega
    simp only [eAll, Bool.and_eq_true] at h
    exact h.1.1.1.1
  | n + 1, e, h, 0, _ => by
    simp only [eAll, Bool.and_eq_true] at h
    exact h.1
  | n + 1, e, h, k + 1, hk => by
    simp only [eAll, Bool.and_eq_true] at h
    exact eAll_ok n (eNext e) h.2 k (by omega)
theorem eAll_end : ∀ (n : Nat) (e : ESt), eAll n e = true → (eIt n e).s = 0 ∧ smallB 30 ((eIt n e).a0 * (eIt n e).r) = true ∧ smallB 30 ((eIt n e).a1 * (eIt n e).r) = true ∧ (eIt n e).r * (eIt n e).r = 1
  | 0, e, h => by
    simp only [eAll, Bool.and_eq_true, decide_eq_true_eq] at h
    exact ⟨h.1.1.1.2, h.1.1.2, h.1.2, h.2⟩
  | n + 1, e, h => by
    simp only [eAll, Bool.and_eq_true] at h
    exact eAll_end n (eNext e) h.2
def eInv (x y : Int) (e : ESt) : Prop := e.a0 * x + e.a1 * y = e.r ∧ e.b0 * x + e.b1 * y = e.s
theorem eInv_next {x y : Int} {e : ESt} (h : eInv x y e) : eInv x y (eNext e) := by
  unfold eNext
  split
  · exact h
  · obtain ⟨h1, h2⟩ := h
    refine ⟨h2, ?_⟩
    show (e.a0 - Int.tdiv e.r e.s * e.b0) * x + (e.a1 - Int.tdiv e.r e.s * e.b1) * y = e.r - Int.tdiv e.r e.s * e.s
    generalize Int.tdiv e.r e.s = q
    grind
theorem eInv_it {x y : Int} : ∀ (k : Nat) (e : ESt), eInv x y e → eInv x y (eIt k e)
  | 0, e, h => h
  | k + 1, e, h => eInv_it k (eNext e) (eInv_next h)
def parE (x y : Int) : ESt := eIt 10 (eSt x y)
/-- the partner of a primitive vector -/
theorem par_cross {x y : Int} (hx : -30 ≤ x ∧ x ≤ 30) (hy : -30 ≤ y ∧ y ≤ 30) (hg : Int.gcd x y = 1) :
    x * ((parE x y).a0 * (parE x y).r) - y * (-(parE x y).a1 * (parE x y).r) = 1 := by
  have h := eAll_end 10 _ (box_ok hx hy hg)
  have hi := (eInv_it 10 (eSt x y) (show eInv x y (eSt x y) from ⟨by simp [eSt], by simp [eSt]⟩)).1
  unfold parE
  generalize eIt 10 (eSt x y) = e at *
  obtain ⟨-, -, -, h4⟩ := h
  grind
/-- the next vector, from any one with the determinant 1 -/
def nxQ (x y p q wx wy : Int) : Int := (wx * q - wy * p) / (x * q - y * p)
def nxX (x y p q wx wy : Int) : Int := wx - nxQ x y p q wx wy * x
def nxY (x y p q wx wy : Int) : Int := wy - nxQ x y p q wx wy * y
theorem two_partners {x y a b c d : Int} (h1 : x * b - y * a = 1) (h2 : x * d - y * c = 1) : c = a + ((c - a) * b - (d - b) * a) * x ∧ d = b + ((c - a) * b - (d - b) * a) * y := by
  constructor <;> grind
theorem nx_same {x y p q a b c d : Int} (hd : 0 < x * q - y * p) (h1 : x * b - y * a = 1) (h2 : x * d - y * c = 1) : nxX x y p q c d = nxX x y p q a b ∧ nxY x y p q c d = nxY x y p q a b := by
  obtain ⟨e1, e2⟩ := two_partners h1 h2
  generalize (c - a) * b - (d - b) * a = k at *
  have e : c * q - d * p = (a * q - b * p) + k * (x * q - y * p) := by rw [e1, e2]; grind
  have hq : nxQ x y p q c d = nxQ x y p q a b + k := by
    unfold nxQ
    rw [e, Int.add_mul_ediv_right _ _ (by omega)]
  unfold nxX nxY
  rw [hq]
  generalize nxQ x y p q a b = f
  constructor
  · rw [e1]; grind
  · rw [e2]; grind
theorem nx_cross {x y p q a b : Int} (hd : 0 < x * q - y * p) (h1 : x * b - y * a = 1) :
    x * nxY x y p q a b - y * nxX x y p q a b = 1 ∧ 0 ≤ nxX x y p q a b * q - nxY x y p q a b * p ∧ nxX x y p q a b * q - nxY x y p q a b * p < x * q - y * p := by
  have h2 : nxX x y p q a b * q - nxY x y p q a b * p = (a * q - b * p) % (x * q - y * p) := by
    rw [Int.emod_def]
    unfold nxX nxY nxQ
    generalize (a * q - b * p) / (x * q - y * p) = f
    grind
  refine ⟨?_, ?_, ?_⟩
  · unfold nxX nxY
    generalize nxQ x y p q a b = f
    grind
  · rw [h2]; exact Int.emod_nonneg _ (by omega)
  · rw [h2]; exact Int.emod_lt_of_pos _ hd
theorem bd_of_mul {d e z x p : Int} (h : d * z = e * x + p) (h0 : 0 ≤ e) (h1 : e < d) (hx : -30 ≤ x ∧ x ≤ 30) (hp : -30 ≤ p ∧ p ≤ 30) : -30 ≤ z ∧ z ≤ 30 := by
  have a1 : 0 ≤ e * (30 - x) := Int.mul_nonneg h0 (by omega)
  have a2 : 0 ≤ e * (30 + x) := Int.mul_nonneg h0 (by omega)
  have b1 : d * z ≤ 30 * d := by grind
  have b2 : -(30 * d) ≤ d * z := by grind
  constructor
  · rcases Int.lt_or_le z (-30) with g | g
    · have : 0 < d * (-30 - z) := Int.mul_pos (by omega) (by omega)
      grind
    · exact g
  · rcases Int.lt_or_le 30 z with g | g
    · have : 0 < d * (z - 30) := Int.mul_pos (by omega) (by omega)
      grind
    · exact g
/-- the next vector is small, too -/
theorem nx_small {x y p q a b : Int} (hd : 0 < x * q - y * p) (h1 : x * b - y * a = 1) (hx : -30 ≤ x ∧ x ≤ 30) (hy : -30 ≤ y ∧ y ≤ 30) (hp : -30 ≤ p ∧ p ≤ 30) (hq : -30 ≤ q ∧ q ≤ 30) :
    (-30 ≤ nxX x y p q a b ∧ nxX x y p q a b ≤ 30) ∧ (-30 ≤ nxY x y p q a b ∧ nxY x y p q a b ≤ 30) := by
  obtain ⟨c1, c2, c3⟩ := nx_cross hd h1
  generalize nxX x y p q a b = u at *
  generalize nxY x y p q a b = v at *
  refine ⟨bd_of_mul (d := x * q - y * p) (e := u * q - v * p) (x := x) (p := p) ?_ c2 c3 hx hp, bd_of_mul (d := x * q - y * p) (e := u * q - v * p) (x := y) (p := q) ?_ c2 c3 hy hq⟩
  · grind
  · grind
theorem gcd_of_cross {x y u v : Int} (h : x * v - y * u = 1) : Int.gcd u v = 1 := by
  have h1 : (Int.gcd u v : Int) ∣ 1 := by
    rw [← h]
    exact Int.dvd_sub (Int.dvd_mul_of_dvd_right (Int.gcd_dvd_right u v)) (Int.dvd_mul_of_dvd_right (Int.gcd_dvd_left u v))
  have := Int.natCast_dvd_natCast.1 h1
  exact Nat.dvd_one.1 this
/-- the split cone: from (x, y) on towards (p, q) -/
def splitP (p q : Int) : Nat → Int → Int → List (List Int)
  | 0, x, y => [[x, y]]
  | k + 1, x, y => if x * q - y * p = 0 then [[x, y]] else [x, y] :: splitP p q k (nxX x y p q (-(parE x y).a1 * (parE x y).r) ((parE x y).a0 * (parE x y).r)) (nxY x y p q (-(parE x y).a1 * (parE x y).r) ((parE x y).a0 * (parE x y).r))
end Go.Proofs.Ytehhoplenloocaa

/- The partner of a primitive vector: the program's walk. -/
namespace Go.Proofs.Ytehhoplenloocaa
open Go.RowKit
set_option linter.unusedVariables false
set_option linter.unusedSimpArgs false

theorem eNext_fix {e : ESt} (h : e.s = 0) : eNext e = e := by unfold eNext; rw [if_pos h]
theorem eIt_fix {e : ESt} (k : Nat) (h : (eIt k e).s = 0) : ∀ d, eIt (k + d) e = eIt k e
  | 0 => rfl
  | d + 1 => by rw [show k + (d + 1) = k + d + 1 from rfl, eIt_succ, eIt_fix k h d, eNext_fix h]
theorem tdiv_smallP {r s : Int} (h : -60 ≤ r ∧ r ≤ 60) : -60 ≤ Int.tdiv r s ∧ Int.tdiv r s ≤ 60 := by
  have h1 := Int.natAbs_tdiv r s
  have h2 := Nat.div_le_self r.natAbs s.natAbs
  have h3 : (Int.tdiv r s).natAbs ≤ r.natAbs := by rw [h1]; exact h2
  omega
theorem eOk_bd {e : ESt} (h : eOk e = true) : (-60 ≤ e.a0 ∧ e.a0 ≤ 60) ∧ (-60 ≤ e.a1 ∧ e.a1 ≤ 60) ∧ (-60 ≤ e.b0 ∧ e.b0 ≤ 60) ∧ (-60 ≤ e.b1 ∧ e.b1 ≤ 60) ∧ (-60 ≤ e.r ∧ e.r ≤ 60) ∧ (-60 ≤ e.s ∧ e.s ≤ 60) := by
  unfold eOk smallB at h
  simp only [Bool.and_eq_true, decide_eq_true_eq] at h
  omega
set_option maxRecDepth 100000 in
set_option maxHeartbeats 4000000 in
theorem partner_any (x y : Int) (v : Value) (hb : Nat) (w : World) (h : ISr w hb v [x, y]) (hhb : hb ≤ w.heap.size) (hx : -30 ≤ x ∧ x ≤ 30) (hy : -30 ≤ y ∧ y ≤ 30) (hg : Int.gcd x y = 1) :
    Calls Try.prog 177 #[v] w fun e w' => ∃ u, e = .returned u ∧ IS w' w.heap.size w'.heap.size u [-(parE x y).a1 * (parE x y).r, (parE x y).a0 * (parE x y).r] ∧ Below w.heap.size w w' := by
  have hall := box_ok hx hy hg
  have HOK := Lib.hid (eAll_ok 10 _ hall)
  have HEND := Lib.hid (eAll_end 10 _ hall).1
  have HFIX := Lib.hid (fun k => eIt_fix (e := eSt x y) k)
  have HSUC := Lib.hid (fun k => eIt_succ k (eSt x y))
  have HPAR := Lib.hid (show parE x y = eIt 10 (eSt x y) from rfl)
  have H0 := Lib.hid (show eIt 0 (eSt x y) = ⟨1, 0, 0, 1, x, y⟩ from rfl)
  rcases h.cases with ⟨e, -⟩ | ⟨-, -, b, off, cap, rfl, hbb, hc⟩
  · cases e
  have p0 : w.cell? ⟨b, off, none⟩ = some (.int .i64 x) := hc 0 (by simp)
  have p1 : w.cell? ⟨b, off + 1, none⟩ = some (.int .i64 y) := hc 1 (by simp)
  have hbw : b < w.heap.size := Nat.lt_of_lt_of_le hbb hhb
  have IA0 := Lib.hid ((IS.lit2 w w.heap.size (Nat.le_refl _) 1 0).keep (below1 _ (.cells #[.int .i64 0, .int .i64 1] 3)) (by simp))
  have IB0 := Lib.hid (IS.lit2 (w.alloc (.cells #[.int .i64 1, .int .i64 0] 3)) w.heap.size (by simp) 0 1)
  have BB0 := Lib.hid (below2 w (.cells #[.int .i64 1, .int .i64 0] 3) (.cells #[.int .i64 0, .int .i64 1] 3))
  simp only [World.size_alloc] at IA0 IB0
  have q0 := (BB0.out.cell (p := ⟨b, off, none⟩) hbw).trans p0
  have q1 := (BB0.out.cell (p := ⟨b, off + 1, none⟩) hbw).trans p1
  clear h hc hall
  go_enter Try.func177, Try.ntmps177
  go_wp2
  go_quiet (fail)
  go_wp2
  go_loopw [3, 4, 5, 6, 7] (fun va vb r s _ wr => ∃ (k : Nat) (e : ESt), k ≤ 10 ∧ Hid (e = eIt k (eSt x y)) ∧ r = .int .i64 e.r ∧ s = .int .i64 e.s ∧ Hid (IS wr w.heap.size wr.heap.size va [e.a0, e.a1]) ∧ Hid (IS wr w.heap.size wr.heap.size vb [e.b0, e.b1]) ∧ Hid (Below w.heap.size w wr)) (fun _ _ _ s _ _ => (intOf s).natAbs)
  case atStart => exact ⟨0, ⟨1, 0, 0, 1, x, y⟩, by omega, Lib.hid H0.out.symm, rfl, rfl, Lib.hid (IA0.out.mono (Nat.le_refl _) (by simp)), Lib.hid (IB0.out.mono (Nat.le_refl _) (by simp)), Lib.hid (BB0.out.trans (below_draws _ _ _))⟩
  case round =>
    obtain ⟨k, e, hk, he, rfl, rfl, hia, hib, hbe⟩ := hrel
    obtain ⟨a0, a1, b0, b1, r, s⟩ := e
    dsimp only at hia hib
    dsimp only
    have hok := HOK.out k hk
    rw [← he.out] at hok
    obtain ⟨u1, u2, u3, u4, u5', u6'⟩ := eOk_bd hok
    dsimp only at u1 u2 u3 u4 u5' u6'
    by_cases hs : s = 0
    · have hfin : eIt 10 (eSt x y) = ⟨a0, a1, b0, b1, r, s⟩ := by
        have := HFIX.out k (by rw [← he.out]; exact hs) (10 - k)
        rw [show k + (10 - k) = 10 by omega, ← he.out] at this
        exact this
      have HR := Lib.hid (show ([-(parE x y).a1 * (parE x y).r, (parE x y).a0 * (parE x y).r] : List Int) = [-a1 * r, a0 * r] by rw [HPAR.out, hfin])
      obtain ⟨ba, oa, ca, rfl, -, la, c0, c1⟩ := hia.out.at2
      have m1 := mul_abs (a := -a1) (b := r) (A := 60) (B := 60) (by omega) (by omega) (by omega) (by omega) (by omega) (by omega)
      have m2 := mul_abs (a := a0) (b := r) (A := 60) (B := 60) (by omega) (by omega) (by omega) (by omega) (by omega) (by omega)
      have w1' := wr64 (-a1) (by omega)
      have w2' := wr64 (-a1 * r) (by omega)
      have w3' := wr64 (a0 * r) (by omega)
      have HIS := Lib.hid (IS.lit2 wr w.heap.size hbe.out.size (-a1 * r) (a0 * r))
      have HBE := Lib.hid (hbe.out.trans (below1 wr (.cells #[.int .i64 (-a1 * r), .int .i64 (a0 * r)] 3) |>.mono hbe.out.size))
      clear hfin hok u1 u2 u3 u4 u5' u6' m1 m2 hia hib hbe he
      subst hs
      go_wp2
      go_region_held3 (fun w' => w'.cell? ⟨ba, oa, none⟩ = some (.int .i64 a0) ∧ w'.cell? ⟨ba, oa + 1, none⟩ = some (.int .i64 a1)) (go_keep) (fail)
      go_wp2
      go_ret
      refine ⟨_, rfl, ?_, Lib.hid (HBE.out.trans (below_draws _ _ 1)) |>.out⟩
      rw [HR.out]
      exact (HIS.out.mono (Nat.le_refl _) (by simp)).world rfl
    · have hk2 : k < 10 := by
        rcases Nat.lt_or_ge k 10 with g | g
        · exact g
        · obtain rfl : k = 10 := by omega
          have := HEND.out
          rw [← he.out] at this
          exact absurd this hs
      have hnx : eIt (k + 1) (eSt x y) = ⟨b0, b1, a0 - Int.tdiv r s * b0, a1 - Int.tdiv r s * b1, s, r - Int.tdiv r s * s⟩ := by
        rw [HSUC.out, ← he.out]; unfold eNext; rw [if_neg hs]; rfl
      have HNX := Lib.hid hnx
      have hok2 := HOK.out (k + 1) (by omega)
      rw [hnx] at hok2
      obtain ⟨-, -, v3, v4, -, v6⟩ := eOk_bd hok2
      dsimp only at v3 v4 v6
      obtain ⟨ba, oa, ca, rfl, -, la, c0, c1⟩ := hia.out.at2
      obtain ⟨bb, ob, cb, rfl, -, lb, d0, d1⟩ := hib.out.at2
      have hne : (s != 0) = true := by simpa using hs
      have tq := tdiv_smallP (s := s) u5'
      have HME := Lib.hid (show (r - Int.tdiv r s * s).natAbs < s.natAbs by
        have := Int.tmod_def r s
        rw [Int.mul_comm] at this
        rw [← this]
        exact tmod_natAbs r s hs)
      have w0' := wr64 (Int.tdiv r s) (by omega)
      have w0'' : wrap64 (Int.tdiv r s) = Int.tdiv r s := by first | exact w0' | (simpa [IntKind.wrap] using w0') | (unfold IntKind.wrap at w0'; exact w0') | (simp only [wrap64]; omega) | (unfold wrap64; omega)
      obtain ⟨q, hq⟩ : ∃ q, q = Int.tdiv r s := ⟨_, rfl⟩
      rw [← hq] at HME HNX tq
      have hq2 : wrap64 (Int.tdiv r s) = q := by rw [w0'', hq]
      have hq3 : IntKind.i64.wrap (Int.tdiv r s) = q := by rw [w0', hq]
      rw [← hq] at v3 v4 v6
      clear hq w0' w0'' hnx
      have w1' := wr64 (q * s) (by omega)
      have w2' := wr64 (r - q * s) (by omega)
      have w3' := wr64 (q * b0) (by omega)
      have w4' := wr64 (a0 - q * b0) (by omega)
      have w5' := wr64 (q * b1) (by omega)
      have w6' := wr64 (a1 - q * b1) (by omega)
      have HIS := Lib.hid (IS.lit2 wr w.heap.size hbe.out.size (a0 - q * b0) (a1 - q * b1))
      have HBE := Lib.hid (hbe.out.trans (below1 wr (.cells #[.int .i64 (a0 - q * b0), .int .i64 (a1 - q * b1)] 3) |>.mono hbe.out.size))
      have HKB := Lib.hid (hib.out.keep (below1 wr (.cells #[.int .i64 (a0 - q * b0), .int .i64 (a1 - q * b1)] 3)) (Nat.le_refl _))
      clear hok hok2 u1 u2 u3 u4 u5' u6' v3 v4 v6 hia hib hbe he
      go_wp2
      go_region_held3 (fun w' => w'.cell? ⟨ba, oa, none⟩ = some (.int .i64 a0) ∧ w'.cell? ⟨ba, oa + 1, none⟩ = some (.int .i64 a1) ∧ w'.cell? ⟨bb, ob, none⟩ = some (.int .i64 b0) ∧ w'.cell? ⟨bb, ob + 1, none⟩ = some (.int .i64 b1)) (go_keep) (fail)
      clear w1' w2' w3' w4' w5' w6' hq2 hq3 c0 c1 d0 d1
      go_wp2
      go_roundw
      case rel => exact ⟨k + 1, ⟨b0, b1, a0 - q * b0, a1 - q * b1, s, r - q * s⟩, by omega, Lib.hid HNX.out.symm, rfl, rfl, Lib.hid ((HKB.out.mono (Nat.le_refl _) (by simp)).world rfl), Lib.hid ((HIS.out.mono (Nat.le_refl _) (by simp)).world rfl), Lib.hid (HBE.out.trans (below_draws _ _ 1))⟩
      case measure => simp [intOf]; exact HME.out
end Go.Proofs.Ytehhoplenloocaa

/- A multiple of a row is taken from another one, in place. -/
namespace Go.Proofs.Ytehhoplenloocaa
open Go.RowKit
set_option linter.unusedVariables false
set_option linter.unusedSimpArgs false

def lessF (l l2 : List Int) (q : Int) (j : Nat) : Nat → Value := fun i => if i < j then .int .i64 (l.getD i 0 - q * l2.getD i 0) else .int .i64 (l.getD i 0)
def lessL (l l2 : List Int) (q : Int) : List Int := (List.range l.length).map fun i => l.getD i 0 - q * l2.getD i 0
theorem lessL_len (l l2 : List Int) (q : Int) : (lessL l l2 q).length = l.length := by simp [lessL]
theorem lessL_getD (l l2 : List Int) (q : Int) (i : Nat) (h : i < l.length) : (lessL l l2 q).getD i 0 = l.getD i 0 - q * l2.getD i 0 := by
  rw [List.getD_eq_getElem?_getD]; simp [lessL, h]

set_option maxRecDepth 100000 in
set_option maxHeartbeats 4000000 in
theorem less_any (l l2 : List Int) (v vb : Value) (lo hi hb : Nat) (q : Int) (w : World) (h : IS w lo hi v l) (hby : ∀ w', w.grownBy w' (blkOf v) → ISr w' hb vb l2) (hll : l.length ≤ l2.length)
    (hbd : ∀ k, k < l.length → (-9223372036854775808 ≤ q * l2.getD k 0 ∧ q * l2.getD k 0 ≤ 9223372036854775807) ∧ (-9223372036854775808 ≤ l.getD k 0 - q * l2.getD k 0 ∧ l.getD k 0 - q * l2.getD k 0 ≤ 9223372036854775807)) :
    Calls Try.prog 83 #[v, .int .i64 q, vb] w fun e w' => (∃ r, e = .returned r) ∧ IS w' lo hi v (lessL l l2 q) ∧ w.grownBy w' (blkOf v) := by
  rcases h.cases with ⟨rfl, a, cap, rfl⟩ | ⟨hpos, hlen, b, off, cap, rfl, hc1, hc2, hb1, hb2, hcell⟩
  · go_enter Try.func83, Try.ntmps83
    go_wp2
    refine wp_loop_rounds 1 ?_
    rw [rounds_succ]
    go_wp2
    refine ⟨rfl, _, results_none rfl _ _ _, ?_⟩
    exact ⟨⟨_, rfl⟩, h, World.grownBy.refl _ _⟩
  · rw [blkOf_some _ _ _ _ hpos] at hby ⊢
    have hcs0 : BK w b off l.length 3 (lessF l l2 q 0) := hcell.congr fun i hi => by simp [lessF]
    have hres : ∀ w', BK w' b off l.length 3 (lessF l l2 q l.length) → IS w' lo hi (.slice (some ⟨b, off, none⟩) l.length cap) (lessL l l2 q) := by
      intro w' hcs
      refine ⟨_, _, by rw [lessL_len], by rw [lessL_len]; exact hc1, hc2, fun _ => ⟨b, off, rfl, hb1, hb2, ?_⟩⟩
      rw [lessL_len]
      exact hcs.congr fun i hi => by rw [lessL_getD _ _ _ _ hi]; simp [lessF, hi]
    clear hcell h
    have HRES := Lib.hid hres; clear hres
    have HBY := Lib.hid hby; clear hby
    have HBD := Lib.hid hbd; clear hbd
    obtain ⟨a2, cp2, rfl, -⟩ := id (HBY.out w (World.grownBy.refl _ _))
    obtain ⟨m, hm⟩ : ∃ m, m = l2.length := ⟨_, rfl⟩
    rw [← hm] at hll HBY ⊢
    have HM := Lib.hid hm
    obtain ⟨n, hn⟩ : ∃ n, n = l.length := ⟨_, rfl⟩
    rw [← hn] at hlen hpos hcs0 HRES HBD hll ⊢
    clear hn hc1 hc2 hm
    have H0 := Lib.hid hcs0; clear hcs0
    go_enter Try.func83, Try.ntmps83
    go_wp2
    go_loopw [6, 9] (fun _ i wr => ∃ j : Nat, j ≤ n ∧ i = .int .i64 j ∧ Hid (BK wr b off n 3 (lessF l l2 q j)) ∧ Hid (w.grownBy wr (some b))) (fun _ i _ => n - (intOf i).toNat)
    case atStart => exact ⟨0, by omega, rfl, H0, World.grownBy.refl _ _⟩
    case round =>
      obtain ⟨j, hj, rfl, hcs, hgr⟩ := hrel
      by_cases hlt : j < n
      · have hc := hcs.out.cell hlt
        have hf := hcs.out.frozen (off + j)
        obtain ⟨x1, x2⟩ := HBD.out j hlt
        rcases (HBY.out wr hgr.out).cases with ⟨e, -⟩ | ⟨-, -, b2, o2, c2, hv2, -, hcc⟩
        · have := HM.out; rw [e] at this; simp at this; omega
        have hd := hcc j (by rw [← HM.out]; omega)
        injection hv2 with e1 e2 e3
        have e1' := wr64 _ x1
        have e2' := wr64 _ x2
        have hset := hcs.out.set hlt (.int .i64 (l.getD j 0 - q * l2.getD j 0))
        have hset2 : BK (wr.setCell ⟨b, off + j, none⟩ (.int .i64 (l.getD j 0 - q * l2.getD j 0))) b off n 3 (lessF l l2 q (j + 1)) := hset.congr fun i _ => by
          unfold lessF
          by_cases e : i = j
          · subst e; simp
          · rw [if_neg e]
            by_cases e2 : i < j
            · rw [if_pos e2, if_pos (by omega)]
            · rw [if_neg e2, if_neg (by omega)]
        have HS := Lib.hid hset2; clear hset hset2
        have hg2 : w.grownBy (wr.setCell ⟨b, off + j, none⟩ (.int .i64 (l.getD j 0 - q * l2.getD j 0))) (some b) := by
          have g := hgr.out
          refine ⟨g.os, g.tape, g.output, by simpa using g.size, fun i hi hne => ?_⟩
          rw [Below.heap_setCell _ _ _ _ (by intro e; apply hne; rw [e])]
          exact g.block i hi hne
        have HG := Lib.hid hg2; clear hg2
        rw [show lessF l l2 q j j = .int .i64 (l.getD j 0) by unfold lessF; rw [if_neg (Nat.lt_irrefl _)]] at hc
        generalize l.getD j 0 = y at *
        generalize l2.getD j 0 = z at *
        subst e1
        clear hcc e2 e3
        go_wp2
        go_region
        go_wp2
        go_roundw
        case rel => exact ⟨j + 1, by omega, by go_num, HS, Lib.hid ⟨HG.out.os, HG.out.tape, HG.out.output, HG.out.size, HG.out.block⟩⟩
        case measure => simp [intOf]; omega
      · obtain rfl : j = n := by omega
        go_wp2
        refine ⟨rfl, _, results_none rfl _ _ _, ?_⟩
        exact ⟨⟨_, rfl⟩, HRES.out _ hcs.out, hgr.out⟩
end Go.Proofs.Ytehhoplenloocaa

/- The model's search for a partner: the walk. -/
namespace Go.Proofs.Ytehhoplenloocaa
open Go.RowKit
set_option linter.unusedVariables false
set_option linter.unusedSimpArgs false

def tryT (n k : Int) : Nat → Int × Int
  | 0 => (k, n)
  | 1 => (k, -n)
  | 2 => (n, k)
  | _ => (-n, k)
def noHit (x y n k : Int) : Prop := ∀ i, i < 4 → x * (tryT n k i).2 - y * (tryT n k i).1 ≠ 1
theorem hit_at {x y a b M : Int} (h : x * b - y * a = 1) (hM : (a = M ∨ a = -M ∨ b = M ∨ b = -M) ∧ (-M ≤ a ∧ a ≤ M) ∧ (-M ≤ b ∧ b ≤ M)) (hno : ∀ k, -M ≤ k → k ≤ M → noHit x y M k) : False := by
  obtain ⟨h1, ha, hb⟩ := hM
  rcases h1 with e | e | e | e
  · exact hno b hb.1 hb.2 2 (by omega) (by simp only [tryT]; rw [← e]; exact h)
  · exact hno b hb.1 hb.2 3 (by omega) (by simp only [tryT]; rw [← e]; exact h)
  · exact hno a ha.1 ha.2 0 (by omega) (by simp only [tryT]; rw [← e]; exact h)
  · exact hno a ha.1 ha.2 1 (by omega) (by simp only [tryT]; rw [← e]; exact h)

theorem IS.lit2' (w : World) (B g : Nat) (hg : w.heap.size = g) (h : B ≤ g) (x y : Int) : IS (w.alloc (.cells #[.int .i64 x, .int .i64 y] 3)) B (g + 1) (.slice (some ⟨g, 0, Option.none⟩) 2 2) [x, y] := by
  subst hg; exact IS.lit2 w B h x y
/-- the four tries, as they are laid -/
def tryW (w : World) (n k : Int) : World := ((((w.alloc (.cells #[.int .i64 k, .int .i64 n] 3)).alloc (.cells #[.int .i64 k, .int .i64 (-n)] 3)).alloc (.cells #[.int .i64 n, .int .i64 k] 3)).alloc (.cells #[.int .i64 (-n), .int .i64 k] 3)).alloc
  (.cells #[.slice (some ⟨w.heap.size, 0, none⟩) 2 2, .slice (some ⟨w.heap.size + 1, 0, none⟩) 2 2, .slice (some ⟨w.heap.size + 1 + 1, 0, none⟩) 2 2, .slice (some ⟨w.heap.size + 1 + 1 + 1, 0, none⟩) 2 2] 30)
theorem tryW_size (w : World) (n k : Int) : (tryW w n k).heap.size = w.heap.size + 5 := by simp [tryW]
theorem tryW_below (w : World) (n k : Int) : Below w.heap.size w (tryW w n k) := by
  unfold tryW
  exact (((((Below.refl w.heap.size w).alloc (Nat.le_refl _) _).alloc (by simp) _).alloc (by simp; omega) _).alloc (by simp; omega) _).alloc (by simp; omega) _
theorem tryW_is (w : World) (n k : Int) : ∀ i, i < 4 → ∃ u, (tryW w n k).cell? ⟨w.heap.size + 1 + 1 + 1 + 1, i, none⟩ = some u ∧ IS (tryW w n k) w.heap.size (tryW w n k).heap.size u [(tryT n k i).1, (tryT n k i).2] := by
  have hz := tryW_size w n k
  have bk : BK (tryW w n k) (w.heap.size + 1 + 1 + 1 + 1) 0 4 30 (fun i => (#[.slice (some ⟨w.heap.size, 0, none⟩) 2 2, .slice (some ⟨w.heap.size + 1, 0, none⟩) 2 2, .slice (some ⟨w.heap.size + 1 + 1, 0, none⟩) 2 2, .slice (some ⟨w.heap.size + 1 + 1 + 1, 0, none⟩) 2 2] : Array Value).getD i (.int .i64 0)) := by
    refine ⟨_, by unfold tryW; have := heap_alloc_new ((((w.alloc (.cells #[.int .i64 k, .int .i64 n] 3)).alloc (.cells #[.int .i64 k, .int .i64 (-n)] 3)).alloc (.cells #[.int .i64 n, .int .i64 k] 3)).alloc (.cells #[.int .i64 (-n), .int .i64 k] 3)) (.cells #[.slice (some ⟨w.heap.size, 0, none⟩) 2 2, .slice (some ⟨w.heap.size + 1, 0, none⟩) 2 2, .slice (some ⟨w.heap.size + 1 + 1, 0, none⟩) 2 2, .slice (some ⟨w.heap.size + 1 + 1 + 1, 0, none⟩) 2 2] 30); simpa using this, fun i hi => ?_⟩
    match i, hi with
    | 0, _ => rfl
    | 1, _ => rfl
    | 2, _ => rfl
    | 3, _ => rfl
  intro i hi
  have hc := bk.cell hi
  rw [Nat.zero_add] at hc
  refine ⟨_, hc, ?_⟩
  rw [hz]
  unfold tryW
  match i, hi with
  | 0, _ => exact (((((IS.lit2 w w.heap.size (Nat.le_refl _) k n).keep (below1 _ _) (by simp)).keep (below1 _ _) (by simp)).keep (below1 _ _) (by simp)).keep (below1 _ _) (by simp)).mono (Nat.le_refl _) (by omega)
  | 1, _ => exact ((((IS.lit2' (w.alloc (.cells #[.int .i64 k, .int .i64 n] 3)) w.heap.size (w.heap.size + 1) (by simp) (by omega) k (-n)).keep (below1 _ _) (by simp)).keep (below1 _ _) (by simp)).keep (below1 _ _) (by simp)).mono (Nat.le_refl _) (by omega)
  | 2, _ => exact (((IS.lit2' ((w.alloc (.cells #[.int .i64 k, .int .i64 n] 3)).alloc (.cells #[.int .i64 k, .int .i64 (-n)] 3)) w.heap.size (w.heap.size + 1 + 1) (by simp) (by omega) n k).keep (below1 _ _) (by simp)).keep (below1 _ _) (by simp)).mono (Nat.le_refl _) (by omega)
  | 3, _ => exact ((IS.lit2' (((w.alloc (.cells #[.int .i64 k, .int .i64 n] 3)).alloc (.cells #[.int .i64 k, .int .i64 (-n)] 3)).alloc (.cells #[.int .i64 n, .int .i64 k] 3)) w.heap.size (w.heap.size + 1 + 1 + 1) (by simp) (by omega) (-n) k).keep (below1 _ _) (by simp)).mono (Nat.le_refl _) (by omega)

set_option maxRecDepth 100000 in
set_option maxHeartbeats 8000000 in
theorem l9Bezout_any (x y : Int) (v : Value) (hb : Nat) (w : World) (h : ISr w hb v [x, y]) (hhb : hb ≤ w.heap.size) (hx : -30 ≤ x ∧ x ≤ 30) (hy : -30 ≤ y ∧ y ≤ 30) (a b M : Int) (hab : x * b - y * a = 1)
    (hM : (a = M ∨ a = -M ∨ b = M ∨ b = -M) ∧ (-M ≤ a ∧ a ≤ M) ∧ (-M ≤ b ∧ b ≤ M)) (hM30 : M ≤ 30) :
    Calls Try.prog 185 #[v] w fun e w' => ∃ u c d, e = .returned u ∧ x * d - y * c = 1 ∧ (-30 ≤ c ∧ c ≤ 30) ∧ (-30 ≤ d ∧ d ≤ 30) ∧ IS w' w.heap.size w'.heap.size u [c, d] ∧ Below w.heap.size w w' := by
  have HAB := Lib.hid hab
  have HMM := Lib.hid hM
  have HXX := Lib.hid h
  have hM0 : 0 ≤ M := by omega
  obtain ⟨av, cv, rfl, -⟩ := id h
  clear h hab hM
  go_enter Try.func185, Try.ntmps185
  go_wp2
  go_loopw [3, 4, 5, 6] (fun ns _ _ _ wr => ∃ n : Nat, (n : Int) ≤ M ∧ ns = .int .i64 n ∧ Hid (Below w.heap.size w wr)) (fun ns _ _ _ _ => (M - intOf ns).toNat)
  case atStart => exact ⟨0, by omega, rfl, Below.refl _ _⟩
  case round =>
    obtain ⟨n, hn, rfl, hbe⟩ := hrel
    generalize wr = w1 at *
    have hwz := hbe.out.size
    go_wp2
    go_loopw [4, 5, 6] (fun ks _ _ wr => ∃ j : Nat, j ≤ 2 * n + 1 ∧ ks = .int .i64 (-(n : Int) + j) ∧ Hid (∀ j' : Nat, j' < j → noHit x y n (-(n : Int) + j')) ∧ Hid (Below w.heap.size w wr)) (fun ks _ _ _ => ((n : Int) + 1 - intOf ks).toNat)
    case atStart => exact ⟨0, by omega, by simp, Lib.hid (fun j hj => absurd hj (Nat.not_lt_zero _)), hbe⟩
    case round =>
      obtain ⟨j, hj, rfl, hno, hb2⟩ := hrel
      generalize wr = w2 at *
      by_cases hjt : j < 2 * n + 1
      · have hle : -(n : Int) + j ≤ n := by omega
        have hdec : decide (-(n : Int) + j ≤ n) = true := by simpa using hle
        generalize hk : -(n : Int) + (j : Int) = k at *
        have HK := Lib.hid hk
        have hkb : -(n : Int) ≤ k ∧ k ≤ n := by omega
        have HT := Lib.hid (tryW_is w2 n k)
        have HTB := Lib.hid (tryW_below w2 n k)
        have HTZ := Lib.hid (tryW_size w2 n k)
        have hn30 : (n : Int) ≤ 30 := by omega
        have HAT : ∀ (m : Int) (i : Nat), (tryW w2 m k) = (tryW w2 m k) := fun _ _ => rfl
        clear hk hle hjt HAT
        go_wp2
        have e5 : (tryW w2 n k) = (tryW w2 n k) := rfl
        conv at e5 => lhs; unfold tryW
        rw [e5]
        clear e5
        have HZ2 := Lib.hid hb2.out.size
        generalize tryW w2 n k = w5 at *
        generalize w2.heap.size = z2 at *
        go_loopw [6] (fun is wr => ∃ (i d : Nat), i ≤ 4 ∧ is = .int .i64 i ∧ Hid (wr = w5.drewN d) ∧ Hid (∀ i' : Nat, i' < i → x * (tryT n k i').2 - y * (tryT n k i').1 ≠ 1)) (fun is _ => (4 - intOf is).toNat)
        case atStart => exact ⟨0, 0, by omega, rfl, Lib.hid rfl, Lib.hid fun i hi => absurd hi (Nat.not_lt_zero _)⟩
        case round =>
          obtain ⟨i, d, hi, rfl, hwd, hni⟩ := hrel
          generalize wr = w6 at *
          by_cases hi4 : i < 4
          · have hdi : decide ((i : Int) < 4) = true := by rw [decide_eq_true_eq]; omega
            obtain ⟨u, hcu, hisu⟩ := HT.out i hi4
            have hcu : w6.cell? ⟨z2 + 1 + 1 + 1 + 1, i, none⟩ = some u := by rw [hwd.out]; exact hcu
            have hisu6 : IS w6 z2 w5.heap.size u [(tryT n k i).1, (tryT n k i).2] := by rw [hwd.out]; exact hisu
            have HB6 := Lib.hid (show Below w.heap.size w w6 from by rw [hwd.out]; exact ((hb2.out.trans (HTB.out.mono HZ2.out)).trans (below_draws _ _ d)))
            have hZ6 : w6.heap.size = w5.heap.size := by rw [hwd.out]; rfl
            have HZ6 := Lib.hid hZ6
            have tb : (-30 ≤ (tryT n k i).1 ∧ (tryT n k i).1 ≤ 30) ∧ (-30 ≤ (tryT n k i).2 ∧ (tryT n k i).2 ≤ 30) := by
              unfold tryT; split <;> simp only [] <;> omega
            have HNI := Lib.hid (show x * (tryT n k i).2 - y * (tryT n k i).1 ≠ 1 → ∀ i' : Nat, i' < i + 1 → x * (tryT n k i').2 - y * (tryT n k i').1 ≠ 1 from fun h0 i' hi' => by
              by_cases e : i' = i
              · subst e; exact h0
              · exact hni.out i' (by omega))
            generalize (tryT n k i).1 = c at *
            generalize (tryT n k i).2 = e at *
            have HIS := Lib.hid hisu6
            have CR := l7Cross_any [x, y] [c, e] (.slice av 2 cv) u hb w5.heap.size w6 (HXX.out.keep HB6.out hhb) hisu6.read rfl rfl (by simp [allIn, inB]; omega) (by simp [allIn, inB]; omega)
            rw [show crossI [x, y] [c, e] = x * e - y * c by simp [crossI]] at CR
            obtain ⟨au, cu, rfl, -⟩ := id hisu6
            obtain ⟨q, hq⟩ : ∃ q, q = x * e - y * c := ⟨_, rfl⟩
            rw [← hq] at CR HNI
            have HQ := Lib.hid hq
            clear hq hisu hisu6
            go_wp2_with fail
            refine CR.mono ?_
            rintro e1 w7 ⟨rfl, d7, rfl⟩
            have hcu7 : (w6.drewN d7).cell? ⟨z2 + 1 + 1 + 1 + 1, i, none⟩ = some (Value.slice au [c, e].length cu) := hcu
            have HB7 := Lib.hid (HB6.out.trans (below_draws w.heap.size w6 d7))
            have HW7 := Lib.hid (show w6.drewN d7 = w5.drewN (d + d7) by rw [hwd.out, World.drewN_drewN])
            have HIS7 := Lib.hid (show IS (w6.drewN d7) z2 w5.heap.size (Value.slice au [c, e].length cu) [c, e] from HIS.out.draws d7)
            have HZ7 := Lib.hid (show (w6.drewN d7).heap.size = w5.heap.size from HZ6.out)
            generalize w6.drewN d7 = w7 at *
            by_cases hq1 : q = 1
            · have hqe : (q == 1) = true := by simpa using hq1
              go_wp2
              go_ret
              refine ⟨_, c, e, rfl, by rw [← HQ.out]; exact hq1, tb.1, tb.2, HIS7.out.mono HZ2.out (by rw [HZ7.out]; exact Nat.le_refl _), HB7.out⟩
            · have hqe : (q == 1) = false := by simpa using hq1
              have HN2 := Lib.hid (HNI.out hq1)
              go_wp2
              go_roundw
              case rel => exact ⟨i + 1, d + d7, by omega, by go_num, HW7, HN2⟩
              case measure => simp [intOf]; omega
          · obtain rfl : i = 4 := by omega
            have HB6 := Lib.hid (show Below w.heap.size w w6 from by rw [hwd.out]; exact ((hb2.out.trans (HTB.out.mono HZ2.out)).trans (below_draws _ _ d)))
            go_wp2
            go_roundw
            case rel => exact ⟨j + 1, by have := HK.out; omega, by congr 1; have := HK.out; omega, Lib.hid (fun j' hj' => by
              by_cases ej : j' = j
              · subst ej; rw [HK.out]; exact hni.out
              · exact hno.out j' (by omega)), HB6⟩
            case measure => simp [intOf]; omega
      · obtain rfl : j = 2 * n + 1 := by omega
        have hle : ¬ (-(n : Int) + ((2 * n + 1 : Nat) : Int) ≤ n) := by omega
        have hdec : decide (-(n : Int) + ((2 * n + 1 : Nat) : Int) ≤ n) = false := by simpa using hle
        have hlt : (n : Int) < M := by
          rcases Int.lt_or_le n M with g | g
          · exact g
          · exfalso
            obtain rfl : M = n := by omega
            exact hit_at HAB.out HMM.out (fun k h1 h2 => by
              have := hno.out (k + n).toNat (by omega)
              rwa [show -(n : Int) + (((k + n).toNat : Nat) : Int) = k by omega] at this)
        go_wp2
        go_roundw
        case rel => exact ⟨n + 1, by omega, by go_num, hb2⟩
        case measure => simp [intOf]; omega
end Go.Proofs.Ytehhoplenloocaa

/- The next vector of a split cone: the model's walk. -/
namespace Go.Proofs.Ytehhoplenloocaa
open Go.RowKit
set_option linter.unusedVariables false
set_option linter.unusedSimpArgs false

def parX (x y : Int) : Int := -(parE x y).a1 * (parE x y).r
def parY (x y : Int) : Int := (parE x y).a0 * (parE x y).r
theorem par_cross' {x y : Int} (hx : -30 ≤ x ∧ x ≤ 30) (hy : -30 ≤ y ∧ y ≤ 30) (hg : Int.gcd x y = 1) : x * parY x y - y * parX x y = 1 := par_cross hx hy hg
theorem smallB_iff {m x : Int} (h : smallB m x = true) : -m ≤ x ∧ x ≤ m := by
  unfold smallB at h; simp only [Bool.and_eq_true, decide_eq_true_eq] at h; exact h
theorem par_bd {x y : Int} (hx : -30 ≤ x ∧ x ≤ 30) (hy : -30 ≤ y ∧ y ≤ 30) (hg : Int.gcd x y = 1) : (-30 ≤ parX x y ∧ parX x y ≤ 30) ∧ (-30 ≤ parY x y ∧ parY x y ≤ 30) := by
  have h := eAll_end 10 _ (box_ok hx hy hg)
  have h2 := smallB_iff h.2.1
  have h3 := smallB_iff h.2.2.1
  unfold parX parY parE
  rw [Int.neg_mul]
  omega
/-- the next vector -/
def nextX (x y p q : Int) : Int := nxX x y p q (parX x y) (parY x y)
def nextY (x y p q : Int) : Int := nxY x y p q (parX x y) (parY x y)
theorem bez_M (a b : Int) (ha : -30 ≤ a ∧ a ≤ 30) (hb : -30 ≤ b ∧ b ≤ 30) : ∃ M : Int, ((a = M ∨ a = -M ∨ b = M ∨ b = -M) ∧ (-M ≤ a ∧ a ≤ M) ∧ (-M ≤ b ∧ b ≤ M)) ∧ M ≤ 30 := by
  refine ⟨max (a.natAbs : Int) (b.natAbs : Int), ?_, ?_⟩ <;> omega
theorem cross_bd30 {x y p q : Int} (hx : -30 ≤ x ∧ x ≤ 30) (hy : -30 ≤ y ∧ y ≤ 30) (hp : -30 ≤ p ∧ p ≤ 30) (hq : -30 ≤ q ∧ q ≤ 30) : -1800 ≤ x * q - y * p ∧ x * q - y * p ≤ 1800 := by
  have h1 := mul_abs (a := x) (b := q) (A := 30) (B := 30) (by omega) (by omega) (by omega) (by omega) (by omega) (by omega)
  have h2 := mul_abs (a := y) (b := p) (A := 30) (B := 30) (by omega) (by omega) (by omega) (by omega) (by omega) (by omega)
  omega
theorem in9 {x y : Int} (hx : -30 ≤ x ∧ x ≤ 30) (hy : -30 ≤ y ∧ y ≤ 30) : allIn [x, y] (-1000000000) 1000000000 = true := by
  simp [allIn, inB]; omega

set_option maxRecDepth 100000 in
set_option maxHeartbeats 4000000 in
theorem l9Next_any (x y p q : Int) (v1 v2 : Value) (hb : Nat) (w : World) (i1 : ISr w hb v1 [x, y]) (i2 : ISr w hb v2 [p, q]) (hhb : hb ≤ w.heap.size) (hx : -30 ≤ x ∧ x ≤ 30) (hy : -30 ≤ y ∧ y ≤ 30) (hp : -30 ≤ p ∧ p ≤ 30) (hq : -30 ≤ q ∧ q ≤ 30)
    (hg : Int.gcd x y = 1) (hd : 0 < x * q - y * p) :
    Calls Try.prog 178 #[v1, v2] w fun e w' => ∃ u, e = .returned u ∧ IS w' w.heap.size w'.heap.size u [nextX x y p q, nextY x y p q] ∧ Below w.heap.size w w' := by
  have pb := par_bd hx hy hg
  obtain ⟨M, hM, hM30⟩ := bez_M (parX x y) (parY x y) pb.1 pb.2
  have C0 := l7Cross_any [x, y] [p, q] v1 v2 hb hb w i1 i2 rfl rfl (in9 hx hy) (in9 hp hq)
  rw [show crossI [x, y] [p, q] = x * q - y * p by simp [crossI]] at C0
  have C1 := fun W (B : Below w.heap.size w W) => l9Bezout_any x y v1 hb W (i1.keep B hhb) (by have := B.size; omega) hx hy (parX x y) (parY x y) M (par_cross' hx hy hg) hM hM30
  have HSAME := Lib.hid (fun c d (h : x * d - y * c = 1) => nx_same (p := p) (q := q) (a := parX x y) (b := parY x y) (c := c) (d := d) hd (par_cross' hx hy hg) h)
  have HCD := Lib.hid (cross_bd30 hx hy hp hq)
  have HI1 := Lib.hid i1
  have HI2 := Lib.hid i2
  obtain ⟨a1, cp1, rfl, -⟩ := id i1
  obtain ⟨a2, cp2, rfl, -⟩ := id i2
  clear i1 i2 pb hM hM30
  obtain ⟨D, hD⟩ : ∃ D, D = x * q - y * p := ⟨_, rfl⟩
  rw [← hD] at C0 hd HCD
  have HD := Lib.hid hD
  clear hD
  go_enter Try.func178, Try.ntmps178
  go_wp2_with fail
  refine C0.mono ?_
  rintro e w1 ⟨rfl, d1, hw1⟩
  have HB1 := Lib.hid (show Below w.heap.size w w1 from hw1 ▸ below_draws _ _ _)
  clear hw1
  go_wp2_with fail
  refine (C1 _ HB1.out).mono ?_
  rintro e w2 ⟨u, c, d, rfl, hcr, hc, hd2, hisu, hbe2⟩
  have HS1 := Lib.hid HB1.out.size
  have HB2 := Lib.hid (below_then HB1.out HB1.out.size hbe2)
  have HS2 := Lib.hid hbe2.size
  have HSM := Lib.hid (HSAME.out c d hcr)
  have HISU := Lib.hid hisu
  have C2 := l7Cross_any [c, d] [p, q] u (Value.slice a2 2 cp2) w2.heap.size hb w2 hisu.read (HI2.out.keep HB2.out hhb) rfl rfl (in9 hc hd2) (in9 hp hq)
  rw [show crossI [c, d] [p, q] = c * q - d * p by simp [crossI]] at C2
  have hcb := cross_bd30 hc hd2 hp hq
  obtain ⟨au, cu, rfl, -⟩ := id hisu
  clear hisu hbe2 hcr
  obtain ⟨K, hK⟩ : ∃ K, K = c * q - d * p := ⟨_, rfl⟩
  rw [← hK] at C2 hcb
  have HK := Lib.hid hK
  clear hK
  go_wp2_with fail
  refine C2.mono ?_
  rintro e w3 ⟨rfl, d3, hw3⟩
  have HB3 := Lib.hid (show Below w2.heap.size w2 w3 from hw3 ▸ below_draws _ _ _)
  clear hw3
  go_wp2_with (go_at_call 149; (with_reducible refine (l3Floor_any K D _ (by omega) (by omega) (by omega) (by have := HCD.out; omega)).mono ?_); rintro e w' ⟨rfl, rfl⟩)
  have HF := Lib.hid (div_bd2 (x := K) (d := D) 1800 (by omega) (by omega) (by omega))
  have HB23 := Lib.hid (below_then HB2.out HB2.out.size HB3.out)
  have mb1 := mul_bd2 (a := K / D) (b := 30) (M := 1800) (N := 30) (by have := HF.out; omega) (by have := HF.out; omega) (by omega) (by omega) (by omega)
  obtain ⟨f, hf⟩ : ∃ f, f = K / D := ⟨_, rfl⟩
  rw [← hf] at HF ⊢
  have hmx := mul_bd6 (a := x) (b := f) (by omega) (by omega) (by have := HF.out; omega) (by have := HF.out; omega)
  have hmy := mul_bd6 (a := y) (b := f) (by omega) (by omega) (by have := HF.out; omega) (by have := HF.out; omega)
  have hf2 := hf
  rw [HK.out, HD.out] at hf2
  have HQ := Lib.hid (show f = nxQ x y p q c d from hf2)
  clear hf hf2 mb1
  refine (l2Scale_any [x, y] _ f hb w3 (HI1.out.keep HB23.out hhb) (by have := HB23.out.size; omega) (by simp) (fun k hk => ?_)).mono ?_
  · match k, hk with
    | 0, _ => simp only [List.getD_cons_zero]; omega
    | 1, _ => simp only [List.getD_cons_succ, List.getD_cons_zero]; omega
  rintro e w4 ⟨u4, rfl, is4, hb4⟩
  have HIS4 := Lib.hid is4
  have HB4 := Lib.hid (below_then HB23.out HB23.out.size hb4)
  have HSU := Lib.hid ((HISU.out.keep HB3.out (Nat.le_refl _)).keep hb4 HB3.out.size)
  have HZ := Lib.hid hb4.size
  have HZ3 := Lib.hid HB3.out.size
  obtain ⟨a4, c4, rfl, -⟩ := id is4
  clear is4 hb4
  go_wp2_with fail
  refine (l2Less_any [c, d] ([x, y].map (· * f)) _ _ w4.heap.size w4 (HSU.out.read.upto (by have := HZ.out; have := HZ3.out; omega)) HIS4.out.read (Nat.le_refl _) (by simp) (by simp) (fun k hk => ?_)).mono ?_
  · match k, hk with
    | 0, _ => simp only [List.map_cons, List.getD_cons_zero]; omega
    | 1, _ => simp only [List.map_cons, List.getD_cons_succ, List.getD_cons_zero]; omega
  rintro e w5 ⟨u5, rfl, is5, hb5⟩
  have HIS5 := Lib.hid is5
  have HB5 := Lib.hid (below_then HB4.out HB4.out.size hb5)
  obtain ⟨a5, c5, rfl, -⟩ := id is5
  clear is5 hb5
  go_wp2
  go_ret
  refine ⟨_, rfl, ?_, HB5.out⟩
  have e1 : List.zipWith (· - ·) [c, d] ([x, y].map (· * f)) = [nextX x y p q, nextY x y p q] := by
    unfold nextX nextY
    rw [← HSM.out.1, ← HSM.out.2]
    unfold nxX nxY
    rw [← HQ.out]
    simp [Int.mul_comm]
  rw [← e1]
  exact HIS5.out.mono HB4.out.size (Nat.le_refl _)
end Go.Proofs.Ytehhoplenloocaa

/- Cones that are split: the model's walk. -/
namespace Go.Proofs.Ytehhoplenloocaa
open Go.RowKit
set_option linter.unusedVariables false
set_option linter.unusedSimpArgs false

/-- a split cone -/
def splitC (U V : List Int) : List (List Int) := if coneB U V then splitP (V.getD 0 0) (V.getD 1 0) (crossI U V).toNat (U.getD 0 0) (U.getD 1 0) else []
theorem splitP_zero (p q : Int) (k : Nat) {x y : Int} (h : x * q - y * p = 0) : splitP p q k x y = [[x, y]] := by
  cases k with
  | zero => rfl
  | succ k => show (if x * q - y * p = 0 then _ else _) = _; rw [if_pos h]
theorem splitP_succ (p q : Int) (k : Nat) {x y : Int} (h : x * q - y * p ≠ 0) : splitP p q (k + 1) x y = [x, y] :: splitP p q k (nextX x y p q) (nextY x y p q) := by
  show (if x * q - y * p = 0 then _ else _) = _; rw [if_neg h]; rfl
/-- what is known of a vector on the way -/
structure Spl (p q x y : Int) (k : Nat) : Prop where
  bx : -30 ≤ x ∧ x ≤ 30
  byy : -30 ≤ y ∧ y ≤ 30
  g : Int.gcd x y = 1
  d0 : 0 ≤ x * q - y * p
  dk : x * q - y * p ≤ k
theorem Spl.next {p q x y : Int} {k : Nat} (h : Spl p q x y k) (hp : -30 ≤ p ∧ p ≤ 30) (hq : -30 ≤ q ∧ q ≤ 30) (h0 : x * q - y * p ≠ 0) : ∃ k', k = k' + 1 ∧ Spl p q (nextX x y p q) (nextY x y p q) k' := by
  have hd : 0 < x * q - y * p := by have := h.d0; omega
  have hc := nx_cross (p := p) (q := q) hd (par_cross' h.bx h.byy h.g)
  have hs := nx_small hd (par_cross' h.bx h.byy h.g) h.bx h.byy hp hq
  obtain ⟨c1, c2, c3⟩ := hc
  have hk := h.dk
  refine ⟨k - 1, by omega, hs.1, hs.2, gcd_of_cross c1, c2, ?_⟩
  show nxX x y p q (parX x y) (parY x y) * q - nxY x y p q (parX x y) (parY x y) * p ≤ _
  omega
theorem cone_parts {U V : List Int} (h : coneB U V = true) : ∃ x y p q, U = [x, y] ∧ V = [p, q] ∧ (-30 ≤ x ∧ x ≤ 30) ∧ (-30 ≤ y ∧ y ≤ 30) ∧ (-30 ≤ p ∧ p ≤ 30) ∧ (-30 ≤ q ∧ q ≤ 30) ∧ Int.gcd x y = 1 ∧ Int.gcd p q = 1 ∧ 0 < x * q - y * p := by
  obtain ⟨h1, h2, h3, h4, h5⟩ := coneB_of h
  obtain ⟨l1, a1⟩ := ptB_len h1
  obtain ⟨l2, a2⟩ := ptB_len h2
  match U, V, l1, l2 with
  | [x, y], [p, q], _, _ =>
    have b0 := allIn_at a1 0 (by simp)
    have b1 := allIn_at a1 1 (by simp)
    have c0 := allIn_at a2 0 (by simp)
    have c1 := allIn_at a2 1 (by simp)
    rw [gcdL_two rfl] at h3 h4
    simp only [List.getD_cons_zero, List.getD_cons_succ] at h3 h4
    refine ⟨x, y, p, q, rfl, rfl, b0, b1, c0, c1, by omega, by omega, ?_⟩
    simpa [crossI] using h5
def slen : Value → Nat
  | .slice _ n _ => n
  | _ => 0
theorem OwnL.lowerS {w : World} {B B' : Nat} {v : Value} {ls : List (List Int)} (h : OwnL w B v ls) (hb : B' ≤ B) : OwnL w B' v ls := by
  obtain ⟨V, p, h1, h2, h3⟩ := h
  exact ⟨V, p, h1.mono hb, by omega, h3⟩
theorem OwnI.lower {w : World} {B B' : Nat} {v : Value} {l : List Int} (h : OwnI w B v l) (hb : B' ≤ B) : OwnI w B' v l := World.ownsRow.mono h hb
theorem OwnLp.nil0 (w : World) (B m : Nat) (hB : B ≤ m) (v : Value) (h : w.ownsRow B 30 1 v 0 []) : OwnLp w B v [] (fun _ => .slice none 0 0) (fun _ => B) m := ⟨h, Nat.le_refl _, hB, fun i hi => absurd hi (Nat.not_lt_zero _)⟩
theorem OwnLp.keep {w w' : World} {B m : Nat} {v : Value} {ls : List (List Int)} {V : Nat → Value} {p : Nat → Nat} (h : OwnLp w B v ls V p m) (hb : Below w.heap.size w w') (hm : m ≤ w.heap.size) : OwnLp w' B v ls V p m := by
  obtain ⟨h1, h2, h3, h4⟩ := h
  refine ⟨World.ownsRow.kept h1 (row := none) ⟨hb.os, hb.tape, hb.output, hb.size, fun k hk _ => hb.block k hk⟩ (by cases v.ownBlock <;> simp), h2, h3, fun i hi => ⟨(h4 i hi).1, (h4 i hi).2.keep hb ?_⟩⟩
  have := OwnL.mono (fun i hi => (h4 i hi).1) (i + 1) ls.length hi (Nat.le_refl _)
  omega
/-- a row that outlives the push of itself -/
theorem OwnLp.still {w1 w2 : World} {B lo hi m : Nat} {v vr : Value} {ls : List (List Int)} {r : List Int} {o : Obj} {V : Nat → Value} {p : Nat → Nat} (h : OwnLp w1 B v ls V p m)
    (hr : IS w1 lo hi vr r) (hhi : hi ≤ w1.heap.size) (hg : (w1.alloc o).grownBy w2 v.ownBlock) : IS w2 lo hi vr r := by
  refine (hr.keep (below1 w1 o) hhi).grown_type hg fun g hg' => ?_
  obtain ⟨c, e, fr, h1, h'⟩ := own_type h.1 g hg'
  exact ⟨c, e, fr, by rw [Below.heap_alloc _ _ _ ((World.ownsRow.lt h.1 g hg').2)]; exact h1, h'⟩

theorem Box2.keepB {w w1 : World} {n B : Nat} {x y : Value} (h : Box2 w n x y) (hb : Below B w w1) (hn : n < B) : Box2 w1 n x y :=
  ⟨Nat.lt_of_lt_of_le h.lt hb.size, (hb.cell hn).trans h.c0, (hb.cell hn).trans h.c1, (hb.frozen hn).trans h.f0, (hb.frozen hn).trans h.f1⟩
theorem ownsRow_slen {w : World} {B : Nat} {e : TypeId} {v : Value} {n : Nat} {xs : List Value} (h : w.ownsRow B e 1 v n xs) : ∃ a c, v = .slice a n c := by
  rcases h.2 with ⟨rfl, h0⟩ | ⟨g, cap, cur, rfl, -⟩
  · exact ⟨none, 0, by rw [h0]⟩
  · exact ⟨_, _, rfl⟩
theorem OwnLp.form {w : World} {B m : Nat} {v : Value} {ls : List (List Int)} {V : Nat → Value} {p : Nat → Nat} (h : OwnLp w B v ls V p m) : ∃ a c, v = .slice a ls.length c := ownsRow_slen h.1
theorem OwnL.form {w : World} {B : Nat} {v : Value} {ls : List (List Int)} (h : OwnL w B v ls) : ∃ a c, v = .slice a ls.length c := let ⟨_, _, h1, _⟩ := h; ownsRow_slen h1

set_option maxRecDepth 100000 in
set_option maxHeartbeats 8000000 in
theorem specSplitCone_any (U V : List Int) (v1 v2 : Value) (hb : Nat) (w : World) (i1 : ISr w hb v1 U) (i2 : ISr w hb v2 V) (hhb : hb ≤ w.heap.size) :
    Calls Try.prog 156 #[.agg #[v1, v2]] w fun e w' => ∃ u, e = .returned u ∧ OwnL w' w.heap.size u (splitC U V) ∧ Below w.heap.size w w' := by
  have BX := Lib.hid (box2_new w v1 v2 62)
  have HB := Lib.hid (below1 w (.cells #[v1, v2] 62))
  have C0 := fun W (B : Below w.heap.size w W) => specIsCone_any U V v1 v2 hb W (i1.keep B hhb) (i2.keep B hhb) (by have := B.size; omega)
  have HO0 := Lib.hid (OwnL.lit0 (w.alloc (.cells #[v1, v2] 62)) (w.heap.size + 1) (by simp))
  have HB0 := Lib.hid (below2 w (.cells #[v1, v2] 62) (.cells #[] 30))
  have BX := Lib.hid ((box2_new w v1 v2 62).keep (below1 _ (.cells #[] 30)))
  have HZ0 := Lib.hid (show ((w.alloc (.cells #[v1, v2] 62)).alloc (.cells #[] 30)).heap.size = w.heap.size + 2 by simp)
  rw [World.size_alloc] at HO0
  cases h : coneB U V
  · have e : splitC U V = [] := by unfold splitC; rw [h]; rfl
    rw [e]
    rw [h] at C0
    clear e h
    obtain ⟨a1, c1, rfl, -⟩ := id i1
    obtain ⟨a2, c2, rfl, -⟩ := id i2
    clear i1 i2
    go_enter Try.func156, Try.ntmps156
    go_wp2_with fail
    refine (C0 _ HB0.out).mono ?_
    rintro e w2 ⟨rfl, b2⟩
    have HO2 := Lib.hid ((HO0.out.kept b2).lowerS (Nat.le_succ w.heap.size))
    have HB2 := Lib.hid (below_then HB0.out HB0.out.size b2)
    clear b2
    go_wp2
    go_ret
    exact ⟨_, rfl, HO2.out, HB2.out⟩
  · obtain ⟨x, y, p, q, rfl, rfl, bx, bY, bp, bq, hg, hg2, hd⟩ := cone_parts h
    have e : splitC [x, y] [p, q] = splitP p q (x * q - y * p).toNat x y := by unfold splitC; rw [h]; simp [crossI]
    rw [e]
    have HK0 := Lib.hid (show Spl p q x y (x * q - y * p).toNat from ⟨bx, bY, hg, by omega, by omega⟩)
    have hk18 : (x * q - y * p).toNat ≤ 1800 := by have := cross_bd30 bx bY bp bq; omega
    generalize (x * q - y * p).toNat = K at *
    rw [h] at C0
    clear e h
    obtain ⟨i0, hi0, hz0, hz1, hz2⟩ := info_parts info_ints
    have HI0 := Lib.hid hi0; clear hi0
    have HJ0 := Lib.hid hz0; clear hz0
    have HJ1 := Lib.hid hz1; clear hz1
    have HJ2 := Lib.hid hz2; clear hz2
    have HI1 := Lib.hid i1
    have HI2 := Lib.hid i2
    obtain ⟨a1, c1, rfl, -⟩ := id i1
    obtain ⟨a2, c2, rfl, -⟩ := id i2
    clear i1 i2
    go_enter Try.func156, Try.ntmps156
    go_wp2_with fail
    refine (C0 _ HB0.out).mono ?_
    rintro e w2 ⟨rfl, b2⟩
    have HO2 := Lib.hid (HO0.out.kept b2)
    have HB2 := Lib.hid (below_then HB0.out HB0.out.size b2)
    have BX2 := Lib.hid (BX.out.keep b2)
    have HS2 := Lib.hid (show w.heap.size + 2 ≤ w2.heap.size by rw [← HZ0.out]; exact b2.size)
    clear b2
    have x0 := BX2.out.c0
    have x1 := BX2.out.c1
    have BX3 := Lib.hid (BX2.out.keep (below1 w2 (.cells #[] 3)))
    have y0 := BX3.out.c0
    have y1 := BX3.out.c1
    have HSRC := Lib.hid ((HI1.out.keep HB2.out hhb).keep (below1 w2 (.cells #[] 3)) (by have := HS2.out; omega))
    go_wp2_with (at_builtin; refine wpList_append_I rfl _ _ rfl rfl rfl (OwnI.lit0 w2 w2.heap.size (Nat.le_refl _)) HSRC.out (by simp) (by simp) ?_)
    intro au cu w3 hown3 hg3
    have HB3 := Lib.hid ((below1 w2 (.cells #[] 3)).grown hg3 (by simp) (fun k hk => by simp [Value.ownBlock] at hk; omega))
    obtain ⟨V0, p0, hpt⟩ := HO2.out.part HB3.out
    have HPT := Lib.hid hpt
    have HBW3 := Lib.hid (HB3.out.mono (show w.heap.size + 1 ≤ w2.heap.size by have := HS2.out; omega))
    have HU3 := Lib.hid hown3.is
    have HLE3 := Lib.hid HB3.out.size
    clear hpt hown3 hg3 x0 x1 y0 y1 BX3 HSRC HO2 HB3 HI1 BX HO0 HB0 HZ0 C0 hd hg bx bY
    go_wp2
    go_loopw [3, 4] (fun ov uv wr => ∃ (x' y' : Int) (k : Nat) (acc : List (List Int)) (Vf : Nat → Value) (pf : Nat → Nat) (m lo : Nat), acc.length + k ≤ 1800 ∧ Hid (Spl p q x' y' k) ∧ Hid (splitP p q K x y = acc ++ splitP p q k x' y') ∧
      Hid (OwnLp wr (w.heap.size + 1) ov acc Vf pf m) ∧ Hid (IS wr lo wr.heap.size uv [x', y']) ∧ m ≤ lo ∧ lo ≤ wr.heap.size ∧ Hid (Below (w.heap.size + 1) w2 wr)) (fun ov _ _ => 1801 - slen ov)
    case atStart => exact ⟨x, y, K, [], V0, p0, w2.heap.size, w2.heap.size, by simpa using hk18, HK0, Lib.hid rfl, HPT, HU3, Nat.le_refl _, HLE3.out, HBW3⟩
    case round =>
      obtain ⟨x', y', k, acc, Vf, pf, m, lo, hak, hspl, hsp, hown, hiu, hml, hlo, hbe⟩ := hrel
      generalize wr = w4 at *
      have BX4 := Lib.hid (BX2.out.keepB hbe.out (Nat.lt_succ_self _))
      have HW4 := Lib.hid (show Below w.heap.size w w4 from HB2.out.trans (hbe.out.mono (Nat.le_succ _)))
      have x1 := BX4.out.c1
      have x0 := BX4.out.c0
      have CR := l7Cross_any [x', y'] [p, q] _ _ w4.heap.size hb w4 hiu.out.read (HI2.out.keep HW4.out hhb) rfl rfl (in9 hspl.out.bx hspl.out.byy) (in9 bp bq)
      rw [show crossI [x', y'] [p, q] = x' * q - y' * p by simp [crossI]] at CR
      obtain ⟨au, cu, rfl, -⟩ := id hiu.out
      obtain ⟨ao, co, rfl⟩ := hown.out.form
      obtain ⟨D, hD⟩ : ∃ D, D = x' * q - y' * p := ⟨_, rfl⟩
      rw [← hD] at CR
      have HD := Lib.hid hD
      have hD0 : 0 ≤ D := by rw [hD]; exact hspl.out.d0
      clear hD
      go_wp2_with fail
      refine CR.mono ?_
      rintro e w5 ⟨rfl, d5, hw5⟩
      have c5 : Below w4.heap.size w4 w5 := hw5 ▸ below_draws _ _ _
      have hz5 : w5.heap.size = w4.heap.size := by rw [hw5]; rfl
      have HPT5 := Lib.hid (hown.out.keep c5 (Nat.le_trans hml hlo))
      have HIU5 := Lib.hid (show IS w5 lo w5.heap.size (.slice au 2 cu) [x', y'] by rw [hz5]; exact hiu.out.keep c5 (Nat.le_refl _))
      have HBE5 := Lib.hid (hbe.out.trans (c5.mono (by have := hbe.out.size; have := HS2.out; omega)))
      have BX5 := Lib.hid (BX2.out.keepB HBE5.out (Nat.lt_succ_self _))
      have hlo5 : lo ≤ w5.heap.size := by omega
      have HZ5 := Lib.hid (show w.heap.size + 2 ≤ w5.heap.size by have := HBE5.out.size; have := HS2.out; omega)
      clear hw5 c5 hz5 hown hiu hbe BX4 HW4 x0 x1 CR hlo
      by_cases hz : D = 0
      · have hsp2 : splitP p q K x y = acc ++ [[x', y']] := by rw [hsp.out, splitP_zero p q k (by rw [← HD.out]; exact hz)]
        have HSP := Lib.hid hsp2
        clear hsp2
        subst hz
        go_wp2_with (at_builtin; refine wpList_append_own _ rfl _ _ 24 rfl (w.heap.size + 1) 30 i0 (.slice none 0 0) 1 24 Try.underlying24 HI0.out HJ0.out HJ1.out HJ2.out rfl (by decide) _ _ _ rfl (HPT5.out.alloc _) ⟨w5.heap.size, 0, none⟩ 1 1 [.slice au 2 cu] rfl rfl ?c1 ?c2 ?c3 ?c4 ?c5 ?_)
        case c1 => exact cell_one_new _ _ _
        case c2 => first | rfl | (intro u hu; simp at hu; subst hu; rfl)
        case c3 => unfold maxLen; omega
        case c4 => omega
        case c5 => first | (have := HZ5.out; omega) | (have := HZ5.out; simp; omega)
        intro v2 w6 hown2 hgrow _
        have HO := Lib.hid ((HPT5.out.push HIU5.out hml hlo5 (Nat.le_refl _) hgrow hown2).lowerS (Nat.le_succ w.heap.size))
        have HBE := Lib.hid (HB2.out.trans ((OwnLp.below HBE5.out (by have := HZ5.out; omega) _ hgrow HPT5.out (Nat.le_refl _)).mono (Nat.le_succ _)))
        clear hown2 hgrow
        go_wp2
        go_ret
        exact ⟨_, rfl, by rw [HSP.out]; exact HO.out, HBE.out⟩
      · obtain ⟨k', hk', hnx⟩ := hspl.out.next bp bq (by rw [← HD.out]; exact hz)
        have hsp2 : splitP p q K x y = (acc ++ [[x', y']]) ++ splitP p q k' (nextX x' y' p q) (nextY x' y' p q) := by
          rw [hsp.out, hk', splitP_succ p q k' (by rw [← HD.out]; exact hz)]; simp
        have HSP := Lib.hid hsp2
        have HNX := Lib.hid hnx
        have hdp : 0 < D := by omega
        have HDP := Lib.hid (show 0 < x' * q - y' * p by rw [← HD.out]; exact hdp)
        subst hk'
        clear hsp2 hsp hnx
        go_wp2_with (at_builtin; refine wpList_append_own _ rfl _ _ 24 rfl (w.heap.size + 1) 30 i0 (.slice none 0 0) 1 24 Try.underlying24 HI0.out HJ0.out HJ1.out HJ2.out rfl (by decide) _ _ _ rfl (HPT5.out.alloc _) ⟨w5.heap.size, 0, none⟩ 1 1 [.slice au 2 cu] rfl rfl ?c1 ?c2 ?c3 ?c4 ?c5 ?_)
        case c1 => exact cell_one_new _ _ _
        case c2 => first | rfl | (intro u hu; simp at hu; subst hu; rfl)
        case c3 => unfold maxLen; omega
        case c4 => omega
        case c5 => first | (have := HZ5.out; omega) | (have := HZ5.out; simp; omega)
        intro v2 w6 hown2 hgrow _
        have HO := Lib.hid (HPT5.out.push HIU5.out hml hlo5 (Nat.le_refl _) hgrow hown2)
        have HU6 := Lib.hid (HPT5.out.still HIU5.out (Nat.le_refl _) hgrow)
        have HBE := Lib.hid (OwnLp.below HBE5.out (by have := HZ5.out; omega) _ hgrow HPT5.out (Nat.le_refl _))
        have HZ6 := Lib.hid (show w5.heap.size ≤ w6.heap.size by have := hgrow.size; simp at this; omega)
        obtain ⟨ao2, co2, rfl⟩ := ownsRow_slen hown2
        clear hown2 hgrow
        have BX6 := Lib.hid (BX2.out.keepB HBE.out (Nat.lt_succ_self _))
        have HW6 := Lib.hid (show Below w.heap.size w w6 from HB2.out.trans (HBE.out.mono (Nat.le_succ _)))
        have x1 := BX6.out.c1
        have CN := l9Next_any x' y' p q (.slice au 2 cu) (.slice a2 2 c2) w6.heap.size w6 (HU6.out.read.upto HZ6.out) ((HI2.out.keep HW6.out hhb).upto (by have := HW6.out.size; omega)) (Nat.le_refl _) hspl.out.bx hspl.out.byy bp bq hspl.out.g HDP.out
        go_wp2_with fail
        refine CN.mono ?_
        rintro e w7 ⟨u7, rfl, is7, b7⟩
        have HIS7 := Lib.hid is7
        obtain ⟨V7, p7, hpt7⟩ := HO.out.part b7
        have HPT7 := Lib.hid hpt7
        have HBE7 := Lib.hid (HBE.out.trans (b7.mono (by have := HZ6.out; have := HZ5.out; omega)))
        have HZ7 := Lib.hid b7.size
        obtain ⟨a7, c7, rfl, -⟩ := id is7
        clear is7 hpt7 b7 CN x1
        go_wp2
        go_roundw
        case rel => exact ⟨_, _, k', _, V7, p7, w6.heap.size, w6.heap.size, by simp; omega, HNX, HSP, HPT7, HIS7, Nat.le_refl _, HZ7.out, HBE7⟩
        case measure => simp [slen]; omega
end Go.Proofs.Ytehhoplenloocaa

/- Cones that are split: the program's walk. -/
namespace Go.Proofs.Ytehhoplenloocaa
open Go.RowKit
set_option linter.unusedVariables false
set_option linter.unusedSimpArgs false

/-- a literal of one row -/
theorem OwnL.litS1 {w : World} {B lo hi : Nat} {vr : Value} {r : List Int} (hr : IS w lo hi vr r) (hB : B ≤ lo) (hlh : lo ≤ hi) (hhi : hi ≤ w.heap.size) : OwnLp (w.alloc (.cells #[vr] 30)) B (.slice (some ⟨w.heap.size, 0, none⟩) 1 1) [r] (fun _ => vr) (fun i => if i = 0 then lo else hi) hi := by
  refine ⟨World.ownsRow_lit w #[vr] 1 (by omega) (by simp [maxLen]) rfl, by simpa using hB, by simp, fun i hi' => ?_⟩
  obtain rfl : i = 0 := by simp at hi'; omega
  exact ⟨by simpa using hlh, by simpa using hr.keep (below1 _ _) hhi⟩
theorem OwnLp.at {w : World} {B m : Nat} {v : Value} {ls : List (List Int)} {V : Nat → Value} {p : Nat → Nat} (h : OwnLp w B v ls V p m) {i : Nat} (hi : i < ls.length) :
    ∃ g cap, v = .slice (some ⟨g, 0, none⟩) ls.length cap ∧ B ≤ g ∧ w.cell? ⟨g, i, none⟩ = some (V i) ∧ IS w (p i) (p (i + 1)) (V i) (ls.getD i []) ∧ B ≤ p i ∧ p (i + 1) ≤ m := by
  obtain ⟨h1, h2, h3, h4⟩ := h
  have m1 := OwnL.mono (fun i hi => (h4 i hi).1) 0 i (Nat.zero_le _) (by omega)
  have m2 := OwnL.mono (fun i hi => (h4 i hi).1) (i + 1) ls.length hi (Nat.le_refl _)
  rcases h1.2 with ⟨rfl, h0⟩ | ⟨g, cap, cur, rfl, hg, hh, hn, hc, hs, ht⟩
  · omega
  · refine ⟨g, cap, rfl, hg, ?_, (h4 i hi).2, by omega, by omega⟩
    have e1 : (cur.toList.take (ls.length * 1))[i]? = ((List.range ls.length).map V)[i]? := by rw [ht]
    rw [List.getElem?_take_of_lt (by omega)] at e1
    have e2 : cur[i]? = some (V i) := by rw [← Array.getElem?_toList, e1]; simp [hi]
    simp [World.cell?, hh, e2]
theorem OwnLp.only {w w' : World} {B m lo hi : Nat} {v : Value} {ls : List (List Int)} {V : Nat → Value} {p : Nat → Nat} (h : OwnLp w B v ls V p m) (ho : Only lo hi w w') (hm : m ≤ lo) (hv : ∀ k, v.ownBlock = some k → k < lo) (hlo : lo ≤ w.heap.size) : OwnLp w' B v ls V p m := by
  obtain ⟨h1, h2, h3, h4⟩ := h
  refine ⟨?_, h2, h3, fun i hi => ⟨(h4 i hi).1, (h4 i hi).2.only ho (.inl ?_)⟩⟩
  · rcases h1.2 with ⟨rfl, h0⟩ | ⟨g, cap, cur, rfl, hg, hh, hn, hc, hs, ht⟩
    · exact ⟨h1.1, .inl ⟨rfl, h0⟩⟩
    · have hgl := hv g rfl
      exact ⟨h1.1, .inr ⟨g, cap, cur, rfl, hg, by rw [ho.block g (by omega) (.inl hgl)]; exact hh, hn, hc, hs, ht⟩⟩
  · have := OwnL.mono (fun i hi => (h4 i hi).1) (i + 1) ls.length hi (Nat.le_refl _)
    omega
theorem IS.away {w w' : World} {lo hi lo2 hi2 : Nat} {v vr : Value} {l r : List Int} (h : IS w lo hi v l) (hr : IS w lo2 hi2 vr r) (hd : hi2 ≤ lo) (hg : w.grownBy w' (blkOf v)) : IS w' lo2 hi2 vr r :=
  hr.only (Only.of_grown hg h.blkIn) (.inl hd)
theorem lessL_two (a b x y q : Int) : lessL [a, b] [x, y] q = [a - q * x, b - q * y] := rfl

set_option maxRecDepth 100000 in
set_option maxHeartbeats 8000000 in
theorem implSplitCone_any (U V : List Int) (v1 v2 : Value) (hb : Nat) (w : World) (i1 : ISr w hb v1 U) (i2 : ISr w hb v2 V) (hhb : hb ≤ w.heap.size) :
    Calls Try.prog 155 #[.agg #[v1, v2]] w fun e w' => ∃ u, e = .returned u ∧ OwnL w' w.heap.size u (splitC U V) ∧ (splitC U V = [] → u = .slice none 0 0) ∧ Below w.heap.size w w' := by
  have HB0 := Lib.hid (below1 w (.cells #[v1, v2] 62))
  have BX := Lib.hid (box2_new w v1 v2 62)
  have HZ0 := Lib.hid (show (w.alloc (.cells #[v1, v2] 62)).heap.size = w.heap.size + 1 by simp)
  have C0 := fun W (B : Below w.heap.size w W) => implIsCone_any U V v1 v2 hb W (i1.keep B hhb) (i2.keep B hhb) (by have := B.size; omega)
  cases h : coneB U V
  · have e : splitC U V = [] := by unfold splitC; rw [h]; rfl
    rw [e]
    rw [h] at C0
    clear e h
    obtain ⟨a1, c1, rfl, -⟩ := id i1
    obtain ⟨a2, c2, rfl, -⟩ := id i2
    clear i1 i2
    go_enter Try.func155, Try.ntmps155
    go_wp2_with fail
    refine (C0 _ HB0.out).mono ?_
    rintro e w2 ⟨rfl, b2⟩
    have HB2 := Lib.hid (below_then HB0.out HB0.out.size b2)
    clear b2
    go_wp2
    go_ret
    exact ⟨_, rfl, OwnL.nil _ _ HB2.out.size, fun _ => rfl, HB2.out⟩
  · obtain ⟨x, y, p, q, rfl, rfl, bx, bY, bp, bq, hg, hg2, hd⟩ := cone_parts h
    have e : splitC [x, y] [p, q] = splitP p q (x * q - y * p).toNat x y := by unfold splitC; rw [h]; simp [crossI]
    rw [e]
    have HK0 := Lib.hid (show Spl p q x y (x * q - y * p).toNat from ⟨bx, bY, hg, by omega, by omega⟩)
    have hk18 : (x * q - y * p).toNat ≤ 1800 := by have := cross_bd30 bx bY bp bq; omega
    generalize (x * q - y * p).toNat = K at *
    rw [h] at C0
    clear e h hd hg bx bY
    obtain ⟨i0, hi0, hz0, hz1, hz2⟩ := info_parts info_ints
    have HI0 := Lib.hid hi0; clear hi0
    have HJ0 := Lib.hid hz0; clear hz0
    have HJ1 := Lib.hid hz1; clear hz1
    have HJ2 := Lib.hid hz2; clear hz2
    have HI1 := Lib.hid i1
    have HI2 := Lib.hid i2
    obtain ⟨a1, c1, rfl, -⟩ := id i1
    obtain ⟨a2, c2, rfl, -⟩ := id i2
    clear i1 i2
    go_enter Try.func155, Try.ntmps155
    go_wp2_with fail
    refine (C0 _ HB0.out).mono ?_
    rintro e w2 ⟨rfl, b2⟩
    have HB2 := Lib.hid (below_then HB0.out HB0.out.size b2)
    have BX2 := Lib.hid (BX.out.keep b2)
    have HS2 := Lib.hid (show w.heap.size + 1 ≤ w2.heap.size by rw [← HZ0.out]; exact b2.size)
    clear b2 BX HB0 HZ0 C0
    have x0 := BX2.out.c0
    have x1 := BX2.out.c1
    have CC := copyInts_any [x, y] _ hb w2 (HI1.out.keep HB2.out hhb) (by simp)
    go_wp2_with fail
    refine CC.mono ?_
    rintro e w3 ⟨u3, rfl, hown3, b3⟩
    have HU3 := Lib.hid hown3.is
    obtain ⟨au, cu, rfl⟩ := hown3.form
    have HLE3 := Lib.hid b3.size
    have HPT := Lib.hid (OwnL.litS1 (B := w.heap.size + 1) HU3.out HS2.out HLE3.out (Nat.le_refl _))
    have HB3 := Lib.hid ((b3.mono HS2.out).alloc (by have := HLE3.out; have := HS2.out; omega) (.cells #[.slice au 2 cu] 30))
    clear hown3 b3 CC x0 x1
    go_wp2
    go_loopw [3] (fun ov wr => ∃ (x' y' : Int) (k : Nat) (front acc : List (List Int)) (Vf : Nat → Value) (pf : Nat → Nat) (m : Nat), front.length + k ≤ 1800 ∧ acc.length = front.length + 1 ∧ Hid (acc = front ++ [[x', y']]) ∧ Hid (Spl p q x' y' k) ∧ Hid (splitP p q K x y = front ++ splitP p q k x' y') ∧
      Hid (OwnLp wr (w.heap.size + 1) ov acc Vf pf m) ∧ Hid (∀ g, ov.ownBlock = some g → g < wr.heap.size) ∧ m ≤ wr.heap.size ∧ Hid (Below (w.heap.size + 1) w2 wr)) (fun ov _ => 1802 - slen ov)
    case atStart => exact ⟨x, y, K, [], [[x, y]], _, _, _, by simpa using hk18, rfl, Lib.hid rfl, HK0, Lib.hid rfl, HPT, Lib.hid (fun g hg => by simp [Value.ownBlock] at hg; subst hg; simp), by simp, HB3⟩
    case round =>
      obtain ⟨x', y', k, front, acc, Vf, pf, m, hak, hal, hacc, hspl, hsp, hown, hog, hm, hbe⟩ := hrel
      generalize wr = w4 at *
      have BX4 := Lib.hid (BX2.out.keepB hbe.out (Nat.lt_succ_self _))
      have HW4 := Lib.hid (show Below w.heap.size w w4 from HB2.out.trans (hbe.out.mono (Nat.le_succ _)))
      have x1 := BX4.out.c1
      obtain ⟨g, co, rfl, hg1, hcl, hisl, hp1, hp2⟩ := hown.out.at (i := front.length) (by omega)
      have hgl := hog.out g rfl
      rw [show acc.getD front.length [] = [x', y'] by rw [hacc.out]; simp] at hisl
      obtain ⟨n, hn⟩ : ∃ n, n = acc.length := ⟨_, rfl⟩
      rw [← hn] at hown hog hal ⊢
      have HN := Lib.hid hn
      clear hn
      generalize hlv : Vf front.length = vl at hcl hisl
      obtain ⟨al, cl, rfl, -⟩ := id hisl
      have hcl2 : w4.cell? ⟨g, n - 1, none⟩ = some (.slice al [x', y'].length cl) := by rw [show n - 1 = front.length by omega]; exact hcl
      have HISL := Lib.hid hisl
      clear hisl hcl hlv
      have hn1 : 1 ≤ n := by omega
      have hn2 : n + k ≤ 1801 := by omega
      have HAL := Lib.hid hal
      have hpf : pf (front.length + 1) ≤ w4.heap.size := by omega
      generalize pf (front.length + 1) = ph at *
      generalize pf front.length = pl at *
      have HFK := Lib.hid hak
      clear hal hak
      have CR := cross_any [x', y'] [p, q] _ _ ph hb w4 HISL.out.read (HI2.out.keep HW4.out hhb) rfl rfl (in9 hspl.out.bx hspl.out.byy) (in9 bp bq)
      rw [show crossI [x', y'] [p, q] = x' * q - y' * p by simp [crossI]] at CR
      obtain ⟨D, hD⟩ : ∃ D, D = x' * q - y' * p := ⟨_, rfl⟩
      rw [← hD] at CR
      have HD := Lib.hid hD
      have hD0 : 0 ≤ D := by rw [hD]; exact hspl.out.d0
      clear hD
      go_wp2_with fail
      refine CR.mono ?_
      rintro e w5 ⟨rfl, d5, hw5⟩
      have c5 : Below w4.heap.size w4 w5 := hw5 ▸ below_draws _ _ _
      have hz5 : w5.heap.size = w4.heap.size := by rw [hw5]; rfl
      have HPT5 := Lib.hid (hown.out.keep c5 hm)
      have HISL5 := Lib.hid (HISL.out.keep c5 hpf)
      have HBE5 := Lib.hid (hbe.out.trans (c5.mono (by have := hbe.out.size; have := HS2.out; omega)))
      have HZ5 := Lib.hid (show w.heap.size + 1 ≤ w5.heap.size by have := HBE5.out.size; have := HS2.out; omega)
      have hgl5 : g < w5.heap.size := by omega
      have hm5 : m ≤ w5.heap.size := by omega
      have hpf5 : ph ≤ w5.heap.size := by omega
      clear hw5 c5 hz5 hown hbe BX4 HW4 x1 CR HISL hcl2 hgl hm hog hpf
      by_cases hz : D = 0
      · have hsp2 : splitP p q K x y = acc := by rw [hsp.out, splitP_zero p q k (by rw [← HD.out]; exact hz), hacc.out]
        have HSP := Lib.hid hsp2
        have HNE := Lib.hid (show splitP p q K x y ≠ [] by rw [hsp2, hacc.out]; simp)
        clear hsp2
        subst hz
        go_wp2
        go_ret
        refine ⟨_, rfl, ?_, fun h => absurd h HNE.out, HB2.out.trans (HBE5.out.mono (Nat.le_succ _))⟩
        rw [HSP.out]
        exact OwnL.lowerS ⟨Vf, pf, HPT5.out.1, HPT5.out.2.1, Nat.le_trans HPT5.out.2.2.1 hm5, HPT5.out.2.2.2⟩ (Nat.le_succ _)
      · obtain ⟨k', hk', hnx⟩ := hspl.out.next bp bq (by rw [← HD.out]; exact hz)
        have hsp2 : splitP p q K x y = acc ++ splitP p q k' (nextX x' y' p q) (nextY x' y' p q) := by
          rw [hsp.out, hk', splitP_succ p q k' (by rw [← HD.out]; exact hz), hacc.out]; simp
        have HSP := Lib.hid hsp2
        have HNX := Lib.hid hnx
        have hdp : 0 < D := by omega
        have hze : (D == 0) = false := by simpa using hz
        subst hk'
        have hDb : D ≤ 1800 := by have := cross_bd30 hspl.out.bx hspl.out.byy bp bq; rw [HD.out]; omega
        clear hsp2 hsp hnx hz
        have CP := partner_any x' y' _ w5.heap.size w5 (HISL5.out.read.upto hpf5) (Nat.le_refl _) hspl.out.bx hspl.out.byy hspl.out.g
        go_wp2_with fail
        refine CP.mono ?_
        rintro e w6 ⟨u6, rfl, is6, b6⟩
        have hpb := par_bd hspl.out.bx hspl.out.byy hspl.out.g
        have is6 : IS w6 w5.heap.size w6.heap.size u6 [parX x' y', parY x' y'] := is6
        have HPC := Lib.hid (par_cross' hspl.out.bx hspl.out.byy hspl.out.g)
        have HQ := Lib.hid (show nextX x' y' p q = parX x' y' - nxQ x' y' p q (parX x' y') (parY x' y') * x' ∧ nextY x' y' p q = parY x' y' - nxQ x' y' p q (parX x' y') (parY x' y') * y' from ⟨rfl, rfl⟩)
        have HQ2 := Lib.hid (show nxQ x' y' p q (parX x' y') (parY x' y') = (parX x' y' * q - parY x' y' * p) / (x' * q - y' * p) from rfl)
        generalize parX x' y' = X at *
        generalize parY x' y' = Y at *
        have HIS6 := Lib.hid is6
        have HPT6 := Lib.hid (HPT5.out.keep b6 hm5)
        have HISL6 := Lib.hid (HISL5.out.keep b6 hpf5)
        have HBE6 := Lib.hid (HBE5.out.trans (b6.mono HZ5.out))
        have HZ6 := Lib.hid b6.size
        obtain ⟨a6, c6, rfl, -⟩ := id is6
        clear is6 b6 CP HPT5 HISL5
        have BX6 := Lib.hid (BX2.out.keepB HBE6.out (Nat.lt_succ_self _))
        have HW6 := Lib.hid (show Below w.heap.size w w6 from HB2.out.trans (HBE6.out.mono (Nat.le_succ _)))
        have x1 := BX6.out.c1
        have C6 := cross_any [X, Y] [p, q] _ _ w6.heap.size hb w6 HIS6.out.read (HI2.out.keep HW6.out hhb) rfl rfl (in9 hpb.1 hpb.2) (in9 bp bq)
        rw [show crossI [X, Y] [p, q] = X * q - Y * p by simp [crossI]] at C6
        have hEb := cross_bd30 hpb.1 hpb.2 bp bq
        obtain ⟨E, hE⟩ : ∃ E, E = X * q - Y * p := ⟨_, rfl⟩
        rw [← hE] at C6 hEb
        have HE := Lib.hid hE
        clear hE
        go_wp2_with fail
        refine C6.mono ?_
        rintro e w7 ⟨rfl, d7, hw7⟩
        have c7 : Below w6.heap.size w6 w7 := hw7 ▸ below_draws _ _ _
        have hz7 : w7.heap.size = w6.heap.size := by rw [hw7]; rfl
        have HPT7 := Lib.hid (HPT6.out.keep c7 (by have := HZ6.out; omega))
        have HISL7 := Lib.hid (HISL6.out.keep c7 (by have := HZ6.out; omega))
        have HIS7 := Lib.hid (HIS6.out.keep c7 (Nat.le_refl _))
        have HBE7 := Lib.hid (HBE6.out.trans (c7.mono (by have := HZ6.out; have := HZ5.out; omega)))
        have HZ7 := Lib.hid hz7
        clear hw7 c7 hz7 HPT6 HISL6 HIS6 HBE6 BX6 HW6 x1 C6
        go_wp2_with (go_at_call 84; (with_reducible refine (down_any E D _ (by omega) (by omega) (by omega) (by omega)).mono ?_); rintro e w' ⟨rfl, rfl⟩)
        have hF := div_bd2 (x := E) (d := D) 1800 (by omega) (by omega) (by omega)
        obtain ⟨f, hf⟩ : ∃ f, f = E / D := ⟨_, rfl⟩
        rw [← hf] at hF ⊢
        have HF := Lib.hid (show f = nxQ x' y' p q X Y by rw [hf, HE.out, HD.out, HQ2.out])
        clear hf
        have hmx := mul_bd6 (a := f) (b := x') (by omega) (by omega) (by have := hspl.out.bx; omega) (by have := hspl.out.bx; omega)
        have hmy := mul_bd6 (a := f) (b := y') (by omega) (by omega) (by have := hspl.out.byy; omega) (by have := hspl.out.byy; omega)
        have CL := less_any [X, Y] [x', y'] (.slice a6 2 c6) (.slice al 2 cl) w5.heap.size w6.heap.size ph f w7 HIS7.out (fun w' hg => (HIS7.out.away HISL7.out hpf5 hg).read) (Nat.le_refl _) (fun k hk => by
          match k, hk with
          | 0, _ => simp only [List.getD_cons_zero]; omega
          | 1, _ => simp only [List.getD_cons_succ, List.getD_cons_zero]; omega)
        refine CL.mono ?_
        rintro e w8 ⟨⟨r8, rfl⟩, is8, hg8⟩
        have honly := Only.of_grown hg8 HIS7.out.blkIn
        rw [lessL_two, HF.out, ← HQ.out.1, ← HQ.out.2] at is8
        have HIS8 := Lib.hid is8
        have HPT8 := Lib.hid (HPT7.out.only honly (by omega) (fun k hk => by simp [Value.ownBlock] at hk; omega) (by have := HZ7.out; have := HZ6.out; omega))
        have HBE8 := Lib.hid (HBE7.out.trans ((honly.below (by have := HZ7.out; have := HZ6.out; omega)).mono HZ5.out))
        have HZ8 := Lib.hid (show w6.heap.size ≤ w8.heap.size by have := honly.size; have := HZ7.out; omega)
        clear is8 hg8 honly CL HPT7 HISL7 HIS7 HBE7 hmx hmy
        have hal2 : acc.length ≤ 1801 := by rw [← HN.out]; omega
        go_wp2_with (at_builtin; refine wpList_append_own _ rfl _ _ 24 rfl (w.heap.size + 1) 30 i0 (.slice none 0 0) 1 24 Try.underlying24 HI0.out HJ0.out HJ1.out HJ2.out rfl (by decide) _ _ _ rfl (HPT8.out.alloc _) ⟨w8.heap.size, 0, none⟩ 1 1 [.slice a6 2 c6] rfl rfl ?c1 ?c2 ?c3 ?c4 ?c5 ?_)
        case c1 => exact cell_one_new _ _ _
        case c2 => first | rfl | (intro u hu; simp at hu; subst hu; rfl)
        case c3 => unfold maxLen; omega
        case c4 => omega
        case c5 => first | (have := HZ5.out; have := HZ6.out; have := HZ8.out; omega) | (have := HZ5.out; have := HZ6.out; have := HZ8.out; simp; omega)
        intro v2 w9 hown2 hgrow _
        have HO := Lib.hid (HPT8.out.push HIS8.out (by omega) HZ6.out (by have := HZ8.out; omega) hgrow hown2)
        have HBE := Lib.hid (OwnLp.below HBE8.out (by have := HZ5.out; have := HZ6.out; have := HZ8.out; omega) _ hgrow HPT8.out (Nat.le_refl _))
        have HOG := Lib.hid (World.ownsRow.lt hown2)
        obtain ⟨ao2, co2, rfl⟩ := ownsRow_slen hown2
        clear hown2 hgrow
        obtain ⟨V9, p9, hp9⟩ := HO.out.part (Below.refl _ _)
        have HPT9 := Lib.hid hp9
        clear hp9
        go_wp2
        go_roundw
        case rel => exact ⟨_, _, k', acc, acc ++ [[nextX x' y' p q, nextY x' y' p q]], V9, p9, w9.heap.size, by have := HN.out; omega, by simp, Lib.hid rfl, HNX, HSP, HPT9, Lib.hid (fun g hg => (HOG.out g hg).2), Nat.le_refl _, HBE⟩
        case measure => have := HN.out; simp [slen]; omega
end Go.Proofs.Ytehhoplenloocaa

/- The turns of a cone: the walks. -/
namespace Go.Proofs.Ytehhoplenloocaa
open Go.RowKit
set_option linter.unusedVariables false
set_option linter.unusedSimpArgs false

theorem splitP_len (p q : Int) : ∀ (k : Nat) (x y : Int), (splitP p q k x y).length ≤ k + 1
  | 0, x, y => by simp [splitP]
  | k + 1, x, y => by
    by_cases h : x * q - y * p = 0
    · rw [splitP_zero p q _ h]; simp
    · rw [splitP_succ p q k h]
      have := splitP_len p q k (nextX x y p q) (nextY x y p q)
      simp; omega
/-- what is known of all vectors of a split cone -/
structure SplAll (L : List (List Int)) : Prop where
  row : ∀ i, i < L.length → ∃ a b, L.getD i [] = [a, b] ∧ (-30 ≤ a ∧ a ≤ 30) ∧ (-30 ≤ b ∧ b ≤ 30)
  cr : ∀ i, i + 1 < L.length → crossI (L.getD i []) (L.getD (i + 1) []) = 1
theorem splitP_all {p q : Int} (hp : -30 ≤ p ∧ p ≤ 30) (hq : -30 ≤ q ∧ q ≤ 30) : ∀ (k : Nat) (x y : Int), Spl p q x y k → SplAll (splitP p q k x y) ∧ (splitP p q k x y).getD 0 [] = [x, y] ∧ 0 < (splitP p q k x y).length
  | 0, x, y, h => ⟨⟨fun i hi => by
      obtain rfl : i = 0 := by simp [splitP] at hi; omega
      exact ⟨x, y, rfl, h.bx, h.byy⟩, fun i hi => by simp [splitP] at hi⟩, rfl, by simp [splitP]⟩
  | k + 1, x, y, h => by
    by_cases h0 : x * q - y * p = 0
    · rw [splitP_zero p q _ h0]
      refine ⟨⟨fun i hi => ?_, fun i hi => ?_⟩, rfl, by simp⟩
      · obtain rfl : i = 0 := by simp at hi; omega
        exact ⟨x, y, rfl, h.bx, h.byy⟩
      · simp at hi
    · obtain ⟨k', hk', hn⟩ := h.next hp hq h0
      obtain rfl : k' = k := by omega
      obtain ⟨⟨hr, hc⟩, h1, h2⟩ := splitP_all hp hq k' _ _ hn
      have hd : 0 < x * q - y * p := by have := h.d0; omega
      have hx := (nx_cross (p := p) (q := q) hd (par_cross' h.bx h.byy h.g)).1
      rw [splitP_succ p q k' h0]
      refine ⟨⟨fun i hi => ?_, fun i hi => ?_⟩, rfl, by simp⟩
      · match i with
        | 0 => exact ⟨x, y, rfl, h.bx, h.byy⟩
        | i + 1 => rw [List.getD_cons_succ]; exact hr i (by simpa using hi)
      · match i with
        | 0 =>
          rw [List.getD_cons_zero, List.getD_cons_succ, h1]
          simp only [crossI, List.getD_cons_zero, List.getD_cons_succ]; exact hx
        | i + 1 => rw [List.getD_cons_succ, List.getD_cons_succ]; exact hc i (by simpa using hi)
theorem splitC_all (U V : List Int) : SplAll (splitC U V) ∧ (splitC U V).length ≤ 1801 := by
  cases h : coneB U V
  · have e : splitC U V = [] := by unfold splitC; rw [h]; rfl
    rw [e]; exact ⟨⟨fun i hi => absurd hi (Nat.not_lt_zero _), fun i hi => absurd hi (Nat.not_lt_zero _)⟩, by simp⟩
  · obtain ⟨x, y, p, q, rfl, rfl, bx, bY, bp, bq, hg, hg2, hd⟩ := cone_parts h
    have e : splitC [x, y] [p, q] = splitP p q (x * q - y * p).toNat x y := by unfold splitC; rw [h]; simp [crossI]
    rw [e]
    refine ⟨(splitP_all bp bq _ _ _ ⟨bx, bY, hg, by omega, by omega⟩).1, ?_⟩
    have := splitP_len p q (x * q - y * p).toNat x y
    have := cross_bd30 bx bY bp bq
    omega
def turnsL (L : List (List Int)) : List Int := (List.range (L.length - 2)).map fun k => crossI (L.getD k []) (L.getD (k + 2) [])
theorem range_snoc {α : Type} (f : Nat → α) (j : Nat) : (List.range j).map f ++ [f j] = (List.range (j + 1)).map f := by rw [List.range_succ, List.map_append]; rfl

theorem turn_eq {x0 y0 x1 y1 x2 y2 : Int} (h1 : x0 * y1 - y0 * x1 = 1) (h2 : x1 * y2 - y1 * x2 = 1) : x0 + x2 = (x0 * y2 - y0 * x2) * x1 ∧ y0 + y2 = (x0 * y2 - y0 * x2) * y1 := by
  constructor <;> grind
theorem mul_tdiv_self {t x s : Int} (h : s = t * x) (hx : x ≠ 0) : Int.tdiv s x = t := by
  rw [h]; exact Int.mul_tdiv_cancel t hx

end Go.Proofs.Ytehhoplenloocaa

/- SplitCone and TurnsOf: the contracts as the laws take them. -/
namespace Go.Proofs.Ytehhoplenloocaa
open Go.RowKit
set_option linter.unusedVariables false
set_option linter.unusedSimpArgs false

theorem totL_two {ls : List (List Int)} (h : ∀ i, i < ls.length → (ls.getD i []).length ≤ 2) : ∀ k, k ≤ ls.length → totL ls k ≤ 2 * k
  | 0, _ => by simp [totL]
  | k + 1, hk => by
    have := totL_two h k (by omega)
    have := h k (by omega)
    show totL ls k + (ls.getD k []).length ≤ _
    omega
theorem splitC_tot (U V : List Int) : totL (splitC U V) (splitC U V).length ≤ 4000 ∧ (splitC U V).length ≤ 1801 := by
  obtain ⟨h, hl⟩ := splitC_all U V
  have := totL_two (ls := splitC U V) (fun i hi => by obtain ⟨a, b, e, -⟩ := h.row i hi; rw [e]; simp) _ (Nat.le_refl _)
  omega
theorem turnsL_len (L : List (List Int)) : (turnsL L).length = L.length - 2 := by simp [turnsL]
theorem turnsC_len (U V : List Int) : (turnsL (splitC U V)).length ≤ 1801 := by
  rw [turnsL_len]; have := (splitC_all U V).2; omega
theorem specSplitCone_law (U V : List Int) (v1 v2 : Value) (hb : Nat) (w : World) (i1 : ISr w hb v1 U) (i2 : ISr w hb v2 V) (hhb : hb ≤ w.heap.size) :
    Calls Try.prog 156 #[.agg #[v1, v2]] w fun e w' => ∃ u, e = .returned u ∧ ISS w' w.heap.size w'.heap.size u (splitC U V) ∧ Below w.heap.size w w' :=
  (specSplitCone_any U V v1 v2 hb w i1 i2 hhb).mono fun _ _ ⟨u, h1, h2, h3⟩ => ⟨u, h1, h2.is, h3⟩
theorem implSplitCone_law (U V : List Int) (v1 v2 : Value) (hb : Nat) (w : World) (i1 : ISr w hb v1 U) (i2 : ISr w hb v2 V) (hhb : hb ≤ w.heap.size) :
    Calls Try.prog 155 #[.agg #[v1, v2]] w fun e w' => ∃ u, e = .returned u ∧ ISS w' w.heap.size w'.heap.size u (splitC U V) ∧ Below w.heap.size w w' :=
  (implSplitCone_any U V v1 v2 hb w i1 i2 hhb).mono fun _ _ ⟨u, h1, h2, _, h3⟩ => ⟨u, h1, h2.is, h3⟩
end Go.Proofs.Ytehhoplenloocaa
