/- B10: texts in one: Ldr LdW LdC SrtG CelI Lds2. -/
import Derived.Test.YtehhoplenloocaaCelP
import Derived.Test.YtehhoplenloocaaCelM
import Derived.Test.YtehhoplenloocaaSame
import Derived.Deep.RegionHeld3
import Derived.StillTailTactics
import Derived.Test.YtehhoplenloocaaLds
import Derived.Handy
import Derived.Test.YtehhoplenloocaaSrt
import Derived.Test.YtehhoplenloocaaSrtM
import Derived.Test.YtehhoplenloocaaAdj
import Derived.Test.YtehhoplenloocaaHerO
import Derived.BigQuiet
/- The leader of a class: plain law. -/
namespace Go.Proofs.Ytehhoplenloocaa
open Go Go.RowKit
set_option linter.unusedVariables false
set_option linter.unusedSimpArgs false

/-- multiples of the first t rows are taken away -/
def ldrK (H : List (List Int)) (x : List Int) : Nat → List Int
  | 0 => x
  | t + 1 => subW (ldrK H x t) (H.getD t []) (flW ((ldrK H x t).getD t 0) (atM H t t))
def ldr (H : List (List Int)) (x : List Int) : List Int := ldrK H x H.length
structure HB (n : Nat) (H : List (List Int)) : Prop where
  hx : HX n H
  bd : ∀ i j, -100 ≤ atM H i j ∧ atM H i j ≤ 100
  three : n ≤ 3
def bL : Nat → Int
  | 0 => 1000
  | t + 1 => 102 * bL t
theorem bL_bd {t : Nat} (h : t ≤ 3) : 1000 ≤ bL t ∧ bL t ≤ 1061208000 := by
  rcases (show t = 0 ∨ t = 1 ∨ t = 2 ∨ t = 3 by omega) with rfl | rfl | rfl | rfl <;> decide
theorem ldrK_at {n : Nat} {H : List (List Int)} (h : HB n H) {x : List Int} (hx : x.length = n) (hb : ∀ j, -1000 ≤ x.getD j 0 ∧ x.getD j 0 ≤ 1000) : ∀ t, t ≤ n →
    (ldrK H x t).length = n ∧ InL H (fun j => x.getD j 0 - (ldrK H x t).getD j 0) ∧ (∀ c, c < t → 0 ≤ (ldrK H x t).getD c 0 ∧ (ldrK H x t).getD c 0 < atM H c c) ∧ ∀ j, -(bL t) ≤ (ldrK H x t).getD j 0 ∧ (ldrK H x t).getD j 0 ≤ bL t
  | 0, _ => ⟨hx, ⟨0, 0, 0, fun j => by simp [ldrK]⟩, fun c hc => by omega, fun j => hb j⟩
  | t + 1, ht => by
    obtain ⟨h1, h2, h3, h4⟩ := ldrK_at h hx hb t (by omega)
    have h3n := h.three
    have hB := bL_bd (t := t) (by omega)
    have hd := h.hx.pos t (by omega)
    have hfl := flW_at hd (x := (ldrK H x t).getD t 0) (by have := h4 t; omega)
    obtain ⟨Q, hQ⟩ : ∃ Q, Q = flW ((ldrK H x t).getD t 0) (atM H t t) := ⟨_, rfl⟩
    rw [← hQ] at hfl
    have hQb : -(bL t + 1) ≤ Q ∧ Q ≤ bL t + 1 := by have := h4 t; omega
    have hlen : (ldrK H x (t + 1)).length = n := by
      rw [ldrK, subW_len _ (by rw [h1, h.hx.sq.row t (by omega)]), h1]
    have hat : ∀ j, (ldrK H x (t + 1)).getD j 0 = (ldrK H x t).getD j 0 - Q * atM H t j := fun j => by
      by_cases hj : j < n
      · rw [ldrK, subW_at _ _ _ (by rw [h1, h.hx.sq.row t (by omega)]) (by rw [h1]; exact hj), ← hQ]
        have hp := mul_bdH (M := 100) (h.bd t j) hQb
        have := h4 j
        unfold atM at hp ⊢
        rw [show wrap64 ((H.getD t []).getD j 0 * Q) = (H.getD t []).getD j 0 * Q from wrap_id (by omega), Int.mul_comm Q]
        exact wrap_id (by omega)
      · rw [List.getD_eq_getElem?_getD, List.getElem?_eq_none (by omega), List.getD_eq_getElem?_getD, List.getElem?_eq_none (by omega), h.hx.sq.out (by omega)]; simp
    refine ⟨hlen, ?_, fun c hc => ?_, fun j => ?_⟩
    · refine (h2.add ((InL.row H (show t < 3 by omega)).smul Q)).congr fun j => ?_
      rw [hat]; omega
    · rw [hat]
      by_cases e : c = t
      · subst e
        rw [Int.mul_comm Q]; omega
      · rw [h.hx.tri t c (by omega)]
        have := h3 c (by omega)
        omega
    · rw [hat]
      have hp := mul_bdH (N := 100) hQb (h.bd t j)
      have := h4 j
      have e : bL (t + 1) = 102 * bL t := rfl
      omega
theorem ldr_mem {n : Nat} {H : List (List Int)} (h : HB n H) {x : List Int} (hx : x.length = n) (hb : ∀ j, -1000 ≤ x.getD j 0 ∧ x.getD j 0 ≤ 1000) : ldr H x ∈ ldK H n ∧ InL H (fun j => x.getD j 0 - (ldr H x).getD j 0) := by
  obtain ⟨h1, h2, h3, -⟩ := ldrK_at h hx hb n (Nat.le_refl _)
  unfold ldr
  rw [h.hx.sq.len]
  exact ⟨(ldK_mem H n _).2 ⟨h1, h3⟩, h2⟩
theorem ldK_vec {n : Nat} {H : List (List Int)} (h : HB n H) {v : List Int} (hv : v ∈ ldK H n) : v.length = n ∧ ∀ j, -1000 ≤ v.getD j 0 ∧ v.getD j 0 ≤ 1000 := by
  obtain ⟨l, b⟩ := (ldK_mem H n v).1 hv
  refine ⟨l, fun j => ?_⟩
  by_cases hj : j < n
  · have := b j hj
    have := h.bd j j
    omega
  · rw [List.getD_eq_getElem?_getD, List.getElem?_eq_none (by omega)]; simp
/-- a leader leads itself -/
theorem ldr_self {n : Nat} {H : List (List Int)} (h : HB n H) {v : List Int} (hv : v ∈ ldK H n) : ldr H v = v := by
  obtain ⟨l, b⟩ := ldK_vec h hv
  obtain ⟨m1, m2⟩ := ldr_mem h l b
  exact (ld_unique h.hx h.three hv m1 m2).symm

/-- Cramer's rule -/
theorem cramer {n : Nat} {M : List (List Int)} (hs : Sq n M) (h1 : 1 ≤ n) (h3 : n ≤ 3) {x : List Int} (hx : x.length = n) {j : Nat} (hj : j < n) :
    dN M * x.getD j 0 = (if 0 < n then dN (M.set 0 x) * atM M 0 j else 0) + (if 1 < n then dN (M.set 1 x) * atM M 1 j else 0) + (if 2 < n then dN (M.set 2 x) * atM M 2 j else 0) := by
  rcases (show n = 1 ∨ n = 2 ∨ n = 3 by omega) with rfl | rfl | rfl
  · obtain ⟨a, rfl⟩ := hs.one
    obtain rfl : j = 0 := by omega
    match x, hx with
    | [x0], _ => simp [dN, atM]; grind
  · obtain ⟨a, b, c, d, rfl⟩ := hs.two
    match x, hx with
    | [x0, x1], _ =>
      rcases (show j = 0 ∨ j = 1 by omega) with rfl | rfl <;> simp [dN, atM] <;> grind
  · obtain ⟨a, b, c, d, e, f, g, i, k, rfl⟩ := hs.three
    match x, hx with
    | [x0, x1, x2], _ =>
      rcases (show j = 0 ∨ j = 1 ∨ j = 2 by omega) with rfl | rfl | rfl <;> simp [dN, atM] <;> grind
theorem rest_bd {F D q m : Int} (h0 : 0 ≤ F - D * q) (h1 : F - D * q < D) (hm : -100 ≤ m ∧ m ≤ 100) : -(100 * D) ≤ (F - D * q) * m ∧ (F - D * q) * m ≤ 100 * D := by
  generalize F - D * q = f at *
  have := mul_bdH (M := D) (N := 100) (a := f) (b := m) (by omega) hm
  omega
/-- a point of the cell is near -/
theorem celP_bd {n : Nat} {M : List (List Int)} (h : CM n M) {x : List Int} (hx : x.length = n) (hb : ∀ j, -1000 ≤ x.getD j 0 ∧ x.getD j 0 ≤ 1000) (j : Nat) : -1000 ≤ (celP M x).getD j 0 ∧ (celP M x).getD j 0 ≤ 1000 := by
  have hlen := celP_len h hx hb
  by_cases hj : j < n
  case neg => rw [List.getD_eq_getElem?_getD, List.getElem?_eq_none (by omega)]; simp
  obtain ⟨q, hq, hqf⟩ := (celK_at h hx hb n (Nat.le_refl _)).2.1
  have hnz := h.nz
  have h1 := h.one
  have h3 := h.three
  have hd : 0 < ((dN M).natAbs : Int) := by omega
  have hcr := cramer h.sq h1 h3 hx hj
  have hF : ∀ r, r < n → 0 ≤ sgF (dN M) (dN (M.set r x)) - (dN M).natAbs * q r ∧ sgF (dN M) (dN (M.set r x)) - (dN M).natAbs * q r < (dN M).natAbs := fun r hr => by
    have hf := h.fac hx hb hr
    have := flW_at hd (x := sgF (dN M) (dN (M.set r x))) (by omega)
    rw [hqf r hr]; exact ⟨this.1, this.2.1⟩
  have hsg : ∀ a : Int, sgF (dN M) a = (if dN M < 0 then -1 else 1) * a := fun a => by unfold sgF; split <;> omega
  have hval : ((dN M).natAbs : Int) * (celP M x).getD j 0 = (if 0 < n then (sgF (dN M) (dN (M.set 0 x)) - (dN M).natAbs * q 0) * atM M 0 j else 0) + (if 1 < n then (sgF (dN M) (dN (M.set 1 x)) - (dN M).natAbs * q 1) * atM M 1 j else 0) + (if 2 < n then (sgF (dN M) (dN (M.set 2 x)) - (dN M).natAbs * q 2) * atM M 2 j else 0) := by
    unfold celP
    rw [h.sq.len, hq]
    have hD : ((dN M).natAbs : Int) = (if dN M < 0 then -1 else 1) * dN M := by split <;> omega
    have e : ((dN M).natAbs : Int) * x.getD j 0 = (if 0 < n then sgF (dN M) (dN (M.set 0 x)) * atM M 0 j else 0) + (if 1 < n then sgF (dN M) (dN (M.set 1 x)) * atM M 1 j else 0) + (if 2 < n then sgF (dN M) (dN (M.set 2 x)) * atM M 2 j else 0) := by
      rw [hD, Int.mul_assoc, hcr, hsg, hsg, hsg]
      generalize (if dN M < 0 then (-1 : Int) else 1) = s
      split <;> split <;> split <;> grind
    generalize ((dN M).natAbs : Int) = D at *
    generalize sgF (dN M) (dN (M.set 0 x)) = f0 at *
    generalize sgF (dN M) (dN (M.set 1 x)) = f1 at *
    generalize sgF (dN M) (dN (M.set 2 x)) = f2 at *
    generalize x.getD j 0 = z at *
    generalize atM M 0 j = m0 at *
    generalize atM M 1 j = m1 at *
    generalize atM M 2 j = m2 at *
    generalize q 0 = q0 at *
    generalize q 1 = q1 at *
    generalize q 2 = q2 at *
    clear hcr hF hq hqf hsg
    split <;> split <;> split <;> simp_all <;> grind
  have r0 : 0 < n → -(100 * ((dN M).natAbs : Int)) ≤ (sgF (dN M) (dN (M.set 0 x)) - (dN M).natAbs * q 0) * atM M 0 j ∧ (sgF (dN M) (dN (M.set 0 x)) - (dN M).natAbs * q 0) * atM M 0 j ≤ 100 * (dN M).natAbs := fun hr => rest_bd (hF 0 hr).1 (hF 0 hr).2 (h.bd 0 j)
  have r1 : 1 < n → -(100 * ((dN M).natAbs : Int)) ≤ (sgF (dN M) (dN (M.set 1 x)) - (dN M).natAbs * q 1) * atM M 1 j ∧ (sgF (dN M) (dN (M.set 1 x)) - (dN M).natAbs * q 1) * atM M 1 j ≤ 100 * (dN M).natAbs := fun hr => rest_bd (hF 1 hr).1 (hF 1 hr).2 (h.bd 1 j)
  have r2 : 2 < n → -(100 * ((dN M).natAbs : Int)) ≤ (sgF (dN M) (dN (M.set 2 x)) - (dN M).natAbs * q 2) * atM M 2 j ∧ (sgF (dN M) (dN (M.set 2 x)) - (dN M).natAbs * q 2) * atM M 2 j ≤ 100 * (dN M).natAbs := fun hr => rest_bd (hF 2 hr).1 (hF 2 hr).2 (h.bd 2 j)
  generalize (sgF (dN M) (dN (M.set 0 x)) - (dN M).natAbs * q 0) * atM M 0 j = A0 at *
  generalize (sgF (dN M) (dN (M.set 1 x)) - (dN M).natAbs * q 1) * atM M 1 j = A1 at *
  generalize (sgF (dN M) (dN (M.set 2 x)) - (dN M).natAbs * q 2) * atM M 2 j = A2 at *
  generalize ((dN M).natAbs : Int) = D at *
  generalize (celP M x).getD j 0 = z at *
  have hz : -(300 * D) ≤ D * z ∧ D * z ≤ 300 * D := by
    rw [hval]
    split <;> split <;> split <;> omega
  constructor
  · rcases Int.lt_or_le z (-1000) with g | g
    · have : D * z ≤ D * (-1001) := Int.mul_le_mul_of_nonneg_left (by omega) (by omega)
      omega
    · exact g
  · rcases Int.lt_or_le 1000 z with g | g
    · have : D * 1001 ≤ D * z := Int.mul_le_mul_of_nonneg_left (by omega) (by omega)
      omega
    · exact g
/-- the leader of a cell's point -/
theorem ldr_cel {n : Nat} {M H : List (List Int)} (h : CM n M) (hH : HB n H) (hi : ∀ z, InL H z ↔ InL M z) {v : List Int} (hv : v ∈ ldK H n) : ldr H (celP M v) = v := by
  obtain ⟨l, b⟩ := ldK_vec hH hv
  have hl := celP_len h l b
  obtain ⟨m1, m2⟩ := ldr_mem hH hl (celP_bd h l b)
  have c := (hi _).2 (celP_class h l b)
  exact (ld_unique hH.hx hH.three hv m1 ((c.add m2).congr fun j => by omega)).symm

/-! ### what the program tells -/
def clsV (M : List (List Int)) (x : List Int) : List Int × Bool := if (hofV M).2 && (vecB x && decide (x.length = M.length)) then (ldr (hofV M).1 x, true) else ([], false)
def samV (M : List (List Int)) (x y : List Int) : Bool := (clsV M x).2 && ((clsV M y).2 && decide ((clsV M x).1 = (clsV M y).1))
theorem vecB_of {n : Nat} (h1 : 1 ≤ n) (h3 : n ≤ 3) {v : List Int} (hl : v.length = n) (hb : ∀ j, -1000 ≤ v.getD j 0 ∧ v.getD j 0 ≤ 1000) : vecB v = true := by
  unfold vecB
  rw [Bool.and_eq_true]
  exact ⟨by rw [hl]; simp [inB]; omega, allIn_of hb⟩
theorem vecB_at {v : List Int} (h : vecB v = true) (j : Nat) : -1000 ≤ v.getD j 0 ∧ v.getD j 0 ≤ 1000 := by
  by_cases hj : j < v.length
  · exact allIn_at (by unfold vecB at h; simp only [Bool.and_eq_true] at h; exact h.2) j hj
  · rw [List.getD_eq_getElem?_getD, List.getElem?_eq_none (by omega)]; simp
theorem hof_HB {M : List (List Int)} (h : (hofV M).2 = true) : HB M.length (hofV M).1 ∧ 1 ≤ M.length ∧ (hofV M).1 = herM M := by
  obtain ⟨hm, hd, he⟩ := hof_true h
  obtain ⟨hX, -⟩ := her_len hm hd
  have hl := matB_len hm
  have h2 : matB (herM M) = true := by
    cases h2 : matB (herM M)
    · rw [hofV_no2 hd h2] at h; cases h
    · rfl
  rw [he]
  exact ⟨⟨hX, matB_at h2, hl.2⟩, hl.1, rfl⟩
theorem clsV_true {M : List (List Int)} {x : List Int} (h : (clsV M x).2 = true) : (hofV M).2 = true ∧ vecB x = true ∧ x.length = M.length ∧ (clsV M x).1 = ldr (hofV M).1 x := by
  unfold clsV at h ⊢
  split at h
  · rename_i g
    rw [if_pos g]
    simp only [Bool.and_eq_true, decide_eq_true_eq] at g
    exact ⟨g.1, g.2.1, g.2.2, rfl⟩
  · cases h
theorem clsV_yes {M : List (List Int)} {x : List Int} (h1 : (hofV M).2 = true) (h2 : vecB x = true) (h3 : x.length = M.length) : clsV M x = (ldr (hofV M).1 x, true) := by
  unfold clsV; rw [h1, h2, decide_eq_true h3]; rfl
/-- a leader leads itself, and is in the class -/
theorem cls_again {M : List (List Int)} {x : List Int} (h : (clsV M x).2 = true) : clsV M (clsV M x).1 = ((clsV M x).1, true) ∧ samV M x (clsV M x).1 = true := by
  obtain ⟨h1, h2, h3, h4⟩ := clsV_true h
  obtain ⟨hB, hl, -⟩ := hof_HB h1
  obtain ⟨m1, -⟩ := ldr_mem hB h3 (vecB_at h2)
  obtain ⟨l, b⟩ := ldK_vec hB m1
  have e : clsV M (clsV M x).1 = ((clsV M x).1, true) := by
    rw [h4, clsV_yes h1 (vecB_of hl hB.three l b) l, ldr_self hB m1]
  refine ⟨e, ?_⟩
  unfold samV
  rw [e, h]; simp
theorem StG.nodup {S : List (List Int)} (h : StG S) : S.Nodup := List.Pairwise.imp (fun {a b} hab e => by subst e; rw [ltB_self] at hab; cases hab) h
/-- the leaders and the points of the cell -/
theorem lat_all {M : List (List Int)} (h : clV M ≠ []) : ((cpV M).length : Int) = idxV M ∧ (clV M).length = (cpV M).length ∧ (cpV M).Nodup ∧ ∀ c ∈ cpV M, (clsV M c).2 = true ∧ (clsV M c).1 ∈ clV M ∧ celP M (clsV M c).1 = c := by
  have hc : clB M = true := by
    cases e : clB M
    · exact absurd (show clV M = [] by unfold clV; rw [e]; rfl) h
    · rfl
  have hV : clV M = ldK (herM M) M.length := by unfold clV; rw [hc]; rfl
  unfold clB at hc
  rw [Bool.and_eq_true, decide_eq_true_eq] at hc
  obtain ⟨h2, h5⟩ := hc
  obtain ⟨hm, hd, he⟩ := hof_true h2
  obtain ⟨hB, hl1, -⟩ := hof_HB h2
  obtain ⟨hX, hlen⟩ := her_len hm hd
  obtain ⟨-, hE⟩ := her_all hm hd
  have hC := (matB_cw hm hd).cm
  have hcp : cpB M = true := by
    unfold cpB inB
    have : 1 ≤ idxV M := by unfold idxV; omega
    simp; omega
  obtain ⟨r1, r2, r3, r4⟩ := cpL_row hcp
  have hcV : cpV M = sG (cpL M) := by unfold cpV; rw [hcp]; rfl
  have hsl := sG_len r1 r2
  obtain ⟨st, hmem⟩ := sG_st r1
  rw [he] at hB
  refine ⟨by rw [hcV, hsl]; exact r4, by rw [hcV, hsl, hV]; unfold cpL; rw [List.length_map], ?_, fun c hc' => ?_⟩
  · rw [hcV]; exact StG.nodup st
  · rw [hcV, hmem] at hc'
    unfold cpL at hc'
    obtain ⟨v, hv, rfl⟩ := List.mem_map.1 hc'
    obtain ⟨l, b⟩ := ldK_vec hB hv
    have hcl := celP_len hC l b
    have e : clsV M (celP M v) = (v, true) := by
      rw [clsV_yes h2 (vecB_of hl1 hB.three hcl (celP_bd hC l b)) hcl, he, ldr_cel hC hB hE.inl hv]
    rw [e, hV]
    exact ⟨rfl, hv, rfl⟩
end Go.Proofs.Ytehhoplenloocaa

/- The leader of a class: the walks. -/
namespace Go.Proofs.Ytehhoplenloocaa
open Go Go.RowKit
set_option linter.unusedVariables false
set_option linter.unusedSimpArgs false

set_option maxRecDepth 100000 in
set_option maxHeartbeats 4000000 in
theorem leader_any (H : List (List Int)) (x : List Int) (n : Nat) (v vx : Value) (hb : Nat) (w : World) (h : ISSr w hb v H) (ix : ISr w hb vx x) (hhb : hb ≤ w.heap.size) (hB : HB n H) (h1 : 1 ≤ n) (hx : x.length = n) (hxb : ∀ j, -1000 ≤ x.getD j 0 ∧ x.getD j 0 ≤ 1000) :
    Calls Try.prog 91 #[v, vx] w fun e w' => ∃ u, e = .returned u ∧ IS w' w.heap.size w'.heap.size u (ldr H x) ∧ Below w.heap.size w w' := by
  have h3 := hB.three
  have hn := hB.hx.sq.len
  have CI := copyInts_any x vx hb w ix (by omega)
  obtain ⟨bm, om, cm, VM, rfl, hbm, hcm⟩ := (h.cases).resolve_left (fun e => by rw [e.1] at hn; simp at hn; omega) |>.2.2
  rw [hn] at hcm ⊢
  obtain ⟨ax, cx, rfl, -⟩ := id ix
  rw [hx] at CI ⊢
  have HCM := Lib.hid hcm
  have HX1 := Lib.hid hx
  have HLN := Lib.hid (fun k (hk : k ≤ n) => (ldrK_at hB hx hxb k hk).1)
  have HROW := Lib.hid (fun k (hk : k < n) => hB.hx.sq.row k hk)
  have HPS := Lib.hid (fun k (hk : k < n) => hB.hx.pos k hk)
  have HSTEP := Lib.hid (fun k => show ldrK H x (k + 1) = subW (ldrK H x k) (H.getD k []) (flW ((ldrK H x k).getD k 0) (atM H k k)) from rfl)
  have HEND := Lib.hid (show ldr H x = ldrK H x n by unfold ldr; rw [hn])
  have HH0 := Lib.hid h
  clear h ix hcm hB hx hxb hn
  go_enter Try.func91, Try.ntmps91
  go_wp2_with fail
  with_reducible refine CI.mono ?_
  rintro e w6 ⟨u6, rfl, k6, c6⟩
  rcases k6.is.cases with ⟨e, -⟩ | ⟨-, -, bp, op', cp', hup, hp1, hp2, hp3, hp4, hp5⟩
  · have := HX1.out; rw [e] at this; simp at this; omega
  rw [HX1.out] at hup hp5 hp1
  subst hup
  have HP0 := Lib.hid (show BK w6 bp op' n 3 (fun i => .int .i64 ((ldrK H x 0).getD i 0)) from hp5)
  have C6 := Lib.hid c6
  clear k6 c6 CI hp5
  go_wp2
  go_loopw [6, 7, 12] (fun _ _ i wr => ∃ (k : Nat), k ≤ n ∧ i = .int .i64 k ∧ Hid (BK wr bp op' n 3 (fun i => .int .i64 ((ldrK H x k).getD i 0))) ∧ Hid (Below w.heap.size w wr)) (fun _ _ i _ => n - (intOf i).toNat)
  case atStart => exact ⟨0, by omega, rfl, HP0, C6⟩
  case round =>
    obtain ⟨k, hk, rfl, hbk, hbe⟩ := hrel
    clear HP0 C6
    by_cases hkt : k < n
    · have hdec2 : decide ((k : Int) < n) = true := by simp; omega
      have hcmk := (hbe.out.cell (p := ⟨bm, om + k, none⟩) (Nat.lt_of_lt_of_le hbm hhb)).trans (HCM.out k hkt).1
      have hrmk := (HCM.out k hkt).2.keep hbe.out hhb
      obtain ⟨bM, oM, cM, hvM, hbM, hcM⟩ := (hrmk.cases).resolve_left (fun e => by have := HROW.out k hkt; rw [e.1] at this; simp at this; omega) |>.2.2
      rw [HROW.out k hkt] at hvM hcM
      rw [hvM] at hcmk
      have hsz := hbe.out.size
      have hbMl : bM < wr.heap.size := Nat.lt_of_lt_of_le hbM (Nat.le_trans hhb hsz)
      have hne : bM ≠ bp := by omega
      have hpos := HPS.out k hkt
      have cM1 : wr.cell? ⟨bM, oM + k, none⟩ = some (.int .i64 (atM H k k)) := hcM k hkt
      have cO1 : wr.cell? ⟨bp, op' + k, none⟩ = some (.int .i64 ((ldrK H x k).getD k 0)) := hbk.out.cell hkt
      have LW := lessW_any (ldrK H x k) (H.getD k []) (flW ((ldrK H x k).getD k 0) (atM H k k)) bp op' cp' bM oM cM n wr.drew (HLN.out k hk) (HROW.out k hkt) h3 hbk.out (fun i hi => hcM i hi) hne hbMl
      have DW : Calls Try.prog 84 #[.int .i64 ((ldrK H x k).getD k 0), .int .i64 (atM H k k)] wr.drew fun e w' => e = .returned (.int .i64 (flW ((ldrK H x k).getD k 0) (atM H k k))) ∧ w' = wr.drew := (downW_any _ _ wr.drew (by omega)).mono fun e w' h => ⟨h.1, h.2.symm⟩
      have HS := HSTEP.out k
      have HSK := Lib.hid HS
      clear hrmk hvM hcM HS hbk
      generalize (ldrK H x k).getD k 0 = y at *
      generalize atM H k k = z at *
      generalize hqq : flW y z = q at *
      clear hqq
      have k0 : (0 : Int) ≤ (k : Int) := by omega
      have k1 : (k : Int) < (n : Int) := by omega
      go_wp2_with fail
      go_still_tail 11, (by kernel_rfl)
      still_call DW
      repeat still_step
      try refine wpStill_nil ?_
      change wpList _ _ _ _ _ wr.drew
      go_wp2_with fail
      with_reducible refine LW.mono ?_
      rintro e w9 ⟨rfl, bk9, hg9⟩
      have hg9 : wr.grownBy w9 (some bp) := ⟨hg9.os, hg9.tape, hg9.output, hg9.size, hg9.block⟩
      rw [← HSK.out] at bk9
      have BK9 := Lib.hid bk9
      have B9 := Lib.hid (hbe.out.grown hg9 hbe.out.size (fun g hg => by injection hg with hg; omega))
      clear bk9 hg9 LW DW
      go_wp2
      go_roundw
      case rel => exact ⟨k + 1, by omega, by go_num, BK9, B9⟩
      case measure => simp [intOf]; omega
    · have hkn : k = n := by omega
      have hdec2 : decide ((k : Int) < n) = false := by simp; omega
      rw [hkn] at hbk
      have HLK := HLN.out n (Nat.le_refl _)
      have HIS := Lib.hid (show IS wr w.heap.size wr.heap.size (.slice (some ⟨bp, op', none⟩) n cp') (ldrK H x n) from by
        have := IS.of_BK (l := ldrK H x n) (w := wr) (b := bp) (off := op') (cap := cp') (lo := w.heap.size) (hi := wr.heap.size) (by rw [HLK]; exact hbk.out) (by rw [HLK]; exact hp1) hp2 hp3 hbk.out.lt
        rwa [HLK] at this)
      have HB2 := Lib.hid hbe.out
      clear hkn HLK hbk
      go_wp2
      go_ret
      exact ⟨_, rfl, by rw [HEND.out]; exact HIS.out, HB2.out⟩
set_option maxRecDepth 100000 in
set_option maxHeartbeats 8000000 in
theorem l8Leader_any (H : List (List Int)) (x : List Int) (n : Nat) (v vx : Value) (hb : Nat) (w : World) (h : ISSr w hb v H) (ix : ISr w hb vx x) (hhb : hb ≤ w.heap.size) (hB : HB n H) (h1 : 1 ≤ n) (hx : x.length = n) (hxb : ∀ j, -1000 ≤ x.getD j 0 ∧ x.getD j 0 ≤ 1000) :
    Calls Try.prog 94 #[v, vx] w fun e w' => ∃ u, e = .returned u ∧ IS w' w.heap.size w'.heap.size u (ldr H x) ∧ Below w.heap.size w w' := by
  have h3 := hB.three
  have hn := hB.hx.sq.len
  obtain ⟨b, off, cap, V, rfl, hbb, hcell⟩ := (h.cases).resolve_left (fun e => by rw [e.1] at hn; simp at hn; omega) |>.2.2
  rw [hn] at hcell ⊢
  obtain ⟨ax, cx, hvx, -⟩ := id ix
  rw [hx] at hvx
  subst hvx
  have HC := Lib.hid hcell
  have HIX := Lib.hid ix
  have HXL := Lib.hid hx
  have HROW := Lib.hid (fun k (hk : k < n) => hB.hx.sq.row k hk)
  have HPS := Lib.hid (fun k (hk : k < n) => hB.hx.pos k hk)
  have HLN := Lib.hid (fun k (hk : k ≤ n) => (ldrK_at hB hx hxb k hk).1)
  have HSTEP := Lib.hid (fun k => show ldrK H x (k + 1) = subW (ldrK H x k) (H.getD k []) (flW ((ldrK H x k).getD k 0) (atM H k k)) from rfl)
  have HEND := Lib.hid (show ldr H x = ldrK H x n by unfold ldr; rw [hn])
  have hblt : b < w.heap.size := Nat.lt_of_lt_of_le hbb hhb
  clear h ix hcell hB hx hxb hn
  have hsrc := Lib.hid (HIX.out.keep (below1 w (.cells #[] 3)) hhb)
  go_enter Try.func94, Try.ntmps94
  go_wp2_with (at_builtin; refine wpList_append_I rfl _ _ rfl rfl rfl (OwnI.lit0 w w.heap.size (Nat.le_refl _)) hsrc.out (by rw [HXL.out]; simp; omega) (by simp) ?_)
  intro a3 c3 w3 k3 hg3
  have c3' := (below1 w (.cells #[] 3)).grown hg3 (by simp) (fun k hk => by simp [Value.ownBlock] at hk; omega)
  have B3 := Lib.hid c3'
  have K3 : Hid (IS w3 w.heap.size w3.heap.size (.slice a3 n c3) (ldrK H x 0)) := Lib.hid (by
    have := k3.is
    try simp only [List.nil_append] at this
    rw [HXL.out] at this
    exact this)
  try simp only [List.nil_append]
  rw [HXL.out]
  clear k3 hg3 c3' hsrc
  go_wp2
  go_loopw [5, 6] (fun ov r wr => ∃ (k : Nat) (ao : Option Addr) (co : Nat), k ≤ n ∧ r = .int .i64 k ∧ ov = .slice ao n co ∧ Hid (IS wr w.heap.size wr.heap.size (.slice ao n co) (ldrK H x k)) ∧ Hid (Below w.heap.size w wr)) (fun _ r _ => n - (intOf r).toNat)
  case atStart => exact ⟨0, a3, c3, by omega, rfl, rfl, K3, B3⟩
  case round =>
    obtain ⟨k, ao, co, hk, rfl, rfl, hIS, hbe⟩ := hrel
    clear K3 B3
    by_cases hlt : k < n
    · have BW := hbe.out
      have hck := (BW.cell (p := ⟨b, off + k, none⟩) hblt).trans (HC.out k hlt).1
      have hrow := (HC.out k hlt).2.keep BW hhb
      obtain ⟨bM, oM, ek, hvk, hbM, hcM⟩ := (hrow.cases).resolve_left (fun e => by have := HROW.out k hlt; rw [e.1] at this; simp at this; omega) |>.2.2
      rw [HROW.out k hlt] at hvk hcM
      rw [hvk] at hck hrow
      have cM1 : wr.cell? ⟨bM, oM + k, none⟩ = some (.int .i64 (atM H k k)) := hcM k hlt
      have HLK := Lib.hid (HLN.out k hk)
      obtain ⟨bo, oo, cO, hvo, hbo, hco⟩ := (hIS.out.read.cases).resolve_left (fun e => by have := HLK.out; rw [e.1] at this; simp at this; omega) |>.2.2
      have cO1 : wr.cell? ⟨bo, oo + k, none⟩ = some (.int .i64 ((ldrK H x k).getD k 0)) := hco k (by rw [HLK.out]; exact hlt)
      injection hvo with ee1 ee2 ee3
      subst ee1
      clear ee2 ee3 hco hcM
      have HQ := Lib.hid (HSTEP.out k)
      have HRK := Lib.hid (HROW.out k hlt)
      have HIS := Lib.hid hIS.out
      have HRW := Lib.hid hrow
      have hbw := BW.size
      have hpos := HPS.out k hlt
      have hkb : b < wr.heap.size := Nat.lt_of_lt_of_le hblt hbw
      have hkM : bM < wr.heap.size := Nat.lt_of_lt_of_le hbM (Nat.le_trans hhb hbw)
      have BD := Lib.hid (below_draws wr.heap.size wr 1)
      have k0 : (0 : Int) ≤ (k : Int) := by omega
      have k1 : (k : Int) < (n : Int) := by omega
      have hdz : ¬ atM H k k = 0 := by omega
      clear hrow hIS hvk BW
      generalize (ldrK H x k).getD k 0 = y at *
      generalize atM H k k = z at *
      generalize ldrK H x k = ck at *
      have LF := fun W => l3FloorW_any y z W hdz
      have SC := l2ScaleW_any (H.getD k []) (.slice (some ⟨bM, oM, none⟩) n ek) (flW y z) hb wr.drew (HRW.out.keep BD.out (Nat.le_trans hhb hbw)) (Nat.le_trans hhb hbw) (by rw [HRK.out]; omega)
      generalize flW y z = q at *
      have HCK := Lib.hid hck
      have HCM1 := Lib.hid cM1
      have HCO1 := Lib.hid cO1
      go_wp2_with fail
      go_region_held3 (fun (w' : World) => w'.cell? ⟨b, off + k, none⟩ = some (.slice (some ⟨bM, oM, none⟩) n ek) ∧ w'.cell? ⟨bM, oM + k, none⟩ = some (.int .i64 z) ∧ w'.cell? ⟨bo, oo + k, none⟩ = some (.int .i64 y)) (first | exact ⟨hck, cM1, cO1⟩ | exact ⟨(DD.cell (p := ⟨b, off + k, none⟩) hkb).trans HCK.out, (DD.cell (p := ⟨bM, oM + k, none⟩) hkM).trans HCM1.out, (DD.cell (p := ⟨bo, oo + k, none⟩) hbo).trans HCO1.out⟩ | go_keep)
        (first
          | (go_at_call 124; (with_reducible refine (l2LessW_any ck ((H.getD k []).map (fun x => wrap64 (x * q))) (.slice (some ⟨bo, oo, none⟩) n co) _ w4.heap.size w4 ((HIS.out.read.keep c4' (Nat.le_refl _)).upto c4'.size) k4.read (Nat.le_refl _) (by rw [HLK.out]; omega) (by rw [List.length_map, HLK.out, HRK.out]; exact Nat.le_refl _)).mono ?_); rintro e w5 ⟨u5, rfl, k5, c5⟩; rw [subW_mul] at k5; obtain ⟨a5, e5, hu5, -⟩ := id k5; rw [subW_len _ (by rw [HLK.out, HRK.out]), HLK.out] at hu5; subst hu5; have DD := below_then c4' c4'.size c5)
          | (go_at_call 69; (with_reducible refine SC.mono ?_); rintro e w4 ⟨u4, rfl, k4, c4⟩; obtain ⟨a4, e4, hu4, -⟩ := id k4; rw [List.length_map, HRK.out] at hu4; subst hu4; have c4' : Below wr.heap.size wr w4 := BD.out.trans c4; have DD := c4')
          | (go_at_call 149; (with_reducible refine (LF _).mono ?_); rintro e w6 ⟨rfl, rfl⟩))
      have K5 := Lib.hid (k5.mono (Nat.le_trans hbw c4'.size) (Nat.le_refl _))
      rw [← HQ.out] at K5
      have B5 := Lib.hid (below_then hbe.out hbe.out.size DD)
      clear k4 k5 c4 c4' c5 DD SC LF hck cM1 cO1
      go_wp2
      go_roundw
      case rel => exact ⟨k + 1, _, _, by omega, by go_num, rfl, K5, B5⟩
      case measure => simp [intOf]; omega
    · have hkn : k = n := by omega
      have hdec : decide ((k : Int) < n) = false := by simp; omega
      have HF := Lib.hid hIS.out
      rw [hkn, ← HEND.out] at HF
      have BF := Lib.hid hbe.out
      clear hkn
      go_wp2
      go_ret
      exact ⟨_, rfl, HF.out, BF.out⟩
end Go.Proofs.Ytehhoplenloocaa

/- ClassLeader, SameClass: the walks. -/
namespace Go.Proofs.Ytehhoplenloocaa
open Go Go.RowKit
set_option linter.unusedVariables false
set_option linter.unusedSimpArgs false

set_option maxRecDepth 100000 in
set_option maxHeartbeats 4000000 in
theorem equalL_any (a b : List Int) (va vb : Value) (h1 h2 : Nat) (w : World) (ia : ISr w h1 va a) (ib : ISr w h2 vb b) :
    Calls Try.prog 103 #[va, vb] w fun e w' => e = .returned (.bool (decide (a = b))) ∧ ∃ d, w' = w.drewN d := by
  obtain ⟨a1, c1, rfl, la, ma, x0⟩ := ia
  obtain ⟨a2, c2, rfl, -, mb, y0⟩ := ib
  obtain ⟨n, hn⟩ : ∃ n, n = a.length := ⟨_, rfl⟩
  obtain ⟨m, hm⟩ : ∃ m, m = b.length := ⟨_, rfl⟩
  rw [← hn, ← hm]
  have hnb : n ≤ 9223372036854775807 := by unfold maxLen at ma; omega
  have HN := Lib.hid hn
  have HM := Lib.hid hm
  have HX := Lib.hid x0
  have HY := Lib.hid y0
  clear hn hm x0 y0
  by_cases hne : n = m
  · subst hne
    clear la ma mb
    have hbb : ((n : Int) != (n : Int)) = false := by simp
    go_enter Try.func103, Try.ntmps103
    go_wp2
    go_loopw [5, 13] (fun _ i wr => ∃ (d k : Nat), k ≤ n ∧ i = .int .i64 k ∧ Hid (wr = w.drewN d) ∧ Hid (a.take k = b.take k)) (fun _ i _ => n - (intOf i).toNat)
    case atStart => exact ⟨0, 0, by omega, rfl, Lib.hid rfl, Lib.hid (by simp)⟩
    case round =>
      obtain ⟨d, k, hk, rfl, HW, ht⟩ := hrel
      by_cases hlt : k < n
      · have ka : k < a.length := by rw [← HN.out]; exact hlt
        have kb : k < b.length := by rw [← HM.out]; exact hlt
        obtain ⟨b1, o1, rfl, -, xc⟩ := HX.out (by intro e; rw [e] at ka; simp at ka)
        obtain ⟨b2, o2, rfl, -, yc⟩ := HY.out (by intro e; rw [e] at kb; simp at kb)
        have xk : wr.cell? ⟨b1, o1 + k, none⟩ = some (.int .i64 (a.getD k 0)) := by rw [HW.out]; exact xc k ka
        have yk : wr.cell? ⟨b2, o2 + k, none⟩ = some (.int .i64 (b.getD k 0)) := by rw [HW.out]; exact yc k kb
        have HS := Lib.hid (fun h => take_stepI ka kb ht.out h)
        have HNE := Lib.hid (show a.getD k 0 ≠ b.getD k 0 → decide (a = b) = false from fun h => by rw [decide_eq_false_iff_not]; intro e; rw [e] at h; exact h rfl)
        have k0 : (0 : Int) ≤ (k : Int) := by omega
        have k1 : (k : Int) < (n : Int) := by omega
        have kt : ((k : Int)).toNat = k := by omega
        clear ka kb xc yc
        generalize a.getD k 0 = x at *
        generalize b.getD k 0 = y at *
        by_cases hc : x = y
        · have HT := Lib.hid (HS.out hc)
          subst hc
          have hxx : (x != x) = false := by simp
          go_wp2
          go_quiet (fail)
          go_wp2
          go_roundw
          case rel => exact ⟨_, k + 1, by omega, by go_num, Lib.hid (by rw [HW.out, World.drewN_drewN]), HT⟩
          case measure => simp [intOf]; omega
        · have HT := Lib.hid (HNE.out hc)
          have hcb : (x != y) = true := by simpa using hc
          go_wp2
          go_quiet (fail)
          go_wp2
          go_ret
          refine ⟨ret_bool HT.out.symm, ?_⟩
          rw [HW.out]
          simp only [World.drewN_drewN]
          exact ⟨_, rfl⟩
      · obtain rfl : k = n := by omega
        have he : a = b := by
          have := ht.out
          rwa [HN.out, List.take_length, ← HN.out, HM.out, List.take_length] at this
        have HE := Lib.hid (show decide (a = b) = true by rw [decide_eq_true_eq]; exact he)
        clear he
        go_wp2
        go_ret
        exact ⟨ret_bool HE.out.symm, _, HW.out⟩
  · have HE := Lib.hid (show decide (a = b) = false by rw [decide_eq_false_iff_not]; intro e; exact hne (by rw [HN.out, HM.out, e]))
    have hbb : ((n : Int) != (m : Int)) = true := by rw [bne_iff_ne]; omega
    clear hne
    go_enter Try.func103, Try.ntmps103
    go_wp2
    go_ret
    exact ⟨ret_bool HE.out.symm, 0, rfl⟩
set_option maxRecDepth 100000 in
set_option maxHeartbeats 4000000 in
theorem implClassLeader_any (M : List (List Int)) (x : List Int) (v vx : Value) (hb : Nat) (w : World) (h : ISSr w hb v M) (ix : ISr w hb vx x) (hhb : hb ≤ w.heap.size) :
    Calls Try.prog 31 #[v, vx] w fun e w' => ∃ u, e = .returned (.tuple #[u, .bool (clsV M x).2]) ∧ IS w' w.heap.size w'.heap.size u (clsV M x).1 ∧ Below w.heap.size w w' := by
  have HO := implHermiteOf_any M v hb w h hhb
  have HVX := Lib.hid (fun W (B : Below w.heap.size w W) => implIsVector_any x vx hb W (ix.keep B hhb))
  have HIX := Lib.hid ix
  have HM := Lib.hid (fun (ho : (hofV M).2 = true) => hof_HB ho)
  have HNO := Lib.hid (show ((hofV M).2 && (vecB x && decide (x.length = M.length))) = false → clsV M x = ([], false) from fun g => by unfold clsV; rw [g]; rfl)
  have HYES := Lib.hid (fun (h1 : (hofV M).2 = true) (h2 : vecB x = true) (h3 : x.length = M.length) => clsV_yes (M := M) h1 h2 h3)
  have HVB := Lib.hid (fun (h : vecB x = true) => vecB_at h)
  obtain ⟨av, cv, rfl, hmc, hmm, -⟩ := id h
  obtain ⟨ax, cx, rfl, hxc, hxm, -⟩ := id ix
  have hM64 : (M.length : Int) ≤ 9223372036854775807 := by unfold maxLen at hmm; omega
  have hX64 : (x.length : Int) ≤ 9223372036854775807 := by unfold maxLen at hxm; omega
  generalize clsV M x = CV at *
  generalize (hofV M).2 = ok at *
  generalize (hofV M).1 = H at *
  generalize vecB x = vb at *
  clear h ix hmc hmm hxc hxm
  obtain ⟨m, hm⟩ : ∃ m, M.length = m := ⟨_, rfl⟩
  obtain ⟨n, hn⟩ : ∃ n, x.length = n := ⟨_, rfl⟩
  rw [hm] at HM HNO HYES hM64 HO ⊢
  rw [hn] at HNO HYES hX64 HVX HIX ⊢
  have HXN := Lib.hid hn
  clear hm hn
  go_enter Try.func31, Try.ntmps31
  go_wp2_with fail
  with_reducible refine HO.mono ?_
  rintro e w1 ⟨u, rfl, ku, c1⟩
  have IV := HVX.out w1 c1
  have KU := Lib.hid ku.read
  obtain ⟨au, cu, hu, -⟩ := id ku
  subst hu
  have B1 := Lib.hid c1
  clear ku c1 HO HVX
  by_cases hc : ok = true ∧ vb = true ∧ n = m
  · obtain ⟨rfl, rfl, rfl⟩ := hc
    have hv := Lib.hid (HYES.out rfl rfl rfl)
    obtain ⟨hB, hl, -⟩ := HM.out rfl
    have LD := Lib.hid (fun W (B : Below w1.heap.size w1 W) => leader_any H x n _ _ w1.heap.size W (KU.out.keep B (Nat.le_refl _)) ((HIX.out.keep (below_then B1.out B1.out.size B) hhb).upto (Nat.le_trans hhb B1.out.size)) B.size hB hl HXN.out (HVB.out rfl))
    have hnn : ((n : Int) != (n : Int)) = false := by simp
    clear hB
    go_wp2_with fail
    with_reducible refine IV.mono ?_
    rintro e w2 ⟨rfl, d, rfl⟩
    have L2 := LD.out _ (below_draws w1.heap.size w1 d)
    clear IV LD
    go_wp2_with fail
    with_reducible refine L2.mono ?_
    rintro e w3 ⟨u3, rfl, k3, c3⟩
    obtain ⟨a3, c3', rfl, -⟩ := id k3
    have K3 := Lib.hid (k3.mono B1.out.size (Nat.le_refl _))
    have B3 := Lib.hid (below_then B1.out B1.out.size ((below_draws w1.heap.size w1 d).trans c3))
    clear k3 c3 L2
    go_wp2
    go_returns
    exact ⟨_, by rw [hv.out]; rfl, by rw [hv.out]; exact K3.out, B3.out⟩
  · have hv := Lib.hid (HNO.out (by
      rw [← Bool.not_eq_true]; intro g
      simp only [Bool.and_eq_true, decide_eq_true_eq] at g
      exact hc g))
    cases ok
    · clear IV
      go_wp2
      go_returns
      exact ⟨_, by rw [hv.out]; rfl, by rw [hv.out]; exact IS.nil _ _ _, B1.out⟩
    · cases vb
      · go_wp2_with (go_at_call 90; (with_reducible refine IV.mono ?_); rintro e w2 ⟨rfl, d, rfl⟩)
        go_returns
        exact ⟨_, by rw [hv.out]; rfl, by rw [hv.out]; exact IS.nil _ _ _, B1.out.trans (below_draws _ _ _)⟩
      · have hne : n ≠ m := fun e => hc ⟨rfl, rfl, e⟩
        have hnn : ((n : Int) != (m : Int)) = true := by rw [bne_iff_ne]; omega
        go_wp2_with (go_at_call 90; (with_reducible refine IV.mono ?_); rintro e w2 ⟨rfl, d, rfl⟩)
        go_returns
        exact ⟨_, by rw [hv.out]; rfl, by rw [hv.out]; exact IS.nil _ _ _, B1.out.trans (below_draws _ _ _)⟩
set_option maxRecDepth 100000 in
set_option maxHeartbeats 4000000 in
theorem specClassLeader_any (M : List (List Int)) (x : List Int) (v vx : Value) (hb : Nat) (w : World) (h : ISSr w hb v M) (ix : ISr w hb vx x) (hhb : hb ≤ w.heap.size) :
    Calls Try.prog 32 #[v, vx] w fun e w' => ∃ u, e = .returned (.tuple #[u, .bool (clsV M x).2]) ∧ IS w' w.heap.size w'.heap.size u (clsV M x).1 ∧ Below w.heap.size w w' := by
  have HO := specHermiteOf_any M v hb w h hhb
  have HVX := Lib.hid (fun W (B : Below w.heap.size w W) => specIsVector_any x vx hb W (ix.keep B hhb))
  have HIX := Lib.hid ix
  have HM := Lib.hid (fun (ho : (hofV M).2 = true) => hof_HB ho)
  have HNO := Lib.hid (show ((hofV M).2 && (vecB x && decide (x.length = M.length))) = false → clsV M x = ([], false) from fun g => by unfold clsV; rw [g]; rfl)
  have HYES := Lib.hid (fun (h1 : (hofV M).2 = true) (h2 : vecB x = true) (h3 : x.length = M.length) => clsV_yes (M := M) h1 h2 h3)
  have HVB := Lib.hid (fun (h : vecB x = true) => vecB_at h)
  obtain ⟨av, cv, rfl, hmc, hmm, -⟩ := id h
  obtain ⟨ax, cx, rfl, hxc, hxm, -⟩ := id ix
  have hM64 : (M.length : Int) ≤ 9223372036854775807 := by unfold maxLen at hmm; omega
  have hX64 : (x.length : Int) ≤ 9223372036854775807 := by unfold maxLen at hxm; omega
  generalize clsV M x = CV at *
  generalize (hofV M).2 = ok at *
  generalize (hofV M).1 = H at *
  generalize vecB x = vb at *
  clear h ix hmc hmm hxc hxm
  obtain ⟨m, hm⟩ : ∃ m, M.length = m := ⟨_, rfl⟩
  obtain ⟨n, hn⟩ : ∃ n, x.length = n := ⟨_, rfl⟩
  rw [hm] at HM HNO HYES hM64 HO ⊢
  rw [hn] at HNO HYES hX64 HVX HIX ⊢
  have HXN := Lib.hid hn
  clear hm hn
  go_enter Try.func32, Try.ntmps32
  go_wp2_with fail
  with_reducible refine HO.mono ?_
  rintro e w1 ⟨u, rfl, ku, c1⟩
  have IV := HVX.out w1 c1
  have KU := Lib.hid ku
  obtain ⟨au, cu, hu, -⟩ := id ku
  subst hu
  have B1 := Lib.hid c1
  clear ku c1 HO HVX
  by_cases hc : ok = true ∧ vb = true ∧ n = m
  · obtain ⟨rfl, rfl, rfl⟩ := hc
    have hv := Lib.hid (HYES.out rfl rfl rfl)
    obtain ⟨hB, hl, -⟩ := HM.out rfl
    have LD := Lib.hid (fun W (B : Below w1.heap.size w1 W) => l8Leader_any H x n _ _ w1.heap.size W (KU.out.keep B (Nat.le_refl _)) ((HIX.out.keep (below_then B1.out B1.out.size B) hhb).upto (Nat.le_trans hhb B1.out.size)) B.size hB hl HXN.out (HVB.out rfl))
    have hnn : ((n : Int) != (n : Int)) = false := by simp
    clear hB
    go_wp2_with fail
    with_reducible refine IV.mono ?_
    rintro e w2 ⟨rfl, d, rfl⟩
    have L2 := LD.out _ (below_draws w1.heap.size w1 d)
    clear IV LD
    go_wp2_with fail
    with_reducible refine L2.mono ?_
    rintro e w3 ⟨u3, rfl, k3, c3⟩
    obtain ⟨a3, c3', rfl, -⟩ := id k3
    have K3 := Lib.hid (k3.mono B1.out.size (Nat.le_refl _))
    have B3 := Lib.hid (below_then B1.out B1.out.size ((below_draws w1.heap.size w1 d).trans c3))
    clear k3 c3 L2
    go_wp2
    go_returns
    exact ⟨_, by rw [hv.out]; rfl, by rw [hv.out]; exact K3.out, B3.out⟩
  · have hv := Lib.hid (HNO.out (by
      rw [← Bool.not_eq_true]; intro g
      simp only [Bool.and_eq_true, decide_eq_true_eq] at g
      exact hc g))
    cases ok
    · clear IV
      go_wp2
      go_returns
      exact ⟨_, by rw [hv.out]; rfl, by rw [hv.out]; exact IS.none _ _ _ _ _ (Nat.zero_le _), B1.out.alloc B1.out.size _⟩
    · cases vb
      · go_wp2_with (go_at_call 93; (with_reducible refine IV.mono ?_); rintro e w2 ⟨rfl, d, rfl⟩)
        go_returns
        exact ⟨_, by rw [hv.out]; rfl, by rw [hv.out]; exact IS.none _ _ _ _ _ (Nat.zero_le _), (B1.out.trans (below_draws _ _ _)).alloc B1.out.size _⟩
      · have hne : n ≠ m := fun e => hc ⟨rfl, rfl, e⟩
        have hnn : ((n : Int) != (m : Int)) = true := by rw [bne_iff_ne]; omega
        go_wp2_with (go_at_call 93; (with_reducible refine IV.mono ?_); rintro e w2 ⟨rfl, d, rfl⟩)
        go_returns
        exact ⟨_, by rw [hv.out]; rfl, by rw [hv.out]; exact IS.none _ _ _ _ _ (Nat.zero_le _), (B1.out.trans (below_draws _ _ _)).alloc B1.out.size _⟩
set_option maxRecDepth 100000 in
set_option maxHeartbeats 4000000 in
theorem implSameClass_any (M : List (List Int)) (x y : List Int) (v vx vy : Value) (hb : Nat) (w : World) (h : ISSr w hb v M) (ix : ISr w hb vx x) (iy : ISr w hb vy y) (hhb : hb ≤ w.heap.size) :
    Calls Try.prog 36 #[v, vx, vy] w fun e w' => e = .returned (.bool (samV M x y)) ∧ Below w.heap.size w w' := by
  have C1 := implClassLeader_any M x v vx hb w h ix hhb
  have C2 := Lib.hid (fun W (B : Below w.heap.size w W) => implClassLeader_any M y v vy hb W (h.keep B hhb) (iy.keep B hhb) (Nat.le_trans hhb B.size))
  have HS := Lib.hid (show samV M x y = ((clsV M x).2 && ((clsV M y).2 && decide ((clsV M x).1 = (clsV M y).1))) from rfl)
  obtain ⟨av, cv, rfl, -⟩ := id h
  obtain ⟨ax, cx, rfl, -⟩ := id ix
  obtain ⟨ay, cy, rfl, -⟩ := id iy
  generalize samV M x y = SV at *
  generalize (clsV M x).2 = o1 at *
  generalize (clsV M y).2 = o2 at *
  generalize (clsV M x).1 = l1 at *
  generalize (clsV M y).1 = l2 at *
  clear h ix iy
  go_enter Try.func36, Try.ntmps36
  go_wp2_with fail
  with_reducible refine C1.mono ?_
  rintro e w1 ⟨u1, rfl, k1, c1⟩
  have D2 := C2.out w1 c1
  have B1 := Lib.hid c1
  have K1 := Lib.hid k1.read
  obtain ⟨a1, c1', rfl, -⟩ := id k1
  clear k1 c1 C1 C2
  go_wp2_with fail
  with_reducible refine D2.mono ?_
  rintro e w2 ⟨u2, rfl, k2, c2⟩
  obtain ⟨a2, c2', rfl, -⟩ := id k2
  have EQ := equalL_any l1 l2 _ _ _ _ w2 (K1.out.keep c2 (Nat.le_refl _)) k2.read
  have B2 := Lib.hid (below_then B1.out B1.out.size c2)
  clear k2 c2 D2
  generalize decide (l1 = l2) = dd at *
  cases o1
  · go_wp2
    go_ret
    exact ⟨by rw [HS.out]; rfl, B2.out⟩
  · cases o2
    · go_wp2
      go_ret
      exact ⟨by rw [HS.out]; rfl, B2.out⟩
    · go_wp2_with (go_at_call 103; (with_reducible refine EQ.mono ?_); rintro e w3 ⟨rfl, d, rfl⟩)
      go_ret
      exact ⟨by rw [HS.out]; simp, B2.out.trans (below_draws _ _ _)⟩
set_option maxRecDepth 100000 in
set_option maxHeartbeats 4000000 in
theorem specSameClass_any (M : List (List Int)) (x y : List Int) (v vx vy : Value) (hb : Nat) (w : World) (h : ISSr w hb v M) (ix : ISr w hb vx x) (iy : ISr w hb vy y) (hhb : hb ≤ w.heap.size) :
    Calls Try.prog 37 #[v, vx, vy] w fun e w' => e = .returned (.bool (samV M x y)) ∧ Below w.heap.size w w' := by
  have C1 := specClassLeader_any M x v vx hb w h ix hhb
  have C2 := Lib.hid (fun W (B : Below w.heap.size w W) => specClassLeader_any M y v vy hb W (h.keep B hhb) (iy.keep B hhb) (Nat.le_trans hhb B.size))
  have HS := Lib.hid (show samV M x y = ((clsV M x).2 && ((clsV M y).2 && decide ((clsV M x).1 = (clsV M y).1))) from rfl)
  obtain ⟨av, cv, rfl, -⟩ := id h
  obtain ⟨ax, cx, rfl, -⟩ := id ix
  obtain ⟨ay, cy, rfl, -⟩ := id iy
  generalize samV M x y = SV at *
  generalize (clsV M x).2 = o1 at *
  generalize (clsV M y).2 = o2 at *
  generalize (clsV M x).1 = l1 at *
  generalize (clsV M y).1 = l2 at *
  clear h ix iy
  go_enter Try.func37, Try.ntmps37
  go_wp2_with fail
  with_reducible refine C1.mono ?_
  rintro e w1 ⟨u1, rfl, k1, c1⟩
  have D2 := C2.out w1 c1
  have B1 := Lib.hid c1
  have K1 := Lib.hid k1.read
  obtain ⟨a1, c1', rfl, -⟩ := id k1
  clear k1 c1 C1 C2
  go_wp2_with fail
  with_reducible refine D2.mono ?_
  rintro e w2 ⟨u2, rfl, k2, c2⟩
  obtain ⟨a2, c2', rfl, -⟩ := id k2
  have EQ := l2Same_any l1 l2 _ _ _ _ w2 (K1.out.keep c2 (Nat.le_refl _)) k2.read
  have B2 := Lib.hid (below_then B1.out B1.out.size c2)
  clear k2 c2 D2
  generalize decide (l1 = l2) = dd at *
  cases o1
  · go_wp2
    go_ret
    exact ⟨by rw [HS.out]; rfl, B2.out⟩
  · cases o2
    · go_wp2
      go_ret
      exact ⟨by rw [HS.out]; rfl, B2.out⟩
    · go_wp2_with (go_at_call 104; (with_reducible refine EQ.mono ?_); rintro e w3 ⟨rfl, d, rfl⟩)
      go_ret
      exact ⟨by rw [HS.out]; simp, B2.out.trans (below_draws _ _ _)⟩
set_option maxHeartbeats 1000000 in
theorem hasList_any (ls : List (List Int)) (x : List Int) (v vx : Value) (h1 h2 : Nat) (w : World) (i1 : ISSr w h1 v ls) (i2 : ISr w h2 vx x) :
    Calls Try.prog 40 #[v, vx] w fun e w' => e = .returned (.bool (decide (x ∈ ls))) ∧ ∃ d, w' = w.drewN d := by
  obtain ⟨n, hn⟩ : ∃ n, n = ls.length := ⟨_, rfl⟩
  obtain ⟨aa, cap, rfl, hc, hm, hcell⟩ := id i1
  obtain ⟨ax, cx, rfl, -⟩ := id i2
  rw [← hn]
  have hb1 : (n : Int) ≤ 9223372036854775807 := by unfold maxLen at hm; omega
  have HN := Lib.hid hn; clear hn
  have HC := Lib.hid hcell; clear hcell i1 hm hc
  have HI2 := Lib.hid i2; clear i2
  go_enter Try.func40, Try.ntmps40
  go_wp2
  go_loopw [5] (fun i wr => ∃ (d k : Nat), k ≤ n ∧ i = .int .i64 k ∧ Hid (¬ x ∈ ls.take k) ∧ Hid (wr = w.drewN d)) (fun i _ => n - (intOf i).toNat)
  case atStart => exact ⟨0, 0, by omega, rfl, Lib.hid (by simp), Lib.hid rfl⟩
  case round =>
    obtain ⟨d, k, hk, rfl, hE, HW⟩ := hrel
    by_cases hlt : k < n
    · have hkl : k < ls.length := by rw [← HN.out]; exact hlt
      obtain ⟨b1, o1, V, rfl, -, hcc⟩ := HC.out (by intro e; rw [e] at hkl; exact absurd hkl (Nat.not_lt_zero _))
      have hck : wr.cell? ⟨b1, o1 + k, none⟩ = some (V k) := by rw [HW.out]; exact (hcc k hkl).1
      have Q := sameInts_any (ls.getD k []) x (V k) (.slice ax x.length cx) h1 h2 wr (by rw [HW.out]; exact (hcc k hkl).2) (by rw [HW.out]; exact HI2.out)
      have i1 : (0 : Int) ≤ (k : Int) := by omega
      have i2 : (k : Int) < (n : Int) := by omega
      have HST := Lib.hid (show ls.take (k + 1) = ls.take k ++ [ls.getD k []] by rw [List.take_succ_eq_append_getElem hkl, List.getD_eq_getElem?_getD, List.getElem?_eq_getElem hkl]; rfl)
      have HMEM := Lib.hid (show ls.getD k [] ∈ ls by rw [List.getD_eq_getElem?_getD, List.getElem?_eq_getElem hkl]; exact List.getElem_mem _)
      clear hcc hkl
      generalize V k = vk at *
      generalize ls.getD k [] = r at *
      by_cases he : r = x
      · rw [decide_eq_true he] at Q
        have HF := Lib.hid (show decide (x ∈ ls) = true by rw [decide_eq_true_eq, ← he]; exact HMEM.out)
        clear he
        go_wp2_with (go_at_call 18; (with_reducible refine Q.mono ?_); rintro e w2 ⟨rfl, d2, rfl⟩)
        go_ret
        exact ⟨ret_bool HF.out.symm, d + d2, by rw [HW.out, World.drewN_drewN]⟩
      · rw [decide_eq_false he] at Q
        have HF := Lib.hid (show ¬ x ∈ ls.take (k + 1) by
          rw [HST.out, List.mem_append, List.mem_singleton]
          rintro (g | g)
          · exact hE.out g
          · exact he g.symm)
        clear he
        go_wp2_with (go_at_call 18; (with_reducible refine Q.mono ?_); rintro e w2 ⟨rfl, d2, rfl⟩)
        go_roundw
        case rel => exact ⟨d + d2, k + 1, by omega, by go_num, HF, Lib.hid (by rw [HW.out, World.drewN_drewN])⟩
        case measure => simp [intOf]; omega
    · obtain rfl : k = n := by omega
      have HF := Lib.hid (show decide (x ∈ ls) = false by
        rw [decide_eq_false_iff_not]
        have := hE.out
        rwa [HN.out, List.take_length] at this)
      go_wp2
      go_ret
      exact ⟨ret_bool HF.out.symm, _, HW.out⟩
end Go.Proofs.Ytehhoplenloocaa

/- Rows of one length that the library sorts in place. -/
namespace Go.Proofs.Ytehhoplenloocaa
open Go.RowKit
open Go.Sort (Holds putRow mapBlock grow SWO PermIn SortedIn)
set_option linter.unusedVariables false
set_option linter.unusedSimpArgs false

theorem sortWorld_at {α : Type} [Inhabited α] (enc : α → Value) (w : World) (g off n : Nat) (d : Array α) (os : Array Obj) (hb : g < w.heap.size) {cs : Array Value} {t : TypeId} {fr : Nat × Nat} (h : w.heap[g]? = some (.cells cs t fr)) : ∃ cs', (sortWorld enc w g off n d os).heap[g]? = some (.cells cs' t fr) := by
  unfold sortWorld
  rw [Go.Sort.heap_grow_old _ _ (by rw [putRow_size]; exact hb)]
  unfold putRow mapBlock
  have h' : (Go.Sort.ahead w n).heap[g]? = some (.cells cs t fr) := h
  rw [Array.getElem?_modify, if_pos rfl, h']
  exact ⟨_, rfl⟩
def cfG {n : Nat} (rows : Fin n → List Int) (x y : Fin n) : Int := cmpL (rows x) (rows y)
theorem ltOf_G {n : Nat} (rows : Fin n → List Int) (x y : Fin n) : ltOf (cfG rows) x y = ltB (rows x) (rows y) := by
  unfold ltOf cfG cmpL
  cases h : ltB (rows x) (rows y)
  · cases h2 : ltB (rows y) (rows x) <;> rfl
  · rfl
theorem swoG {n m : Nat} (rows : Fin n → List Int) (hl : ∀ i, (rows i).length = m) : SWO (ltOf (cfG rows)) where
  irrefl x := by rw [ltOf_G]; exact ltB_self _
  trans x y z h1 h2 := by rw [ltOf_G] at *; exact ltB_trans h1 h2
  ntrans x y z h1 h2 := by
    rw [ltOf_G] at *
    cases h3 : ltB (rows x) (rows z)
    · rfl
    · exfalso
      cases h4 : ltB (rows y) (rows x)
      · have := ltB_total (by rw [hl, hl]) h1 h4
        rw [this] at h3; rw [h2] at h3; cases h3
      · have := ltB_trans h4 h3; rw [h2] at this; cases this
set_option maxHeartbeats 1000000 in
theorem sortG_any {n m q : Nat} (hm : m = n) (hn : 0 < n) (hn' : n ≤ 100000) (V : Fin n → Value) (rows : Fin n → List Int) (g cap : Nat) (d : Array (Fin n)) (w : World)
    (hr : ∀ i, RA w g (V i) (rows i)) (h2 : ∀ i, (rows i).length = q) (hq1 : 1 ≤ q) (hq : q ≤ 1000) (hd : d.size = n) :
    letI : Inhabited (Fin n) := ⟨⟨0, hn⟩⟩
    Holds V w g 0 d → g < w.heap.size →
    Calls Try.prog 86 #[.slice (some ⟨g, 0, none⟩) m cap, .func (.func 87) #[] #[]] w fun e w' =>
      e = .returned (.tuple #[]) ∧ ∃ d', d'.size = n ∧ Holds V w' g 0 d' ∧ (rowsD rows d').Pairwise (fun a b => ltB b a = false) ∧ List.Perm d'.toList d.toList ∧ w.grownBy w' (some g) ∧ ∀ cs t fr, w.heap[g]? = some (.cells cs t fr) → ∃ cs', w'.heap[g]? = some (.cells cs' t fr) := by
  letI : Inhabited (Fin n) := ⟨⟨0, hn⟩⟩
  intro hH hg
  rw [hm]
  have eg : ∀ args w, (callFunc 87 args).run Try.prog w = .ok (.enter 87 args) w := enters_of Try.func87 (by kernel_rfl) rfl
  have hcmp : CmpReads Try.prog 87 #[] V (cfG rows) g 0 d.size w := by
    intro m os dk hs x y
    have hx := (hr x).2 (sortWorld V w g 0 m dk os) fun b hb hlt => sortWorld_other V w g 0 m dk os hb hlt
    have hy := (hr y).2 (sortWorld V w g 0 m dk os) fun b hb hlt => sortWorld_other V w g 0 m dk os hb hlt
    have := compareG_any q (rows x) (rows y) (V x) (V y) w.heap.size (sortWorld V w g 0 m dk os) hx hy (h2 x) (h2 y) hq hq1
    exact this.mono fun e w' ⟨he, hw⟩ => ⟨he, 0, hw.symm⟩
  have hcon := Any.slices_SortFunc Try.sortPts V (fun x => (hr x).1) (cfG rows) (swoG rows h2) 87 #[] g 0 cap d w eg hcmp.lays hH hg (by rw [hd]; omega)
  change Calls Try.prog 86 _ _ _ at hcon
  rw [hd] at hcon
  refine hcon.mono ?_
  rintro e w' ⟨rfl, d', k, os, hp, hs, rfl⟩
  obtain ⟨hp1, -, hp3⟩ := hp
  rw [hd] at hp1
  have hl : d'.toList.length = n := by simp [hp1]
  refine ⟨rfl, d', hp1, holds_sortWorld V w g 0 k d d' os hg hH (by rw [hp1, hd]), ?_, ?_, sortWorld_grown V w g 0 k d' os, fun cs t fr h => sortWorld_at V w g 0 k d' os hg h⟩
  · unfold rowsD
    rw [List.pairwise_map, List.pairwise_iff_getElem]
    intro i j hi hj hij
    have h := hs i j (Nat.zero_le _) hij (by omega)
    rw [getElem!_pos d' i (by omega), getElem!_pos d' j (by omega), ltOf_G] at h
    rw [Array.getElem_toList, Array.getElem_toList]
    exact h
  · have e1 : d'.extract 0 n = d' := by have : d'.extract 0 d'.size = d' := by simp
                                        rw [hp1] at this; exact this
    have e2 : d.extract 0 n = d := by have : d.extract 0 d.size = d := by simp
                                      rw [hd] at this; exact this
    rw [e1, e2] at hp3
    exact hp3
/-- rows of the call's own, laid open for sorting, with what they are -/
theorem OwnL.holds2 {w : World} {B : Nat} {u : Value} {ls : List (List Int)} (h : OwnL w B u ls) (hn : 0 < ls.length) :
    ∃ g cap, ∃ V : Fin ls.length → Value, u = .slice (some ⟨g, 0, none⟩) ls.length cap ∧ ls.length ≤ cap ∧ cap ≤ maxLen ∧ B ≤ g ∧ g < w.heap.size ∧ (∀ i, RA w g (V i) (ls.getD i.val [])) ∧
      (letI : Inhabited (Fin ls.length) := ⟨⟨0, hn⟩⟩; ∃ d : Array (Fin ls.length), d.size = ls.length ∧ Holds V w g 0 d ∧ ∀ x, x ∈ d.toList) ∧ (∃ cs, w.heap[g]? = some (.cells cs 30 (0, 0))) ∧
      (∀ i, IS w B w.heap.size (V i) (ls.getD i.val [])) ∧ ∀ i j, i ≠ j → blkOf (V j) = none ∨ blkOf (V j) ≠ blkOf (V i) := by
  obtain ⟨V, p, h1, h2, h3, h4⟩ := h
  rcases h1.2 with ⟨-, h0⟩ | ⟨g, cap, cur, rfl, hg, hh, hl, hc, hs, ht⟩
  · omega
  letI : Inhabited (Fin ls.length) := ⟨⟨0, hn⟩⟩
  have hgw := (World.ownsRow.lt h1 g rfl).2
  refine ⟨g, cap, fun i => V i.val, rfl, hl, hc, hg, hgw, fun i => ?_, ⟨Array.ofFn (fun i => i), by simp, fun j hj => ?_, fun x => by simp⟩, ⟨cur, hh⟩, fun i => ?_, fun i j hij => ?_⟩
  · have m2 := OwnL.mono (fun i hi => (h4 i hi).1) (i.val + 1) ls.length i.isLt (Nat.le_refl _)
    exact (h4 i.val i.isLt).2.ra (by omega) hh (by decide)
  · have hj' : j < ls.length := by simpa using hj
    rw [getElem!_pos _ j hj]
    simp only [Array.getElem_ofFn, Nat.zero_add]
    refine ⟨?_, ?_⟩
    · rw [own_cells h1 hj', List.getD_eq_getElem?_getD, List.getElem?_map, List.getElem?_range hj']; rfl
    · simp [World.frozen?, hh]
  · have m1 := OwnL.mono (fun i hi => (h4 i hi).1) 0 i.val (Nat.zero_le _) (by omega)
    have m2 := OwnL.mono (fun i hi => (h4 i hi).1) (i.val + 1) ls.length i.isLt (Nat.le_refl _)
    exact (h4 i.val i.isLt).2.mono (by omega) (by omega)
  · have hij' : i.val ≠ j.val := fun e => hij (Fin.ext e)
    rcases (h4 j.val j.isLt).2.blk with h0 | ⟨bj, e1, l1, u1, -⟩
    · exact .inl h0
    · right
      rcases (h4 i.val i.isLt).2.blk with h0 | ⟨bi, e2, l2, u2, -⟩
      · rw [e1, h0]; simp
      · rw [e1, e2]; intro e; injection e with e
        rcases Nat.lt_or_ge i.val j.val with g | g
        · have := OwnL.mono (fun i hi => (h4 i hi).1) (i.val + 1) j.val (by omega) (by omega)
          omega
        · have := OwnL.mono (fun i hi => (h4 i hi).1) (j.val + 1) i.val (by omega) (by omega)
          omega
/-- rows that were sorted -/
theorem Holds.iss {n cap lo hi : Nat} (hn : 0 < n) {V : Fin n → Value} {L : List (List Int)} {w w' : World} {g : Nat} {d : Array (Fin n)} (hL : L.length = n)
    (h : letI : Inhabited (Fin n) := ⟨⟨0, hn⟩⟩; Holds V w' g 0 d) (hd : d.size = n) (hnd : d.toList.Nodup) (hr : ∀ i, IS w lo hi (V i) (L.getD i.val [])) (hap : ∀ i j, i ≠ j → blkOf (V j) = none ∨ blkOf (V j) ≠ blkOf (V i)) (hc : n ≤ cap) (hm : cap ≤ maxLen) (hlo : lo ≤ g) (hg : g < hi)
    (hgr : w.grownBy w' (some g)) (hcs : ∃ cs, w.heap[g]? = some (.cells cs 30 (0, 0))) (hcs' : ∃ cs, w'.heap[g]? = some (.cells cs 30 (0, 0))) :
    ISS w' lo hi (.slice (some ⟨g, 0, none⟩) n cap) (rowsD (fun i : Fin n => L.getD i.val []) d) := by
  letI : Inhabited (Fin n) := ⟨⟨0, hn⟩⟩
  have hl : (rowsD (fun i : Fin n => L.getD i.val []) d).length = n := by rw [rowsD_len, hd]
  obtain ⟨cs', hcs'⟩ := hcs'
  have hty : ∀ g', some g = some g' → ∃ c e fr, w.heap[g']? = some (.cells c e fr) ∧ e ≠ 3 := fun g' hg => by
    injection hg with hg
    subst hg
    obtain ⟨cs, hcs⟩ := hcs
    exact ⟨cs, _, _, hcs, by decide⟩
  refine ⟨_, cap, by rw [hl], by rw [hl]; exact hc, hm, fun _ => ⟨g, 0, fun i => V (d[i]!), rfl, hlo, hg, ⟨cs', hcs', fun i hi => ?_⟩, fun i hi => ?_, fun i j hij hj => ?_⟩⟩
  · rw [hl] at hi
    have := (h i (by omega)).1
    simpa [World.cell?, hcs'] using this
  · rw [hl] at hi
    have hi' : i < d.size := by omega
    have e : (rowsD (fun i : Fin n => L.getD i.val []) d).getD i [] = L.getD (d[i]!).val [] := by
      unfold rowsD
      rw [List.getD_eq_getElem?_getD, List.getElem?_map, getElem!_pos d i hi']
      rw [List.getElem?_eq_getElem (by simpa using hi')]
      rfl
    rw [e]
    exact (hr _).grown_type hgr hty
  · rw [hl] at hj
    refine hap _ _ fun e => ?_
    rw [getElem!_pos d i (by omega), getElem!_pos d j (by omega)] at e
    rw [List.Nodup, List.pairwise_iff_getElem] at hnd
    exact hnd i j (by simp; omega) (by simp; omega) hij (by simpa using e)
end Go.Proofs.Ytehhoplenloocaa

/- CellPoints: the program's walk. -/
namespace Go.Proofs.Ytehhoplenloocaa
open Go.RowKit
open Go.Sort (Holds)
set_option linter.unusedVariables false
set_option linter.unusedSimpArgs false

/-- a sum of products, as the loop reckons it -/
def fsum (x : List Int) (a : Nat → Int) : Nat → Int
  | 0 => 0
  | k + 1 => fsum x a k + x.getD k 0 * a k
theorem fac_adj {n i : Nat} {M : List (List Int)} {x : List Int} (hs : Sq n M) (hx : x.length = n) (hi : i < n) (h1 : 1 ≤ n) (h3 : n ≤ 3) : fsum x (fun k => adjE n M k i) n = facG M x i := by
  rcases (show n = 1 ∨ n = 2 ∨ n = 3 by omega) with rfl | rfl | rfl
  · obtain ⟨a, rfl⟩ := hs.one
    obtain ⟨x0, rfl⟩ := lenE1 hx
    obtain rfl : i = 0 := by omega
    simp [fsum, adjE, facG, dN, detF]
  · obtain ⟨a, b, c, d, rfl⟩ := hs.two
    obtain ⟨x0, x1, rfl⟩ := lenE2 hx
    rcases (show i = 0 ∨ i = 1 by omega) with rfl | rfl <;> simp [fsum, adjE, facG, dN, detF, detSum, minorL, minorK, cutAt, sgnN] <;> grind
  · obtain ⟨a, b, c, d, e, f, g, i', j, rfl⟩ := hs.three
    obtain ⟨x0, x1, x2, rfl⟩ := lenE3 hx
    rcases (show i = 0 ∨ i = 1 ∨ i = 2 by omega) with rfl | rfl | rfl <;> simp [fsum, adjE, facG, dN, detF, detSum, minorL, minorK, cutAt, sgnN] <;> grind
theorem fsum_bd {x : List Int} {a : Nat → Int} (hx : ∀ j, -1000 ≤ x.getD j 0 ∧ x.getD j 0 ≤ 1000) {n : Nat} (ha : ∀ k, k < n → -20000000000 ≤ a k ∧ a k ≤ 20000000000) : ∀ k, k ≤ n → -(20000000000000 * (k : Int)) ≤ fsum x a k ∧ fsum x a k ≤ 20000000000000 * k
  | 0, _ => by simp [fsum]
  | k + 1, hk => by
    have h1 := fsum_bd hx ha k (by omega)
    have h2 := mul_bdH (hx k) (ha k (by omega))
    rw [fsum]; omega
theorem celL_snoc (M : List (List Int)) (L : List (List Int)) (k : Nat) (hk : k < L.length) : (L.take k).map (celP M) ++ [celP M (L.getD k [])] = (L.take (k + 1)).map (celP M) := by
  rw [List.take_succ_eq_append_getElem hk, List.map_append, List.getD_eq_getElem?_getD, List.getElem?_eq_getElem hk]; rfl
/-- what is sorted is the sorted list -/
theorem perm_sG {n m : Nat} {L : List (List Int)} (hl : ∀ r ∈ L, r.length = m) (hn : L.Nodup) (hL : L.length = n) {d' d : Array (Fin n)} (hp : List.Perm d'.toList d.toList) (hd : ∀ x, x ∈ d.toList) (hd2 : d.size = n)
    (hs : (rowsD (fun i : Fin n => L.getD i.val []) d').Pairwise (fun a b => ltB b a = false)) : rowsD (fun i : Fin n => L.getD i.val []) d' = sG L := by
  have hmem : ∀ z, z ∈ rowsD (fun i : Fin n => L.getD i.val []) d' ↔ z ∈ L := fun z => by
    unfold rowsD
    rw [List.mem_map]
    constructor
    · rintro ⟨i, -, rfl⟩
      rw [List.getD_eq_getElem?_getD, List.getElem?_eq_getElem (by rw [hL]; exact i.isLt)]; exact List.getElem_mem _
    · intro hz
      obtain ⟨i, hi, rfl⟩ := List.getElem_of_mem hz
      refine ⟨⟨i, by omega⟩, hp.mem_iff.2 (hd _), ?_⟩
      show L.getD i [] = L[i]
      rw [List.getD_eq_getElem?_getD, List.getElem?_eq_getElem hi]; rfl
  have hlen : (rowsD (fun i : Fin n => L.getD i.val []) d').length = L.length := by
    rw [rowsD_len]
    have := hp.length_eq
    simp at this
    omega
  have hnd : (rowsD (fun i : Fin n => L.getD i.val []) d').Nodup := by
    generalize rowsD (fun i : Fin n => L.getD i.val []) d' = R at *
    rw [List.Nodup, List.pairwise_iff_getElem]
    intro i j hi hj hij e
    have h1 : L.length ≤ (R.eraseIdx j).length := nodup_le hn fun z hz => by
      have hz := (hmem z).2 hz
      obtain ⟨k, hk, rfl⟩ := List.getElem_of_mem hz
      rw [List.mem_eraseIdx_iff_getElem]
      by_cases ek : k = j
      · subst ek
        exact ⟨i, hi, by omega, e⟩
      · exact ⟨k, hk, ek, rfl⟩
    rw [List.length_eraseIdx, if_pos hj] at h1
    omega
  refine sG_eq (m := m) hl ?_ hmem
  rw [StG]
  rw [List.pairwise_iff_getElem] at hs ⊢
  intro i j hi hj hij
  have h1 := hs i j hi hj hij
  rw [List.Nodup, List.pairwise_iff_getElem] at hnd
  have h2 := hnd i j hi hj hij
  cases e : ltB (rowsD (fun i : Fin n => L.getD i.val []) d')[i] (rowsD (fun i : Fin n => L.getD i.val []) d')[j]
  · exact absurd (ltB_total (by rw [hl _ ((hmem _).1 (List.getElem_mem _)), hl _ ((hmem _).1 (List.getElem_mem _))]) e h1) h2
  · rfl
theorem perm_nodup {n : Nat} {d' d : Array (Fin n)} (hp : List.Perm d'.toList d.toList) (hd : ∀ x, x ∈ d.toList) (hd2 : d.size = n) : d'.toList.Nodup := by
  have hl : d'.toList.length = n := by have := hp.length_eq; simp at this; simp; omega
  rw [List.Nodup, List.pairwise_iff_getElem]
  intro i j hi hj hij e
  have h1 : (List.finRange n).length ≤ (d'.toList.eraseIdx j).length := nodup_le (List.nodup_finRange n) fun z _ => by
    have hz := hp.mem_iff.2 (hd z)
    obtain ⟨k, hk, rfl⟩ := List.getElem_of_mem hz
    rw [List.mem_eraseIdx_iff_getElem]
    by_cases ek : k = j
    · subst ek; exact ⟨i, hi, by omega, e⟩
    · exact ⟨k, hk, ek, rfl⟩
  rw [List.length_eraseIdx, if_pos hj, List.length_finRange] at h1
  omega
set_option maxRecDepth 100000 in
set_option maxHeartbeats 8000000 in
theorem implCellPoints_any (M : List (List Int)) (v : Value) (hb : Nat) (w0 : World) (h : ISSr w0 hb v M) (hhb : hb ≤ w0.heap.size) :
    Calls Try.prog 28 #[v] w0 fun e w' => ∃ u, e = .returned u ∧ ISS w' w0.heap.size w'.heap.size u (cpV M) ∧ Below w0.heap.size w0 w' := by
  have I1 := implIdx_any M v hb w0 h hhb
  have HIN := fun W => within_any (idxV M) 1 500 W
  rw [show inB (idxV M) 1 500 = cpB M from rfl] at HIN
  cases h2 : cpB M
  · have HV := Lib.hid (show cpV M = [] by unfold cpV; rw [h2]; rfl)
    rw [h2] at HIN
    clear h
    generalize idxV M = ix at *
    go_enter Try.func28, Try.ntmps28
    go_wp2_with fail
    with_reducible refine I1.mono ?_
    rintro e w1 ⟨rfl, c1⟩
    have C1 := Lib.hid c1
    clear c1 I1
    go_wp2_with (go_at_call 65; (with_reducible refine (HIN _).mono ?_); rintro e w' ⟨rfl, rfl⟩)
    go_ret
    rw [HV.out]
    exact ⟨_, rfl, ISS.zero _ _ _ _ _ (Nat.zero_le _), C1.out⟩
  obtain ⟨hm, hd, hi1, hi5⟩ := cpB_true h2
  obtain ⟨hX, hlen⟩ := her_len hm hd
  have hC := matB_cw hm hd
  have hl := matB_len hm
  have hCR := Lib.hid (cpL_row h2)
  obtain ⟨n, hn⟩ : ∃ n, n = M.length := ⟨_, rfl⟩
  have HV := Lib.hid (show cpV M = sG (cpL M) by unfold cpV; rw [h2]; rfl)
  have HCL := Lib.hid (show cpL M = (ldK (herM M) n).map (celP M) by rw [hn]; rfl)
  rw [h2] at HIN
  have HH := fun W (B : Below w0.heap.size w0 W) => hermite_any M M.length v hb W (h.keep B hhb) (Nat.le_trans hhb B.size) (hi_start hm hd) hl.1 hl.2
  rw [show herS M.length M.length M = herM M from rfl] at HH
  have AJ := fun W (B : Below w0.heap.size w0 W) => adjugate_any M M.length v hb W (h.keep B hhb) (Nat.le_trans hhb B.size) (matB_sq hm) hl.1 hl.2
  have DT := fun W (B : Below w0.heap.size w0 W) => det_any M.length hl.2 M v hb W (h.keep B hhb) (Nat.le_trans hhb B.size) (matB_sq hm)
  rw [show detF M.length M = detM M from rfl, hC.detM] at DT
  have LD := fun u W (i : ISSr W W.heap.size u (herM M)) => leaders_any (herM M) M.length u W.heap.size W i (Nat.le_refl _) hX hl.1 hl.2 (by omega)
  obtain ⟨i0, hi0, hz0, hz1, hz2⟩ := info_parts info_ints
  have HI0 := Lib.hid hi0; clear hi0
  have HZ0 := Lib.hid hz0; clear hz0
  have HZ1 := Lib.hid hz1; clear hz1
  have HZ2 := Lib.hid hz2; clear hz2
  rw [← hn] at hX hlen hl hC hCR AJ LD
  have hbig : (ldK (herM M) n).length ≤ 500 := by omega
  have hpos1 : 0 < (ldK (herM M) n).length := by omega
  have HBD := Lib.hid (show ∀ v ∈ ldK (herM M) n, v.length = n ∧ ∀ j, -1000 ≤ v.getD j 0 ∧ v.getD j 0 ≤ 1000 from fun v hv => ldK_bd hX hbig hv)
  have HCW := Lib.hid hC
  have hn3 := hl.2
  have hn1 := hl.1
  have HMR := Lib.hid (show ∀ W, Below w0.heap.size w0 W → ISSr W hb v M from fun W B => h.keep B hhb)
  obtain ⟨bm, om, cm', VM, hvm, hbm, hcm⟩ := (h.cases).resolve_left (fun e => by rw [e.1] at hn; simp at hn; omega) |>.2.2
  rw [← hn] at hvm hcm
  subst hvm
  have HCM := Lib.hid hcm
  have HAD := Lib.hid (show ∀ i j, i < n → j < n → -20000000000 ≤ adjE n M i j ∧ adjE n M i j ≤ 20000000000 from fun i j hi hj => by
    have := minorDet_bd hC.sq hn1 hn3 hj hi
    unfold adjE; split <;> omega)
  have HDB : -6000000000 ≤ dN M ∧ dN M ≤ 6000000000 := by
    have := dN_bdB hC.cm.sq hn1 hn3 (B := 1000) (by omega) (fun i j => by have := hC.cm.bd i j; omega)
    omega
  have hnz := hC.cm.nz
  have HROW := Lib.hid (fun k (hk : k < n) => hC.cm.sq.row k hk)
  have MG := fun W => magnitude_any (dN M) W (by omega) (by omega)
  have HSTEP := Lib.hid (fun x k => show celK M x (k + 1) = subW (celK M x k) (M.getD k []) (flW (sgF (dN M) (facG M x k)) (dN M).natAbs) from rfl)
  have HEND := Lib.hid (show ∀ x, celP M x = celK M x n from fun x => by unfold celP; rw [hn])
  have HFA := Lib.hid (show ∀ x, x.length = n → ∀ i, i < n → fsum x (fun k => adjE n M k i) n = facG M x i from fun x hx i hi => fac_adj hC.cm.sq hx hi hn1 hn3)
  have HFB := Lib.hid (show ∀ x, x.length = n → (∀ j, -1000 ≤ x.getD j 0 ∧ x.getD j 0 ≤ 1000) → ∀ k, k < n → -6000000000 ≤ sgF (dN M) (facG M x k) ∧ sgF (dN M) (facG M x k) ≤ 6000000000 from fun x hx hb k hk => hC.cm.fac hx hb hk)
  have HLN := Lib.hid (show ∀ x, x.length = n → (∀ j, -1000 ≤ x.getD j 0 ∧ x.getD j 0 ≤ 1000) → ∀ k, k ≤ n → (celK M x k).length = n from fun x hx hb k hk => (celK_at hC.cm hx hb k hk).1)
  clear h hX hm hd h2 hlen hl hC hi1 hi5 hcm
  have HLL := Lib.hid hbig
  have HLP := Lib.hid hpos1
  clear hbig hpos1
  generalize hLL : ldK (herM M) n = L at *
  generalize herM M = H at *
  generalize idxV M = ix at *
  generalize dN M = d at *
  obtain ⟨D, hD⟩ : ∃ D : Int, D = d.natAbs := ⟨_, rfl⟩
  rw [← hD] at HSTEP
  have hDz : ¬ D = 0 := by omega
  have hmd : max d (-d) = D := by omega
  rw [hmd] at MG
  clear hLL hmd hD hn
  have HHM := Lib.hid HH
  clear HH
  go_enter Try.func28, Try.ntmps28
  go_wp2_with fail
  with_reducible refine I1.mono ?_
  rintro e w1 ⟨rfl, c1⟩
  have A1 := AJ w1 c1
  have B1 := Lib.hid c1
  clear c1 I1 AJ
  go_wp2_with (go_at_call 65; (with_reducible refine (HIN _).mono ?_); rintro e w' ⟨rfl, rfl⟩)
  with_reducible refine A1.mono ?_
  rintro e w2 ⟨ua, rfl, ka, c2⟩
  have B2 := Lib.hid (below_then B1.out B1.out.size c2)
  have D2 := DT w2 B2.out
  have HKA := Lib.hid ka.is.read
  obtain ⟨aa, ca, hua, -, -, hac⟩ := id ka.is.read
  have hal : (adjM n M).length = n := by simp [adjM]
  rw [hal] at hua hac
  subst hua
  clear ka c2 A1 DT HIN B1
  go_wp2_with fail
  with_reducible refine D2.mono ?_
  rintro e w3 ⟨rfl, c3⟩
  have B3 := Lib.hid (below_then B2.out B2.out.size c3)
  have HAC := Lib.hid (show ∀ i j, i < n → j < n → ∃ ba oa br orr cr, aa = some ⟨ba, oa, none⟩ ∧ ba < w3.heap.size ∧ br < w3.heap.size ∧ w3.cell? ⟨ba, oa + i, none⟩ = some (.slice (some ⟨br, orr, none⟩) n cr) ∧ w3.cell? ⟨br, orr + j, none⟩ = some (.int .i64 (adjE n M i j)) from fun i j hi hj => by
    obtain ⟨ba, oa, VA, e, hba, hcc⟩ := hac (by intro e; rw [e] at hal; simp at hal; omega)
    have hr := (hcc i hi).2
    have he : (adjM n M).getD i [] = adjRow n M i := by unfold adjM; rw [List.getD_eq_getElem?_getD, List.getElem?_map, List.getElem?_range hi]; rfl
    rw [he] at hr
    rcases hr.cases with ⟨e2, -⟩ | ⟨-, -, br, orr, cr, hv, hbr, hrc⟩
    · have := adjRow_len n M i; rw [e2] at this; simp at this; omega
    · rw [adjRow_len] at hv hrc
      refine ⟨ba, oa, br, orr, cr, e, Nat.lt_of_lt_of_le hba c3.size, Nat.lt_of_lt_of_le hbr c3.size, ?_, ?_⟩
      · rw [c3.cell (p := ⟨ba, oa + i, none⟩) hba, (hcc i hi).1, hv]
      · rw [c3.cell (p := ⟨br, orr + j, none⟩) hbr, hrc j hj, adjRow_at hj])
  have H3 := HHM.out w3 B3.out
  clear HKA hal hac c3 D2 HHM B2
  go_wp2_with fail
  with_reducible refine H3.mono ?_
  rintro e w4 ⟨uh, rfl, kh, c4⟩
  have B4 := Lib.hid (below_then B3.out B3.out.size c4)
  have L4 := LD _ w4 kh.read
  obtain ⟨ah, eh, huh, -⟩ := id kh
  subst huh
  have hz4 := c4.size
  have C34 := Lib.hid c4
  clear kh c4 H3 LD
  go_wp2_with fail
  with_reducible refine L4.mono ?_
  rintro e w ⟨ul, rfl, kl, c5⟩
  have BW := Lib.hid (below_then B4.out B4.out.size c5)
  have B3W := Lib.hid (below_then C34.out C34.out.size c5)
  obtain ⟨N, hN⟩ : ∃ N, N = L.length := ⟨_, rfl⟩
  obtain ⟨al, cl, hul, -, -, hlc⟩ := id kl.is.read
  rw [← hN] at hul
  subst hul
  have HLC := Lib.hid hlc
  have HN := Lib.hid hN
  have hN5 : N ≤ 500 := by rw [hN]; exact HLL.out
  have hNp : 0 < N := by rw [hN]; exact HLP.out
  have hz3w : w3.heap.size ≤ w.heap.size := B3W.out.size
  clear kl c5 L4 hlc hN C34 hz4 B4
  go_wp2
  go_loopw [5, 7, 8, 9, 10, 11, 12, 25] (fun ov _ _ _ _ _ _ i wr => ∃ (q : Nat) (acc : List (List Int)), q ≤ N ∧ i = .int .i64 q ∧ Hid (acc = (L.take q).map (celP M)) ∧ Hid (OwnL wr w.heap.size ov acc) ∧ Hid (Below w.heap.size w wr)) (fun _ _ _ _ _ _ _ i _ => N - (intOf i).toNat)
  case atStart => exact ⟨0, [], by omega, rfl, Lib.hid (by simp), Lib.hid (OwnL.nil w _ (Nat.le_refl _)), Lib.hid (Below.refl _ _)⟩
  case round =>
    obtain ⟨q, acc, hq, rfl, hacc, hown, hbe⟩ := hrel
    by_cases hlt : q < N
    · have hdec : decide ((q : Int) < N) = true := by simp; omega
      have hql : q < L.length := by rw [← HN.out]; exact hlt
      obtain ⟨bo, oo, V0, hao, hbo, hcc⟩ := HLC.out (by intro e; rw [e] at hql; exact absurd hql (Nat.not_lt_zero _))
      subst hao
      have hc1 := (hbe.out.cell (p := ⟨bo, oo + q, none⟩) hbo).trans (hcc q hql).1
      have hr1 := (hcc q hql).2.keep hbe.out (Nat.le_refl _)
      have hmem : L.getD q [] ∈ L := by
        rw [List.getD_eq_getElem?_getD, List.getElem?_eq_getElem hql]; exact List.getElem_mem hql
      obtain ⟨hx1, hx2⟩ := HBD.out _ hmem
      have HSN := Lib.hid (celL_snoc M L q hql)
      rw [← hacc.out] at HSN
      have HAL := Lib.hid (show acc.length ≤ 500 by rw [hacc.out, List.length_map, List.length_take]; omega)
      obtain ⟨wx, hwx⟩ : ∃ wx, wx = wr := ⟨_, rfl⟩
      subst hwx
      have hwz := hbe.out.size
      have CI := copyInts_any (L.getD q []) (V0 q) w.heap.size wx hr1 (by rw [hx1]; omega)
      generalize L.getD q [] = x at *
      obtain ⟨bx, ox, cx, hvx, hbx, hcx⟩ := (hr1.cases).resolve_left (fun e => by rw [e.1] at hx1; simp at hx1; omega) |>.2.2
      rw [hx1] at hvx hcx
      rw [hvx] at hc1 CI
      have HCX := Lib.hid hcx
      have HFA2 := Lib.hid (HFA.out x hx1)
      have HFB2 := Lib.hid (HFB.out x hx1 hx2)
      have HLN2 := Lib.hid (HLN.out x hx1 hx2)
      have HST2 := Lib.hid (HSTEP.out x)
      have HX2 := Lib.hid hx2
      have HEN2 := Lib.hid (HEND.out x)
      rw [HEN2.out] at HSN
      have HX1 := Lib.hid hx1
      clear hcc hr1 hmem hql hcx hvx hx1 hx2
      go_wp2_with fail
      with_reducible refine CI.mono ?_
      rintro e w6 ⟨u6, rfl, k6, c6⟩
      rcases k6.is.cases with ⟨e, -⟩ | ⟨-, -, bp, op', cp', hup, hp1, hp2, hp3, hp4, hp5⟩
      · have := HX1.out; rw [e] at this; simp at this; omega
      rw [HX1.out] at hup hp5 hp1
      subst hup
      have HP0 := Lib.hid (show BK w6 bp op' n 3 (fun i => .int .i64 ((celK M x 0).getD i 0)) from hp5)
      have hz6 := c6.size
      have C6 := Lib.hid c6
      clear k6 c6 CI hp5
      go_wp2
      go_loopw [9, 10, 11, 12, 33] (fun _ _ _ _ i wr => ∃ (k : Nat), k ≤ n ∧ i = .int .i64 k ∧ Hid (BK wr bp op' n 3 (fun i => .int .i64 ((celK M x k).getD i 0))) ∧ Hid (Below wx.heap.size wx wr)) (fun _ _ _ _ i _ => n - (intOf i).toNat)
      case atStart => exact ⟨0, by omega, rfl, HP0, C6⟩
      case round =>
        obtain ⟨k, hk, rfl, hbk, hb2⟩ := hrel
        clear HP0 C6
        by_cases hkt : k < n
        · have hdec2 : decide ((k : Int) < n) = true := by simp; omega
          have BT := Lib.hid (Below.trans BW.out ((hbe.out.trans (hb2.out.mono hwz)).mono BW.out.size))
          have hcmk := (BT.out.cell (p := ⟨bm, om + k, none⟩) (Nat.lt_of_lt_of_le hbm hhb)).trans (HCM.out k hkt).1
          have hrmk := (HCM.out k hkt).2.keep BT.out hhb
          obtain ⟨bM, oM, cM, hvM, hbM, hcM⟩ := (hrmk.cases).resolve_left (fun e => by have := HROW.out k hkt; rw [e.1] at this; simp at this; omega) |>.2.2
          rw [HROW.out k hkt] at hvM hcM
          rw [hvM] at hcmk
          have HCMK := Lib.hid hcM
          have HFK := Lib.hid (HFA2.out k hkt)
          have HFBK := Lib.hid (HFB2.out k hkt)
          have HSK := Lib.hid (HST2.out k)
          have HLK := Lib.hid (HLN2.out k hk)
          have HBD2 := Lib.hid (fsum_bd HX2.out (a := fun c => adjE n M c k) (n := n) (fun c hc => HAD.out c k hc hkt))
          have HSU := Lib.hid (show ∀ j, fsum x (fun c => adjE n M c k) (j + 1) = fsum x (fun c => adjE n M c k) j + x.getD j 0 * adjE n M j k from fun j => rfl)
          have hf0 : fsum x (fun c => adjE n M c k) 0 = 0 := rfl
          have HF0 := Lib.hid hf0
          have HAC2 := Lib.hid (fun j (hj : j < n) => HAC.out j k hj hkt)
          have HPB := Lib.hid (fun j (hj : j < n) => mul_bdH (HX2.out j) (HAD.out j k hj hkt))
          obtain ⟨wy, hwy⟩ : ∃ wy, wy = wr := ⟨_, rfl⟩
          subst hwy
          have k0 : (0 : Int) ≤ (k : Int) := by omega
          have k1 : (k : Int) < (n : Int) := by omega
          have hbpl := hbk.out.lt
          have hbml : bM < wy.heap.size := Nat.lt_of_lt_of_le hbM (Nat.le_trans hhb BT.out.size)
          have hz0w := BW.out.size
          have hne : bM ≠ bp := by omega
          clear hrmk hvM hcM hf0
          go_wp2
          go_loopw [11, 12, 40] (fun s _ i wr => ∃ (j : Nat) (dd : Nat), j ≤ n ∧ i = .int .i64 j ∧ s = .int .i64 (fsum x (fun c => adjE n M c k) j) ∧ Hid (wr = wy.drewN dd)) (fun _ _ i _ => n - (intOf i).toNat)
          case atStart => exact ⟨0, 0, by omega, rfl, by rw [HF0.out], Lib.hid rfl⟩
          case round =>
            obtain ⟨j, dd, hj, rfl, rfl, hw⟩ := hrel
            by_cases hjt : j < n
            · have hdec3 : decide ((j : Int) < n) = true := by simp; omega
              obtain ⟨ba, oa, br, orr, cr, ea, hba, hbr, ha1, ha2⟩ := HAC2.out j hjt
              subst ea
              have B3T : Below w3.heap.size w3 wr := by
                rw [hw.out]
                exact ((B3W.out.trans (hbe.out.mono hz3w)).trans (hb2.out.mono (Nat.le_trans hz3w hwz))).trans (below_draws _ _ _)
              have q1 := (B3T.cell (p := ⟨ba, oa + j, none⟩) hba).trans ha1
              have q2 := (B3T.cell (p := ⟨br, orr + k, none⟩) hbr).trans ha2
              have q3 : wr.cell? ⟨bx, ox + j, none⟩ = some (.int .i64 (x.getD j 0)) := by
                rw [hw.out]
                exact (hb2.out.cell (p := ⟨bx, ox + j, none⟩) (Nat.lt_of_lt_of_le hbx hwz)).trans (HCX.out j hjt)
              have hb1 := HBD2.out j hj
              have hb3 := HPB.out j hjt
              have hsu := HSU.out j
              have HSUJ := Lib.hid hsu
              have w1' : IntKind.i64.wrap (x.getD j 0 * adjE n M j k) = x.getD j 0 * adjE n M j k := wr64 _ (by omega)
              have w2' : IntKind.i64.wrap (fsum x (fun c => adjE n M c k) j + x.getD j 0 * adjE n M j k) = fsum x (fun c => adjE n M c k) j + x.getD j 0 * adjE n M j k := wr64 _ (by omega)
              have j0 : (0 : Int) ≤ (j : Int) := by omega
              have j1 : (j : Int) < (n : Int) := by omega
              clear hsu hb1 hb3 B3T ha1 ha2
              generalize x.getD j 0 = xj at *
              generalize adjE n M j k = aj at *
              generalize hpp : xj * aj = p at *
              generalize fsum x (fun c => adjE n M c k) j = s at *
              generalize hss : s + p = sp at *
              have HPP := Lib.hid hpp
              have HSS := Lib.hid hss
              go_wp2
              go_quiet (fail)
              go_wp2
              go_roundw
              case rel => exact ⟨j + 1, _, by omega, by go_num, by rw [HSUJ.out], Lib.hid (by rw [hw.out, World.drewN_drewN])⟩
              case measure => simp [intOf]; omega
            · have hjn : j = n := by omega
              have hdec3 : decide ((j : Int) < n) = false := by simp; omega
              have hFv : fsum x (fun c => adjE n M c k) j = facG M x k := by rw [hjn]; exact HFK.out
              rw [hFv]
              clear hFv hjn
              have hfb := HFBK.out
              have hbkw : BK wr bp op' n 3 (fun i => .int .i64 ((celK M x k).getD i 0)) := by rw [hw.out]; exact hbk.out
              have hcw : wr.cell? ⟨bm, om + k, none⟩ = some (.slice (some ⟨bM, oM, none⟩) n cM) := by rw [hw.out]; exact hcmk
              have hcMw : ∀ i, i < n → wr.cell? ⟨bM, oM + i, none⟩ = some (.int .i64 ((M.getD k []).getD i 0)) := fun i hi => by rw [hw.out]; exact HCMK.out i hi
              have hsz : wr.heap.size = wy.heap.size := by rw [hw.out]; rfl
              have HBW := Lib.hid (show Below wx.heap.size wx wr by rw [hw.out]; exact hb2.out.trans (below_draws _ _ _))
              unfold sgF at HSK hfb
              generalize facG M x k = f at *
              have LW := fun qq => lessW_any (celK M x k) (M.getD k []) qq bp op' cp' bM oM cM n wr HLK.out (HROW.out k hkt) hn3 hbkw hcMw hne (by omega)
              have DW := fun a W => downW_any a D W hDz
              have hcmk2 := hcw
              clear hcMw hbkw hcmk hfb
              have hfb := HFBK.out
              unfold sgF at hfb
              by_cases hneg : d < 0
              · rw [if_pos hneg] at HSK hfb
                have hwn : IntKind.i64.wrap (-f) = -f := wr64 _ (by omega)
                have L1 := LW (flW (-f) D)
                have D1 := fun W => DW (-f) W
                generalize flW (-f) D = qq at *
                go_wp2_with (first | (go_at_call 85; (with_reducible refine (MG _).mono ?_); rintro e w' ⟨rfl, rfl⟩) | (go_at_call 84; (with_reducible refine (D1 _).mono ?_); rintro e w' ⟨rfl, rfl⟩))
                with_reducible refine L1.mono ?_
                rintro e w9 ⟨rfl, bk9, hg9⟩
                rw [← HSK.out] at bk9
                have BK9 := Lib.hid bk9
                have B9 := Lib.hid (HBW.out.grown hg9 HBW.out.size (fun g hg => by injection hg with hg; omega))
                clear bk9 hg9 L1 D1 LW DW MG hsz
                go_wp2
                go_roundw
                case rel => exact ⟨k + 1, by omega, by go_num, BK9, B9⟩
                case measure => simp [intOf]; omega
              · rw [if_neg hneg] at HSK hfb
                have L1 := LW (flW f D)
                have D1 := fun W => DW f W
                generalize flW f D = qq at *
                go_wp2_with (first | (go_at_call 85; (with_reducible refine (MG _).mono ?_); rintro e w' ⟨rfl, rfl⟩) | (go_at_call 84; (with_reducible refine (D1 _).mono ?_); rintro e w' ⟨rfl, rfl⟩))
                with_reducible refine L1.mono ?_
                rintro e w9 ⟨rfl, bk9, hg9⟩
                rw [← HSK.out] at bk9
                have BK9 := Lib.hid bk9
                have B9 := Lib.hid (HBW.out.grown hg9 HBW.out.size (fun g hg => by injection hg with hg; omega))
                clear bk9 hg9 L1 D1 LW DW MG hsz
                go_wp2
                go_roundw
                case rel => exact ⟨k + 1, by omega, by go_num, BK9, B9⟩
                case measure => simp [intOf]; omega
        · have hkn : k = n := by omega
          have hdec2 : decide ((k : Int) < n) = false := by simp; omega
          rw [hkn] at hbk
          have HLK := HLN2.out n (Nat.le_refl _)
          have HIS := Lib.hid (show IS wr wx.heap.size wr.heap.size (.slice (some ⟨bp, op', none⟩) n cp') (celK M x n) from by
            have := IS.of_BK (l := celK M x n) (w := wr) (b := bp) (off := op') (cap := cp') (lo := wx.heap.size) (hi := wr.heap.size) (by rw [HLK]; exact hbk.out) (by rw [HLK]; exact hp1) hp2 hp3 hbk.out.lt
            rwa [HLK] at this)
          obtain ⟨V, p, hpt⟩ := hown.out.part hb2.out
          have HPT := Lib.hid hpt
          have HB2 := Lib.hid (below_then hbe.out hwz hb2.out)
          have hz1' := hb2.out.size
          have HAL2 := HAL.out
          clear hpt hkn HLK
          generalize celK M x n = r at *
          go_wp2_with (at_builtin; refine wpList_append_own _ rfl _ _ 24 rfl w.heap.size 30 i0 (.slice none 0 0) 1 24 Try.underlying24 HI0.out HZ0.out HZ1.out HZ2.out rfl (by decide) _ _ _ rfl (HPT.out.alloc _) ⟨wr.heap.size, 0, none⟩ 1 1 [.slice (some ⟨bp, op', none⟩) n cp'] rfl rfl ?c1 ?c2 ?c3 ?c4 ?c5 ?_)
          case c1 => exact cell_one_new _ _ _
          case c2 => first | rfl | (intro u hu; simp at hu; subst hu; rfl)
          case c3 => unfold maxLen; omega
          case c4 => omega
          case c5 => first | omega | (simp; omega)
          intro v2 w3' hown2 hgrow _
          have HO := Lib.hid (HPT.out.push HIS.out (Nat.le_refl _) hz1' (Nat.le_refl _) hgrow hown2)
          have HBE := Lib.hid (OwnLp.below HB2.out (by omega) _ hgrow HPT.out (Nat.le_refl _))
          clear hown2 hgrow
          go_wp2
          go_roundw
          case rel => exact ⟨q + 1, _, by omega, by go_num, HSN, HO, HBE⟩
          case measure => simp [intOf]; omega
    · have hqn : q = N := by omega
      have hdec : decide ((q : Int) < N) = false := by simp; omega
      have hal : acc = cpL M := by rw [hacc.out, HCL.out, hqn, HN.out, List.take_length]
      rw [hal] at hown
      have hcn : (cpL M).length = N := by rw [HCL.out, List.length_map]; exact HN.out.symm
      have HCN := Lib.hid hcn
      obtain ⟨hr1, hr2, -, -⟩ := hCR.out
      obtain ⟨g, cpu, V, hu, hcpu, hcm2, hgB, hgw, hra, ⟨d0, hds, hhd, hdm⟩, hcs, hris, hap⟩ := hown.out.holds2 (by rw [hcn]; exact hNp)
      have SO := sortG_any (m := N) hcn.symm (by rw [hcn]; exact hNp) (by rw [hcn]; omega) V (fun i => (cpL M).getD i.val []) g cpu d0 wr hra (fun i => hr1 _ (by
        rw [List.getD_eq_getElem?_getD, List.getElem?_eq_getElem i.isLt]; exact List.getElem_mem _)) hn1 (by omega) hds hhd hgw
      rw [hcn] at hu hcpu
      subst hu
      have HRI := Lib.hid hris
      have HAP := Lib.hid hap
      have HCS := Lib.hid hcs
      have HND := Lib.hid (fun (d' : Array (Fin (cpL M).length)) (h1 : List.Perm d'.toList d0.toList) => perm_nodup h1 hdm hds)
      have HBE := Lib.hid hbe.out
      have HPS := Lib.hid (fun d' (h1 : List.Perm d'.toList d0.toList) h2 => perm_sG hr1 hr2 rfl (d' := d') h1 hdm hds h2)
      clear hra hris hap hcs hhd hown hbe hacc hal hr1 hr2 hqn
      go_wp2_with fail
      with_reducible refine SO.mono ?_
      rintro e w9 ⟨rfl, d', hd's, hh', hpw, hperm, hgr, hcs9⟩
      have HE := Lib.hid (HPS.out d' hperm hpw)
      have hg9 : g < w9.heap.size := Nat.lt_of_lt_of_le hgw hgr.size
      have hz0w := BW.out.size
      have HF := Lib.hid (Holds.iss (n := (cpL M).length) (cap := cpu) (L := cpL M) (lo := w0.heap.size) (hi := w9.heap.size) (by rw [HCN.out]; exact hNp) rfl hh' hd's (HND.out d' hperm) (fun i => (HRI.out i).mono hz0w hgr.size) HAP.out (by rw [HCN.out]; exact hcpu) hcm2 (Nat.le_trans hz0w hgB) hg9 hgr HCS.out (by obtain ⟨cs, hcs⟩ := HCS.out; exact hcs9 _ _ _ hcs))
      rw [HE.out, HCN.out, ← HV.out] at HF
      have B9 := Lib.hid (Below.trans BW.out ((HBE.out.trans (grown_belowG hgr HBE.out.size hgB)).mono BW.out.size))
      clear SO hd's hh' hpw hperm hgr hcs9
      go_wp2
      go_ret
      exact ⟨_, rfl, HF.out, B9.out⟩
end Go.Proofs.Ytehhoplenloocaa

/- ClassLeaders: the model's walk. -/
namespace Go.Proofs.Ytehhoplenloocaa
open Go.RowKit
set_option linter.unusedVariables false
set_option linter.unusedSimpArgs false

set_option maxRecDepth 100000 in
set_option maxHeartbeats 8000000 in
theorem specClassLeaders_any (M : List (List Int)) (v : Value) (hb : Nat) (w0 : World) (h : ISSr w0 hb v M) (hhb : hb ≤ w0.heap.size) :
    Calls Try.prog 35 #[v] w0 fun e w' => ∃ u, e = .returned u ∧ ISS w' w0.heap.size w'.heap.size u (clV M) ∧ Below w0.heap.size w0 w' := by
  have HO := specHermiteOf_any M v hb w0 h hhb
  have IX := fun W (B : Below w0.heap.size w0 W) => specIdx_any M v hb W (h.keep B hhb)
  cases h2 : (hofV M).2
  · have HV := Lib.hid (show clV M = [] by unfold clV clB; rw [h2]; rfl)
    rw [h2] at HO
    clear h
    go_enter Try.func35, Try.ntmps35
    go_wp2_with fail
    with_reducible refine HO.mono ?_
    rintro e w1 ⟨u, rfl, ku, c1⟩
    obtain ⟨au, cu, rfl, -⟩ := id ku
    have C1 := Lib.hid c1
    clear ku c1 HO IX
    go_wp2
    go_ret
    rw [HV.out]
    exact ⟨_, rfl, ISS.zero _ _ _ _ _ (Nat.zero_le _), C1.out.alloc C1.out.size _⟩
  obtain ⟨hm, hd, he⟩ := hof_true h2
  obtain ⟨hX, hlen⟩ := her_len hm hd
  have hl := matB_len hm
  have hib := idxV_bd M
  rw [h2, he] at HO
  by_cases h5 : idxV M ≤ 500
  case neg =>
    have HV := Lib.hid (show clV M = [] by unfold clV clB; rw [h2, decide_eq_false h5]; rfl)
    have hg : 500 < idxV M := by omega
    clear h hX hm hd he h2 hlen
    generalize idxV M = x at *
    go_enter Try.func35, Try.ntmps35
    go_wp2_with fail
    with_reducible refine HO.mono ?_
    rintro e w1 ⟨u, rfl, ku, c1⟩
    have I1 := IX w1 c1
    obtain ⟨au, cu, hu, -⟩ := id ku
    subst hu
    clear ku HO
    go_wp2_with fail
    with_reducible refine I1.mono ?_
    rintro e w2 ⟨rfl, c2⟩
    have B2 := Lib.hid (below_then c1 c1.size c2)
    clear c1 c2 I1 IX
    go_wp2
    go_ret
    rw [HV.out]
    exact ⟨_, rfl, ISS.zero _ _ _ _ _ (Nat.zero_le _), B2.out.alloc B2.out.size _⟩
  case pos =>
    obtain ⟨n, hn⟩ : ∃ n, n = M.length := ⟨_, rfl⟩
    have HV := Lib.hid (show clV M = ldK (herM M) n by rw [hn]; unfold clV clB; rw [h2, decide_eq_true h5]; rfl)
    have hg : ¬ 500 < idxV M := by omega
    obtain ⟨i0, hi0, hz0, hz1, hz2⟩ := info_parts info_ints
    have HI0 := Lib.hid hi0; clear hi0
    have HZ0 := Lib.hid hz0; clear hz0
    have HZ1 := Lib.hid hz1; clear hz1
    have HZ2 := Lib.hid hz2; clear hz2
    obtain ⟨j0, hj0, hy0, hy1, hy2⟩ := info_parts info_int
    have HJ0 := Lib.hid hj0; clear hj0
    have HY0 := Lib.hid hy0; clear hy0
    have HY1 := Lib.hid hy1; clear hy1
    have HY2 := Lib.hid hy2; clear hy2
    rw [← hn] at hX hlen hl
    have hbig : (ldK (herM M) n).length ≤ 500 := by omega
    have HBIG := Lib.hid (show ∀ k, k ≤ n → (ldK (herM M) k).length ≤ 500 from fun k hk => Nat.le_trans (ldK_le hX (n - k) k (by omega)) hbig)
    have HROW := Lib.hid (show ∀ k, ∀ r ∈ ldK (herM M) k, r.length = k from fun k r hr => ((ldK_mem _ k r).1 hr).1)
    have HSQ := Lib.hid hX.sq
    have HPO := Lib.hid hX.pos
    have HDI := Lib.hid (fun k (hk : k < n) => ldK_dia hX hk)
    have hn3 := hl.2
    have hn1 := hl.1
    clear h hX hm hd he h2 hlen hl hbig hn
    generalize herM M = H at *
    generalize idxV M = ix at *
    go_enter Try.func35, Try.ntmps35
    go_wp2_with fail
    with_reducible refine HO.mono ?_
    rintro e w1 ⟨u, rfl, ku, c1⟩
    have I1 := IX w1 c1
    obtain ⟨bh, oh, ch, V, hu, hbh, hcell⟩ := (ku.cases).resolve_left (fun e => by have := HSQ.out.len; rw [e.1] at this; simp at this; omega) |>.2.2
    rw [HSQ.out.len] at hu hcell
    subst hu
    have HC0 := Lib.hid hcell
    have hz1 := c1.size
    clear ku HO hcell
    go_wp2_with fail
    with_reducible refine I1.mono ?_
    rintro e w ⟨rfl, c2⟩
    have HC := Lib.hid (show ∀ i, i < n → w.cell? ⟨bh, oh + i, none⟩ = some (V i) ∧ ISr w w1.heap.size (V i) (H.getD i []) from fun i hi => ⟨(c2.cell (p := ⟨bh, oh + i, none⟩) hbh).trans (HC0.out i hi).1, (HC0.out i hi).2.keep c2 (Nat.le_refl _)⟩)
    have hbh2 : bh < w.heap.size := Nat.lt_of_lt_of_le hbh c2.size
    have hw1 : w1.heap.size ≤ w.heap.size := c2.size
    have B2 := Lib.hid (below_then c1 c1.size c2)
    clear c1 c2 I1 IX HC0 hbh hz1
    go_wp2
    go_loopw [5, 6, 7, 8, 9] (fun ov i _ _ _ wr => ∃ (k : Nat) (outl : List (List Int)), k ≤ n ∧ i = .int .i64 k ∧ Hid (outl = ldK H k) ∧ Hid (OwnL wr w.heap.size ov outl) ∧ Hid (Below w.heap.size w wr)) (fun _ i _ _ _ _ => n - (intOf i).toNat)
    case atStart => exact ⟨0, [[]], by omega, rfl, Lib.hid rfl, (by have := OwnL.lit1 (w.alloc (.cells #[] 3)) w.heap.size (by simp) (some ⟨w.heap.size, 0, none⟩); rw [World.size_alloc] at this; exact Lib.hid this), Lib.hid ((below1 w _).alloc (by simp) _)⟩
    case round =>
      obtain ⟨k, outl, hk, rfl, hout, hown, hbe⟩ := hrel
      by_cases hlt : k < n
      · have hdec : decide ((k : Int) < n) = true := by simp; omega
        generalize wr = w3 at *
        have hwz := hbe.out.size
        have HST := Lib.hid (show ldK H (k + 1) = stepL (ldK H k) 0 (atM H k k - 1) from rfl)
        rw [← hout.out] at HST
        have hbg := HBIG.out (k + 1) hlt
        rw [HST.out] at hbg
        have HRW := Lib.hid (HROW.out k)
        rw [← hout.out] at HRW
        obtain ⟨len, hlen⟩ : ∃ len, len = outl.length := ⟨_, rfl⟩
        obtain ⟨ao, co, hov, -, -, hco⟩ := hown.out.is.read
        rw [← hlen] at hov
        have HCO := Lib.hid hco
        have HLEN := Lib.hid hlen
        clear hlen hco hown
        subst hov
        obtain ⟨cnt, hcnt⟩ : ∃ c, c = (atM H k k - 1 + 1 - 0).toNat := ⟨_, rfl⟩
        rw [stepL_len, ← hcnt, ← HLEN.out] at hbg
        have hpos := HPO.out k hlt
        have hdia := HDI.out k hlt
        have hb5 := HBIG.out n (Nat.le_refl _)
        have hdx : atM H k k = (cnt : Int) := by omega
        have hlen1 : len ≤ 500 := by have := HBIG.out k hk; rw [← hout.out, ← HLEN.out] at this; exact this
        have hcn : cnt ≤ 500 := by omega
        -- the row of H
        obtain ⟨br, orr, cr, hV, hbr, hcr⟩ := (((HC.out k hlt).2).cases).resolve_left (fun e => by have := HSQ.out.row k hlt; rw [e.1] at this; simp at this; omega) |>.2.2
        rw [HSQ.out.row k hlt] at hV hcr
        have hq1 := (HC.out k hlt).1
        rw [hV] at hq1
        have hq2 := hcr k hlt
        rw [show (H.getD k []).getD k 0 = atM H k k from rfl, hdx] at hq2
        have HQ1 := Lib.hid hq1
        have HQ2 := Lib.hid hq2
        have HCNT := Lib.hid hcnt
        have hbr2 : br < w.heap.size := Nat.lt_of_lt_of_le hbr hw1
        clear hV hcr hq1 hq2 hcnt hdx hdia hpos hb5
        have k0 : (0 : Int) ≤ (k : Int) := by omega
        have k1 : (k : Int) < (n : Int) := by omega
        go_wp2
        go_loopw [7, 8, 9] (fun nv i _ wr => ∃ (i' : Nat) (acc : List (List Int)), i' ≤ len ∧ i = .int .i64 i' ∧ Hid (acc = stepL (outl.take i') 0 (atM H k k - 1)) ∧ Hid (OwnL wr w3.heap.size nv acc) ∧ Hid (Below w3.heap.size w3 wr)) (fun _ i _ _ => len - (intOf i).toNat)
        case atStart => exact ⟨0, [], by omega, rfl, Lib.hid (by simp [stepL]), Lib.hid (OwnL.lit0 w3 _ (Nat.le_refl _)), Lib.hid (below1 w3 _)⟩
        case round =>
          obtain ⟨i, acc, hi', rfl, hacc, hnx, hb3⟩ := hrel
          by_cases hit : i < len
          · have hdec2 : decide ((i : Int) < len) = true := by simp; omega
            generalize wr = w4 at *
            have hz2 := hb3.out.size
            have hil : i < outl.length := by rw [← HLEN.out]; exact hit
            obtain ⟨bo, oo, V0, rfl, hbo, hcc⟩ := HCO.out (by intro e; rw [e] at hil; exact absurd hil (Nat.not_lt_zero _))
            have HQ3 := Lib.hid (hcc i hil).1
            have HRR := Lib.hid (hcc i hil).2
            have hrl : (outl.getD i []).length = k := HRW.out _ (by rw [List.getD_eq_getElem?_getD, List.getElem?_eq_getElem hil]; exact List.getElem_mem hil)
            have HSN := Lib.hid (stepL_snoc outl 0 (atM H k k - 1) i hil)
            rw [← hacc.out, ← HCNT.out] at HSN
            have HAL := Lib.hid (show acc.length = i * cnt by rw [hacc.out, stepL_len, ← HCNT.out, List.length_take, Nat.min_eq_left (by omega)])
            have hmul : i * cnt + cnt ≤ len * cnt := by rw [← Nat.succ_mul]; exact Nat.mul_le_mul_right _ hit
            have HRLN := Lib.hid hrl
            clear hcc hrl
            generalize outl.getD i [] = r at *
            generalize V0 i = xi at *
            go_wp2
            go_loopw [7, 9] (fun nv x wr => ∃ (j : Nat) (acc2 : List (List Int)), j ≤ cnt ∧ x = .int .i64 j ∧ Hid (acc2 = acc ++ longer r 0 j) ∧ Hid (OwnL wr w3.heap.size nv acc2) ∧ Hid (Below w3.heap.size w3 wr)) (fun _ x _ => cnt - (intOf x).toNat)
            case atStart => exact ⟨0, acc, by omega, rfl, Lib.hid (by simp [longer]), hnx, hb3⟩
            case round =>
              obtain ⟨j, acc2, hj, rfl, hacc2, hnx2, hb4⟩ := hrel
              have p3 := (hb4.out.cell (p := ⟨bo, oo + i, none⟩) hbo).trans HQ3.out
              have BW := hbe.out.trans (hb4.out.mono hwz)
              have p1 := (BW.cell (p := ⟨bh, oh + k, none⟩) hbh2).trans HQ1.out
              have p2 := (BW.cell (p := ⟨br, orr + k, none⟩) hbr2).trans HQ2.out
              by_cases hjt : j < cnt
              · have hdec3 : decide ((j : Int) < (cnt : Int)) = true := by simp; omega
                have hal2 : acc2.length < 1000000 := by
                  have h1 := HAL.out
                  have h2 : acc2.length = acc.length + j := by rw [hacc2.out, List.length_append]; simp [longer]
                  omega
                have hls := longer_snoc r 0 j
                rw [Int.zero_add] at hls
                have HSJ := Lib.hid hls
                have hsrc := HRR.out.keep hb4.out (Nat.le_refl _)
                have hz4 := hb4.out.size
                have hrl5 : r.length ≤ 100 := by rw [HRLN.out]; omega
                have hsrc2 := Lib.hid (hsrc.keep (below1 wr (.cells #[] 3)) hz4)
                have CA := below1 wr (.cells #[] 3)
                have p4 := (CA.cell (p := ⟨bo, oo + i, none⟩) (Nat.lt_of_lt_of_le hbo hz4)).trans p3
                clear hsrc hls BW
                go_wp2_with (at_builtin; refine wpList_append_I rfl _ _ rfl rfl rfl (OwnI.lit0 wr wr.heap.size (Nat.le_refl _)) hsrc2.out (by simp; omega) (by simp) ?_)
                intro a4 cp4 w5 ku hg4
                have KU := Lib.hid ku
                have C4 := Lib.hid (CA.grown hg4 (by simp) (fun q hq => by simp [Value.ownBlock] at hq; omega))
                clear ku CA hg4
                go_wp2_with (at_builtin; refine wpList_append_own _ rfl _ _ 30 rfl wr.heap.size 3 j0 (.int .i64 0) 1 8 Try.underlying30 HJ0.out HY0.out HY1.out HY2.out rfl (by decide) _ _ _ rfl (KU.out.alloc _) ⟨w5.heap.size, 0, none⟩ 1 1 [.int .i64 j] rfl rfl ?c1 ?c2 ?c3 ?c4 ?c5 ?_)
                case c1 => exact cell_one_new _ _ _
                case c2 => first | rfl | (intro u hu; simp at hu; subst hu; rfl)
                case c3 => unfold maxLen; omega
                case c4 => omega
                case c5 => have := C4.out.size; first | omega | (simp; omega)
                intro v5 w6 hown5 hgrow5 _
                have HO5 := Lib.hid (OwnI.push hown5)
                have B5 := OwnI.below C4.out C4.out.size _ hgrow5 KU.out (Nat.le_refl _)
                obtain ⟨a5, cp5, hv5⟩ := HO5.out.form
                obtain ⟨n5, hn5⟩ : ∃ n, n = (r ++ [(j : Int)]).length := ⟨_, rfl⟩
                rw [← hn5] at hv5
                subst hv5
                obtain ⟨V6, p6, hpt⟩ := hnx2.out.part B5
                have HPT := Lib.hid hpt
                have hz5 := B5.size
                have HB5 := Lib.hid (below_then hb4.out hz4 B5)
                clear hpt hown5 hgrow5 hn5 B5
                go_wp2_with (at_builtin; refine wpList_append_own _ rfl _ _ 24 rfl w3.heap.size 30 i0 (.slice none 0 0) 1 24 Try.underlying24 HI0.out HZ0.out HZ1.out HZ2.out rfl (by decide) _ _ _ rfl (HPT.out.alloc _) ⟨w6.heap.size, 0, none⟩ 1 1 [.slice a5 n5 cp5] rfl rfl ?c1 ?c2 ?c3 ?c4 ?c5 ?_)
                case c1 => exact cell_one_new _ _ _
                case c2 => first | rfl | (intro u hu; simp at hu; subst hu; rfl)
                case c3 => unfold maxLen; omega
                case c4 => omega
                case c5 => first | omega | (simp; omega)
                intro v6 w7 hown6 hgrow6 _
                have HO6 := Lib.hid (HPT.out.push HO5.out.is (Nat.le_refl _) hz5 (Nat.le_refl _) hgrow6 hown6)
                have HB6 := Lib.hid (OwnLp.below HB5.out (by omega) _ hgrow6 HPT.out (Nat.le_refl _))
                have HEQ := Lib.hid (show acc2 ++ [r ++ [(j : Int)]] = acc ++ longer r 0 (j + 1) by rw [hacc2.out, List.append_assoc, HSJ.out])
                clear hown6 hgrow6
                go_wp2
                go_roundw
                case rel => exact ⟨j + 1, _, by omega, by go_num, HEQ, HO6, HB6⟩
                case measure => simp [intOf]; omega
              · obtain rfl : j = cnt := by omega
                have hdec3 : decide ((j : Int) < (j : Int)) = false := by simp
                have HEQ := Lib.hid (hacc2.out.trans HSN.out)
                clear BW
                go_wp2
                go_roundw
                case rel => exact ⟨i + 1, acc2, by omega, by go_num, HEQ, hnx2, hb4⟩
                case measure => simp [intOf]; omega
          · obtain rfl : i = len := by omega
            have HEQ := Lib.hid (show acc = ldK H (k + 1) by rw [hacc.out, HLEN.out, List.take_length, HST.out])
            have HO := Lib.hid (hnx.out.lower hwz)
            have HB := Lib.hid (hbe.out.trans (hb3.out.mono hwz))
            go_wp2
            go_roundw
            case rel => exact ⟨k + 1, acc, by omega, by go_num, HEQ, HO, HB⟩
            case measure => simp [intOf]; omega
      · obtain rfl : k = n := by omega
        have HO := Lib.hid hown.out
        rw [hout.out] at HO
        obtain ⟨ao, co, hov, -⟩ := HO.out.is
        subst hov
        have BF := Lib.hid (Below.trans B2.out (hbe.out.mono B2.out.size))
        have hz0 := B2.out.size
        go_wp2
        go_ret
        rw [HV.out]
        exact ⟨_, rfl, (HO.out.lower hz0).is, BF.out⟩
end Go.Proofs.Ytehhoplenloocaa
