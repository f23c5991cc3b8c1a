/- The series of the corners of a polygon have the value of its points: plain law. -/
import Derived.Test.YtehhoplenloocaaCrn
import Derived.Test.YtehhoplenloocaaB14
namespace Go.Proofs.Ytehhoplenloocaa
set_option linter.unusedVariables false
set_option linter.unusedSimpArgs false

/-! ### the points of a polygon -/
theorem pol_key {ls : List (List Int)} (hp : isPolyB ls = true) (r : List Int) : r ∈ polL ls ↔ r.length = 2 ∧ inF (pf ls) (ls.length - 1) (ptOf r) := by
  obtain ⟨⟨h3, h12⟩, hf, ht⟩ := poly_parts hp
  have hx := ext_bd h3 hf ls.length (Nat.le_refl _)
  have hloc : Loc ls.length (pf ls) := by
    unfold isPolyB at hp
    rw [Bool.and_eq_true, Bool.and_eq_true] at hp
    exact (locB_iff h3).1 hp.2.2
  unfold polL
  rw [col7_mem]
  constructor
  · rintro ⟨a, ha, h⟩
    obtain ⟨b, hb, h1, rfl⟩ := (row7_mem ls _ _ r _).1 h
    exact ⟨rfl, (plV_nn h3 _).1 h1⟩
  · rintro ⟨hl, hi⟩
    have f := fun A B C hc => fan_lin ht A B C hc (ls.length - 1) (by omega) (by omega) (ptOf r) hi
    have a1 := f 1 0 (-fiF ls) (fun i hi => by
      have : fiF ls ≤ (pf ls i).1 := by
        by_cases e : i = 0
        · subst e; exact Int.le_refl _
        · have := hloc.least i (by omega) hi
          have e0 : (pf ls 0).1 = fiF ls := rfl
          unfold ltP at this
          omega
      omega)
    have a2 := f (-1) 0 (laF ls ls.length) (fun i hi => by have := ext_at ls ls.length i hi; omega)
    have a3 := f 0 1 (-loF ls ls.length) (fun i hi => by have := ext_at ls ls.length i hi; omega)
    have a4 := f 0 (-1) (hiF ls ls.length) (fun i hi => by have := ext_at ls ls.length i hi; omega)
    obtain ⟨x, y, rfl⟩ := lenE2 hl
    have ex : (ptOf [x, y]).1 = x := rfl
    have ey : (ptOf [x, y]).2 = y := rfl
    rw [ex, ey] at a1 a2 a3 a4
    have e1 : fiF ls + ((x - fiF ls).toNat : Int) = x := by omega
    have e2 : loF ls ls.length + ((y - loF ls ls.length).toNat : Int) = y := by omega
    refine ⟨(x - fiF ls).toNat, by omega, (row7_mem ls _ _ _ _).2 ⟨(y - loF ls ls.length).toNat, by omega, ?_, ?_⟩⟩
    · rw [e1, e2]; exact (plV_nn h3 _).2 hi
    · rw [e1, e2]
theorem pol_nodup {ls : List (List Int)} (hp : isPolyB ls = true) : ((polL ls).map ptOf).Nodup := by
  rw [List.nodup_iff_pairwise_ne, List.pairwise_map]
  refine List.Pairwise.imp_of_mem (fun {r s} hr hs hne e => hne ?_) (List.nodup_iff_pairwise_ne.1 (col7_nodup ls _ _ _))
  obtain ⟨x, y, rfl⟩ := lenE2 ((pol_key hp r).1 hr).1
  obtain ⟨x', y', rfl⟩ := lenE2 ((pol_key hp s).1 hs).1
  injection e with e1 e2
  have e1 : x = x' := e1
  have e2 : y = y' := e2
  rw [e1, e2]
theorem pol_mem {ls : List (List Int)} (hp : isPolyB ls = true) (z : Pt) : z ∈ (polL ls).map ptOf ↔ inF (pf ls) (ls.length - 1) z := by
  rw [List.mem_map]
  constructor
  · rintro ⟨r, hr, rfl⟩; exact ((pol_key hp r).1 hr).2
  · intro hz
    exact ⟨[z.1, z.2], (pol_key hp _).2 ⟨rfl, hz⟩, rfl⟩

/-! ### the value of a list of points -/
def ptF (L : List Pt) : ZF := fun a b => (L.map fun z => dlF z.1 z.2 a b).sum
theorem fv_pts (μ : ZF) : ∀ L : List Pt, FV μ (ptF L) ((L.map fun z => μ z.1 z.2).sum)
  | [] => FV.zero μ
  | z :: L => by
    have a := (FV.point (μ := μ) z.1 z.2).add (fv_pts μ L)
    have e : (fun a b => dlF z.1 z.2 a b + ptF L a b) = ptF (z :: L) := by
      funext a b; unfold ptF; rw [List.map_cons, List.sum_cons]
    rw [e] at a
    rw [List.map_cons, List.sum_cons]; exact a
open Classical in
theorem ptF_ind : ∀ (L : List Pt), L.Nodup → ∀ a b, ptF L a b = if (a, b) ∈ L then 1 else 0
  | [], _, a, b => by simp [ptF]
  | z :: L, h, a, b => by
    obtain ⟨h1, h2⟩ := List.nodup_cons.1 h
    have ih := ptF_ind L h2 a b
    have e : ptF (z :: L) a b = dlF z.1 z.2 a b + ptF L a b := by unfold ptF; rw [List.map_cons, List.sum_cons]
    rw [e, ih]
    unfold dlF
    by_cases hz : (a, b) = z
    · subst hz
      rw [if_pos ⟨rfl, rfl⟩, if_neg h1, if_pos (by simp)]; rfl
    · have hz' : ¬ (a = z.1 ∧ b = z.2) := fun ⟨x, y⟩ => hz (Prod.ext x y)
      rw [if_neg hz']
      have : (a, b) ∈ z :: L ↔ (a, b) ∈ L := by simp [hz]
      simp only [this]; omega
theorem accP_cg (ls : List (List Int)) (s u : Int) : ∀ k, k ≤ ls.length → Cg (accP ls s u k) ((ls.take k).map fun X => monI X s u).sum
  | 0, _ => Cg.refl _
  | k + 1, hk => by
    rw [accP, List.take_succ_eq_append_getElem (by omega), List.map_append, List.sum_append, List.getD_eq_getElem?_getD, List.getElem?_eq_getElem (show k < ls.length by omega)]
    refine (Cg.mod _).trans ((accP_cg ls s u k (by omega)).add (Cg.of_eq ?_))
    simp

/-! ### the corners -/
theorem prim_scale {a b : Int} (h : 1 ≤ gcdL [a, b]) : ∃ g : Int, 0 < g ∧ a = g * (ptOf (primQ [a, b])).1 ∧ b = g * (ptOf (primQ [a, b])).2 := by
  refine ⟨gcdL [a, b], by omega, ?_⟩
  have hg : gcdL [a, b] = (Int.gcd a b : Int) := by rw [gcdL_pair]; rfl
  have d1 : gcdL [a, b] ∣ a := by rw [hg]; exact Int.gcd_dvd_left ..
  have d2 : gcdL [a, b] ∣ b := by rw [hg]; exact Int.gcd_dvd_right ..
  have e1 : (ptOf (primQ [a, b])).1 = a.tdiv (max (gcdL [a, b]) 1) := rfl
  have e2 : (ptOf (primQ [a, b])).2 = b.tdiv (max (gcdL [a, b]) 1) := rfl
  rw [e1, e2, show max (gcdL [a, b]) 1 = gcdL [a, b] by omega]
  exact ⟨(Int.mul_tdiv_cancel' d1).symm, (Int.mul_tdiv_cancel' d2).symm⟩
theorem sgn_scale {g x y : Int} (hg : 0 < g) (h : y = g * x) : 0 ≤ x ↔ 0 ≤ y := by
  rw [h]
  constructor
  · intro k; exact Int.mul_nonneg (by omega) k
  · intro k
    rcases Int.lt_or_le x 0 with c | c
    · have := Int.mul_neg_of_pos_of_neg hg c; omega
    · exact c
def hK (n : Nat) (p : Nat → Pt) (z : Pt) (k : Nat) : Int := i1 (tn (p k) (p ((k + 1) % n)) z)
theorem sideA_sgn {ls : List (List Int)} (hp : isPolyB ls = true) {k : Nat} (hk : k < ls.length) (z : Pt) : 0 ≤ crossP (ptOf (primQ (sideA ls k))) (zP (pf ls k) z.1 z.2) ↔ 0 ≤ tn (pf ls k) (pf ls ((k + 1) % ls.length)) z := by
  obtain ⟨g, h0, e1, e2⟩ := prim_scale (a := (ls.getD ((k + 1) % ls.length) []).getD 0 0 - (ls.getD k []).getD 0 0) (b := (ls.getD ((k + 1) % ls.length) []).getD 1 0 - (ls.getD k []).getD 1 0) (sideA_pos hp hk)
  refine sgn_scale h0 ?_
  have e1 : (pf ls ((k + 1) % ls.length)).1 - (pf ls k).1 = g * (ptOf (primQ (sideA ls k))).1 := e1
  have e2 : (pf ls ((k + 1) % ls.length)).2 - (pf ls k).2 = g * (ptOf (primQ (sideA ls k))).2 := e2
  generalize ptOf (primQ (sideA ls k)) = U at *
  generalize pf ls ((k + 1) % ls.length) = q at *
  generalize pf ls k = p at *
  unfold tn zP crossP subP; dsimp only
  rw [e1, e2]; grind
theorem sideB_sgn {ls : List (List Int)} (hp : isPolyB ls = true) {k : Nat} (hk : k < ls.length) (z : Pt) : 0 ≤ crossP (zP (pf ls k) z.1 z.2) (ptOf (primQ (sideB ls k))) ↔ 0 ≤ tn (pf ls ((k + ls.length - 1) % ls.length)) (pf ls k) z := by
  obtain ⟨g, h0, e1, e2⟩ := prim_scale (a := (ls.getD ((k + ls.length - 1) % ls.length) []).getD 0 0 - (ls.getD k []).getD 0 0) (b := (ls.getD ((k + ls.length - 1) % ls.length) []).getD 1 0 - (ls.getD k []).getD 1 0) (sideB_pos hp hk)
  refine sgn_scale h0 ?_
  have e1 : (pf ls ((k + ls.length - 1) % ls.length)).1 - (pf ls k).1 = g * (ptOf (primQ (sideB ls k))).1 := e1
  have e2 : (pf ls ((k + ls.length - 1) % ls.length)).2 - (pf ls k).2 = g * (ptOf (primQ (sideB ls k))).2 := e2
  generalize ptOf (primQ (sideB ls k)) = U at *
  generalize pf ls ((k + ls.length - 1) % ls.length) = q at *
  generalize pf ls k = p at *
  have q1 : q.1 = p.1 + g * U.1 := by omega
  have q2 : q.2 = p.2 + g * U.2 := by omega
  unfold tn zP crossP subP; dsimp only
  rw [q1, q2]; grind
def cnA (ls : List (List Int)) (k : Nat) : ZF := cnF (ptOf (primQ (sideA ls k))) (ptOf (primQ (sideB ls k))) (pf ls k)
def hfA (ls : List (List Int)) (k : Nat) : ZF := hfF (ptOf (primQ (sideA ls k))) (pf ls k)
theorem hfA_at {ls : List (List Int)} (hp : isPolyB ls = true) {k : Nat} (hk : k < ls.length) (a b : Int) : hfA ls k a b = i1 (tn (pf ls k) (pf ls ((k + 1) % ls.length)) (a, b)) := by
  unfold hfA hfF i1
  have := sideA_sgn hp hk (a, b)
  simp only [this]
theorem cnA_at {ls : List (List Int)} (hp : isPolyB ls = true) {k : Nat} (hk : k < ls.length) (a b : Int) : cnA ls k a b = i1 (tn (pf ls k) (pf ls ((k + 1) % ls.length)) (a, b)) * i1 (tn (pf ls ((k + ls.length - 1) % ls.length)) (pf ls k) (a, b)) := by
  unfold cnA cnF i1
  have h1 := sideA_sgn hp hk (a, b)
  have h2 := sideB_sgn hp hk (a, b)
  simp only [h1, h2]
  split <;> split <;> split <;> first | rfl | (exfalso; omega)
theorem hfA_sum {ls : List (List Int)} (hp : isPolyB ls = true) (a b : Int) : ∀ k, k + 1 ≤ ls.length → sumG (fun j => hfA ls j a b) k = grS (eH (pf ls) (a, b)) k
  | 0, _ => rfl
  | k + 1, hk => by
    rw [sumG, grS, hfA_sum hp a b k (by omega), hfA_at hp (by omega), Nat.mod_eq_of_lt (show k + 1 < ls.length by omega)]; rfl
theorem cnA_sum {ls : List (List Int)} (hp : isPolyB ls = true) (a b : Int) : ∀ k, k + 2 ≤ ls.length → sumG (fun j => cnA ls j a b) (k + 1) = i1 (tn (pf ls (ls.length - 1)) (pf ls 0) (a, b)) * eH (pf ls) (a, b) 0 + grC (eH (pf ls) (a, b)) k
  | 0, hk => by
    rw [sumG, sumG, cnA_at hp (by omega), grC, Nat.mod_eq_of_lt (show 0 + 1 < ls.length by omega), show 0 + ls.length - 1 = ls.length - 1 by omega, Nat.mod_eq_of_lt (show ls.length - 1 < ls.length by omega)]
    rw [show eH (pf ls) (a, b) 0 = i1 (tn (pf ls 0) (pf ls (0 + 1)) (a, b)) from rfl, Int.mul_comm]; omega
  | k + 1, hk => by
    rw [sumG, cnA_sum hp a b k (by omega), cnA_at hp (by omega), grC, Nat.mod_eq_of_lt (show k + 1 + 1 < ls.length by omega), show k + 1 + ls.length - 1 = k + ls.length by omega, Nat.add_mod_right, Nat.mod_eq_of_lt (show k < ls.length by omega)]
    rw [show eH (pf ls) (a, b) (k + 1) = i1 (tn (pf ls (k + 1)) (pf ls (k + 1 + 1)) (a, b)) from rfl, show eH (pf ls) (a, b) k = i1 (tn (pf ls k) (pf ls (k + 1)) (a, b)) from rfl, Int.mul_comm (i1 (tn (pf ls (k + 1)) (pf ls (k + 1 + 1)) (a, b)))]; omega
open Classical in
/-- Gram's identity for the cones of a polygon -/
theorem gram_all {ls : List (List Int)} (hp : isPolyB ls = true) (a b : Int) : sumG (fun j => cnA ls j a b) ls.length + -1 * sumG (fun j => hfA ls j a b) ls.length + 1 = if inF (pf ls) (ls.length - 1) (a, b) then 1 else 0 := by
  obtain ⟨⟨h3, -⟩, -, ht⟩ := poly_parts hp
  rw [← gram ht (ls.length - 1) (by omega) (by omega)]
  obtain ⟨m, hm⟩ : ∃ m, ls.length = m + 3 := ⟨ls.length - 3, by omega⟩
  have c1 := cnA_sum hp a b (m + 1) (by omega)
  have c2 := cnA_at hp (k := m + 2) (by omega) a b
  have s1 := hfA_sum hp a b (m + 2) (by omega)
  have s2 := hfA_at hp (k := m + 2) (by omega) a b
  rw [hm] at c1 c2 s2 ⊢
  rw [show m + 3 - 1 = m + 2 by omega] at *
  rw [show m + 2 + 1 = m + 3 by omega, Nat.mod_self] at c2 s2
  rw [show m + 2 + (m + 3) - 1 = m + 1 + (m + 3) by omega, Nat.add_mod_right, Nat.mod_eq_of_lt (show m + 1 < m + 3 by omega)] at c2
  rw [show sumG (fun j => cnA ls j a b) (m + 3) = sumG (fun j => cnA ls j a b) (m + 1 + 1) + cnA ls (m + 2) a b from rfl, show sumG (fun j => hfA ls j a b) (m + 3) = sumG (fun j => hfA ls j a b) (m + 2) + hfA ls (m + 2) a b from rfl, c1, c2, s1, s2]
  unfold grG
  rw [show m + 2 - 1 = m + 1 by omega, show i1 (tn (pf ls (m + 1)) (pf ls (m + 2)) (a, b)) = eH (pf ls) (a, b) (m + 1) from rfl, Int.mul_comm (eH (pf ls) (a, b) (m + 1))]
  omega
section
variable {s u : Int} (hs : inB s 1 10006 = true) (hu : inB u 1 10006 = true)
include hs hu
/-- the series of the first k corners -/
theorem cor_vl {ls : List (List Int)} (hp : isPolyB ls = true) (hc : ctAll ls ls.length = true) (ht : ∀ t, t ∈ ctK ls ls.length → tvB s u t = true) : ∀ k, k ≤ ls.length →
    Vl (mnF s u) (fun a b => sumG (fun j => cnA ls j a b) k) ((ctK ls k).map (tvS s u)).sum ∧ Vl (mnF s u) (fun a b => sumG (fun j => hfA ls j a b) k) 0
  | 0, _ => ⟨Vl.zero, Vl.zero⟩
  | k + 1, hk => by
    obtain ⟨i1, i2⟩ := cor_vl hp hc ht k (by omega)
    have m := mn_mono hs hu
    have hsub : ∀ j, j ≤ ls.length → ∀ t, t ∈ ctK ls j → tvB s u t = true := by
      intro j hj t htj
      obtain ⟨d, hd⟩ : ∃ d, ls.length = j + d := ⟨ls.length - j, by omega⟩
      refine ht t ?_
      rw [hd]
      clear hd hj
      induction d with
      | zero => exact htj
      | succ d ih => rw [← Nat.add_assoc, ctK]; exact List.mem_append.2 (.inl ih)
    have hok : ctOk ls k = true := List.all_eq_true.1 hc k (List.mem_range.2 (by omega))
    unfold ctOk at hok
    rw [Bool.and_eq_true] at hok
    obtain ⟨o1, o2⟩ := hok
    have hcok : corOk ls (k : Int) = true := by
      cases h : corOk ls (k : Int)
      · rw [corV_no h] at o1; cases o1
      · rfl
    have hcv := corV_yes hcok
    rw [show ((k : Nat) : Int).toNat = k by omega] at hcv
    have hcone : coneB (primQ (sideA ls k)) (primQ (sideB ls k)) = true := by
      unfold corOk at hcok
      rw [show ((k : Nat) : Int).toNat = k by omega] at hcok
      simp only [Bool.and_eq_true] at hcok
      exact hcok.2.2
    have hS : ctS ls k = serC (primQ (sideA ls k)) (primQ (sideB ls k)) (ls.getD k []) := by unfold ctS; rw [hcv]
    have hso : serOk (splitC (primQ (sideA ls k)) (primQ (sideB ls k))) (ls.getD k []) = true := by
      cases h : serOk (splitC (primQ (sideA ls k)) (primQ (sideB ls k))) (ls.getD k [])
      · rw [hS, serC_no h] at o2; cases o2
      · rfl
    rw [serC_yes hso] at hS
    have hb := poly_bd hp (i := k) (by omega)
    have hb1 : -50 ≤ (ls.getD k []).getD 0 0 ∧ (ls.getD k []).getD 0 0 ≤ 50 := hb.1
    have hb2 : -50 ≤ (ls.getD k []).getD 1 0 ∧ (ls.getD k []).getD 1 0 ≤ 50 := hb.2
    obtain ⟨v1, v2⟩ := ser_all hs hu (sh := ls.getD k []) hcone ⟨by omega, by omega⟩ fun t h => hsub (k + 1) hk t (by
      rw [ctK, hS]; exact List.mem_append.2 (.inr h))
    constructor
    · have e : ctK ls (k + 1) = ctK ls k ++ serL (splitC (primQ (sideA ls k)) (primQ (sideB ls k))) (ls.getD k []) := by rw [ctK, hS]
      rw [e, List.map_append, List.sum_append]
      exact (i1.add m v1).fn fun a b => rfl
    · exact ((i2.add m (val_half v2)).fn fun a b => rfl).cg (Cg.of_eq (by omega))
/-- the unit of the first corner -/
theorem cor_unit {ls : List (List Int)} (hp : isPolyB ls = true) (hc : ctAll ls ls.length = true) (ht : ∀ t, t ∈ ctK ls ls.length → tvB s u t = true) : Vl (mnF s u) (fun _ _ => 1) 0 := by
  have h3 := (poly_parts hp).1.1
  have hok : ctOk ls 0 = true := List.all_eq_true.1 hc 0 (List.mem_range.2 (by omega))
  unfold ctOk at hok
  rw [Bool.and_eq_true] at hok
  obtain ⟨o1, o2⟩ := hok
  have hcok : corOk ls ((0 : Nat) : Int) = true := by
    cases h : corOk ls ((0 : Nat) : Int)
    · rw [corV_no h] at o1; cases o1
    · rfl
  have hcv := corV_yes hcok
  rw [show ((0 : Nat) : Int).toNat = 0 by omega] at hcv
  have hcone : coneB (primQ (sideA ls 0)) (primQ (sideB ls 0)) = true := by
    unfold corOk at hcok
    rw [show ((0 : Nat) : Int).toNat = 0 by omega] at hcok
    simp only [Bool.and_eq_true] at hcok
    exact hcok.2.2
  have hS : ctS ls 0 = serC (primQ (sideA ls 0)) (primQ (sideB ls 0)) (ls.getD 0 []) := by unfold ctS; rw [hcv]
  have hso : serOk (splitC (primQ (sideA ls 0)) (primQ (sideB ls 0))) (ls.getD 0 []) = true := by
    cases h : serOk (splitC (primQ (sideA ls 0)) (primQ (sideB ls 0))) (ls.getD 0 [])
    · rw [hS, serC_no h] at o2; cases o2
    · rfl
  rw [serC_yes hso] at hS
  have hb := poly_bd hp (i := 0) (by omega)
  have hb1 : -50 ≤ (ls.getD 0 []).getD 0 0 ∧ (ls.getD 0 []).getD 0 0 ≤ 50 := hb.1
  have hb2 : -50 ≤ (ls.getD 0 []).getD 1 0 ∧ (ls.getD 0 []).getD 1 0 ≤ 50 := hb.2
  have hin : ∀ d t, t ∈ ctK ls 1 → t ∈ ctK ls (1 + d) := by
    intro d t h
    induction d with
    | zero => exact h
    | succ d ih => rw [← Nat.add_assoc, ctK]; exact List.mem_append.2 (.inl ih)
  obtain ⟨v1, v2⟩ := ser_all hs hu (sh := ls.getD 0 []) hcone ⟨by omega, by omega⟩ fun t h => ht t (by
    have := hin (ls.length - 1) t (by rw [ctK, ctK, hS]; exact List.mem_append.2 (.inr h))
    rwa [show 1 + (ls.length - 1) = ls.length by omega] at this)
  exact val_all v2
end
/-- the corners' series and the points have the same value -/
theorem crn_law {ls : List (List Int)} (hp : isPolyB ls = true) (hc : ctAll ls ls.length = true) {s u : Int} (h1 : (serV (ctK ls ls.length) s u).2 = true) (h2 : (ptsV (polL ls) s u).2 = true) :
    (ptsV (polL ls) s u).1 = (serV (ctK ls ls.length) s u).1 := by
  obtain ⟨h60, hal, e1⟩ : (ctK ls ls.length).length ≤ 60 ∧ (∀ i, i < (ctK ls ls.length).length → tvB s u ((ctK ls ls.length).getD i t0) = true) ∧ (serV (ctK ls ls.length) s u).1 = serVk (ctK ls ls.length) s u (ctK ls ls.length).length := by
    generalize ctK ls ls.length = ts at *
    unfold serV at h1 ⊢
    split at h1
    · rename_i h
      rw [if_pos h]
      simp only [Bool.and_eq_true, decide_eq_true_eq, List.all_eq_true, List.mem_range] at h
      exact ⟨h.1, h.2, rfl⟩
    · cases h1
  obtain ⟨hs, hu, hg, e2⟩ : inB s 1 10006 = true ∧ inB u 1 10006 = true ∧ (∀ X, X ∈ polL ls → goodR X = true) ∧ (ptsV (polL ls) s u).1 = accP (polL ls) s u (polL ls).length := by
    generalize polL ls = ps at *
    unfold ptsV at h2 ⊢
    split at h2
    · rename_i h
      rw [if_pos h]
      simp only [Bool.and_eq_true, List.all_eq_true] at h
      exact ⟨h.1.1, h.1.2, h.2, rfl⟩
    · cases h2
  have ht : ∀ t, t ∈ ctK ls ls.length → tvB s u t = true := fun t h => by
    obtain ⟨i, hi, rfl⟩ := List.mem_iff_getElem.1 h
    have := hal i hi
    rwa [List.getD_eq_getElem?_getD, List.getElem?_eq_getElem hi] at this
  have m := mn_mono hs hu
  obtain ⟨v1, v2⟩ := cor_vl hs hu hp hc ht ls.length (Nat.le_refl _)
  have v3 := cor_unit hs hu hp hc ht
  have a := (v1.add m (v2.smul (-1))).add m v3
  have b : Vl (mnF s u) (ptF ((polL ls).map ptOf)) ((((polL ls).map ptOf).map fun z => mnF s u z.1 z.2).sum) := Vl.of_fv (fv_pts _ _)
  have a := a.fn (g := ptF ((polL ls).map ptOf)) fun x y => by
    rw [ptF_ind _ (pol_nodup hp)]
    have gx := gram_all hp x y
    by_cases hz : inF (pf ls) (ls.length - 1) (x, y)
    · rw [if_pos hz] at gx; rw [if_pos ((pol_mem hp _).2 hz)]; exact gx
    · rw [if_neg hz] at gx; rw [if_neg (fun h => hz ((pol_mem hp _).1 h))]; exact gx
  have c := Vl.unique m a b
  have c1 := serVk_cg (ctK ls ls.length) s u (ctK ls ls.length).length (Nat.le_refl _)
  have c2 := accP_cg (polL ls) s u (polL ls).length (Nat.le_refl _)
  rw [List.take_length] at c1 c2
  have c3 : ((((polL ls).map ptOf).map fun z => mnF s u z.1 z.2)) = (polL ls).map fun X => monI X s u := by
    rw [List.map_map]
    refine List.map_congr_left fun X hX => ?_
    obtain ⟨g1, g2⟩ := goodR_of (hg X hX)
    have b0 := allIn_at g2 0 (by omega)
    have b1 := allIn_at g2 1 (by omega)
    exact (mon_at hs hu (by omega) (by omega)).symm
  rw [c3] at c
  rw [e1, e2]
  have bd : ∀ k, 0 ≤ accP (polL ls) s u k ∧ accP (polL ls) s u k < 10007 := fun k => by
    cases k with
    | zero => simp [accP]
    | succ k => rw [accP]; omega
  refine Cg.eq (c2.trans ((c.symm.trans ?_).trans c1.symm)) (bd _) (serVk_bd _ _ _ _)
  exact Cg.of_eq (by omega)
end Go.Proofs.Ytehhoplenloocaa
