/- The corners of a polygon add up to its points, modulo 10007: plain law. -/
import Derived.Test.YtehhoplenloocaaVal
import Derived.Test.YtehhoplenloocaaGram
import Derived.Test.YtehhoplenloocaaCns
import Derived.Test.YtehhoplenloocaaCTer
import Derived.Test.YtehhoplenloocaaB14
namespace Go.Proofs.Ytehhoplenloocaa
set_option linter.unusedVariables false
set_option linter.unusedSimpArgs false

/-! ### monomials -/
def mnF (s u : Int) : ZF := fun a b => (pmN s.toNat (a % 10006).toNat : Int) * (pmN u.toNat (b % 10006).toNat : Int)
theorem pm_split {s : Int} (h1 : 1 ≤ s) (h2 : s ≤ 10006) (a c : Int) : Cg (pmN s.toNat ((a + c) % 10006).toNat : Int) ((pmN s.toNat (a % 10006).toNat : Int) * (pmN s.toNat (c % 10006).toNat : Int)) := by
  have e : pmN s.toNat ((a + c) % 10006).toNat = pmN s.toNat ((a % 10006).toNat + (c % 10006).toNat) := pmN_cong _ _ _ (by omega) (by omega) (by omega)
  rw [e, pmN_add]
  generalize pmN s.toNat (a % 10006).toNat = x
  generalize pmN s.toNat (c % 10006).toNat = y
  rw [← Int.natCast_mul]
  generalize x * y = z
  exact cg_iff.2 (by omega)
theorem mn_mono {s u : Int} (hs : inB s 1 10006 = true) (hu : inB u 1 10006 = true) : Mono (mnF s u) := by
  rw [inB_iff] at hs hu
  refine ⟨?_, fun a b c d => ?_⟩
  · have e : ∀ x, pmN x ((0 : Int) % 10006).toNat = 1 := fun x => by
      rw [show ((0 : Int) % 10006).toNat = 0 by decide]; unfold pmN; rw [Nat.pow_zero]
    unfold mnF
    rw [e, e]; exact Cg.refl _
  · exact ((pm_split hs.1 hs.2 a c).mul (pm_split hu.1 hu.2 b d)).trans (Cg.of_eq (by unfold mnF; grind))
theorem powP_at {s n : Int} (hs : inB s 1 10006 = true) (hn : -1000000 ≤ n ∧ n ≤ 1000000) : powP s n = (pmN s.toNat (n % 10006).toNat : Int) := by
  unfold powP; rw [hs, inB_iff.2 hn]; rfl
theorem mon_at {s u : Int} (hs : inB s 1 10006 = true) (hu : inB u 1 10006 = true) {X : List Int} (h0 : -1000000 ≤ X.getD 0 0 ∧ X.getD 0 0 ≤ 1000000) (h1 : -1000000 ≤ X.getD 1 0 ∧ X.getD 1 0 ≤ 1000000) : monI X s u = mnF s u (ptOf X).1 (ptOf X).2 := by
  unfold monI mnF
  rw [powP_at hs h0, powP_at hu h1]; rfl

/-! ### cones and rays -/
def zP (p : Pt) (a b : Int) : Pt := subP (a, b) p
def cnF (u v p : Pt) : ZF := fun a b => if 0 ≤ crossP u (zP p a b) ∧ 0 ≤ crossP (zP p a b) v then 1 else 0
def ryF (u v p : Pt) : ZF := fun a b => if crossP u (zP p a b) = 0 ∧ 0 ≤ crossP (zP p a b) v then 1 else 0
def hfF (u p : Pt) : ZF := fun a b => if 0 ≤ crossP u (zP p a b) then 1 else 0
theorem cross_self (u : Pt) : crossP u u = 0 := by unfold crossP; rw [Int.mul_comm]; omega
theorem zP_sub (u p g : Pt) (a b : Int) : crossP u (zP p (a - g.1) (b - g.2)) = crossP u (zP p a b) - crossP u g := by unfold zP crossP subP; grind
theorem zP_sub2 (v p g : Pt) (a b : Int) : crossP (zP p (a - g.1) (b - g.2)) v = crossP (zP p a b) v - crossP g v := by unfold zP crossP subP; grind
theorem at_point {u v p : Pt} (h : crossP u v = 1) (a b : Int) : (crossP u (zP p a b) = 0 ∧ crossP (zP p a b) v = 0) ↔ a = p.1 ∧ b = p.2 := by
  constructor
  · rintro ⟨h1, h2⟩
    have e1 : (zP p a b).1 = u.1 * crossP (zP p a b) v + v.1 * crossP u (zP p a b) := by
      have : (zP p a b).1 = (zP p a b).1 * crossP u v := by rw [h, Int.mul_one]
      rw [this]; unfold crossP; grind
    have e2 : (zP p a b).2 = u.2 * crossP (zP p a b) v + v.2 * crossP u (zP p a b) := by
      have : (zP p a b).2 = (zP p a b).2 * crossP u v := by rw [h, Int.mul_one]
      rw [this]; unfold crossP; grind
    rw [h1, h2] at e1 e2
    have e1 : a - p.1 = u.1 * 0 + v.1 * 0 := e1
    have e2 : b - p.2 = u.2 * 0 + v.2 * 0 := e2
    omega
  · rintro ⟨rfl, rfl⟩
    unfold zP crossP subP; dsimp only
    constructor <;> simp
section
variable {μ : ZF}
theorem val_ray {u v p : Pt} (h : crossP u v = 1) (hu : unitC (denF μ u)) {x : Int} (e : Cg (denF μ u * x) (μ p.1 p.2)) : Vl μ (ryF u v p) x := by
  refine Vl.of_df u hu (c := μ p.1 p.2) ((Vl.of_fv (FV.point p.1 p.2)).fn fun a b => ?_) e
  unfold Df ryF dlF
  rw [zP_sub, zP_sub2, cross_self, h]
  have k := at_point (p := p) h a b
  generalize crossP u (zP p a b) = x at *
  generalize crossP (zP p a b) v = y at *
  split <;> split <;> split <;> first | omega | (exfalso; omega)
theorem val_cone {u v p : Pt} (h : crossP u v = 1) (hu : unitC (denF μ u)) (hv : unitC (denF μ v)) {x y : Int} (e1 : Cg (denF μ v * x) y) (e2 : Cg (denF μ u * y) (μ p.1 p.2)) : Vl μ (cnF u v p) x := by
  refine Vl.of_df v hv (c := y) ((val_ray h hu e2).fn fun a b => ?_) e1
  unfold Df ryF cnF
  rw [zP_sub, zP_sub2, cross_self, h]
  generalize crossP u (zP p a b) = x at *
  generalize crossP (zP p a b) v = y at *
  split <;> split <;> split <;> first | omega | (exfalso; omega)
theorem val_half {u p : Pt} (hu : unitC (denF μ u)) : Vl μ (hfF u p) 0 := by
  refine Vl.none u hu fun a b => ?_
  unfold hfF
  rw [zP_sub, cross_self, Int.sub_zero]
theorem val_all {u : Pt} (hu : unitC (denF μ u)) : Vl μ (fun _ _ => 1) 0 := Vl.none u hu fun _ _ => rfl
end
theorem cn_split {u v w p : Pt} (h1 : 0 < crossP u v) (h2 : 0 < crossP u w) (h3 : 0 < crossP v w) (a b : Int) : cnF u v p a b + cnF v w p a b + -1 * ryF v w p a b = cnF u w p a b := by
  have r := prop_signs (c1 := crossP u v) (c2 := crossP u w) (c3 := crossP v w) (f0 := crossP u (zP p a b)) (f1 := crossP v (zP p a b)) (f2 := crossP (zP p a b) w) h1 h2 h3 (by unfold crossP; grind)
  have e : crossP (zP p a b) v = -crossP v (zP p a b) := by unfold crossP; grind
  unfold cnF ryF
  rw [e]
  generalize crossP u (zP p a b) = x at *
  generalize crossP v (zP p a b) = y at *
  generalize crossP (zP p a b) w = z at *
  split <;> split <;> split <;> split <;> first | omega | (exfalso; omega)

/-! ### the terms of one corner -/
def sumG (f : Nat → Int) : Nat → Int
  | 0 => 0
  | k + 1 => sumG f k + f k
theorem sumG_range (f : Nat → Int) : ∀ n, ((List.range n).map f).sum = sumG f n
  | 0 => rfl
  | n + 1 => by rw [List.range_succ, List.map_append, List.sum_append, sumG_range f n]; simp [sumG]
def tvS (s u : Int) (t : TermL) : Int := (termV t.1 t.2.1 t.2.2 s u).1
def tvB (s u : Int) (t : TermL) : Bool := (termV t.1 t.2.1 t.2.2 s u).2
theorem serVk_cg (ts : List TermL) (s u : Int) : ∀ k, k ≤ ts.length → Cg (serVk ts s u k) ((ts.take k).map (tvS s u)).sum
  | 0, _ => Cg.refl _
  | k + 1, hk => by
    rw [serVk, List.take_succ_eq_append_getElem (by omega), List.map_append, List.sum_append, List.getD_eq_getElem?_getD, List.getElem?_eq_getElem (show k < ts.length by omega)]
    refine (Cg.mod _).trans ((serVk_cg ts s u k (by omega)).add (Cg.of_eq ?_))
    simp [tvS]
section
variable {s u : Int} (hs : inB s 1 10006 = true) (hu : inB u 1 10006 = true)
include hs hu
theorem fac_cg {g : List Int} (h0 : -1000000 ≤ g.getD 0 0 ∧ g.getD 0 0 ≤ 1000000) (h1 : -1000000 ≤ g.getD 1 0 ∧ g.getD 1 0 ≤ 1000000) : Cg (denF (mnF s u) (ptOf g)) (facI g s u) := by
  unfold denF facI
  rw [← mon_at hs hu h0 h1]
  generalize monI g s u = m
  exact cg_iff.2 (by omega)
theorem fac_unit {g : List Int} (h0 : -1000000 ≤ g.getD 0 0 ∧ g.getD 0 0 ≤ 1000000) (h1 : -1000000 ≤ g.getD 1 0 ∧ g.getD 1 0 ≤ 1000000) (h : facI g s u ≠ 0) : unitC (denF (mnF s u) (ptOf g)) := by
  refine unit_cg (fac_cg hs hu h0 h1) ?_
  have := facI_bd g s u
  unfold unitC; omega
theorem fac_step {g : List Int} (h0 : -1000000 ≤ g.getD 0 0 ∧ g.getD 0 0 ≤ 1000000) (h1 : -1000000 ≤ g.getD 1 0 ∧ g.getD 1 0 ≤ 1000000) (h : facI g s u ≠ 0) (x : Int) : Cg (denF (mnF s u) (ptOf g) * (x * powP (facI g s u) (-1) % 10007)) x := by
  have b := facI_bd g s u
  have a := (fac_cg hs hu h0 h1).mul (Cg.mod (x * powP (facI g s u) (-1)))
  refine a.trans ?_
  have i := inv_pow (f := facI g s u) (by omega) (by omega)
  have j := (Cg.refl x).mul i
  rw [Int.mul_one] at j
  exact (Cg.of_eq (by grind)).trans j
omit hs hu in
theorem termV_parts {t : TermL} (h : tvB s u t = true) : (∀ g, g ∈ t.2.2 → facI g s u ≠ 0) ∧ tvS s u t = tvK t.1 t.2.1 t.2.2 s u t.2.2.length := by
  unfold tvB tvS at *
  unfold termV at *
  split at h
  · rename_i hc
    rw [if_pos hc]
    simp only [Bool.and_eq_true, List.all_eq_true, decide_eq_true_eq] at hc
    exact ⟨hc.2, rfl⟩
  · cases h
theorem val_pos {sh : List Int} {g1 g2 : List Int} (hsh : (-1000000 ≤ sh.getD 0 0 ∧ sh.getD 0 0 ≤ 1000000) ∧ (-1000000 ≤ sh.getD 1 0 ∧ sh.getD 1 0 ≤ 1000000))
    (h1 : (-1000000 ≤ g1.getD 0 0 ∧ g1.getD 0 0 ≤ 1000000) ∧ (-1000000 ≤ g1.getD 1 0 ∧ g1.getD 1 0 ≤ 1000000)) (h2 : (-1000000 ≤ g2.getD 0 0 ∧ g2.getD 0 0 ≤ 1000000) ∧ (-1000000 ≤ g2.getD 1 0 ∧ g2.getD 1 0 ≤ 1000000))
    (hc : crossP (ptOf g1) (ptOf g2) = 1) (ht : tvB s u (1, sh, [g1, g2]) = true) : Vl (mnF s u) (cnF (ptOf g1) (ptOf g2) (ptOf sh)) (tvS s u (1, sh, [g1, g2])) := by
  obtain ⟨hf, hv⟩ := termV_parts ht
  have f1 := hf g1 (by simp)
  have f2 := hf g2 (by simp)
  rw [hv]
  show Vl _ _ (tvK 1 sh [g1, g2] s u 2)
  have e2 : tvK 1 sh [g1, g2] s u 2 = tvK 1 sh [g1, g2] s u 1 * powP (facI g2 s u) (-1) % 10007 := rfl
  have e1 : tvK 1 sh [g1, g2] s u 1 = tvK 1 sh [g1, g2] s u 0 * powP (facI g1 s u) (-1) % 10007 := rfl
  have e0 : tvK 1 sh [g1, g2] s u 0 = monI sh s u % 10007 := rfl
  refine val_cone hc (fac_unit hs hu h1.1 h1.2 f1) (fac_unit hs hu h2.1 h2.2 f2) (y := tvK 1 sh [g1, g2] s u 1) ?_ ?_
  · rw [e2]; exact fac_step hs hu h2.1 h2.2 f2 _
  · rw [e1]
    refine (fac_step hs hu h1.1 h1.2 f1 _).trans ?_
    rw [e0, ← mon_at hs hu hsh.1 hsh.2]
    exact Cg.mod _
theorem val_neg {sh : List Int} {g1 : List Int} (w : Pt) (hsh : (-1000000 ≤ sh.getD 0 0 ∧ sh.getD 0 0 ≤ 1000000) ∧ (-1000000 ≤ sh.getD 1 0 ∧ sh.getD 1 0 ≤ 1000000))
    (h1 : (-1000000 ≤ g1.getD 0 0 ∧ g1.getD 0 0 ≤ 1000000) ∧ (-1000000 ≤ g1.getD 1 0 ∧ g1.getD 1 0 ≤ 1000000))
    (hc : crossP (ptOf g1) w = 1) (ht : tvB s u (-1, sh, [g1]) = true) : Vl (mnF s u) (fun a b => -1 * ryF (ptOf g1) w (ptOf sh) a b) (tvS s u (-1, sh, [g1])) := by
  obtain ⟨hf, hv⟩ := termV_parts ht
  have f1 := hf g1 (by simp)
  rw [hv]
  show Vl _ _ (tvK (-1) sh [g1] s u 1)
  have e1 : tvK (-1) sh [g1] s u 1 = tvK (-1) sh [g1] s u 0 * powP (facI g1 s u) (-1) % 10007 := rfl
  have e0 : tvK (-1) sh [g1] s u 0 = (10007 - monI sh s u % 10007) % 10007 := rfl
  have st := fac_step hs hu h1.1 h1.2 f1 (tvK (-1) sh [g1] s u 0)
  rw [← e1, e0] at st
  generalize tvK (-1) sh [g1] s u 1 = x at *
  have r := val_ray (p := ptOf sh) hc (fac_unit hs hu h1.1 h1.2 f1) (x := -x) (by
    rw [← mon_at hs hu hsh.1 hsh.2]
    have n := (Cg.refl (-1)).mul st
    refine (Cg.of_eq (by grind)).trans (n.trans ?_)
    generalize monI sh s u = m
    exact cg_iff.2 (by omega))
  have := r.smul (-1)
  rw [show (-1 : Int) * -x = x by omega] at this
  exact this
omit hs hu in
theorem bd_pair {a b : Int} (ha : -30 ≤ a ∧ a ≤ 30) (hb : -30 ≤ b ∧ b ≤ 30) : (-1000000 ≤ [a, b].getD 0 0 ∧ [a, b].getD 0 0 ≤ 1000000) ∧ (-1000000 ≤ [a, b].getD 1 0 ∧ [a, b].getD 1 0 ≤ 1000000) := by
  simp only [List.getD_cons_zero, List.getD_cons_succ]; omega
/-- the first j cones together -/
theorem ser_vl {U V : List Int} {L : List (List Int)} (h : SplTold U V L) {sh : List Int} (hsh : (-1000000 ≤ sh.getD 0 0 ∧ sh.getD 0 0 ≤ 1000000) ∧ (-1000000 ≤ sh.getD 1 0 ∧ sh.getD 1 0 ≤ 1000000))
    (hp : ∀ k, k + 1 < L.length → tvB s u (posT L sh k) = true) (hn : ∀ k, k + 2 < L.length → tvB s u (negT L sh k) = true) : ∀ j, j + 1 < L.length →
    Vl (mnF s u) (cnF (ptOf U) (ptOf (L.getD (j + 1) [])) (ptOf sh)) (sumG (fun k => tvS s u (posT L sh k)) (j + 1) + sumG (fun k => tvS s u (negT L sh k)) j)
  | 0, hj => by
    obtain ⟨x1, y1, e1, b1, b2⟩ := h.all.row 0 (by omega)
    obtain ⟨x2, y2, e2, b3, b4⟩ := h.all.row 1 (by omega)
    have hc := h.all.cr 0 (by omega)
    have t := hp 0 (by omega)
    unfold posT at t
    rw [e1, e2] at t
    rw [e1, e2] at hc
    have v := val_pos hs hu hsh (bd_pair b1 b2) (bd_pair b3 b4) (by rw [← hc]; rfl) t
    have hU : U = [x1, y1] := by rw [← h.fst, e1]
    have e : sumG (fun k => tvS s u (posT L sh k)) (0 + 1) + sumG (fun k => tvS s u (negT L sh k)) 0 = tvS s u (1, sh, [[x1, y1], [x2, y2]]) := by
      show 0 + tvS s u (posT L sh 0) + 0 = _
      unfold posT
      rw [e1, e2]; omega
    rw [e, e2, hU]; exact v
  | j + 1, hj => by
    have ih := ser_vl h hsh hp hn j (by omega)
    obtain ⟨x0, y0, e0, -, -⟩ := h.all.row 0 (by omega)
    obtain ⟨x1, y1, e1, b1, b2⟩ := h.all.row (j + 1) (by omega)
    obtain ⟨x2, y2, e2, b3, b4⟩ := h.all.row (j + 1 + 1) (by omega)
    have hU : U = [x0, y0] := by rw [← h.fst, e0]
    have hc := h.all.cr (j + 1) (by omega)
    have u0 := h.cu j (by omega)
    have u2 := h.cu (j + 1) (by omega)
    have t := hp (j + 1) (by omega)
    have tn' := hn j (by omega)
    unfold posT at t
    unfold negT at tn'
    rw [e1, e2] at t hc
    rw [e1] at tn'
    rw [hU, e1] at u0 u2
    rw [e2] at u2
    rw [hU, e1] at ih
    have v := val_pos hs hu hsh (bd_pair b1 b2) (bd_pair b3 b4) (by rw [← hc]; rfl) t
    have r := val_neg hs hu (ptOf [x2, y2]) hsh (bd_pair b1 b2) (by rw [← hc]; rfl) tn'
    have s1 : sumG (fun k => tvS s u (posT L sh k)) (j + 1 + 1) = sumG (fun k => tvS s u (posT L sh k)) (j + 1) + tvS s u (1, sh, [[x1, y1], [x2, y2]]) := by
      show _ + tvS s u (posT L sh (j + 1)) = _
      unfold posT; rw [e1, e2]
    have s2 : sumG (fun k => tvS s u (negT L sh k)) (j + 1) = sumG (fun k => tvS s u (negT L sh k)) j + tvS s u (-1, sh, [[x1, y1]]) := by
      show _ + tvS s u (negT L sh j) = _
      unfold negT; rw [e1]
    rw [s1, s2, e2, hU]
    have m := mn_mono hs hu
    refine (((ih.add m v).add m r).fn fun a b => ?_).cg (Cg.of_eq (by omega))
    exact cn_split (u := ptOf [x0, y0]) (v := ptOf [x1, y1]) (w := ptOf [x2, y2]) (show 0 < crossI [x0, y0] [x1, y1] by omega) (show 0 < crossI [x0, y0] [x2, y2] by omega) (show 0 < crossI [x1, y1] [x2, y2] by rw [hc]; decide) a b
/-- the series of a cone -/
theorem ser_all {U V sh : List Int} (h : coneB U V = true) (hsh : (-1000000 ≤ sh.getD 0 0 ∧ sh.getD 0 0 ≤ 1000000) ∧ (-1000000 ≤ sh.getD 1 0 ∧ sh.getD 1 0 ≤ 1000000)) (ht : ∀ t, t ∈ serL (splitC U V) sh → tvB s u t = true) :
    Vl (mnF s u) (cnF (ptOf U) (ptOf V) (ptOf sh)) ((serL (splitC U V) sh).map (tvS s u)).sum ∧ unitC (denF (mnF s u) (ptOf U)) := by
  have hT := split_told h
  generalize splitC U V = L at *
  have hlen := hT.len
  obtain ⟨j, hj⟩ : ∃ j, L.length = j + 2 := ⟨L.length - 2, by omega⟩
  have hp : ∀ k, k + 1 < L.length → tvB s u (posT L sh k) = true := fun k hk => ht _ (by
    unfold serL; rw [List.mem_append]; exact .inl (List.mem_map.2 ⟨k, List.mem_range.2 (by omega), rfl⟩))
  have hn : ∀ k, k + 2 < L.length → tvB s u (negT L sh k) = true := fun k hk => ht _ (by
    unfold serL; rw [List.mem_append]; exact .inr (List.mem_map.2 ⟨k, List.mem_range.2 (by omega), rfl⟩))
  have v := ser_vl hs hu hT hsh hp hn j (by omega)
  have hlst := hT.lst
  rw [hj, show j + 2 - 1 = j + 1 by omega] at hlst
  rw [hlst] at v
  constructor
  · have e : ((serL L sh).map (tvS s u)).sum = sumG (fun k => tvS s u (posT L sh k)) (j + 1) + sumG (fun k => tvS s u (negT L sh k)) j := by
      unfold serL
      rw [List.map_append, List.sum_append, List.map_map, List.map_map, sumG_range, sumG_range, hj, show j + 2 - 1 = j + 1 by omega, show j + 2 - 2 = j by omega]
      rfl
    rw [e]; exact v
  · have t := hp 0 (by omega)
    obtain ⟨x1, y1, e1, b1, b2⟩ := hT.all.row 0 (by omega)
    have hf := (termV_parts t).1 (L.getD 0 []) (by simp [posT])
    rw [e1] at hf
    have hU : U = [x1, y1] := by rw [← hT.fst, e1]
    rw [hU]
    have b := bd_pair b1 b2
    exact fac_unit hs hu b.1 b.2 hf
end
end Go.Proofs.Ytehhoplenloocaa
