/- B12: texts in one: Pick PickP PickF PickL. -/
import Derived.Test.YtehhoplenloocaaGreatLtc
import Derived.Test.YtehhoplenloocaaGreatB9
import Derived.Test.YtehhoplenloocaaGreatB11
/- Points of triangles (Pick): plain law. -/
namespace Go.Proofs.YtehhoplenloocaaGreat
set_option linter.unusedVariables false
set_option linter.unusedSimpArgs false

/-! ### a triangle with one corner at the origin -/
def M2 (u v : Pt) : List (List Int) := [[u.1, u.2], [v.1, v.2]]
def f2 (u v : Pt) (z : Nat → Int) (r : Nat) : Int := if r = 0 then z 0 * v.2 - z 1 * v.1 else if r = 1 then u.1 * z 1 - u.2 * z 0 else 0
theorem M2_sq (u v : Pt) : Sq 2 (M2 u v) := ⟨rfl, fun i hi => by rcases (show i = 0 ∨ i = 1 by omega) with rfl | rfl <;> rfl⟩
theorem simp2 {u v : Pt} (hd : 0 < crossP u v) : Simp 2 (M2 u v) (crossP u v) (f2 u v) where
  n2 := .inl rfl
  pos := hd
  sq := M2_sq u v
  add x y r := by
    unfold f2
    split
    · grind
    · split
      · grind
      · omega
  mul c x r := by
    unfold f2
    split
    · grind
    · split
      · grind
      · omega
  cg x y h r := by unfold f2; rw [h 0 (by omega), h 1 (by omega)]
  row i r hi hr := by
    rcases (show i = 0 ∨ i = 1 by omega) with rfl | rfl <;> rcases (show r = 0 ∨ r = 1 by omega) with rfl | rfl <;> simp [f2, atM, M2, crossP] <;> grind
  out z r hr := by unfold f2; rw [if_neg (by omega), if_neg (by omega)]
  cra z j hj := by
    rw [(M2_sq u v).out2 (show 2 ≤ 2 by omega)]
    rcases (show j = 0 ∨ j = 1 by omega) with rfl | rfl <;> simp [f2, atM, M2, crossP] <;> grind
theorem hi2 {M : List (List Int)} (hs : Sq 2 M) (hb : ∀ i j, -100 ≤ atM M i j ∧ atM M i j ≤ 100) (hd : dN M ≠ 0) : HI 2 0 M := by
  refine ⟨hs, fun i j => ?_, fun c hc => by omega, fun t ht => ?_⟩
  · have := hb i j; omega
  · rw [dN_at2 hs] at hd ht
    have h1 := mul_bdH (hb 0 0) (hb 1 1)
    have h2 := mul_bdH (hb 0 1) (hb 1 0)
    omega
def Sm (u : Pt) : Prop := (-100 ≤ u.1 ∧ u.1 ≤ 100) ∧ (-100 ≤ u.2 ∧ u.2 ≤ 100)
theorem M2_bd {u v : Pt} (hu : Sm u) (hv : Sm v) (i j : Nat) : -100 ≤ atM (M2 u v) i j ∧ atM (M2 u v) i j ≤ 100 := by
  by_cases hi : i < 2
  · by_cases hj : j < 2
    · rcases (show i = 0 ∨ i = 1 by omega) with rfl | rfl <;> rcases (show j = 0 ∨ j = 1 by omega) with rfl | rfl
      · exact hu.1
      · exact hu.2
      · exact hv.1
      · exact hv.2
    · rw [(M2_sq u v).out (by omega)]; omega
  · rw [(M2_sq u v).out2 (by omega)]; omega
theorem dN_M2 (u v : Pt) : dN (M2 u v) = crossP u v := by
  show u.1 * v.2 - u.2 * v.1 = _
  unfold crossP; rfl
theorem sum_len {α : Type} (l : List α) : (l.map fun _ => 1).sum = l.length := by
  induction l with
  | nil => rfl
  | cons a l ih => rw [List.map_cons, List.sum_cons, ih, List.length_cons]; omega
/-- the points of a triangle and those inside -/
theorem tri_count {u v : Pt} (hd : 0 < crossP u v) (hu : Sm u) (hv : Sm v) {L K : List (List Int)} (hL : L.Nodup) (hK : K.Nodup)
    (hm : ∀ y, y ∈ L ↔ y.length = 2 ∧ (0 ≤ f2 u v (fnL y) 0 ∧ 0 ≤ f2 u v (fnL y) 1) ∧ f2 u v (fnL y) 0 + f2 u v (fnL y) 1 ≤ crossP u v)
    (hk : ∀ y, y ∈ K ↔ y.length = 2 ∧ (0 < f2 u v (fnL y) 0 ∧ 0 < f2 u v (fnL y) 1) ∧ f2 u v (fnL y) 0 + f2 u v (fnL y) 1 < crossP u v) :
    (L.length : Int) + K.length = crossP u v + 2 := by
  have S := simp2 hd
  have hI := hi2 (M2_sq u v) (M2_bd hu hv) (by rw [dN_M2]; omega)
  obtain ⟨hX, hE⟩ := her2 hI (M2_bd hu hv)
  have two : ∀ (p : Int → Prop) (y : List Int), (∀ r, r < 2 → p (f2 u v (fnL y) r)) ↔ p (f2 u v (fnL y) 0) ∧ p (f2 u v (fnL y) 1) := fun p y => ⟨fun h => ⟨h 0 (by omega), h 1 (by omega)⟩, fun h r hr => by
    rcases (show r = 0 ∨ r = 1 by omega) with rfl | rfl
    · exact h.1
    · exact h.2⟩
  have z2 : ∀ y, f2 u v (fnL y) 2 = 0 := fun y => S.out _ 2 (by omega)
  have c1 := S.count hX hE.inl (t := 1) (by omega) hL (fun y => by rw [hm, two (fun z => 0 ≤ z), z2, Int.add_zero, Int.one_mul])
  have c2 := S.inner hX hE.inl (t := 1) (by omega) hK (fun y => by rw [hk, two (fun z => 0 < z), z2, Int.add_zero, Int.one_mul])
  have h1 := S.one hX hE.inl
  have hg : ∀ w ∈ ldK (herS 2 2 (M2 u v)) 2, hgt (f2 u v) (crossP u v) w ≤ 3 := fun w _ => by
    obtain ⟨s, -, -, -, hh⟩ := S.hgt_eq w; omega
  have e3 : (ldK (herS 2 2 (M2 u v)) 2).countP (fun w => hgt (f2 u v) (crossP u v) w == 3) = 0 := by
    rw [List.countP_eq_zero]
    intro w _
    obtain ⟨s, -, -, -, hh⟩ := S.hgt_eq w
    simp; omega
  have s0 := sum_by (fun w => hgt (f2 u v) (crossP u v) w) (fun _ => 1) _ hg
  rw [sum_len] at s0
  have s1 := sum_by (fun w => hgt (f2 u v) (crossP u v) w) (fun k => (Q 2 (1 - (k : Int))).length) _ hg
  have s2 := sum_by (fun w => hgt (f2 u v) (crossP u v) w) (fun k => (Q 2 (1 + (k : Int) - (((2 : Nat) : Int) + 1))).length) _ hg
  rw [← c1] at s1
  rw [← c2] at s2
  have a0 : (Q 2 (1 - ((0 : Nat) : Int))).length = 3 := by decide
  have a1 : (Q 2 (1 - ((1 : Nat) : Int))).length = 1 := by decide
  have a2 : (Q 2 (1 - ((2 : Nat) : Int))).length = 0 := by decide
  have b0 : (Q 2 (1 + ((0 : Nat) : Int) - (((2 : Nat) : Int) + 1))).length = 0 := by decide
  have b1 : (Q 2 (1 + ((1 : Nat) : Int) - (((2 : Nat) : Int) + 1))).length = 0 := by decide
  have b2 : (Q 2 (1 + ((2 : Nat) : Int) - (((2 : Nat) : Int) + 1))).length = 1 := by decide
  rw [a0, a1, a2, h1, e3] at s1
  rw [b0, b1, b2, h1, e3] at s2
  rw [h1, e3] at s0
  have hl := (hX.det (by omega) (by omega))
  have hdt := hE.dt
  rw [dN_M2] at hdt
  omega

/-! ### the points of an edge -/
theorem cop_dvd {a b z : Int} (h : a ∣ b * z) (hg : Int.gcd a b = 1) : a ∣ z := by
  have h1 : a.natAbs ∣ b.natAbs * z.natAbs := by rw [← Int.natAbs_mul]; exact Int.natAbs_dvd_natAbs.2 h
  exact Int.natAbs_dvd_natAbs.1 (Nat.Coprime.dvd_of_dvd_mul_left hg h1)
/-- half an edge: one end is left out -/
theorem edge_count {u v : Pt} (hd : 0 < crossP u v) {L : List Pt} (hL : L.Nodup) (hm : ∀ z, z ∈ L ↔ crossP u z = 0 ∧ 0 ≤ crossP z v ∧ crossP z v < crossP u v) : L.length = Int.gcd u.1 u.2 := by
  have hu : ¬ (u.1 = 0 ∧ u.2 = 0) := fun h => by unfold crossP at hd; rw [h.1, h.2] at hd; omega
  have hg : 0 < Int.gcd u.1 u.2 := by
    rcases Nat.eq_zero_or_pos (Int.gcd u.1 u.2) with h | h
    · exact absurd (Int.gcd_eq_zero_iff.1 h) hu
    · exact h
  obtain ⟨a, ha⟩ := Int.gcd_dvd_left (a := u.1) (b := u.2)
  obtain ⟨b, hb⟩ := Int.gcd_dvd_right (a := u.1) (b := u.2)
  obtain ⟨g, hgg⟩ : ∃ g : Int, g = (Int.gcd u.1 u.2 : Int) := ⟨_, rfl⟩
  rw [← hgg] at ha hb
  have hg0 : 0 < g := by omega
  have hab : Int.gcd a b = 1 := by
    have h1 : Int.gcd (g * a) (g * b) = g.natAbs * Int.gcd a b := Int.gcd_mul_left ..
    rw [← ha, ← hb] at h1
    have h2 : Int.gcd u.1 u.2 = g.natAbs := by omega
    rw [h2] at h1
    have h3 : g.natAbs * 1 = g.natAbs * Int.gcd a b := by omega
    exact (Nat.eq_of_mul_eq_mul_left (by omega) h3).symm
  have hl : ((List.range (Int.gcd u.1 u.2)).map fun k : Nat => ((k * a, k * b) : Pt)).length = Int.gcd u.1 u.2 := by simp
  rw [← hl]
  have hab0 : ¬ (a = 0 ∧ b = 0) := fun h => by rw [h.1, h.2] at hab; simp at hab
  have e0 : crossP u v = g * (a * v.2 - b * v.1) := by unfold crossP; rw [ha, hb]; grind
  have hk0 : 0 < a * v.2 - b * v.1 := by
    rw [e0] at hd
    rcases Int.lt_or_le 0 (a * v.2 - b * v.1) with h | h
    · exact h
    · have := Int.mul_nonpos_of_nonneg_of_nonpos (a := g) (by omega) h; omega
  refine nodup_len hL ?_ fun z => ?_
  · rw [List.nodup_iff_pairwise_ne, List.pairwise_map]
    refine List.Pairwise.imp_of_mem (fun {k j} _ _ (hkj : k < j) => ?_) List.pairwise_lt_range
    intro e
    injection e with e1 e2
    rcases Classical.em (a = 0) with h | h
    · have hb0 : b ≠ 0 := fun hb => hab0 ⟨h, hb⟩
      have := Int.eq_of_mul_eq_mul_right hb0 e2
      omega
    · have := Int.eq_of_mul_eq_mul_right h e1
      omega
  · rw [hm, List.mem_map]
    constructor
    · rintro ⟨h1, h2, h3⟩
      have hz : a * z.2 = b * z.1 := by
        have : g * (a * z.2 - b * z.1) = 0 := by unfold crossP at h1; rw [ha, hb] at h1; grind
        rcases Int.mul_eq_zero.1 this with h | h <;> omega
      -- z is a multiple of (a, b)
      have hd1 : a ∣ z.1 := by
        have : a ∣ b * z.1 := ⟨z.2, hz.symm⟩
        exact cop_dvd this hab
      have hd2 : b ∣ z.2 := by
        have : b ∣ a * z.2 := ⟨z.1, hz⟩
        exact cop_dvd this (by rw [Int.gcd_comm]; exact hab)
      have hex : ∃ t : Int, z.1 = t * a ∧ z.2 = t * b := by
        rcases Classical.em (a = 0) with h | h
        · obtain ⟨t, ht⟩ := hd2
          refine ⟨t, ?_, by rw [ht]; grind⟩
          obtain ⟨s, hs⟩ := hd1
          rw [hs, h]; grind
        · obtain ⟨t, ht⟩ := hd1
          refine ⟨t, by rw [ht]; grind, ?_⟩
          have : a * z.2 = a * (t * b) := by rw [hz, ht]; grind
          exact Int.eq_of_mul_eq_mul_left h this
      obtain ⟨t, ht1, ht2⟩ := hex
      have e2 : crossP z v = t * (a * v.2 - b * v.1) := by unfold crossP; rw [ht1, ht2]; grind
      rw [e2] at h2 h3
      rw [e0] at h3
      have t0 : 0 ≤ t := by
        rcases Int.lt_or_le t 0 with h | h
        · have := Int.mul_neg_of_neg_of_pos h hk0; omega
        · exact h
      have t1 : t < g := Int.lt_of_mul_lt_mul_right h3 (by omega)
      exact ⟨t.toNat, List.mem_range.2 (by omega), by
        have : ((t.toNat : Nat) : Int) = t := by omega
        rw [this, ← ht1, ← ht2]⟩
    · rintro ⟨k, hk, rfl⟩
      rw [List.mem_range] at hk
      have e2 : crossP ((k * a, k * b) : Pt) v = k * (a * v.2 - b * v.1) := by unfold crossP; grind
      rw [e2, e0]
      refine ⟨by unfold crossP; rw [ha, hb]; grind, Int.mul_nonneg (by omega) (by omega), Int.mul_lt_mul_of_pos_right (by omega) hk0⟩
end Go.Proofs.YtehhoplenloocaaGreat

/- Pick's theorem for polygons: plain law. -/
namespace Go.Proofs.YtehhoplenloocaaGreat
set_option linter.unusedVariables false
set_option linter.unusedSimpArgs false

def gP (a b : Pt) : Int := Int.gcd (b.1 - a.1) (b.2 - a.2)
theorem gP_comm (a b : Pt) : gP a b = gP b a := by
  unfold gP
  rw [show b.1 - a.1 = -(a.1 - b.1) by omega, show b.2 - a.2 = -(a.2 - b.2) by omega, Int.neg_gcd, Int.gcd_neg]
theorem four_len {α : Type} (b0 b1 b2 b3 : α → Bool) : ∀ l : List α, (∀ z ∈ l, (b0 z).toNat + (b1 z).toNat + (b2 z).toNat + (b3 z).toNat = 1) → l.length = (l.filter b0).length + (l.filter b1).length + (l.filter b2).length + (l.filter b3).length
  | [], _ => rfl
  | a :: l, h => by
    have h1 := four_len b0 b1 b2 b3 l fun z hz => h z (List.mem_cons_of_mem _ hz)
    have h2 := h a (List.mem_cons_self ..)
    rw [List.filter_cons, List.filter_cons, List.filter_cons, List.filter_cons, List.length_cons]
    cases hb0 : b0 a <;> cases hb1 : b1 a <;> cases hb2 : b2 a <;> cases hb3 : b3 a <;> simp [hb0, hb1, hb2, hb3] at h2 ⊢ <;> omega
theorem two_len {α : Type} (b c : α → Bool) : ∀ l : List α, (∀ z ∈ l, b z = true ∨ c z = true) → (l.filter b).length + (l.filter c).length = l.length + (l.filter fun z => b z && c z).length
  | [], _ => rfl
  | a :: l, h => by
    have h1 := two_len b c l fun z hz => h z (List.mem_cons_of_mem _ hz)
    have h2 := h a (List.mem_cons_self ..)
    rw [List.filter_cons, List.filter_cons, List.filter_cons, List.length_cons]
    cases hb : b a <;> cases hc : c a <;> simp [hb, hc] at h2 ⊢ <;> omega
theorem sub_inj {a x y : Pt} (h : subP x a = subP y a) : x = y := by
  unfold subP at h
  injection h with h1 h2
  exact Prod.ext (by omega) (by omega)
theorem sub_nodup {a : Pt} {L : List Pt} (h : L.Nodup) : (L.map fun z => subP z a).Nodup := by
  rw [List.nodup_iff_pairwise_ne, List.pairwise_map]
  exact List.Pairwise.imp (fun hne e => hne (sub_inj e)) (List.nodup_iff_pairwise_ne.1 h)
theorem sub_mem {a : Pt} {L : List Pt} (z : Pt) : z ∈ (L.map fun z => subP z a) ↔ (z.1 + a.1, z.2 + a.2) ∈ L := by
  rw [List.mem_map]
  constructor
  · rintro ⟨x, hx, rfl⟩
    have : ((subP x a).1 + a.1, (subP x a).2 + a.2) = x := by unfold subP; exact Prod.ext (by simp) (by simp)
    rw [this]; exact hx
  · intro h
    exact ⟨_, h, by unfold subP; exact Prod.ext (by simp) (by simp)⟩
theorem edge_shift {a u v : Pt} (hd : 0 < crossP u v) {L : List Pt} (hL : L.Nodup) (hm : ∀ z, z ∈ L ↔ crossP u (subP z a) = 0 ∧ 0 ≤ crossP (subP z a) v ∧ crossP (subP z a) v < crossP u v) : L.length = Int.gcd u.1 u.2 := by
  rw [← edge_count hd (sub_nodup (a := a) hL) fun z => ?_, List.length_map]
  rw [sub_mem, hm]
  have : subP (z.1 + a.1, z.2 + a.2) a = z := by unfold subP; exact Prod.ext (by simp) (by simp)
  rw [this]
theorem edge_closed {u v : Pt} (hd : 0 < crossP u v) {L : List Pt} (hL : L.Nodup) (hm : ∀ z, z ∈ L ↔ crossP u z = 0 ∧ 0 ≤ crossP z v ∧ crossP z v ≤ crossP u v) : L.length = Int.gcd u.1 u.2 + 1 := by
  have h1 := edge_count hd (L := L.filter fun z => decide (crossP z v < crossP u v)) (List.Pairwise.filter _ hL) fun z => by
    rw [List.mem_filter, hm, decide_eq_true_eq]
    constructor
    · rintro ⟨⟨a, b, c⟩, d⟩; exact ⟨a, b, d⟩
    · rintro ⟨a, b, d⟩; exact ⟨⟨a, b, by omega⟩, d⟩
  have h2 : (L.filter fun z => decide (crossP z v = crossP u v)).length = [u].length := nodup_len (List.Pairwise.filter _ hL) (by simp) fun z => by
    rw [List.mem_filter, hm, decide_eq_true_eq, List.mem_singleton]
    constructor
    · rintro ⟨⟨a, b, c⟩, d⟩
      have e1 : crossP u v * (z.1 - u.1) = 0 := by
        have : crossP u v * (z.1 - u.1) = (crossP z v - crossP u v) * u.1 + crossP u z * v.1 := by unfold crossP; grind
        rw [this, a, d]; grind
      have e2 : crossP u v * (z.2 - u.2) = 0 := by
        have : crossP u v * (z.2 - u.2) = (crossP z v - crossP u v) * u.2 + crossP u z * v.2 := by unfold crossP; grind
        rw [this, a, d]; grind
      rcases Int.mul_eq_zero.1 e1 with h | h
      · omega
      rcases Int.mul_eq_zero.1 e2 with h' | h'
      · omega
      exact Prod.ext (by omega) (by omega)
    · rintro rfl
      have : crossP z z = 0 := by unfold crossP; grind
      exact ⟨⟨this, by omega, by omega⟩, rfl⟩
  have h3 := two_len (fun z => decide (crossP z v < crossP u v)) (fun z => decide (crossP z v = crossP u v)) L fun z hz => by
    have := (hm z).1 hz
    rw [decide_eq_true_eq, decide_eq_true_eq]; omega
  have h4 : (L.filter fun z => decide (crossP z v < crossP u v) && decide (crossP z v = crossP u v)) = [] := by
    rw [List.filter_eq_nil_iff]
    intro z _
    simp; omega
  rw [h4] at h3
  simp at h2 h3
  omega
def toL (a : Pt) : List Int := [a.1, a.2]
theorem toL_nodup {L : List Pt} (h : L.Nodup) : (L.map toL).Nodup := by
  rw [List.nodup_iff_pairwise_ne, List.pairwise_map]
  refine List.Pairwise.imp (fun hne e => hne ?_) (List.nodup_iff_pairwise_ne.1 h)
  unfold toL at e
  injection e with e1 e2
  injection e2 with e2 e3
  exact Prod.ext e1 e2
theorem toL_mem {L : List Pt} (y : List Int) : y ∈ L.map toL ↔ y.length = 2 ∧ (y.getD 0 0, y.getD 1 0) ∈ L := by
  rw [List.mem_map]
  constructor
  · rintro ⟨x, hx, rfl⟩; exact ⟨rfl, hx⟩
  · rintro ⟨h1, h2⟩
    refine ⟨_, h2, ?_⟩
    match y, h1 with
    | [p, q], _ => rfl
theorem gcd_negs (v : Pt) : Int.gcd (-v.1) (-v.2) = Int.gcd v.1 v.2 := by rw [Int.neg_gcd, Int.gcd_neg]
/-- twice the points of a triangle -/
theorem tri_pick {u v : Pt} (hd : 0 < crossP u v) (hu : Sm u) (hv : Sm v) {L : List Pt} (hL : L.Nodup)
    (hm : ∀ z, z ∈ L ↔ (0 ≤ crossP z v ∧ 0 ≤ crossP u z) ∧ crossP z v + crossP u z ≤ crossP u v) :
    2 * (L.length : Int) = crossP u v + 2 + (Int.gcd u.1 u.2 : Int) + (Int.gcd (v.1 - u.1) (v.2 - u.2) : Int) + (Int.gcd v.1 v.2 : Int) := by
  have c1 := tri_count hd hu hv (L := L.map toL) (K := (L.filter fun z => decide ((0 < crossP z v ∧ 0 < crossP u z) ∧ crossP z v + crossP u z < crossP u v)).map toL) (toL_nodup hL) (toL_nodup (List.Pairwise.filter _ hL)) (fun y => by
      rw [toL_mem, hm]; rfl) (fun y => by
      rw [toL_mem, List.mem_filter, hm, decide_eq_true_eq]
      constructor
      · rintro ⟨a, -, b⟩; exact ⟨a, b⟩
      · rintro ⟨a, b⟩
        refine ⟨a, ⟨⟨?_, ?_⟩, ?_⟩, b⟩
        · exact Int.le_of_lt b.1.1
        · exact Int.le_of_lt b.1.2
        · exact Int.le_of_lt b.2)
  rw [List.length_map, List.length_map] at c1
  have hx : ∀ f0 f1 D : Int, 0 < D → 0 ≤ f0 → 0 ≤ f1 → f0 + f1 ≤ D → (decide ((0 < f0 ∧ 0 < f1) ∧ f0 + f1 < D)).toNat + (decide (f1 = 0 ∧ f0 < D)).toNat + (decide (f0 + f1 = D ∧ f1 < D)).toNat + (decide (f0 = 0 ∧ 0 < f1)).toNat = 1 := by
    intro f0 f1 D h1 h2 h3 h4
    by_cases a : f1 = 0
    · by_cases b : f0 < D
      · rw [decide_eq_false (by omega), decide_eq_true (by omega), decide_eq_false (by omega), decide_eq_false (by omega)]; rfl
      · rw [decide_eq_false (by omega), decide_eq_false (by omega), decide_eq_true (by omega), decide_eq_false (by omega)]; rfl
    · by_cases b : f0 = 0
      · rw [decide_eq_false (by omega), decide_eq_false (by omega), decide_eq_false (by omega), decide_eq_true (by omega)]; rfl
      · by_cases c : f0 + f1 = D
        · rw [decide_eq_false (by omega), decide_eq_false (by omega), decide_eq_true (by omega), decide_eq_false (by omega)]; rfl
        · rw [decide_eq_true (by omega), decide_eq_false (by omega), decide_eq_false (by omega), decide_eq_false (by omega)]; rfl
  have c2 := four_len (fun z => decide ((0 < crossP z v ∧ 0 < crossP u z) ∧ crossP z v + crossP u z < crossP u v)) (fun z => decide (crossP u z = 0 ∧ crossP z v < crossP u v)) (fun z => decide (crossP z v + crossP u z = crossP u v ∧ crossP u z < crossP u v)) (fun z => decide (crossP z v = 0 ∧ 0 < crossP u z)) L fun z hz => by
    obtain ⟨⟨a, b⟩, c⟩ := (hm z).1 hz
    exact hx _ _ _ hd a b c
  have k1 := edge_count hd (L := L.filter fun z => decide (crossP u z = 0 ∧ crossP z v < crossP u v)) (List.Pairwise.filter _ hL) fun z => by
    rw [List.mem_filter, hm, decide_eq_true_eq]
    constructor
    · rintro ⟨⟨⟨a, b⟩, c⟩, d, e⟩; exact ⟨d, a, e⟩
    · rintro ⟨a, b, c⟩; exact ⟨⟨⟨b, by omega⟩, by omega⟩, a, c⟩
  have k2 := edge_shift (a := u) (u := (v.1 - u.1, v.2 - u.2)) (v := (-u.1, -u.2)) (by unfold crossP at hd ⊢; dsimp only; grind) (L := L.filter fun z => decide (crossP z v + crossP u z = crossP u v ∧ crossP u z < crossP u v)) (List.Pairwise.filter _ hL) fun z => by
    rw [List.mem_filter, hm, decide_eq_true_eq]
    have e1 : crossP (v.1 - u.1, v.2 - u.2) (subP z u) = crossP u v - crossP z v - crossP u z := by unfold crossP subP; dsimp only; grind
    have e2 : crossP (subP z u) (-u.1, -u.2) = crossP u z := by unfold crossP subP; dsimp only; grind
    have e3 : crossP (v.1 - u.1, v.2 - u.2) (-u.1, -u.2) = crossP u v := by unfold crossP; dsimp only; grind
    rw [e1, e2, e3]
    constructor
    · rintro ⟨⟨⟨a, b⟩, c⟩, d, e⟩; exact ⟨by omega, b, e⟩
    · rintro ⟨a, b, c⟩; exact ⟨⟨⟨by omega, b⟩, by omega⟩, by omega, c⟩
  have k3 := edge_shift (a := v) (u := (-v.1, -v.2)) (v := (u.1 - v.1, u.2 - v.2)) (by unfold crossP at hd ⊢; dsimp only; grind) (L := L.filter fun z => decide (crossP z v = 0 ∧ 0 < crossP u z)) (List.Pairwise.filter _ hL) fun z => by
    rw [List.mem_filter, hm, decide_eq_true_eq]
    have e1 : crossP (-v.1, -v.2) (subP z v) = crossP z v := by unfold crossP subP; dsimp only; grind
    have e2 : crossP (subP z v) (u.1 - v.1, u.2 - v.2) = crossP u v - crossP z v - crossP u z := by unfold crossP subP; dsimp only; grind
    have e3 : crossP (-v.1, -v.2) (u.1 - v.1, u.2 - v.2) = crossP u v := by unfold crossP; dsimp only; grind
    rw [e1, e2, e3]
    constructor
    · rintro ⟨⟨⟨a, b⟩, c⟩, d, e⟩; exact ⟨d, by omega, by omega⟩
    · rintro ⟨a, b, c⟩; exact ⟨⟨⟨by omega, by omega⟩, by omega⟩, a, by omega⟩
  rw [gcd_negs] at k3
  dsimp only at k2 k3
  omega
/-- any triangle -/
theorem tri_pick3 {a b c : Pt} (hd : 0 < tn a b c) (hu : Sm (subP b a)) (hv : Sm (subP c a)) {L : List Pt} (hL : L.Nodup)
    (hm : ∀ z, z ∈ L ↔ 0 ≤ tn a b z ∧ 0 ≤ tn b c z ∧ 0 ≤ tn c a z) : 2 * (L.length : Int) = tn a b c + 2 + gP a b + gP b c + gP c a := by
  have h := tri_pick (u := subP b a) (v := subP c a) hd hu hv (sub_nodup (a := a) hL) fun z => by
    rw [sub_mem, hm]
    have e1 : tn a b (z.1 + a.1, z.2 + a.2) = crossP (subP b a) z := by unfold tn crossP subP; dsimp only; grind
    have e2 : tn b c (z.1 + a.1, z.2 + a.2) = crossP (subP b a) (subP c a) - crossP z (subP c a) - crossP (subP b a) z := by unfold tn crossP subP; dsimp only; grind
    have e3 : tn c a (z.1 + a.1, z.2 + a.2) = crossP z (subP c a) := by unfold tn crossP subP; dsimp only; grind
    rw [e1, e2, e3]
    constructor
    · rintro ⟨x, y, w⟩; exact ⟨⟨w, x⟩, by omega⟩
    · rintro ⟨⟨w, x⟩, y⟩; exact ⟨x, by omega, w⟩
  rw [List.length_map] at h
  have g1 : ((Int.gcd (subP b a).1 (subP b a).2 : Nat) : Int) = gP a b := rfl
  have g2 : ((Int.gcd ((subP c a).1 - (subP b a).1) ((subP c a).2 - (subP b a).2) : Nat) : Int) = gP b c := by
    unfold gP subP; dsimp only
    rw [show c.1 - a.1 - (b.1 - a.1) = c.1 - b.1 by omega, show c.2 - a.2 - (b.2 - a.2) = c.2 - b.2 by omega]
  have g3 : ((Int.gcd (subP c a).1 (subP c a).2 : Nat) : Int) = gP c a := by rw [gP_comm]; rfl
  rw [g1, g2, g3] at h
  have : tn a b c = crossP (subP b a) (subP c a) := rfl
  omega
end Go.Proofs.YtehhoplenloocaaGreat

/- Pick's theorem for polygons: the fan. -/
namespace Go.Proofs.YtehhoplenloocaaGreat
set_option linter.unusedVariables false
set_option linter.unusedSimpArgs false

theorem ktn_cyc (a b c : Pt) : tn b c a = tn a b c := by unfold tn crossP subP; dsimp only; grind
theorem ktn_rev (a b c : Pt) : tn b a c = -tn a b c := by unfold tn crossP subP; dsimp only; grind
theorem ktn_aab (a b : Pt) : tn a a b = 0 := by unfold tn crossP subP; dsimp only; grind
theorem ktn_aba (a b : Pt) : tn a b a = 0 := by unfold tn crossP subP; dsimp only; grind
theorem ktn_abb (a b : Pt) : tn a b b = 0 := by unfold tn crossP subP; dsimp only; grind
theorem pos_of {E x s t q r : Int} (hE : 0 < E) (h : E * x = s * t + q * r) (h1 : 0 ≤ s) (h2 : 0 ≤ t) (h3 : 0 ≤ q) (h4 : 0 ≤ r) : 0 ≤ x := by
  have a := Int.mul_nonneg h1 h2
  have b := Int.mul_nonneg h3 h4
  rcases Int.lt_or_le x 0 with hx | hx
  · have := Int.mul_neg_of_pos_of_neg hE hx; omega
  · exact hx
theorem pos_of3 {E x s t q r y z : Int} (hE : 0 < E) (h : E * x = s * t + q * r + y * z) (h1 : 0 ≤ s) (h2 : 0 ≤ t) (h3 : 0 ≤ q) (h4 : 0 ≤ r) (h5 : 0 ≤ y) (h6 : 0 ≤ z) : 0 ≤ x := by
  have a := Int.mul_nonneg h1 h2
  have b := Int.mul_nonneg h3 h4
  have c := Int.mul_nonneg h5 h6
  rcases Int.lt_or_le x 0 with hx | hx
  · have := Int.mul_neg_of_pos_of_neg hE hx; omega
  · exact hx
/-- the polygon of the first m + 1 corners -/
def inF (p : Nat → Pt) (m : Nat) (z : Pt) : Prop := (∀ i, i < m → 0 ≤ tn (p i) (p (i + 1)) z) ∧ 0 ≤ tn (p m) (p 0) z
def Ar (p : Nat → Pt) : Nat → Int
  | 0 => 0
  | k + 1 => Ar p k + tn (p 0) (p k) (p (k + 1))
def Br (p : Nat → Pt) : Nat → Int
  | 0 => 0
  | k + 1 => Br p k + gP (p k) (p (k + 1))
section
variable {n : Nat} {p : Nat → Pt} (h : TP n p)
include h
theorem fan_in {m : Nat} (h2 : 2 ≤ m) (hm : m + 1 < n) {z : Pt} (hz : inF p m z) : inF p (m + 1) z := by
  obtain ⟨h1, h0⟩ := hz
  obtain ⟨k, rfl⟩ : ∃ k, m = k + 1 := ⟨m - 1, by omega⟩
  have a1 := h1 k (by omega)
  have a0 := h1 0 (by omega)
  refine ⟨fun i hi => ?_, ?_⟩
  · by_cases e : i = k + 1
    · subst e
      refine pos_of (E := tn (p 0) (p k) (p (k + 1))) (s := tn (p k) (p (k + 1)) z) (t := tn (p 0) (p (k + 1)) (p (k + 1 + 1))) (q := tn (p (k + 1)) (p 0) z) (r := tn (p k) (p (k + 1)) (p (k + 1 + 1))) (h 0 k (k + 1) (by omega) (by omega) (by omega)) ?_ a1 (Int.le_of_lt (h 0 (k + 1) (k + 1 + 1) (by omega) (by omega) (by omega))) h0 (Int.le_of_lt (h k (k + 1) (k + 1 + 1) (by omega) (by omega) (by omega)))
      generalize p 0 = o
      generalize p k = a
      generalize p (k + 1) = b
      generalize p (k + 1 + 1) = c
      unfold tn crossP subP; dsimp only; grind
    · exact h1 i (by omega)
  · refine pos_of (E := tn (p 0) (p 1) (p (k + 1))) (s := tn (p (k + 1)) (p 0) z) (t := tn (p 0) (p 1) (p (k + 1 + 1))) (q := tn (p 0) (p 1) z) (r := tn (p 0) (p (k + 1)) (p (k + 1 + 1))) (h 0 1 (k + 1) (by omega) (by omega) (by omega)) ?_ h0 (Int.le_of_lt (h 0 1 (k + 1 + 1) (by omega) (by omega) (by omega))) a0 (Int.le_of_lt (h 0 (k + 1) (k + 1 + 1) (by omega) (by omega) (by omega)))
    generalize p 0 = o
    generalize p 1 = a
    generalize p (k + 1) = b
    generalize p (k + 1 + 1) = c
    unfold tn crossP subP; dsimp only; grind
theorem edge_pos {i j : Nat} (hi : i + 1 < n) (hj : j < n) : 0 ≤ tn (p i) (p (i + 1)) (p j) := by
  rcases Nat.lt_trichotomy j i with g | g | g
  · rw [ktn_cyc (p j)]; exact Int.le_of_lt (h j i (i + 1) g (by omega) hi)
  · subst g; rw [ktn_aba]; exact Int.le_refl _
  · by_cases e : j = i + 1
    · subst e; rw [ktn_abb]; exact Int.le_refl _
    · exact Int.le_of_lt (h i (i + 1) j (by omega) (by omega) hj)
theorem tri_in {m : Nat} (h1 : 1 ≤ m) (hm : m + 1 < n) {z : Pt} (z1 : 0 ≤ tn (p 0) (p m) z) (z2 : 0 ≤ tn (p m) (p (m + 1)) z) (z3 : 0 ≤ tn (p (m + 1)) (p 0) z) : inF p (m + 1) z := by
  refine ⟨fun i hi => ?_, z3⟩
  by_cases e : i = m
  · subst e; exact z2
  · refine pos_of3 (E := tn (p 0) (p m) (p (m + 1))) (s := tn (p m) (p (m + 1)) z) (t := tn (p i) (p (i + 1)) (p 0)) (q := tn (p (m + 1)) (p 0) z) (r := tn (p i) (p (i + 1)) (p m)) (y := tn (p 0) (p m) z) (z := tn (p i) (p (i + 1)) (p (m + 1))) (h 0 m (m + 1) (by omega) (by omega) (by omega)) ?_ z2 (edge_pos h (by omega) (by omega)) z3 (edge_pos h (by omega) (by omega)) z1 (edge_pos h (by omega) (by omega))
    generalize p 0 = o
    generalize p i = a
    generalize p (i + 1) = b
    generalize p m = c
    generalize p (m + 1) = d
    unfold tn crossP subP; dsimp only; grind
/-- twice the points of a polygon -/
theorem fan_pick (hs : ∀ i, i < n → Sm (subP (p i) (p 0))) : ∀ m, 2 ≤ m → m < n → ∀ L : List Pt, L.Nodup → (∀ z, z ∈ L ↔ inF p m z) → 2 * (L.length : Int) = 2 + Ar p m + Br p m + gP (p m) (p 0)
  | 0, h2, _, _, _, _ => by omega
  | 1, h2, _, _, _, _ => by omega
  | 2, _, hm, L, hL, hmem => by
    have t := tri_pick3 (h 0 1 2 (by omega) (by omega) hm) (hs 1 (by omega)) (hs 2 hm) hL fun z => by
      rw [hmem]
      constructor
      · rintro ⟨a, b⟩; exact ⟨a 0 (by omega), a 1 (by omega), b⟩
      · rintro ⟨a, b, c⟩
        refine ⟨fun i hi => ?_, c⟩
        rcases (show i = 0 ∨ i = 1 by omega) with rfl | rfl
        · exact a
        · exact b
    have a0 : Ar p 2 = tn (p 0) (p 0) (p 1) + tn (p 0) (p 1) (p 2) := by show 0 + tn (p 0) (p 0) (p 1) + tn (p 0) (p 1) (p 2) = _; omega
    have b0 : Br p 2 = gP (p 0) (p 1) + gP (p 1) (p 2) := by show 0 + gP (p 0) (p 1) + gP (p 1) (p 2) = _; omega
    rw [ktn_aab] at a0
    omega
  | m + 3, _, hm, L, hL, hmem => by
    have ih := fan_pick hs (m + 2) (by omega) (by omega) (L.filter fun z => decide (tn (p 0) (p (m + 2)) z ≤ 0)) (List.Pairwise.filter _ hL) fun z => by
      rw [List.mem_filter, hmem, decide_eq_true_eq]
      constructor
      · rintro ⟨⟨a, -⟩, c⟩
        exact ⟨fun i hi => a i (by omega), by rw [ktn_rev]; omega⟩
      · intro hz
        have := hz.2
        rw [ktn_rev] at this
        exact ⟨fan_in h (by omega) (by omega) hz, by omega⟩
    have t := tri_pick3 (h 0 (m + 2) (m + 3) (by omega) (by omega) hm) (hs (m + 2) (by omega)) (hs (m + 3) hm) (L := L.filter fun z => decide (0 ≤ tn (p 0) (p (m + 2)) z)) (List.Pairwise.filter _ hL) fun z => by
      rw [List.mem_filter, hmem, decide_eq_true_eq]
      constructor
      · rintro ⟨⟨a, b⟩, c⟩; exact ⟨c, a (m + 2) (by omega), b⟩
      · rintro ⟨a, b, c⟩; exact ⟨tri_in h (by omega) hm a b c, a⟩
    have s := edge_closed (u := subP (p (m + 2)) (p 0)) (v := subP (p (m + 3)) (p 0)) (h 0 (m + 2) (m + 3) (by omega) (by omega) hm) (L := (L.filter fun z => decide (tn (p 0) (p (m + 2)) z ≤ 0) && decide (0 ≤ tn (p 0) (p (m + 2)) z)).map fun z => subP z (p 0)) (sub_nodup (List.Pairwise.filter _ hL)) fun z => by
      rw [sub_mem, List.mem_filter, hmem, Bool.and_eq_true, decide_eq_true_eq, decide_eq_true_eq]
      have e1 : tn (p 0) (p (m + 2)) (z.1 + (p 0).1, z.2 + (p 0).2) = crossP (subP (p (m + 2)) (p 0)) z := by unfold tn crossP subP; dsimp only; grind
      have e2 : tn (p (m + 3)) (p 0) (z.1 + (p 0).1, z.2 + (p 0).2) = crossP z (subP (p (m + 3)) (p 0)) := by unfold tn crossP subP; dsimp only; grind
      have e3 : tn (p (m + 2)) (p (m + 3)) (z.1 + (p 0).1, z.2 + (p 0).2) = crossP (subP (p (m + 2)) (p 0)) (subP (p (m + 3)) (p 0)) - crossP z (subP (p (m + 3)) (p 0)) - crossP (subP (p (m + 2)) (p 0)) z := by unfold tn crossP subP; dsimp only; grind
      constructor
      · rintro ⟨⟨a, b⟩, c, d⟩
        have a2 := a (m + 2) (by omega)
        rw [show m + 2 + 1 = m + 3 from rfl, e3] at a2
        rw [e1] at c d
        rw [e2] at b
        exact ⟨by omega, b, by omega⟩
      · rintro ⟨a, b, c⟩
        rw [e1]
        exact ⟨tri_in h (m := m + 2) (by omega) hm (by rw [e1]; omega) (by rw [show m + 2 + 1 = m + 3 from rfl, e3]; omega) (by rw [show m + 2 + 1 = m + 3 from rfl, e2]; omega), by omega, by omega⟩
    rw [List.length_map] at s
    have w := two_len (fun z => decide (tn (p 0) (p (m + 2)) z ≤ 0)) (fun z => decide (0 ≤ tn (p 0) (p (m + 2)) z)) L fun z _ => by
      rw [decide_eq_true_eq, decide_eq_true_eq]; omega
    have a0 : Ar p (m + 3) = Ar p (m + 2) + tn (p 0) (p (m + 2)) (p (m + 3)) := rfl
    have b0 : Br p (m + 3) = Br p (m + 2) + gP (p (m + 2)) (p (m + 3)) := rfl
    have g0 : gP (p (m + 2)) (p 0) = (Int.gcd (subP (p (m + 2)) (p 0)).1 (subP (p (m + 2)) (p 0)).2 : Nat) := by rw [gP_comm]; rfl
    have g1 : gP (p 0) (p (m + 2)) = gP (p (m + 2)) (p 0) := gP_comm _ _
    omega
end
end Go.Proofs.YtehhoplenloocaaGreat

/- Pick's theorem for the program's polygons: plain law. -/
namespace Go.Proofs.YtehhoplenloocaaGreat
set_option linter.unusedVariables false
set_option linter.unusedSimpArgs false

theorem tri_lin {a b c z : Pt} (A B C : Int) (hd : 0 < tn a b c) (z1 : 0 ≤ tn a b z) (z2 : 0 ≤ tn b c z) (z3 : 0 ≤ tn c a z)
    (ha : 0 ≤ A * a.1 + B * a.2 + C) (hb : 0 ≤ A * b.1 + B * b.2 + C) (hc : 0 ≤ A * c.1 + B * c.2 + C) : 0 ≤ A * z.1 + B * z.2 + C := by
  refine pos_of3 (E := tn a b c) (s := tn b c z) (t := A * a.1 + B * a.2 + C) (q := tn c a z) (r := A * b.1 + B * b.2 + C) (y := tn a b z) (z := A * c.1 + B * c.2 + C) hd ?_ z2 ha z3 hb z1 hc
  unfold tn crossP subP; dsimp only; grind
theorem fan_lin {n : Nat} {p : Nat → Pt} (h : TP n p) (A B C : Int) (hc : ∀ i, i < n → 0 ≤ A * (p i).1 + B * (p i).2 + C) : ∀ m, 2 ≤ m → m < n → ∀ z, inF p m z → 0 ≤ A * z.1 + B * z.2 + C
  | 0, h2, _, _, _ => by omega
  | 1, h2, _, _, _ => by omega
  | 2, _, hm, z, hz => tri_lin A B C (h 0 1 2 (by omega) (by omega) hm) (hz.1 0 (by omega)) (hz.1 1 (by omega)) hz.2 (hc 0 (by omega)) (hc 1 (by omega)) (hc 2 hm)
  | m + 3, _, hm, z, hz => by
    rcases Int.le_total (tn (p 0) (p (m + 2)) z) 0 with g | g
    · exact fan_lin h A B C hc (m + 2) (by omega) (by omega) z ⟨fun i hi => hz.1 i (by omega), by rw [ktn_rev]; omega⟩
    · exact tri_lin A B C (h 0 (m + 2) (m + 3) (by omega) (by omega) hm) g (hz.1 (m + 2) (by omega)) hz.2 (hc 0 (by omega)) (hc (m + 2) (by omega)) (hc (m + 3) hm)
theorem sd_gP {a b : List Int} (ha : a.length = 2) (hb : b.length = 2) : gcdL (minusI b a) = gP (ptOf a) (ptOf b) := by
  rw [show gcdL (minusI b a) = gcdI (gcdI 0 (b.getD 0 0 - a.getD 0 0)) (b.getD 1 0 - a.getD 1 0) from rfl]
  have k : ∀ x y : Int, gcdI (gcdI 0 x) y = ((Int.gcd x y : Nat) : Int) := fun x y => by
    unfold gcdI
    rw [Int.gcd_zero_left]
    show ((Nat.gcd ((x.natAbs : Nat) : Int).natAbs y.natAbs : Nat) : Int) = (Nat.gcd x.natAbs y.natAbs : Nat)
    rw [Int.natAbs_natCast]
  rw [k]; rfl
def boxP : List Pt := (List.range 101).flatMap fun i => (List.range 101).map fun j => (((i : Nat) : Int) - 50, ((j : Nat) : Int) - 50)
theorem boxP_nodup : boxP.Nodup := by
  unfold boxP
  refine nodup_flat (List.nodup_iff_pairwise_ne.2 (List.Pairwise.imp (fun h => Nat.ne_of_lt h) List.pairwise_lt_range)) (fun i _ => ?_) fun i _ j _ x h1 h2 => ?_
  · rw [List.nodup_iff_pairwise_ne, List.pairwise_map]
    refine List.Pairwise.imp (fun {a b} (h : a < b) e => ?_) List.pairwise_lt_range
    injection e with e1 e2
    omega
  · obtain ⟨a, _, rfl⟩ := List.mem_map.1 h1
    obtain ⟨b, _, e⟩ := List.mem_map.1 h2
    injection e with e1 e2
    omega
theorem boxP_mem {z : Pt} (h1 : -50 ≤ z.1 ∧ z.1 ≤ 50) (h2 : -50 ≤ z.2 ∧ z.2 ≤ 50) : z ∈ boxP := by
  unfold boxP
  rw [List.mem_flatMap]
  refine ⟨(z.1 + 50).toNat, List.mem_range.2 (by omega), List.mem_map.2 ⟨(z.2 + 50).toNat, List.mem_range.2 (by omega), Prod.ext ?_ ?_⟩⟩
  · show ((z.1 + 50).toNat : Int) - 50 = z.1; omega
  · show ((z.2 + 50).toNat : Int) - 50 = z.2; omega
section
variable {ls : List (List Int)} (hp : isPolyB ls = true)
include hp
theorem poly_parts : (3 ≤ ls.length ∧ ls.length ≤ 12) ∧ flatB ls 50 = true ∧ TP ls.length (pf ls) := by
  unfold isPolyB at hp
  rw [Bool.and_eq_true, Bool.and_eq_true] at hp
  obtain ⟨h1, h2, h3⟩ := hp
  have h1 := inB_iff.1 h1
  exact ⟨by omega, h2, ((locB_iff (by omega)).1 h3).tp⟩
theorem poly_bd {i : Nat} (hi : i < ls.length) : (-50 ≤ (pf ls i).1 ∧ (pf ls i).1 ≤ 50) ∧ (-50 ≤ (pf ls i).2 ∧ (pf ls i).2 ≤ 50) := by
  obtain ⟨-, h2, -⟩ := poly_parts hp
  obtain ⟨l, a⟩ := flat_at h2 hi
  exact ⟨allIn_at a 0 (by omega), allIn_at a 1 (by omega)⟩
theorem poly_sm {i : Nat} (hi : i < ls.length) : Sm (subP (pf ls i) (pf ls 0)) := by
  obtain ⟨h1, -, -⟩ := poly_parts hp
  have a := poly_bd hp hi
  have b := poly_bd hp (i := 0) (by omega)
  unfold Sm subP
  dsimp only
  omega
omit hp in
theorem ar_fan : ∀ k, k + 1 ≤ ls.length → arK ls k = Ar (pf ls) k + crossP (pf ls 0) (pf ls k)
  | 0, _ => by unfold arK Ar crossP; grind
  | k + 1, hk => by
    have ih := ar_fan k (by omega)
    have e : arT ls k = crossP (pf ls k) (pf ls (k + 1)) := by
      unfold arT
      rw [Nat.mod_eq_of_lt (by omega)]; rfl
    rw [arK, Ar, ih, e]
    unfold tn crossP subP; dsimp only; grind
theorem bd_fan : ∀ k, k + 1 ≤ ls.length → bdK ls k = Br (pf ls) k
  | 0, _ => rfl
  | k + 1, hk => by
    obtain ⟨-, h2, -⟩ := poly_parts hp
    have ih := bd_fan k (by omega)
    have e : sdI ls k = gP (pf ls k) (pf ls (k + 1)) := by
      unfold sdI
      rw [Nat.mod_eq_of_lt (by omega)]
      obtain ⟨l1, -⟩ := flat_at h2 (k := k) (by omega)
      obtain ⟨l2, -⟩ := flat_at h2 (k := k + 1) (by omega)
      exact sd_gP l1 l2
    rw [bdK, Br, ih, e]
theorem ar_last : arL ls = Ar (pf ls) (ls.length - 1) := by
  obtain ⟨⟨h1, -⟩, -, -⟩ := poly_parts hp
  obtain ⟨n, hn⟩ : ∃ n, ls.length = n + 1 := ⟨ls.length - 1, by omega⟩
  unfold arL
  rw [hn, arK, ar_fan n (by omega)]
  have e : arT ls n = crossP (pf ls n) (pf ls 0) := by
    unfold arT
    rw [hn, Nat.mod_self]; rfl
  rw [e, Nat.add_sub_cancel]
  unfold crossP; grind
theorem bd_last : bdL ls = Br (pf ls) (ls.length - 1) + gP (pf ls (ls.length - 1)) (pf ls 0) := by
  obtain ⟨⟨h1, -⟩, h2, -⟩ := poly_parts hp
  obtain ⟨n, hn⟩ : ∃ n, ls.length = n + 1 := ⟨ls.length - 1, by omega⟩
  unfold bdL
  rw [hn, bdK, bd_fan hp n (by omega), Nat.add_sub_cancel]
  have e : sdI ls n = gP (pf ls n) (pf ls 0) := by
    unfold sdI
    rw [hn, Nat.mod_self]
    obtain ⟨l1, -⟩ := flat_at h2 (k := n) (by omega)
    obtain ⟨l2, -⟩ := flat_at h2 (k := 0) (by omega)
    exact sd_gP l1 l2
  rw [e]
/-- twice the points of a polygon -/
theorem poly_pick {L : List Pt} (hL : L.Nodup) (hm : ∀ z, z ∈ L ↔ inF (pf ls) (ls.length - 1) z) : 2 * (L.length : Int) = 2 + arL ls + bdL ls := by
  obtain ⟨⟨h1, -⟩, -, h3⟩ := poly_parts hp
  have := fan_pick h3 (fun i hi => poly_sm hp hi) (ls.length - 1) (by omega) (by omega) L hL hm
  rw [ar_last hp, bd_last hp]; omega
theorem poly_in_box {z : Pt} (hz : inF (pf ls) (ls.length - 1) z) : z ∈ boxP := by
  obtain ⟨⟨h1, -⟩, -, h3⟩ := poly_parts hp
  have f := fun A B C hc => fan_lin h3 A B C hc (ls.length - 1) (by omega) (by omega) z hz
  have a := f 1 0 50 (fun i hi => by have := poly_bd hp hi; omega)
  have b := f (-1) 0 50 (fun i hi => by have := poly_bd hp hi; omega)
  have c := f 0 1 50 (fun i hi => by have := poly_bd hp hi; omega)
  have d := f 0 (-1) 50 (fun i hi => by have := poly_bd hp hi; omega)
  exact boxP_mem (by omega) (by omega)
theorem poly_even : ∃ k : Nat, 2 * (k : Int) = 2 + arL ls + bdL ls := by
  classical
  refine ⟨(boxP.filter fun z => decide (inF (pf ls) (ls.length - 1) z)).length, poly_pick hp (List.Pairwise.filter _ boxP_nodup) fun z => ?_⟩
  rw [List.mem_filter, decide_eq_true_eq]
  exact ⟨fun h => h.2, fun h => ⟨poly_in_box hp h, h⟩⟩
end
end Go.Proofs.YtehhoplenloocaaGreat
