/- What is told of a split cone: plain law. -/
import Derived.Test.YtehhoplenloocaaB5
import Derived.Test.YtehhoplenloocaaB3
namespace Go.Proofs.Ytehhoplenloocaa
set_option linter.unusedVariables false
set_option linter.unusedSimpArgs false

theorem crossI_two (a b c d : Int) : crossI [a, b] [c, d] = a * d - b * c := by simp [crossI]
/-- on the way to (p, q) the determinants with it fall to nought -/
structure SplDown (p q : Int) (L : List (List Int)) : Prop where
  pos : ∀ i, i < L.length → 0 ≤ crossI (L.getD i []) [p, q]
  dn : ∀ i, i + 1 < L.length → crossI (L.getD (i + 1) []) [p, q] < crossI (L.getD i []) [p, q]
  fin : crossI (L.getD (L.length - 1) []) [p, q] = 0
theorem splitP_down {p q : Int} (hp : -30 ≤ p ∧ p ≤ 30) (hq : -30 ≤ q ∧ q ≤ 30) : ∀ (k : Nat) (x y : Int), Spl p q x y k → SplDown p q (splitP p q k x y)
  | 0, x, y, h => by
    have h0 : x * q - y * p = 0 := by have := h.d0; have := h.dk; omega
    refine ⟨fun i hi => ?_, fun i hi => ?_, ?_⟩
    · obtain rfl : i = 0 := by simp [splitP] at hi; omega
      show 0 ≤ crossI [x, y] [p, q]; rw [crossI_two]; exact h.d0
    · simp [splitP] at hi
    · show crossI [x, y] [p, q] = 0; rw [crossI_two]; exact h0
  | k + 1, x, y, h => by
    by_cases h0 : x * q - y * p = 0
    · rw [splitP_zero p q _ h0]
      refine ⟨fun i hi => ?_, fun i hi => ?_, ?_⟩
      · obtain rfl : i = 0 := by simp at hi; omega
        show 0 ≤ crossI [x, y] [p, q]; rw [crossI_two]; exact h.d0
      · simp at hi
      · show crossI [x, y] [p, q] = 0; rw [crossI_two]; exact h0
    · obtain ⟨k', hk', hn⟩ := h.next hp hq h0
      obtain rfl : k' = k := by omega
      obtain ⟨hr, hc, hf⟩ := splitP_down hp hq k' _ _ hn
      obtain ⟨-, h1, h2⟩ := splitP_all hp hq k' _ _ hn
      have hd : 0 < x * q - y * p := by have := h.d0; omega
      have hx := (nx_cross (p := p) (q := q) hd (par_cross' h.bx h.byy h.g)).2.2
      rw [splitP_succ p q k' h0]
      refine ⟨fun i hi => ?_, fun i hi => ?_, ?_⟩
      · match i with
        | 0 => rw [List.getD_cons_zero, crossI_two]; exact h.d0
        | i + 1 => rw [List.getD_cons_succ]; exact hr i (by simpa using hi)
      · match i with
        | 0 =>
          rw [List.getD_cons_zero, List.getD_cons_succ, h1, crossI_two, crossI_two]; exact hx
        | i + 1 => rw [List.getD_cons_succ, List.getD_cons_succ]; exact hc i (by simpa using hi)
      · rw [List.length_cons, Nat.add_sub_cancel]
        obtain ⟨m, hm⟩ : ∃ m, (splitP p q k' (nextX x y p q) (nextY x y p q)).length = m + 1 := ⟨_, (Nat.sub_add_cancel h2).symm⟩
        rw [hm, List.getD_cons_succ]
        rw [hm, Nat.add_sub_cancel] at hf
        exact hf
theorem turn_two {d t d0 d2 : Int} (h : d0 + d2 = t * d) (h1 : d < d0) (h2 : 0 ≤ d2) (h3 : 0 < d) : 2 ≤ t := by
  rcases Int.lt_or_le t 2 with g | g
  · have : t * d ≤ 1 * d := Int.mul_le_mul_of_nonneg_right (by omega) (by omega)
    omega
  · exact g
/-- all that is told of a split cone -/
structure SplTold (U V : List Int) (L : List (List Int)) : Prop where
  len : 2 ≤ L.length
  fst : L.getD 0 [] = U
  lst : L.getD (L.length - 1) [] = V
  all : SplAll L
  inn : ∀ i, i < L.length → inC U V (L.getD i []) = true
  t2 : ∀ i, i + 2 < L.length → 2 ≤ crossI (L.getD i []) (L.getD (i + 2) [])
  cu : ∀ i, i + 1 < L.length → 0 ≤ crossI U (L.getD i []) ∧ crossI U (L.getD i []) < crossI U (L.getD (i + 1) [])
theorem gcd_parallel {a b p q : Int} (h1 : Int.gcd a b = 1) (h2 : Int.gcd p q = 1) (h : a * q - b * p = 0) : (p = a ∧ q = b) ∨ (p = -a ∧ q = -b) := by
  obtain ⟨u, v, huv⟩ := bez a b
  obtain ⟨s, t, hst⟩ := bez p q
  rw [h1] at huv
  rw [h2] at hst
  have huv : u * a + v * b = 1 := huv
  have hst : s * p + t * q = 1 := hst
  have d1 : a ∣ p := ⟨p * u + v * q, by grind⟩
  have d2 : p ∣ a := ⟨a * s + t * b, by grind⟩
  have d3 : b ∣ q := ⟨q * v + u * p, by grind⟩
  have d4 : q ∣ b := ⟨b * t + s * a, by grind⟩
  have e1 : a.natAbs = p.natAbs := Nat.dvd_antisymm (Int.natAbs_dvd_natAbs.2 d1) (Int.natAbs_dvd_natAbs.2 d2)
  have e2 : b.natAbs = q.natAbs := Nat.dvd_antisymm (Int.natAbs_dvd_natAbs.2 d3) (Int.natAbs_dvd_natAbs.2 d4)
  rcases Int.natAbs_eq_natAbs_iff.1 e1 with e1 | e1 <;> rcases Int.natAbs_eq_natAbs_iff.1 e2 with e2 | e2
  · left; exact ⟨e1.symm, e2.symm⟩
  · rw [e1, e2] at h
    have : p * q = 0 := by grind
    rcases Int.mul_eq_zero.1 this with e | e
    · right; exact ⟨by omega, by omega⟩
    · left; exact ⟨by omega, by omega⟩
  · rw [e1, e2] at h
    have : p * q = 0 := by grind
    rcases Int.mul_eq_zero.1 this with e | e
    · left; exact ⟨by omega, by omega⟩
    · right; exact ⟨by omega, by omega⟩
  · right; exact ⟨by omega, by omega⟩
theorem split_told {U V : List Int} (h : coneB U V = true) : SplTold U V (splitC U V) := by
  obtain ⟨x, y, p, q, rfl, rfl, bx, bY, bp, bq, hg, hg2, hd⟩ := cone_parts h
  have e : splitC [x, y] [p, q] = splitP p q (x * q - y * p).toNat x y := by unfold splitC; rw [h]; simp [crossI]
  have hs : Spl p q x y (x * q - y * p).toNat := ⟨bx, bY, hg, by omega, by omega⟩
  obtain ⟨hall, h0, hl0⟩ := splitP_all bp bq _ _ _ hs
  have hdn := splitP_down bp bq _ _ _ hs
  rw [e]
  generalize splitP p q (x * q - y * p).toNat x y = L at *
  have hlen : 2 ≤ L.length := by
    rcases Nat.lt_or_ge L.length 2 with g | g
    · have hf := hdn.fin
      rw [show L.length - 1 = 0 by omega, h0, crossI_two] at hf
      omega
    · exact g
  have hrow : ∀ i, i < L.length → ∃ a b, L.getD i [] = [a, b] ∧ (-30 ≤ a ∧ a ≤ 30) ∧ (-30 ≤ b ∧ b ≤ 30) := hall.row
  have hlst : L.getD (L.length - 1) [] = [p, q] := by
    obtain ⟨m, hm⟩ : ∃ m, L.length = m + 2 := ⟨L.length - 2, by omega⟩
    have hf := hdn.fin
    have hc := hall.cr m (by omega)
    have hm1 := hdn.dn m (by omega)
    rw [show L.length - 1 = m + 1 by omega] at hf ⊢
    obtain ⟨a, b, e1, -⟩ := hrow m (by omega)
    obtain ⟨c, d, e2, -⟩ := hrow (m + 1) (by omega)
    rw [e1, e2, crossI_two] at hc
    rw [e2, crossI_two] at hf
    rw [e1, e2, crossI_two, crossI_two] at hm1
    rw [e2]
    have hg3 := gcd_of_cross hc
    rcases gcd_parallel hg3 hg2 hf with ⟨r1, r2⟩ | ⟨r1, r2⟩
    · rw [r1, r2]
    · rw [r1, r2] at hm1
      have : a * d - b * c ≤ 0 := by grind
      omega
  have ht : ∀ i, i + 2 < L.length → 2 ≤ crossI (L.getD i []) (L.getD (i + 2) []) := fun i hi => by
    obtain ⟨a0, b0, e0, -⟩ := hrow i (by omega)
    obtain ⟨a1, b1, e1, -⟩ := hrow (i + 1) (by omega)
    obtain ⟨a2, b2, e2, -⟩ := hrow (i + 2) (by omega)
    have c1 := hall.cr i (by omega)
    have c2 := hall.cr (i + 1) (by omega)
    have d1 := hdn.dn i (by omega)
    have d2 := hdn.dn (i + 1) (by omega)
    have p2 := hdn.pos (i + 2) (by omega)
    rw [show i + 1 + 1 = i + 2 from rfl] at c2 d2
    rw [e0, e1, crossI_two] at c1
    rw [e1, e2, crossI_two] at c2
    rw [e0, e1, crossI_two, crossI_two] at d1
    rw [e1, e2, crossI_two, crossI_two] at d2
    rw [e2, crossI_two] at p2
    rw [e0, e2, crossI_two]
    obtain ⟨s1, s2⟩ := turn_eq c1 c2
    refine turn_two (d := a1 * q - b1 * p) (d0 := a0 * q - b0 * p) (d2 := a2 * q - b2 * p) ?_ d1 p2 (by omega)
    generalize a0 * b2 - b0 * a2 = t at *
    grind
  have hcU : ∀ i, i + 1 < L.length → 0 ≤ crossI [x, y] (L.getD i []) ∧ crossI [x, y] (L.getD i []) < crossI [x, y] (L.getD (i + 1) []) := by
    intro i
    induction i with
    | zero =>
      intro hi
      have c1 := hall.cr 0 hi
      rw [h0] at c1 ⊢
      rw [c1, crossI_two]
      constructor <;> grind
    | succ i ih =>
      intro hi
      obtain ⟨g1, g2⟩ := ih (by omega)
      have t := ht i hi
      obtain ⟨a0, b0, e0, -⟩ := hrow i (by omega)
      obtain ⟨a1, b1, e1, -⟩ := hrow (i + 1) (by omega)
      obtain ⟨a2, b2, e2, -⟩ := hrow (i + 2) (by omega)
      have c1 := hall.cr i (by omega)
      have c2 := hall.cr (i + 1) (by omega)
      rw [show i + 1 + 1 = i + 2 from rfl] at c2 ⊢
      rw [e0, e1, crossI_two] at c1
      rw [e1, e2, crossI_two] at c2
      rw [e0, e2, crossI_two] at t
      rw [e0, crossI_two] at g1
      rw [e0, e1, crossI_two, crossI_two] at g2
      rw [e1, e2, crossI_two, crossI_two]
      obtain ⟨s1, s2⟩ := turn_eq c1 c2
      generalize a0 * b2 - b0 * a2 = tt at *
      have k : x * b2 - y * a2 = tt * (x * b1 - y * a1) - (x * b0 - y * a0) := by grind
      have m : 2 * (x * b1 - y * a1) ≤ tt * (x * b1 - y * a1) := Int.mul_le_mul_of_nonneg_right t (by omega)
      omega
  refine ⟨hlen, h0, hlst, hall, fun i hi => ?_, ht, hcU⟩
  obtain ⟨a, b, e1, ha, hb⟩ := hrow i hi
  have hp := hdn.pos i hi
  have hc : 0 ≤ crossI [x, y] (L.getD i []) := by
    match i with
    | 0 => exact (hcU 0 (by omega)).1
    | i + 1 => have := hcU i hi; omega
  unfold inC vecB
  rw [h, e1]
  rw [e1] at hp hc
  simp [allIn, inB, hp, hc]
  omega

/-! ### cones out of turns are split into them -/
theorem next_unique {x y p q a b c d : Int} (h1 : x * b - y * a = 1) (h2 : x * d - y * c = 1) (ha0 : 0 ≤ a * q - b * p) (ha1 : a * q - b * p < x * q - y * p) (hc0 : 0 ≤ c * q - d * p) (hc1 : c * q - d * p < x * q - y * p) : c = a ∧ d = b := by
  obtain ⟨e1, e2⟩ := two_partners h1 h2
  generalize (c - a) * b - (d - b) * a = k at *
  have e : c * q - d * p = (a * q - b * p) + k * (x * q - y * p) := by rw [e1, e2]; grind
  have hk : k = 0 := by
    generalize x * q - y * p = D at *
    generalize a * q - b * p = A at *
    rw [e] at hc0 hc1
    rcases Int.lt_or_le k 0 with g | g
    · have : k * D ≤ (-1) * D := Int.mul_le_mul_of_nonneg_right (by omega) (by omega)
      omega
    · rcases Int.lt_or_le 0 k with g2 | g2
      · have : 1 * D ≤ k * D := Int.mul_le_mul_of_nonneg_right (by omega) (by omega)
        omega
      · omega
  rw [hk] at e1 e2
  exact ⟨by omega, by omega⟩
/-- the vectors on the way -/
def tnX (l : List Int) (k : Nat) : Int := (tnK l k).1
def tnY (l : List Int) (k : Nat) : Int := (tnK l k).2.1
theorem tn_rec (l : List Int) (k : Nat) : tnX l (k + 2) = l.getD k 0 * tnX l (k + 1) - tnX l k ∧ tnY l (k + 2) = l.getD k 0 * tnY l (k + 1) - tnY l k := ⟨rfl, rfl⟩
theorem tnl_cross (l : List Int) : ∀ k, tnX l k * tnY l (k + 1) - tnY l k * tnX l (k + 1) = 1
  | 0 => by simp [tnX, tnY, tnK]
  | k + 1 => by
    have ih := tnl_cross l k
    obtain ⟨e1, e2⟩ := tn_rec l k
    rw [show k + 1 + 1 = k + 2 from rfl, e1, e2]
    generalize l.getD k 0 = t
    grind
theorem tn_down {l : List Int} (h : ∀ k, k < l.length → 2 ≤ l.getD k 0) : ∀ m k, k + m = l.length → 0 ≤ tnX l (k + 1) * tnY l (l.length + 1) - tnY l (k + 1) * tnX l (l.length + 1) ∧ tnX l (k + 1) * tnY l (l.length + 1) - tnY l (k + 1) * tnX l (l.length + 1) < tnX l k * tnY l (l.length + 1) - tnY l k * tnX l (l.length + 1)
  | 0, k, e => by
    obtain rfl : k = l.length := by omega
    rw [tnl_cross]
    constructor <;> grind
  | m + 1, k, e => by
    obtain ⟨g1, g2⟩ := tn_down h m (k + 1) (by omega)
    obtain ⟨e1, e2⟩ := tn_rec l k
    have hk := h k (by omega)
    rw [show k + 1 + 1 = k + 2 from rfl] at g1 g2
    generalize l.getD k 0 = t at *
    generalize tnX l (l.length + 1) = p at *
    generalize tnY l (l.length + 1) = q at *
    have e3 : tnX l k * q - tnY l k * p = t * (tnX l (k + 1) * q - tnY l (k + 1) * p) - (tnX l (k + 2) * q - tnY l (k + 2) * p) := by rw [e1, e2]; grind
    generalize tnX l (k + 1) * q - tnY l (k + 1) * p = d1 at *
    generalize tnX l (k + 2) * q - tnY l (k + 2) * p = d2 at *
    have m : 2 * d1 ≤ t * d1 := Int.mul_le_mul_of_nonneg_right hk (by omega)
    omega
theorem split_turns {l : List Int} (h : ∀ k, k < l.length → 2 ≤ l.getD k 0) (hp : -30 ≤ tnX l (l.length + 1) ∧ tnX l (l.length + 1) ≤ 30) (hq : -30 ≤ tnY l (l.length + 1) ∧ tnY l (l.length + 1) ≤ 30) :
    ∀ m k K, k + m = l.length + 1 → Spl (tnX l (l.length + 1)) (tnY l (l.length + 1)) (tnX l k) (tnY l k) K → splitP (tnX l (l.length + 1)) (tnY l (l.length + 1)) K (tnX l k) (tnY l k) = (List.range (m + 1)).map fun i => [tnX l (k + i), tnY l (k + i)]
  | 0, k, K, e, hs => by
    obtain rfl : k = l.length + 1 := by omega
    rw [splitP_zero _ _ _ (by grind)]
    simp
  | m + 1, k, K, e, hs => by
    obtain ⟨g1, g2⟩ := tn_down h m k (by omega)
    have h0 : tnX l k * tnY l (l.length + 1) - tnY l k * tnX l (l.length + 1) ≠ 0 := by omega
    obtain ⟨K', rfl, hn⟩ := hs.next hp hq h0
    have hd : 0 < tnX l k * tnY l (l.length + 1) - tnY l k * tnX l (l.length + 1) := by omega
    obtain ⟨c1, c2, c3⟩ := nx_cross (p := tnX l (l.length + 1)) (q := tnY l (l.length + 1)) hd (par_cross' hs.bx hs.byy hs.g)
    obtain ⟨u1, u2⟩ := next_unique (tnl_cross l k) c1 g1 g2 c2 c3
    have u1 : nextX (tnX l k) (tnY l k) (tnX l (l.length + 1)) (tnY l (l.length + 1)) = tnX l (k + 1) := u1
    have u2 : nextY (tnX l k) (tnY l k) (tnX l (l.length + 1)) (tnY l (l.length + 1)) = tnY l (k + 1) := u2
    rw [u1, u2] at hn
    rw [splitP_succ _ _ _ h0, u1, u2, split_turns h hp hq m (k + 1) K' (by omega) hn]
    rw [List.range_succ_eq_map (n := m + 1), List.map_cons, List.map_map]
    congr 1
    apply List.map_congr_left
    intro i hi
    show [tnX l (k + 1 + i), tnY l (k + 1 + i)] = [tnX l (k + (i + 1)), tnY l (k + (i + 1))]
    rw [show k + 1 + i = k + (i + 1) by omega]
theorem turns_back {l : List Int} (h : turnOk l = true) : turnsL (splitC [1, 0] (tnB l l.length)) = l := by
  unfold turnOk at h
  simp only [Bool.and_eq_true] at h
  obtain ⟨⟨h1, h2⟩, h3⟩ := h
  have hl : ∀ k, k < l.length → 2 ≤ l.getD k 0 := fun k hk => (allIn_at h2 k hk).1
  have hB : tnB l l.length = [tnX l (l.length + 1), tnY l (l.length + 1)] := rfl
  rw [hB] at h3 ⊢
  obtain ⟨x, y, p, q, e1, e2, bx, bY, bp, bq, hg, hg2, hd⟩ := cone_parts h3
  injection e1 with e3 e4
  injection e4 with e4
  injection e2 with e5 e6
  injection e6 with e6
  subst e3 e4 e5 e6
  have e : splitC [1, 0] [tnX l (l.length + 1), tnY l (l.length + 1)] = splitP (tnX l (l.length + 1)) (tnY l (l.length + 1)) (1 * tnY l (l.length + 1) - 0 * tnX l (l.length + 1)).toNat 1 0 := by unfold splitC; rw [h3]; simp [crossI]
  have hs : Spl (tnX l (l.length + 1)) (tnY l (l.length + 1)) (tnX l 0) (tnY l 0) (1 * tnY l (l.length + 1) - 0 * tnX l (l.length + 1)).toNat := ⟨bx, bY, hg, by show 0 ≤ 1 * _ - 0 * _; omega, by show 1 * _ - 0 * _ ≤ _; omega⟩
  have hsp := split_turns hl bp bq (l.length + 1) 0 _ (by omega) hs
  have hsp : splitP (tnX l (l.length + 1)) (tnY l (l.length + 1)) (1 * tnY l (l.length + 1) - 0 * tnX l (l.length + 1)).toNat 1 0 = _ := hsp
  rw [e, hsp]
  unfold turnsL
  apply List.ext_getElem
  · simp
  · intro i hi hi2
    simp only [List.length_map, List.length_range] at hi
    have hget : ∀ j, j < l.length + 2 → ((List.range (l.length + 1 + 1)).map fun i => [tnX l (0 + i), tnY l (0 + i)]).getD j [] = [tnX l j, tnY l j] := fun j hj => by
      rw [List.getD_eq_getElem?_getD, List.getElem?_map, List.getElem?_range (by omega)]; simp
    simp only [List.getElem_map, List.getElem_range]
    rw [hget i (by omega), hget (i + 2) (by omega), crossI_two]
    obtain ⟨r1, r2⟩ := tn_rec l i
    have hc := tnl_cross l i
    rw [r1, r2, List.getD_eq_getElem?_getD, List.getElem?_eq_getElem hi2]
    simp only [Option.getD_some]
    generalize l[i] = t
    grind
end Go.Proofs.Ytehhoplenloocaa
