/- The top numbers of a tetrahedron: plain law. -/
import Derived.Test.YtfncikbmdaameaaLtc
import Derived.Test.YtfncikbmdaameaaTop
namespace Go.Proofs.Ytfncikbmdaameaa
set_option linter.unusedVariables false
set_option linter.unusedSimpArgs false

/-- the factors in space -/
def f3 (M : List (List Int)) (z : Nat → Int) (r : Nat) : Int :=
  if r = 0 then dd (z 0) (z 1) (z 2) (atM M 1 0) (atM M 1 1) (atM M 1 2) (atM M 2 0) (atM M 2 1) (atM M 2 2)
  else if r = 1 then dd (atM M 0 0) (atM M 0 1) (atM M 0 2) (z 0) (z 1) (z 2) (atM M 2 0) (atM M 2 1) (atM M 2 2)
  else if r = 2 then dd (atM M 0 0) (atM M 0 1) (atM M 0 2) (atM M 1 0) (atM M 1 1) (atM M 1 2) (z 0) (z 1) (z 2)
  else 0
theorem sgd_add (d x y : Int) : sgd d (x + y) = sgd d x + sgd d y := by unfold sgd; split <;> omega
theorem sgd_mulc (d c x : Int) : sgd d (c * x) = c * sgd d x := by unfold sgd; split <;> first | rfl | rw [Int.mul_neg]
theorem getD_in' {l : List Int} {j : Nat} (h : j < l.length) : l.getD j 0 = l[j] := by rw [List.getD_eq_getElem?_getD, List.getElem?_eq_getElem h]; rfl
theorem sum_ones (L : List (List Int)) : (L.map fun _ => 1).sum = L.length := by
  induction L with
  | nil => rfl
  | cons a L ih => rw [List.map_cons, List.sum_cons, ih, List.length_cons]; omega
theorem sgd_zero (d : Int) : sgd d 0 = 0 := by unfold sgd; split <;> omega
theorem sgd_self (d : Int) : sgd d d = d.natAbs := by unfold sgd; split <;> omega
theorem sq3_det {M : List (List Int)} (h : Sq 3 M) : det3 M = dN M := by
  rw [dN_at3 h]; unfold det3 dd atM; grind
theorem simp3 {M : List (List Int)} (hs : Sq 3 M) (hd : dN M ≠ 0) : Simp 3 M (dN M).natAbs (fun z r => sgd (dN M) (f3 M z r)) where
  n2 := .inr rfl
  pos := by omega
  sq := hs
  add x y r := by
    rw [← sgd_add]; congr 1
    unfold f3 dd
    split
    · grind
    · split
      · grind
      · split
        · grind
        · omega
  mul c x r := by
    rw [← sgd_mulc]; congr 1
    unfold f3 dd
    split
    · grind
    · split
      · grind
      · split
        · grind
        · omega
  cg x y h r := by unfold f3; rw [h 0 (by omega), h 1 (by omega), h 2 (by omega)]
  row i r hi hr := by
    by_cases e : i = r
    · subst e
      rw [if_pos rfl, ← sgd_self]; congr 1
      rw [dN_at3 hs]
      rcases (show i = 0 ∨ i = 1 ∨ i = 2 by omega) with rfl | rfl | rfl <;> simp [f3, dd] <;> grind
    · rw [if_neg e]
      have : f3 M (fun j => atM M i j) r = 0 := by
        rcases (show i = 0 ∨ i = 1 ∨ i = 2 by omega) with rfl | rfl | rfl <;> rcases (show r = 0 ∨ r = 1 ∨ r = 2 by omega) with rfl | rfl | rfl <;> simp [f3, dd] at e ⊢ <;> grind
      rw [this, sgd_zero]
  out z r hr := by
    have : f3 M z r = 0 := by unfold f3; rw [if_neg (by omega), if_neg (by omega), if_neg (by omega)]
    rw [this, sgd_zero]
  cra z j hj := by
    rw [← sgd_self, Int.mul_comm _ (z j), Int.mul_comm _ (atM M 0 j), Int.mul_comm _ (atM M 1 j), Int.mul_comm _ (atM M 2 j), ← sgd_mulc, ← sgd_mulc, ← sgd_mulc, ← sgd_mulc, ← sgd_add, ← sgd_add]
    congr 1
    rw [dN_at3 hs]
    rcases (show j = 0 ∨ j = 1 ∨ j = 2 by omega) with rfl | rfl | rfl <;> simp [f3, dd] <;> grind

/-- the edges as a matrix -/
theorem edges_sq {ls : List (List Int)} (h : Four 4 ls) : Sq 3 (edgesF ls) ∧ ∀ i j, -100 ≤ atM (edgesF ls) i j ∧ atM (edgesF ls) i j ≤ 100 := by
  obtain ⟨r0, r1, r2, r3, rfl⟩ := len4 h.1
  have b : ∀ i, i < 4 → ∀ j, -4 ≤ (([r0, r1, r2, r3] : List (List Int)).getD i []).getD j 0 ∧ (([r0, r1, r2, r3] : List (List Int)).getD i []).getD j 0 ≤ 4 := fun i hi j => by
    obtain ⟨l, a⟩ := h.getD i hi
    by_cases hj : j < 3
    · exact allIn_at a j (by omega)
    · rw [List.getD_eq_getElem?_getD, List.getElem?_eq_none (by omega)]; simp
  have e : edgesF [r0, r1, r2, r3] = [diff3 r1 r0, diff3 r2 r0, diff3 r3 r0] := rfl
  have b0 := b 0 (by omega)
  have b1 := b 1 (by omega)
  have b2 := b 2 (by omega)
  have b3 := b 3 (by omega)
  simp only [List.getD_cons_zero, List.getD_cons_succ] at b0 b1 b2 b3
  have hsq : Sq 3 (edgesF [r0, r1, r2, r3]) := by
    rw [e]
    refine ⟨rfl, fun i hi => ?_⟩
    rcases (show i = 0 ∨ i = 1 ∨ i = 2 by omega) with rfl | rfl | rfl <;> rfl
  refine ⟨hsq, fun i j => ?_⟩
  by_cases hi : i < 3
  · by_cases hj : j < 3
    · rw [e]
      rcases (show i = 0 ∨ i = 1 ∨ i = 2 by omega) with rfl | rfl | rfl <;> rcases (show j = 0 ∨ j = 1 ∨ j = 2 by omega) with rfl | rfl | rfl <;> simp only [atM, diff3, List.getD_cons_zero, List.getD_cons_succ] <;>
        first | (have x := b1 0; have y := b0 0; omega) | (have x := b1 1; have y := b0 1; omega) | (have x := b1 2; have y := b0 2; omega) | (have x := b2 0; have y := b0 0; omega) | (have x := b2 1; have y := b0 1; omega) | (have x := b2 2; have y := b0 2; omega) | (have x := b3 0; have y := b0 0; omega) | (have x := b3 1; have y := b0 1; omega) | (have x := b3 2; have y := b0 2; omega)
    · rw [hsq.out (by omega)]; omega
  · rw [hsq.out2 (by omega)]; omega
theorem hi3 {M : List (List Int)} (hs : Sq 3 M) (hb : ∀ i j, -100 ≤ atM M i j ∧ atM M i j ≤ 100) (hd : dN M ≠ 0) : HI 3 0 M := by
  refine ⟨hs, fun i j => ?_, fun c hc => by omega, fun t ht => ?_⟩
  · have := hb i j; omega
  · have := dN_bd3 hs hb; omega
theorem allK_mem (lo hi : Int) : ∀ k v, v ∈ allK lo hi k ↔ v.length = k ∧ ∀ c, c < k → lo ≤ v.getD c 0 ∧ v.getD c 0 ≤ hi
  | 0, v => by
    constructor
    · intro h
      simp [allK] at h
      subst h; exact ⟨rfl, fun c hc => by omega⟩
    · rintro ⟨h, -⟩
      rw [List.length_eq_zero_iff.1 h]; simp [allK]
  | k + 1, v => by
    rw [allK, stepL, List.mem_flatMap]
    constructor
    · rintro ⟨u, hu, hv⟩
      obtain ⟨h1, h2⟩ := (allK_mem lo hi k u).1 hu
      unfold longer at hv
      rw [List.mem_map] at hv
      obtain ⟨i, hi, rfl⟩ := hv
      rw [List.mem_range] at hi
      refine ⟨by simp [h1], fun c hc => ?_⟩
      by_cases e : c < k
      · rw [List.getD_eq_getElem?_getD, List.getElem?_append_left (by omega), ← List.getD_eq_getElem?_getD]; exact h2 c e
      · obtain rfl : c = k := by omega
        rw [List.getD_eq_getElem?_getD, List.getElem?_append_right (by omega), h1]
        simp; omega
    · rintro ⟨h1, h2⟩
      refine ⟨v.take k, (allK_mem lo hi k _).2 ⟨by rw [List.length_take]; omega, fun c hc => ?_⟩, ?_⟩
      · rw [List.getD_eq_getElem?_getD, List.getElem?_take_of_lt hc, ← List.getD_eq_getElem?_getD]; exact h2 c (by omega)
      · unfold longer
        rw [List.mem_map]
        have hk := h2 k (by omega)
        refine ⟨(v.getD k 0 - lo).toNat, by rw [List.mem_range]; omega, ?_⟩
        have e1 : lo + ((v.getD k 0 - lo).toNat : Int) = v.getD k 0 := by omega
        rw [e1, List.getD_eq_getElem?_getD, List.getElem?_eq_getElem (show k < v.length by omega)]
        have e2 : v.take (k + 1) = v := by rw [← h1, List.take_length]
        conv => rhs; rw [← e2]
        rw [List.take_succ_eq_append_getElem (show k < v.length by omega)]; rfl
theorem allK_nodup (lo hi : Int) : ∀ k, (allK lo hi k).Nodup
  | 0 => by simp [allK]
  | k + 1 => stepL_nodup _ _ (allK_nodup lo hi k) fun v hv => ((allK_mem lo hi k v).1 hv).1
theorem sumK_filter (p : List Int → Bool) (g : List Int → Int) (hg : ∀ x, g x = if p x = true then 1 else 0) (l : List (List Int)) : ∀ k, k ≤ l.length → sumK g l k = ((l.take k).filter p).length
  | 0, _ => by simp [sumK]
  | k + 1, hk => by
    rw [sumK, sumK_filter p g hg l k (by omega), List.take_succ_eq_append_getElem (by omega), List.filter_append, List.length_append, hg, List.getD_eq_getElem?_getD, List.getElem?_eq_getElem (show k < l.length by omega)]
    cases hp : p l[k] <;> simp [hp]
theorem sumK_full (p : List Int → Bool) (g : List Int → Int) (hg : ∀ x, g x = if p x = true then 1 else 0) (l : List (List Int)) : sumK g l l.length = (l.filter p).length := by
  rw [sumK_filter p g hg l _ (Nat.le_refl _), List.take_length]
theorem plc_pos {S : Nat → Int} : ∀ n, (1 ≤ plc S n ↔ ∀ i, i < n → S i ≠ 0)
  | 0 => ⟨fun _ i hi => by omega, fun _ => by simp [plc]⟩
  | n + 1 => by
    rw [plc]
    split
    · rename_i h
      exact ⟨fun h1 => by omega, fun h1 => absurd h (h1 n (by omega))⟩
    · rename_i h
      rw [plc_pos n]
      exact ⟨fun h1 i hi => by
        by_cases e : i = n
        · rw [e]; exact h
        · exact h1 i (by omega), fun h1 i hi => h1 i (by omega)⟩
theorem placeN_0 {S : Nat → Int} {n : Nat} : 0 ≤ placeN S n ↔ ∀ i, i < n → 0 ≤ S i := by
  constructor
  · intro h i hi
    rcases Int.lt_or_le (S i) 0 with g | g
    · rw [placeN_neg hi g] at h; omega
    · exact g
  · intro h
    rw [placeN_pos h]
    rcases plc_bd S n with e | e <;> omega
theorem placeN_1 {S : Nat → Int} {n : Nat} : 1 ≤ placeN S n ↔ ∀ i, i < n → 0 < S i := by
  constructor
  · intro h
    have h0 := placeN_0.1 (show 0 ≤ placeN S n by omega)
    rw [placeN_pos h0, plc_pos] at h
    intro i hi
    have := h0 i hi
    have := h i hi
    omega
  · intro h
    rw [placeN_pos (fun i hi => by have := h i hi; omega), plc_pos]
    intro i hi
    have := h i hi
    omega
theorem facF_f3 {M : List (List Int)} (h : Sq 3 M) (y : List Int) (hy : y.length = 3) {r : Nat} (hr : r < 3) : facF M y r = f3 M (fnL y) r := by
  obtain ⟨a, b, c, d, e, f, g, i, j, rfl⟩ := h.three
  obtain ⟨y0, y1, y2, rfl⟩ := len3 hy
  rcases (show r = 0 ∨ r = 1 ∨ r = 2 by omega) with rfl | rfl | rfl <;> rfl
/-- the four factors of a point -/
theorem sS_eq {ls : List (List Int)} (hE : Sq 3 (edgesF ls)) (x : List Int) (t : Int) :
    sS ls x t 0 = sgd (dN (edgesF ls)) (f3 (edgesF ls) (fnL (yF ls x t)) 0) ∧ sS ls x t 1 = sgd (dN (edgesF ls)) (f3 (edgesF ls) (fnL (yF ls x t)) 1) ∧ sS ls x t 2 = sgd (dN (edgesF ls)) (f3 (edgesF ls) (fnL (yF ls x t)) 2) ∧
    sS ls x t 3 = t * (dN (edgesF ls)).natAbs - sgd (dN (edgesF ls)) (f3 (edgesF ls) (fnL (yF ls x t)) 0) - sgd (dN (edgesF ls)) (f3 (edgesF ls) (fnL (yF ls x t)) 1) - sgd (dN (edgesF ls)) (f3 (edgesF ls) (fnL (yF ls x t)) 2) := by
  have hy : (yF ls x t).length = 3 := rfl
  have e0 := facF_f3 hE _ hy (r := 0) (by omega)
  have e1 := facF_f3 hE _ hy (r := 1) (by omega)
  have e2 := facF_f3 hE _ hy (r := 2) (by omega)
  have hd := sq3_det hE
  unfold sS
  rw [hd]
  have k0 : (sF ls x t).getD 0 0 = facF (edgesF ls) (yF ls x t) 0 := rfl
  have k1 : (sF ls x t).getD 1 0 = facF (edgesF ls) (yF ls x t) 1 := rfl
  have k2 : (sF ls x t).getD 2 0 = facF (edgesF ls) (yF ls x t) 2 := rfl
  have k3 : (sF ls x t).getD 3 0 = t * det3 (edgesF ls) - facF (edgesF ls) (yF ls x t) 0 - facF (edgesF ls) (yF ls x t) 1 - facF (edgesF ls) (yF ls x t) 2 := rfl
  rw [k0, k1, k2, k3, e0, e1, e2, hd]
  refine ⟨rfl, rfl, rfl, ?_⟩
  rw [← sgd_self, ← sgd_mulc]
  unfold sgd; split <;> omega
def inT (ls : List (List Int)) (t : Int) (x : List Int) : Bool := decide (0 ≤ fP ls t x)
def innT (ls : List (List Int)) (t : Int) (x : List Int) : Bool := decide (1 ≤ fP ls t x)
theorem four_all (S : Nat → Int) (p : Int → Prop) : (∀ i, i < 4 → p (S i)) ↔ (p (S 0) ∧ p (S 1) ∧ p (S 2)) ∧ p (S 3) := by
  constructor
  · intro h; exact ⟨⟨h 0 (by omega), h 1 (by omega), h 2 (by omega)⟩, h 3 (by omega)⟩
  · rintro ⟨⟨h0, h1, h2⟩, h3⟩ i hi
    rcases (show i = 0 ∨ i = 1 ∨ i = 2 ∨ i = 3 by omega) with rfl | rfl | rfl | rfl <;> assumption
theorem three_all (S : Nat → Int) (p : Int → Prop) : (∀ i, i < 3 → p (S i)) ↔ p (S 0) ∧ p (S 1) ∧ p (S 2) := by
  constructor
  · intro h; exact ⟨h 0 (by omega), h 1 (by omega), h 2 (by omega)⟩
  · rintro ⟨h0, h1, h2⟩ i hi
    rcases (show i = 0 ∨ i = 1 ∨ i = 2 by omega) with rfl | rfl | rfl <;> assumption
/-- a point that the factors tell lies in the box -/
theorem tet_box {ls : List (List Int)} (hF : Four 4 ls) (hp : ∀ i, i < 4 → ∀ j, j < 3 → 0 ≤ (ls.getD i []).getD j 0) (hE : Sq 3 (edgesF ls)) (hd : dN (edgesF ls) ≠ 0) {t : Int} (y : List Int) (hy : y.length = 3)
    (h0 : ∀ r, r < 3 → 0 ≤ sgd (dN (edgesF ls)) (f3 (edgesF ls) (fnL y) r)) (hs : sgd (dN (edgesF ls)) (f3 (edgesF ls) (fnL y) 0) + sgd (dN (edgesF ls)) (f3 (edgesF ls) (fnL y) 1) + sgd (dN (edgesF ls)) (f3 (edgesF ls) (fnL y) 2) ≤ t * (dN (edgesF ls)).natAbs) (j : Nat) (hj : j < 3) :
    0 ≤ y.getD j 0 + (ls.getD 0 []).getD j 0 * t ∧ y.getD j 0 + (ls.getD 0 []).getD j 0 * t ≤ 4 * t := by
  have S := simp3 hE hd
  have hc := S.cra (fnL y) j hj
  have p0 := hp 0 (by omega) j hj
  have p1 := hp 1 (by omega) j hj
  have p2 := hp 2 (by omega) j hj
  have p3 := hp 3 (by omega) j hj
  have u : ∀ i, i < 4 → (ls.getD i []).getD j 0 ≤ 4 := fun i hi => by
    obtain ⟨l, a⟩ := hF.getD i hi
    exact (allIn_at a j (by omega)).2
  have u0 := u 0 (by omega)
  have u1 := u 1 (by omega)
  have u2 := u 2 (by omega)
  have u3 := u 3 (by omega)
  have a0 := h0 0 (by omega)
  have a1 := h0 1 (by omega)
  have a2 := h0 2 (by omega)
  have hD : 0 < ((dN (edgesF ls)).natAbs : Int) := by omega
  have e : ∀ i, i < 3 → atM (edgesF ls) i j = (ls.getD (i + 1) []).getD j 0 - (ls.getD 0 []).getD j 0 := fun i hi => by
    obtain ⟨r0, r1, r2, r3, rfl⟩ := len4 hF.1
    rcases (show i = 0 ∨ i = 1 ∨ i = 2 by omega) with rfl | rfl | rfl <;> rcases (show j = 0 ∨ j = 1 ∨ j = 2 by omega) with rfl | rfl | rfl <;> rfl
  rw [e 0 (by omega), e 1 (by omega), e 2 (by omega)] at hc
  change ((dN (edgesF ls)).natAbs : Int) * y.getD j 0 = _ at hc
  generalize sgd (dN (edgesF ls)) (f3 (edgesF ls) (fnL y) 0) = f0 at *
  generalize sgd (dN (edgesF ls)) (f3 (edgesF ls) (fnL y) 1) = f1 at *
  generalize sgd (dN (edgesF ls)) (f3 (edgesF ls) (fnL y) 2) = f2 at *
  generalize ((dN (edgesF ls)).natAbs : Int) = D at *
  generalize (ls.getD 0 []).getD j 0 = q0 at *
  change D * y.getD j 0 = f0 * ((ls.getD 1 []).getD j 0 - q0) + f1 * ((ls.getD 2 []).getD j 0 - q0) + f2 * ((ls.getD 3 []).getD j 0 - q0) at hc
  generalize (ls.getD 1 []).getD j 0 = q1 at *
  generalize (ls.getD 2 []).getD j 0 = q2 at *
  generalize (ls.getD 3 []).getD j 0 = q3 at *
  generalize y.getD j 0 = z at *
  obtain ⟨f3', hf3⟩ : ∃ g, g = t * D - f0 - f1 - f2 := ⟨_, rfl⟩
  have hD2 : D * (z + q0 * t) = f0 * q1 + f1 * q2 + f2 * q3 + f3' * q0 := by rw [hf3]; grind
  have m : ∀ f q : Int, 0 ≤ f → 0 ≤ q → q ≤ 4 → 0 ≤ f * q ∧ f * q ≤ f * 4 := fun f q h1 h2 h3 => ⟨Int.mul_nonneg h1 h2, Int.mul_le_mul_of_nonneg_left h3 h1⟩
  have m0 := m f0 q1 a0 p1 u1
  have m1 := m f1 q2 a1 p2 u2
  have m2 := m f2 q3 a2 p3 u3
  have m3 := m f3' q0 (by omega) p0 u0
  have hup : D * (z + q0 * t) ≤ D * (4 * t) := by
    rw [hD2, show D * (4 * t) = 4 * (t * D) by grind]; omega
  have hlo : D * 0 ≤ D * (z + q0 * t) := by rw [hD2]; omega
  exact ⟨Int.le_of_mul_le_mul_left hlo hD, Int.le_of_mul_le_mul_left hup hD⟩
theorem yF_inj {ls : List (List Int)} {x x' : List Int} {t : Int} (hx : x.length = 3) (hx' : x'.length = 3) (e : yF ls x t = yF ls x' t) : x = x' := by
  obtain ⟨a, b, c, rfl⟩ := len3 hx
  obtain ⟨a', b', c', rfl⟩ := len3 hx'
  unfold yF diff3 at e
  simp only [List.getD_cons_zero, List.getD_cons_succ, List.cons.injEq, and_true] at e
  obtain ⟨e1, e2, e3⟩ := e
  rw [show a = a' by omega, show b = b' by omega, show c = c' by omega]
theorem getD_mulT (r : List Int) (hr : r.length = 3) (t : Int) {j : Nat} (hj : j < 3) : (r.map (· * t)).getD j 0 = r.getD j 0 * t := by
  rw [List.getD_eq_getElem?_getD, List.getElem?_map, List.getElem?_eq_getElem (by omega), List.getD_eq_getElem?_getD, List.getElem?_eq_getElem (by omega)]; rfl
/-- the counts of a stretched tetrahedron -/
theorem tet_count {ls : List (List Int)} (hB : tetraB ls = true) {t : Int} (h0 : 0 ≤ t) (h3 : t ≤ 3) :
    (((allK 0 (4 * t) 3).filter (inT ls t)).length = ((ldK (herS 3 3 (edgesF ls)) 3).map fun v => (Q 3 (t - hgt (fun z r => sgd (dN (edgesF ls)) (f3 (edgesF ls) z r)) (dN (edgesF ls)).natAbs v)).length).sum) ∧
    (t ≤ 2 → ((allK 0 (4 * t) 3).filter (innT ls t)).length = ((ldK (herS 3 3 (edgesF ls)) 3).map fun v => (Q 3 (t + hgt (fun z r => sgd (dN (edgesF ls)) (f3 (edgesF ls) z r)) (dN (edgesF ls)).natAbs v - (((3 : Nat) : Int) + 1))).length).sum) := by
  obtain ⟨hF, hdd⟩ := tetraB_true hB
  obtain ⟨hE, hEb⟩ := edges_sq hF
  rw [sq3_det hE] at hdd
  have hI := hi3 hE hEb hdd
  obtain ⟨hX, hEX⟩ := her3 hI hEb
  have S := simp3 hE hdd
  have hp : ∀ i, i < 4 → ∀ j, j < 3 → 0 ≤ (ls.getD i []).getD j 0 := fun i hi j hj => by
    unfold tetraB at hB
    simp only [Bool.and_eq_true] at hB
    have := getD_of_all hB.1.2 i (by rw [hF.1]; exact hi)
    unfold tetRow at this
    simp only [Bool.and_eq_true, decide_eq_true_eq] at this
    exact (allIn_at this.2 j (by omega)).1
  have hl0 := (hF.getD 0 (by omega)).1
  have hyx : ∀ x : List Int, ∀ j, j < 3 → (yF ls x t).getD j 0 = x.getD j 0 - (ls.getD 0 []).getD j 0 * t := fun x j hj => by
    unfold yF diff3
    rcases (show j = 0 ∨ j = 1 ∨ j = 2 by omega) with rfl | rfl | rfl <;> simp only [List.getD_cons_zero, List.getD_cons_succ] <;> rw [getD_mulT _ hl0 _ (by omega)]
  have back : ∀ y : List Int, y.length = 3 → (∀ r, r < 3 → 0 ≤ sgd (dN (edgesF ls)) (f3 (edgesF ls) (fnL y) r)) → sgd (dN (edgesF ls)) (f3 (edgesF ls) (fnL y) 0) + sgd (dN (edgesF ls)) (f3 (edgesF ls) (fnL y) 1) + sgd (dN (edgesF ls)) (f3 (edgesF ls) (fnL y) 2) ≤ t * (dN (edgesF ls)).natAbs → ∃ x, x ∈ allK 0 (4 * t) 3 ∧ yF ls x t = y := fun y hy g1 g2 => by
    have bx := tet_box hF hp hE hdd y hy g1 g2
    refine ⟨(List.range 3).map fun j => y.getD j 0 + (ls.getD 0 []).getD j 0 * t, (allK_mem _ _ _ _).2 ⟨by simp, fun c hc => by rw [rmap_getD, if_pos hc]; exact bx c hc⟩, ?_⟩
    apply List.ext_getElem (by rw [hy]; rfl)
    intro j h1 h2
    have hj : j < 3 := by omega
    have e := hyx ((List.range 3).map fun j => y.getD j 0 + (ls.getD 0 []).getD j 0 * t) j hj
    rw [rmap_getD, if_pos hj, getD_in' h1, getD_in' h2] at e
    rw [e]; omega
  constructor
  · rw [← S.count hX hEX.inl h3 (L := ((allK 0 (4 * t) 3).filter (inT ls t)).map fun x => yF ls x t) (nodup_map_of (List.Pairwise.filter _ (allK_nodup _ _ _)) fun x hx y hy e => ?_) fun y => ?_, List.length_map]
    · exact yF_inj ((allK_mem _ _ _ _).1 (List.mem_filter.1 hx).1).1 ((allK_mem _ _ _ _).1 (List.mem_filter.1 hy).1).1 e
    · have key : ∀ x : List Int, inT ls t x = true ↔ (∀ r, r < 3 → 0 ≤ sgd (dN (edgesF ls)) (f3 (edgesF ls) (fnL (yF ls x t)) r)) ∧ sgd (dN (edgesF ls)) (f3 (edgesF ls) (fnL (yF ls x t)) 0) + sgd (dN (edgesF ls)) (f3 (edgesF ls) (fnL (yF ls x t)) 1) + sgd (dN (edgesF ls)) (f3 (edgesF ls) (fnL (yF ls x t)) 2) ≤ t * (dN (edgesF ls)).natAbs := fun x => by
        obtain ⟨s0, s1, s2, s3⟩ := sS_eq hE x t
        unfold inT fP
        rw [decide_eq_true_eq, placeN_0, four_all (sS ls x t) (fun z => 0 ≤ z), three_all (fun r => sgd (dN (edgesF ls)) (f3 (edgesF ls) (fnL (yF ls x t)) r)) (fun z => 0 ≤ z), s0, s1, s2, s3]
        constructor <;> (rintro ⟨h1, h2⟩; exact ⟨h1, by omega⟩)
      constructor
      · intro hm
        obtain ⟨x, hx, rfl⟩ := List.mem_map.1 hm
        obtain ⟨-, hx2⟩ := List.mem_filter.1 hx
        exact ⟨rfl, (key x).1 hx2⟩
      · rintro ⟨hy, g1, g2⟩
        obtain ⟨x, hx, rfl⟩ := back y hy g1 g2
        exact List.mem_map.2 ⟨x, List.mem_filter.2 ⟨hx, (key x).2 ⟨g1, g2⟩⟩, rfl⟩
  · intro h2
    rw [← S.inner hX hEX.inl h2 (L := ((allK 0 (4 * t) 3).filter (innT ls t)).map fun x => yF ls x t) (nodup_map_of (List.Pairwise.filter _ (allK_nodup _ _ _)) fun x hx y hy e => ?_) fun y => ?_, List.length_map]
    · exact yF_inj ((allK_mem _ _ _ _).1 (List.mem_filter.1 hx).1).1 ((allK_mem _ _ _ _).1 (List.mem_filter.1 hy).1).1 e
    · have key : ∀ x : List Int, innT ls t x = true ↔ (∀ r, r < 3 → 0 < sgd (dN (edgesF ls)) (f3 (edgesF ls) (fnL (yF ls x t)) r)) ∧ sgd (dN (edgesF ls)) (f3 (edgesF ls) (fnL (yF ls x t)) 0) + sgd (dN (edgesF ls)) (f3 (edgesF ls) (fnL (yF ls x t)) 1) + sgd (dN (edgesF ls)) (f3 (edgesF ls) (fnL (yF ls x t)) 2) < t * (dN (edgesF ls)).natAbs := fun x => by
        obtain ⟨s0, s1, s2, s3⟩ := sS_eq hE x t
        unfold innT fP
        rw [decide_eq_true_eq, placeN_1, four_all (sS ls x t) (fun z => 0 < z), three_all (fun r => sgd (dN (edgesF ls)) (f3 (edgesF ls) (fnL (yF ls x t)) r)) (fun z => 0 < z), s0, s1, s2, s3]
        constructor <;> (rintro ⟨h1, h2⟩; exact ⟨h1, by omega⟩)
      constructor
      · intro hm
        obtain ⟨x, hx, rfl⟩ := List.mem_map.1 hm
        obtain ⟨-, hx2⟩ := List.mem_filter.1 hx
        exact ⟨rfl, (key x).1 hx2⟩
      · rintro ⟨hy, g1, g2⟩
        obtain ⟨x, hx, rfl⟩ := back y hy (fun r hr => by have := g1 r hr; omega) (by omega)
        exact List.mem_map.2 ⟨x, List.mem_filter.2 ⟨hx, (key x).2 ⟨g1, g2⟩⟩, rfl⟩
/-- the law of the tops -/
theorem tet_law {ls : List (List Int)} (hB : tetraB ls = true) : ∃ b1 b2 b3 : Int, ttF ls = [1, b1, b2, b3] ∧ 0 ≤ b1 ∧ 0 ≤ b2 ∧ 0 ≤ b3 ∧ 1 + b1 + b2 + b3 = (det3 (edgesF ls)).natAbs ∧ tcF ls 3 = 20 + 10 * b1 + 4 * b2 + b3 ∧ tiF ls 2 = b2 + 4 * b3 := by
  obtain ⟨hF, hdd⟩ := tetraB_true hB
  obtain ⟨hE, hEb⟩ := edges_sq hF
  have hdet := sq3_det hE
  rw [hdet] at hdd
  have hI := hi3 hE hEb hdd
  obtain ⟨hX, hEX⟩ := her3 hI hEb
  have S := simp3 hE hdd
  have hone := S.one hX hEX.inl
  have hD : ((ldK (herS 3 3 (edgesF ls)) 3).length : Int) = (dN (edgesF ls)).natAbs := by
    obtain ⟨d1, d2⟩ := hX.det (by omega) (by omega)
    rw [d2]
    rcases hEX.dt with e | e <;> omega
  have c1 := (tet_count hB (t := 1) (by omega) (by omega)).1
  have c2 := (tet_count hB (t := 2) (by omega) (by omega)).1
  have c3 := (tet_count hB (t := 3) (by omega) (by omega)).1
  have i1 := (tet_count hB (t := 1) (by omega) (by omega)).2 (by omega)
  have i2 := (tet_count hB (t := 2) (by omega) (by omega)).2 (by omega)
  have hh : ∀ v, hgt (fun z r => sgd (dN (edgesF ls)) (f3 (edgesF ls) z r)) (dN (edgesF ls)).natAbs v ≤ 3 := fun v => by obtain ⟨s, -, -, -, h⟩ := S.hgt_eq v; exact h
  generalize hgt (fun z r => sgd (dN (edgesF ls)) (f3 (edgesF ls) z r)) (dN (edgesF ls)).natAbs = hg at *
  generalize ldK (herS 3 3 (edgesF ls)) 3 = L at *
  have hlen := sum_by hg (fun _ => 1) L fun v _ => hh v
  have e1 := sum_by hg (fun k => (Q 3 (1 - (k : Int))).length) L fun v _ => hh v
  have e2 := sum_by hg (fun k => (Q 3 (2 - (k : Int))).length) L fun v _ => hh v
  have e3 := sum_by hg (fun k => (Q 3 (3 - (k : Int))).length) L fun v _ => hh v
  have e4 := sum_by hg (fun k => (Q 3 (1 + (k : Int) - (((3 : Nat) : Int) + 1))).length) L fun v _ => hh v
  have e5 := sum_by hg (fun k => (Q 3 (2 + (k : Int) - (((3 : Nat) : Int) + 1))).length) L fun v _ => hh v
  have hs := sum_ones L
  rw [hs] at hlen
  rw [← c1] at e1
  rw [← c2] at e2
  rw [← c3] at e3
  rw [← i1] at e4
  rw [← i2] at e5
  have g0 : ∀ x, gP ls 1 0 x = if inT ls 1 x = true then 1 else 0 := fun x => by unfold gP inT; simp
  have tc : ∀ t : Int, 1 ≤ t → t ≤ 4 → tcF ls t = ((allK 0 (4 * t) 3).filter (inT ls t)).length := fun t h1 h4 => by
    unfold tcF
    rw [hB, show inB t 0 4 = true by unfold inB; simp; omega]
    rw [if_pos (show (true && true) = true from rfl), if_neg (by omega)]
    exact sumK_full (inT ls t) _ (fun x => by unfold gP inT; simp) _
  have ti : ∀ t : Int, 1 ≤ t → t ≤ 4 → tiF ls t = ((allK 0 (4 * t) 3).filter (innT ls t)).length := fun t h1 h4 => by
    unfold tiF
    rw [hB, show inB t 0 4 = true by unfold inB; simp; omega]
    rw [if_pos (show (true && true) = true from rfl), if_neg (by omega)]
    exact sumK_full (innT ls t) _ (fun x => by unfold gP innT; simp) _
  have T1 := tc 1 (by omega) (by omega)
  have T2 := tc 2 (by omega) (by omega)
  have T3 := tc 3 (by omega) (by omega)
  have I1 := ti 1 (by omega) (by omega)
  have I2 := ti 2 (by omega) (by omega)
  rw [hone] at hlen e1 e2 e3 e4 e5
  rw [show (Q 3 (1 - ((0 : Nat) : Int))).length = 4 by decide, show (Q 3 (1 - ((1 : Nat) : Int))).length = 1 by decide, show (Q 3 (1 - ((2 : Nat) : Int))).length = 0 by decide, show (Q 3 (1 - ((3 : Nat) : Int))).length = 0 by decide] at e1
  rw [show (Q 3 (2 - ((0 : Nat) : Int))).length = 10 by decide, show (Q 3 (2 - ((1 : Nat) : Int))).length = 4 by decide, show (Q 3 (2 - ((2 : Nat) : Int))).length = 1 by decide, show (Q 3 (2 - ((3 : Nat) : Int))).length = 0 by decide] at e2
  rw [show (Q 3 (3 - ((0 : Nat) : Int))).length = 20 by decide, show (Q 3 (3 - ((1 : Nat) : Int))).length = 10 by decide, show (Q 3 (3 - ((2 : Nat) : Int))).length = 4 by decide, show (Q 3 (3 - ((3 : Nat) : Int))).length = 1 by decide] at e3
  rw [show (Q 3 (1 + ((0 : Nat) : Int) - (((3 : Nat) : Int) + 1))).length = 0 by decide, show (Q 3 (1 + ((1 : Nat) : Int) - (((3 : Nat) : Int) + 1))).length = 0 by decide, show (Q 3 (1 + ((2 : Nat) : Int) - (((3 : Nat) : Int) + 1))).length = 0 by decide, show (Q 3 (1 + ((3 : Nat) : Int) - (((3 : Nat) : Int) + 1))).length = 1 by decide] at e4
  rw [show (Q 3 (2 + ((0 : Nat) : Int) - (((3 : Nat) : Int) + 1))).length = 0 by decide, show (Q 3 (2 + ((1 : Nat) : Int) - (((3 : Nat) : Int) + 1))).length = 0 by decide, show (Q 3 (2 + ((2 : Nat) : Int) - (((3 : Nat) : Int) + 1))).length = 1 by decide, show (Q 3 (2 + ((3 : Nat) : Int) - (((3 : Nat) : Int) + 1))).length = 4 by decide] at e5
  refine ⟨tcF ls 1 - 4, tcF ls 2 - 4 * tcF ls 1 + 6, tiF ls 1, by unfold ttF; rw [hB]; rfl, ?_⟩
  rw [hdet]
  omega
theorem tet_bd {ls : List (List Int)} (hB : tetraB ls = true) : ((det3 (edgesF ls)).natAbs : Int) ≤ 6000000 := by
  obtain ⟨hF, -⟩ := tetraB_true hB
  obtain ⟨hE, hEb⟩ := edges_sq hF
  have := dN_bd3 hE hEb
  rw [sq3_det hE]; omega
end Go.Proofs.Ytfncikbmdaameaa
