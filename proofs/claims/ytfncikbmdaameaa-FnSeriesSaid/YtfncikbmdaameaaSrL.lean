/- The series of a cone has each point once: plain law. -/
import Derived.Test.YtfncikbmdaameaaCns
import Derived.Test.YtfncikbmdaameaaCTm
import Derived.Test.YtfncikbmdaameaaB7
namespace Go.Proofs.Ytfncikbmdaameaa
set_option linter.unusedVariables false
set_option linter.unusedSimpArgs false

def tA (x : List Int) (t : TermL) : Int := termAt t.1 t.2.1 t.2.2 x
theorem serSum_sum (ts : List TermL) (x : List Int) : ∀ k, k ≤ ts.length → serSum ts x k = ((ts.take k).map (tA x)).sum
  | 0, _ => by simp [serSum]
  | k + 1, hk => by
    rw [serSum, serSum_sum ts x k (by omega), List.take_succ_eq_append_getElem (by omega), List.map_append, List.sum_append]
    rw [List.getD_eq_getElem?_getD, List.getElem?_eq_getElem (show k < ts.length by omega)]
    simp [tA]
def sumF (f : Nat → Int) : Nat → Int
  | 0 => 0
  | k + 1 => sumF f k + f k
theorem sum_range (f : Nat → Int) : ∀ n, ((List.range n).map f).sum = sumF f n
  | 0 => rfl
  | n + 1 => by rw [List.range_succ, List.map_append, List.sum_append, sum_range f n]; simp [sumF]
theorem serSum_serL (L : List (List Int)) (sh x : List Int) : serSum (serL L sh) x (serL L sh).length = sumF (fun k => termAt 1 sh [L.getD k [], L.getD (k + 1) []] x) (L.length - 1) + sumF (fun k => termAt (-1) sh [L.getD (k + 1) []] x) (L.length - 2) := by
  rw [serSum_sum _ _ _ (Nat.le_refl _), List.take_length]
  unfold serL
  rw [List.map_append, List.sum_append, List.map_map, List.map_map, sum_range, sum_range]
  rfl
theorem cnK_sum (ts : List TermL) : ∀ k, k ≤ ts.length → cnK ts k = ((ts.take k).map fun t => cnS t.1).sum
  | 0, _ => by simp [cnK]
  | k + 1, hk => by
    rw [cnK, cnK_sum ts k (by omega), List.take_succ_eq_append_getElem (by omega), List.map_append, List.sum_append]
    rw [List.getD_eq_getElem?_getD, List.getElem?_eq_getElem (show k < ts.length by omega)]
    simp
theorem sumF_const (c : Int) : ∀ n : Nat, sumF (fun _ => c) n = c * n
  | 0 => by simp [sumF]
  | n + 1 => by rw [sumF, sumF_const c n]; rw [Int.natCast_add, Int.mul_add]; simp
theorem cnT_serL {L : List (List Int)} (sh : List Int) (h : 2 ≤ L.length) : cnT (serL L sh) = 1 := by
  unfold cnT
  rw [cnK_sum _ _ (Nat.le_refl _), List.take_length]
  unfold serL
  rw [List.map_append, List.sum_append, List.map_map, List.map_map, sum_range, sum_range]
  have e1 : (fun t : TermL => cnS t.1) ∘ posT L sh = fun _ => 1 := rfl
  have e2 : (fun t : TermL => cnS t.1) ∘ negT L sh = fun _ => -1 := rfl
  rw [e1, e2, sumF_const, sumF_const]
  omega

/-- two neighbouring cones meet in their ray -/
theorem cone_step {x0 y0 x1 y1 x2 y2 p q : Int} (h1 : 0 < x0 * y1 - y0 * x1) (h2 : 0 < x0 * y2 - y0 * x2) (h12 : x1 * y2 - y1 * x2 = 1) {A B R T : Prop} [Decidable A] [Decidable B] [Decidable R] [Decidable T]
    (hA : A ↔ 0 ≤ x0 * q - y0 * p ∧ 0 ≤ p * y1 - q * x1) (hB : B ↔ 0 ≤ x1 * q - y1 * p ∧ 0 ≤ p * y2 - q * x2) (hR : R ↔ ∃ n : Int, 0 ≤ n ∧ p = x1 * n ∧ q = y1 * n) (hT : T ↔ 0 ≤ x0 * q - y0 * p ∧ 0 ≤ p * y2 - q * x2) :
    (if A then (1 : Int) else 0) + (if B then 1 else 0) + (if R then -1 else 0) = if T then 1 else 0 := by
  have hrel : (x0 * y2 - y0 * x2) * (x1 * q - y1 * p) = (x0 * q - y0 * p) - (x0 * y1 - y0 * x1) * (p * y2 - q * x2) := by
    have e : (x0 * q - y0 * p) = (x0 * q - y0 * p) * (x1 * y2 - y1 * x2) := by rw [h12, Int.mul_one]
    rw [e]; grind
  have hRf : R ↔ x1 * q - y1 * p = 0 ∧ 0 ≤ p * y2 - q * x2 := by
    rw [hR]
    constructor
    · rintro ⟨n, hn, rfl, rfl⟩
      refine ⟨by grind, ?_⟩
      have : x1 * n * y2 - y1 * n * x2 = n * (x1 * y2 - y1 * x2) := by grind
      rw [this, h12]; omega
    · rintro ⟨e, hn⟩
      refine ⟨p * y2 - q * x2, hn, ?_, ?_⟩
      · have : x1 * (p * y2 - q * x2) = p * (x1 * y2 - y1 * x2) - x2 * (x1 * q - y1 * p) := by grind
        rw [this, h12, e]; omega
      · have : y1 * (p * y2 - q * x2) = q * (x1 * y2 - y1 * x2) - y2 * (x1 * q - y1 * p) := by grind
        rw [this, h12, e]; omega
  have hA' : 0 ≤ p * y1 - q * x1 ↔ x1 * q - y1 * p ≤ 0 := by
    have : p * y1 - q * x1 = -(x1 * q - y1 * p) := by grind
    omega
  rw [hA'] at hA
  generalize x0 * y1 - y0 * x1 = c1 at *
  generalize x0 * y2 - y0 * x2 = c2 at *
  generalize x0 * q - y0 * p = f0 at *
  generalize x1 * q - y1 * p = f1 at *
  generalize p * y2 - q * x2 = f2 at *
  have s1 : 0 < f1 → 0 < c2 * f1 := fun h => Int.mul_pos h2 h
  have s2 : f1 < 0 → c2 * f1 < 0 := fun h => Int.mul_neg_of_pos_of_neg h2 h
  have s3 : f1 = 0 → c2 * f1 = 0 := fun h => by rw [h]; simp
  have t1 : 0 < f2 → 0 < c1 * f2 := fun h => Int.mul_pos h1 h
  have t2 : f2 < 0 → c1 * f2 < 0 := fun h => Int.mul_neg_of_pos_of_neg h1 h
  have t3 : f2 = 0 → c1 * f2 = 0 := fun h => by rw [h]; simp
  generalize c2 * f1 = X at *
  generalize c1 * f2 = Y at *
  have iA : (if A then (1 : Int) else 0) = if 0 ≤ f0 ∧ f1 ≤ 0 then 1 else 0 := by simp only [hA]
  have iB : (if B then (1 : Int) else 0) = if 0 ≤ f1 ∧ 0 ≤ f2 then 1 else 0 := by simp only [hB]
  have iR : (if R then (-1 : Int) else 0) = if f1 = 0 ∧ 0 ≤ f2 then -1 else 0 := by simp only [hRf]
  have iT : (if T then (1 : Int) else 0) = if 0 ≤ f0 ∧ 0 ≤ f2 then 1 else 0 := by simp only [hT]
  rw [iA, iB, iR, iT]
  rcases Int.lt_trichotomy f1 0 with g | g | g
  · have := s2 g
    have : 0 ≤ f0 → 0 < f2 := fun h => by
      rcases Int.lt_trichotomy f2 0 with k | k | k
      · have := t2 k; omega
      · have := t3 k; omega
      · exact k
    split <;> split <;> split <;> split <;> omega
  · have := s3 g
    have : 0 ≤ f0 ↔ 0 ≤ f2 := by
      rcases Int.lt_trichotomy f2 0 with k | k | k
      · have := t2 k; omega
      · have := t3 k; omega
      · have := t1 k; omega
    split <;> split <;> split <;> split <;> omega
  · have := s1 g
    have : 0 ≤ f2 → 0 < f0 := fun h => by
      rcases Int.lt_trichotomy f2 0 with k | k | k
      · omega
      · have := t3 k; omega
      · have := t1 k; omega
    split <;> split <;> split <;> split <;> omega

theorem genB_of {a b : Int} (ha : -30 ≤ a ∧ a ≤ 30) (hb : -30 ≤ b ∧ b ≤ 30) (h : a ≠ 0 ∨ b ≠ 0) : genB [a, b] = true := by
  unfold genB ptB
  rw [Bool.and_eq_true, decide_eq_true_eq]
  refine ⟨by simp [allIn, inB]; omega, ?_⟩
  rw [gcdL_two rfl]
  simp only [List.getD_cons_zero, List.getD_cons_succ]
  intro e
  have e : Int.gcd a b = 0 := by omega
  obtain ⟨e1, e2⟩ := Int.gcd_eq_zero_iff.1 e
  omega
theorem hit2_one (a b : Int) : hit2 1 a b = (decide (0 ≤ a) && decide (0 ≤ b)) := by
  unfold hit2; simp [Int.tmod_one, Int.tdiv_one]
/-- a point is hit by a unimodular cone -/
theorem pos_hit {sh x : List Int} {x1 y1 x2 y2 p q : Int} (b1 : -30 ≤ x1 ∧ x1 ≤ 30) (b2 : -30 ≤ y1 ∧ y1 ≤ 30) (b3 : -30 ≤ x2 ∧ x2 ≤ 30) (b4 : -30 ≤ y2 ∧ y2 ≤ 30) (h12 : x1 * y2 - y1 * x2 = 1) (hs : ptB sh 1000 = true) (hx : vecB x = true) (hl : x.length = 2) (hd : minusI x sh = [p, q]) :
    termAt 1 sh [[x1, y1], [x2, y2]] x = if 0 ≤ x1 * q - y1 * p ∧ 0 ≤ p * y2 - q * x2 then 1 else 0 := by
  have n1 : x1 ≠ 0 ∨ y1 ≠ 0 := by
    rcases Classical.em (x1 = 0) with e | e
    · right; intro e2; rw [e, e2] at h12; omega
    · exact .inl e
  have n2 : x2 ≠ 0 ∨ y2 ≠ 0 := by
    rcases Classical.em (x2 = 0) with e | e
    · right; intro e2; rw [e, e2] at h12; omega
    · exact .inl e
  have hT : termB 1 sh [[x1, y1], [x2, y2]] = true := by
    rw [termB_all (.inl rfl) hs (by simp) (fun k hk => ?_)]
    · rw [decide_eq_true_eq]; intro _
      show crossI [x1, y1] [x2, y2] ≠ 0
      rw [crossI_two, h12]; decide
    · rcases (show k = 0 ∨ k = 1 by simp at hk; omega) with rfl | rfl
      · exact genB_of b1 b2 n1
      · exact genB_of b3 b4 n2
  have hh : hitsB [[x1, y1], [x2, y2]] [p, q] = (decide (0 ≤ p * y2 - q * x2) && decide (0 ≤ x1 * q - y1 * p)) := by
    unfold hitsB
    rw [if_neg (by simp), if_neg (by simp)]
    show hit2 (crossI [x1, y1] [x2, y2]) (crossI [p, q] [x2, y2]) (crossI [x1, y1] [p, q]) = _
    rw [crossI_two, crossI_two, crossI_two, h12, hit2_one]
  unfold termAt
  rw [hT, hx, decide_eq_true hl, hd, hh]
  simp only [Bool.true_and, Bool.and_eq_true, decide_eq_true_eq]
  generalize x1 * q - y1 * p = f1
  generalize p * y2 - q * x2 = f2
  split <;> split <;> omega
theorem neg_hit {sh x : List Int} {x1 y1 p q : Int} (b1 : -30 ≤ x1 ∧ x1 ≤ 30) (b2 : -30 ≤ y1 ∧ y1 ≤ 30) (n1 : x1 ≠ 0 ∨ y1 ≠ 0) (hs : ptB sh 1000 = true) (hx : vecB x = true) (hl : x.length = 2) (hd : minusI x sh = [p, q]) :
    termAt (-1) sh [[x1, y1]] x = if hit1 [x1, y1] [p, q] = true then -1 else 0 := by
  have hT : termB (-1) sh [[x1, y1]] = true := by
    rw [termB_all (.inr rfl) hs (by simp) (fun k hk => ?_)]
    · rw [decide_eq_true_eq]; intro h; simp at h
    · obtain rfl : k = 0 := by simp at hk; omega
      exact genB_of b1 b2 n1
  have hh : hitsB [[x1, y1]] [p, q] = hit1 [x1, y1] [p, q] := by
    unfold hitsB
    rw [if_neg (by simp), if_pos (by simp)]; rfl
  unfold termAt
  rw [hT, hx, decide_eq_true hl, hd, hh]
  simp
/-- the first j cones together -/
theorem ser_prefix {U V : List Int} {L : List (List Int)} (h : SplTold U V L) {sh x : List Int} {p q : Int} (hs : ptB sh 1000 = true) (hx : vecB x = true) (hl : x.length = 2) (hd : minusI x sh = [p, q]) : ∀ j, j + 1 < L.length →
    sumF (fun k => termAt 1 sh [L.getD k [], L.getD (k + 1) []] x) (j + 1) + sumF (fun k => termAt (-1) sh [L.getD (k + 1) []] x) j = if 0 ≤ crossI U [p, q] ∧ 0 ≤ crossI [p, q] (L.getD (j + 1) []) then 1 else 0
  | 0, hj => by
    obtain ⟨x1, y1, e1, b1, b2⟩ := h.all.row 0 (by omega)
    obtain ⟨x2, y2, e2, b3, b4⟩ := h.all.row 1 (by omega)
    have hc := h.all.cr 0 (by omega)
    rw [e1, e2, crossI_two] at hc
    have hU : U = [x1, y1] := by rw [← h.fst, e1]
    show 0 + termAt 1 sh [L.getD 0 [], L.getD 1 []] x + 0 = _
    rw [e1, e2, pos_hit b1 b2 b3 b4 hc hs hx hl hd, hU, crossI_two, crossI_two]
    omega
  | j + 1, hj => by
    have ih := ser_prefix h hs hx hl hd j (by omega)
    obtain ⟨x0, y0, e0, -, -⟩ := h.all.row 0 (by omega)
    obtain ⟨x1, y1, e1, b1, b2⟩ := h.all.row (j + 1) (by omega)
    obtain ⟨x2, y2, e2, b3, b4⟩ := h.all.row (j + 1 + 1) (by omega)
    have hU : U = [x0, y0] := by rw [← h.fst, e0]
    have hc := h.all.cr (j + 1) (by omega)
    have u1 := h.cu j (by omega)
    have u2 := h.cu (j + 1) (by omega)
    rw [e1, e2, crossI_two] at hc
    rw [hU, e1, crossI_two] at u1
    rw [hU, e1, e2, crossI_two, crossI_two] at u2
    have n1 : x1 ≠ 0 ∨ y1 ≠ 0 := by
      rcases Classical.em (x1 = 0) with e | e
      · right; intro e2; rw [e, e2] at hc; omega
      · exact .inl e
    have s1 : sumF (fun k => termAt 1 sh [L.getD k [], L.getD (k + 1) []] x) (j + 1 + 1) = sumF (fun k => termAt 1 sh [L.getD k [], L.getD (k + 1) []] x) (j + 1) + termAt 1 sh [L.getD (j + 1) [], L.getD (j + 1 + 1) []] x := rfl
    have s2 : sumF (fun k => termAt (-1) sh [L.getD (k + 1) []] x) (j + 1) = sumF (fun k => termAt (-1) sh [L.getD (k + 1) []] x) j + termAt (-1) sh [L.getD (j + 1) []] x := rfl
    rw [s1, s2]
    rw [e1, e2, pos_hit b1 b2 b3 b4 hc hs hx hl hd, neg_hit b1 b2 n1 hs hx hl hd, hU]
    rw [hU, e1] at ih
    have st := cone_step (x0 := x0) (y0 := y0) (x1 := x1) (y1 := y1) (x2 := x2) (y2 := y2) (p := p) (q := q) (by omega) (by omega) hc
      (A := 0 ≤ crossI [x0, y0] [p, q] ∧ 0 ≤ crossI [p, q] [x1, y1]) (B := 0 ≤ x1 * q - y1 * p ∧ 0 ≤ p * y2 - q * x2) (R := hit1 [x1, y1] [p, q] = true) (T := 0 ≤ crossI [x0, y0] [p, q] ∧ 0 ≤ crossI [p, q] [x2, y2])
      (by rw [crossI_two, crossI_two]) Iff.rfl (by rw [hit1_iff (g := [x1, y1]) (x := [p, q]) rfl rfl n1]; rfl) (by rw [crossI_two, crossI_two])
    omega
/-- the law -/
theorem ser_once {U V sh : List Int} (h : coneB U V = true) (ok : serOk (splitC U V) sh = true) {x : List Int} {p q : Int} (hp : -6 ≤ p ∧ p ≤ 6) (hq : -6 ≤ q ∧ q ≤ 6) (hx : vecB x = true) (hl : x.length = 2) (hd : minusI x sh = [p, q]) :
    serAt (serL (splitC U V) sh) x = if inC U V [p, q] = true then 1 else 0 := by
  have hT := split_told h
  have hin : inC U V [p, q] = true ↔ 0 ≤ crossI U [p, q] ∧ 0 ≤ crossI [p, q] V := by
    unfold inC
    have : vecB [p, q] = true := by simp [vecB, allIn, inB]; omega
    rw [h, this]; simp
  generalize splitC U V = L at *
  unfold serOk at ok
  simp only [Bool.and_eq_true, decide_eq_true_eq] at ok
  obtain ⟨o1, o2, o3, o4⟩ := ok
  have hs : ptB sh 1000 = true := by unfold ptB; rw [vecB_bd o2, decide_eq_true o3]; rfl
  have hlen := hT.len
  obtain ⟨j, hj⟩ : ∃ j, L.length = j + 2 := ⟨L.length - 2, by omega⟩
  have hlst := hT.lst
  have hpre := ser_prefix hT hs hx hl hd j (by omega)
  rw [hj, show j + 2 - 1 = j + 1 by omega] at hlst
  rw [hlst] at hpre
  have hsum := serSum_serL L sh x
  rw [hj, show j + 2 - 1 = j + 1 by omega, show j + 2 - 2 = j by omega, hpre] at hsum
  have hall : serAll (serL L sh) (serL L sh).length = true := by
    unfold serAll
    rw [List.take_length, List.all_eq_true]
    intro t ht
    unfold serL at ht
    rw [List.mem_append] at ht
    rcases ht with ht | ht
    · obtain ⟨k, hk, rfl⟩ := List.mem_map.1 ht
      rw [List.mem_range] at hk
      obtain ⟨x1, y1, e1, b1, b2⟩ := hT.all.row k (by omega)
      obtain ⟨x2, y2, e2, b3, b4⟩ := hT.all.row (k + 1) (by omega)
      have hc := hT.all.cr k (by omega)
      rw [e1, e2, crossI_two] at hc
      show termB 1 sh [L.getD k [], L.getD (k + 1) []] = true
      rw [e1, e2, termB_all (.inl rfl) hs (by simp) (fun i hi => ?_)]
      · rw [decide_eq_true_eq]; intro _
        show crossI [x1, y1] [x2, y2] ≠ 0
        rw [crossI_two, hc]; decide
      · rcases (show i = 0 ∨ i = 1 by simp at hi; omega) with rfl | rfl
        · exact genB_of b1 b2 (by
            rcases Classical.em (x1 = 0) with e | e
            · right; intro e2; rw [e, e2] at hc; omega
            · exact .inl e)
        · exact genB_of b3 b4 (by
            rcases Classical.em (x2 = 0) with e | e
            · right; intro e2; rw [e, e2] at hc; omega
            · exact .inl e)
    · obtain ⟨k, hk, rfl⟩ := List.mem_map.1 ht
      rw [List.mem_range] at hk
      obtain ⟨x1, y1, e1, b1, b2⟩ := hT.all.row (k + 1) (by omega)
      obtain ⟨x2, y2, e2, b3, b4⟩ := hT.all.row (k + 1 + 1) (by omega)
      have hc := hT.all.cr (k + 1) (by omega)
      rw [e1, e2, crossI_two] at hc
      show termB (-1) sh [L.getD (k + 1) []] = true
      rw [e1, termB_all (.inr rfl) hs (by simp) (fun i hi => ?_)]
      · rw [decide_eq_true_eq]; intro h; simp at h
      · obtain rfl : i = 0 := by simp at hi; omega
        exact genB_of b1 b2 (by
            rcases Classical.em (x1 = 0) with e | e
            · right; intro e2; rw [e, e2] at hc; omega
            · exact .inl e)
  unfold serAt
  rw [hall, decide_eq_true (show (serL L sh).length ≤ 60 by rw [serL_len]; omega), if_pos (show (true && true) = true from rfl), hsum]
  simp only [hin]
end Go.Proofs.Ytfncikbmdaameaa
