/- B3: texts in one: OpenT TermL TermE TermT Term TermS HitM Hit HitS TermA TermB Pow Pts PtsS TvM Tv TvS. -/
import Derived.Test.YtehhoplenloocaaGreatB2
import Derived.Test.YtehhoplenloocaaGreatB1
import Derived.Deep.RegionHeld3
import Derived.Deep.RegionWith
/- What comes in: terms. -/
namespace Go.Proofs.YtehhoplenloocaaGreat
open Go.ChangeShapes Go.WideShapes Go.ChangeAt Go.RowKit Go.Joins
set_option linter.unusedVariables false
set_option linter.unusedSimpArgs false

/-- a term that may be read -/
def TermR (w : World) (hi : Nat) (v : Value) (x : Int × List Int × List (List Int)) : Prop := ∃ v2 v3, v = .agg #[.int .i64 x.1, v2, v3] ∧ (-9223372036854775808 ≤ x.1 ∧ x.1 ≤ 9223372036854775807) ∧ ISr w hi v2 x.2.1 ∧ ISSr w hi v3 x.2.2

end Go.Proofs.YtehhoplenloocaaGreat

/- Terms as the laws measure and compare them. -/
namespace Go.Proofs.YtehhoplenloocaaGreat
open Go.RowKit
set_option linter.unusedVariables false
set_option linter.unusedSimpArgs false

/-- a box of three cells that may be written -/
structure Box3 (w : World) (n : Nat) (x y z : Value) : Prop where
  lt : n < w.heap.size
  c0 : w.cell? ⟨n, 0, none⟩ = some x
  c1 : w.cell? ⟨n, 1, none⟩ = some y
  c2 : w.cell? ⟨n, 2, none⟩ = some z
  f0 : w.frozen? ⟨n, 0, none⟩ = false
  f1 : w.frozen? ⟨n, 1, none⟩ = false
  f2 : w.frozen? ⟨n, 2, none⟩ = false
theorem box3_new (w : World) (x y z : Value) (t : TypeId) : Box3 (w.alloc (.cells #[x, y, z] t)) w.heap.size x y z :=
  ⟨by simp, by rw [World.cell?_alloc_at _ _ _ _ rfl]; rfl, by rw [World.cell?_alloc_at _ _ _ _ rfl]; rfl, by rw [World.cell?_alloc_at _ _ _ _ rfl]; rfl, World.frozen?_alloc_at _ _ _ _ rfl, World.frozen?_alloc_at _ _ _ _ rfl, World.frozen?_alloc_at _ _ _ _ rfl⟩
theorem Box3.keep {w w1 : World} {n : Nat} {x y z : Value} (h : Box3 w n x y z) (hb : Below w.heap.size w w1) : Box3 w1 n x y z :=
  ⟨Nat.lt_of_lt_of_le h.lt hb.size, (hb.cell h.lt).trans h.c0, (hb.cell h.lt).trans h.c1, (hb.cell h.lt).trans h.c2, (hb.frozen h.lt).trans h.f0, (hb.frozen h.lt).trans h.f1, (hb.frozen h.lt).trans h.f2⟩
theorem Box3.other {w : World} {n : Nat} {x y z : Value} (h : Box3 w n x y z) {a : Addr} (ha : a.block ≠ n) (u : Value) : Box3 (w.setCell a u) n x y z := by
  have e : ∀ k, (⟨n, k, none⟩ : Addr) ≠ a := fun k e => ha (by rw [← e])
  exact ⟨by simpa using h.lt, by rw [World.cell?_setCell_other _ _ _ _ (by first | exact e 0 | exact (e 0).symm)]; exact h.c0, by rw [World.cell?_setCell_other _ _ _ _ (by first | exact e 1 | exact (e 1).symm)]; exact h.c1, by rw [World.cell?_setCell_other _ _ _ _ (by first | exact e 2 | exact (e 2).symm)]; exact h.c2, by rw [World.frozen?_setCell]; exact h.f0, by rw [World.frozen?_setCell]; exact h.f1, by rw [World.frozen?_setCell]; exact h.f2⟩

end Go.Proofs.YtehhoplenloocaaGreat

/- Terms as the laws compare them. -/
namespace Go.Proofs.YtehhoplenloocaaGreat
open Go.RowKit
set_option linter.unusedVariables false
set_option linter.unusedSimpArgs false

end Go.Proofs.YtehhoplenloocaaGreat

/- Terms as the laws copy them. -/
namespace Go.Proofs.YtehhoplenloocaaGreat
open Go.RowKit
set_option linter.unusedVariables false
set_option linter.unusedSimpArgs false

theorem ISS.setOther {w : World} {lo hi : Nat} {v : Value} {l : List (List Int)} (h : ISS w lo hi v l) {a : Addr} (ha : a.block < lo ∨ hi ≤ a.block) (u : Value) : ISS (w.setCell a u) lo hi v l :=
  h.of_blocks fun b h1 h2 h3 => Below.heap_setCell w a u b (by omega)
end Go.Proofs.YtehhoplenloocaaGreat

/- Terms: IsTerm, the plain law and the walks. -/
namespace Go.Proofs.YtehhoplenloocaaGreat
open Go.RowKit
set_option linter.unusedVariables false
set_option linter.unusedSimpArgs false

def magI (a : Int) : Int := if a = -9223372036854775808 then a else max a (-a)
theorem magI_one (a : Int) : magI a = 1 ↔ (a = 1 ∨ a = -1) := by unfold magI; split <;> omega
set_option maxHeartbeats 400000 in
theorem magnitude_w (a : Int) (w : World) (ha : -9223372036854775808 ≤ a) (ha' : a ≤ 9223372036854775807) :
    Calls Tryz.prog 92 #[.int .i64 a] w fun e w' => e = .returned (.int .i64 (magI a)) ∧ w = w' := by
  by_cases h : a = -9223372036854775808
  · subst h
    go_enter Tryz.func92, Tryz.ntmps92
    go_wp2
    all_goals go_ret
    all_goals exact ⟨ret_int (by first | (unfold wrap64 magI; omega) | (unfold magI; omega)), rfl⟩
  · have := magnitude_any a w (by omega) ha'
    unfold magI; rw [if_neg h]; exact this

def genB (g : List Int) : Bool := ptB g 30 && decide (gcdL g ≠ 0)
def termB (s : Int) (U : List Int) (G : List (List Int)) : Bool :=
  decide (s = 1 ∨ s = -1) && ptB U 1000 && decide (G.length ≤ 2) && G.all genB && decide (G.length = 2 → crossI (G.getD 0 []) (G.getD 1 []) ≠ 0)
theorem all_getD {G : List (List Int)} {p : List Int → Bool} (h : ∀ k, k < G.length → p (G.getD k []) = true) : G.all p = true := by
  rw [List.all_eq_true]
  intro x hx
  obtain ⟨i, hi, rfl⟩ := List.mem_iff_getElem.1 hx
  have := h i hi
  rwa [List.getD_eq_getElem?_getD, List.getElem?_eq_getElem hi] at this
theorem all_getD_no {G : List (List Int)} {p : List Int → Bool} {k : Nat} (hk : k < G.length) (h : p (G.getD k []) = false) : G.all p = false := by
  rw [List.all_eq_false]
  refine ⟨G.getD k [], ?_, by rw [h]; simp⟩
  rw [List.getD_eq_getElem?_getD, List.getElem?_eq_getElem hk]; exact List.getElem_mem hk
theorem termB_no {s : Int} {U : List Int} {G : List (List Int)} {k : Nat} (hk : k < G.length) (h : genB (G.getD k []) = false) : termB s U G = false := by
  unfold termB; rw [all_getD_no hk h]; simp
theorem termB_all {s : Int} {U : List Int} {G : List (List Int)} (h1 : s = 1 ∨ s = -1) (h2 : ptB U 1000 = true) (h3 : G.length ≤ 2) (h : ∀ k, k < G.length → genB (G.getD k []) = true) : termB s U G = decide (G.length = 2 → crossI (G.getD 0 []) (G.getD 1 []) ≠ 0) := by
  unfold termB; rw [all_getD h, h2, decide_eq_true h1, decide_eq_true h3]; simp
theorem ptB_bd {g : List Int} {m : Int} (h : ptB g m = true) (hm : m ≤ 1000000000) : g.length = 2 ∧ allIn g (-1000000000) 1000000000 = true ∧ (∀ k, k < g.length → -1000000000 ≤ g.getD k 0 ∧ g.getD k 0 ≤ 1000000000) := by
  obtain ⟨h1, h2⟩ := ptB_len h
  have h3 := allIn_mono (c := -1000000000) (d := 1000000000) h2 (by omega) (by omega)
  exact ⟨h1, h3, allIn_at h3⟩

end Go.Proofs.YtehhoplenloocaaGreat

/- Terms: IsTerm of the model. -/
namespace Go.Proofs.YtehhoplenloocaaGreat
open Go.RowKit
set_option linter.unusedVariables false
set_option linter.unusedSimpArgs false

theorem vec_pt (U : List Int) : (vecB U && decide (U.length = 2)) = ptB U 1000 := by
  unfold vecB ptB
  by_cases h : U.length = 2
  · rw [h, decide_eq_true rfl]; simp [inB]
  · rw [decide_eq_false h]; simp

theorem vec_pt30 {g : List Int} (h : g.length = 2) : ptB g 30 = allIn g (-30) 30 := by unfold ptB; rw [decide_eq_true h]; rfl
end Go.Proofs.YtehhoplenloocaaGreat

/- Sums of generators: the plain law. No program in sight. -/
namespace Go.Proofs.YtehhoplenloocaaGreat
set_option linter.unusedVariables false
set_option linter.unusedSimpArgs false

def hit1 (g x : List Int) : Bool :=
  let i := if g.getD 0 0 = 0 then 1 else 0
  decide (0 ≤ (x.getD i 0).tdiv (g.getD i 0)) && decide (g.map (· * (x.getD i 0).tdiv (g.getD i 0)) = x)
def hit2 (d a b : Int) : Bool := decide (a.tmod d = 0) && decide (b.tmod d = 0) && decide (0 ≤ a.tdiv d) && decide (0 ≤ b.tdiv d)
def hitsB (G : List (List Int)) (x : List Int) : Bool :=
  if G.length = 0 then decide (x.getD 0 0 = 0) && decide (x.getD 1 0 = 0)
  else if G.length = 1 then hit1 (G.getD 0 []) x
  else hit2 (crossI (G.getD 0 []) (G.getD 1 [])) (crossI x (G.getD 1 [])) (crossI (G.getD 0 []) x)

theorem gcdL_two {x : List Int} (h : x.length = 2) : gcdL x = (Int.gcd (x.getD 0 0) (x.getD 1 0) : Int) := by
  rw [two_list h]
  show gcdI (gcdI 0 _) _ = _
  unfold gcdI
  simp [Int.gcd]
theorem gcdL_zero {x : List Int} (h : x.length = 2) : gcdL x = 0 ↔ (x.getD 0 0 = 0 ∧ x.getD 1 0 = 0) := by
  rw [gcdL_two h]
  constructor
  · intro e
    have : Int.gcd (x.getD 0 0) (x.getD 1 0) = 0 := by omega
    exact Int.gcd_eq_zero_iff.1 this
  · rintro ⟨h1, h2⟩; rw [h1, h2]; rfl

theorem bezN (a b : Nat) : ∃ u v : Int, u * a + v * b = (Nat.gcd a b : Int) := by
  induction a, b using Nat.gcd.induction with
  | H0 n => exact ⟨0, 1, by simp⟩
  | H1 m n hm ih =>
    obtain ⟨u, v, h⟩ := ih
    refine ⟨v - u * ((n / m : Nat) : Int), u, ?_⟩
    rw [Nat.gcd_rec m n, ← h]
    have e : (n : Int) = (m : Int) * ((n / m : Nat) : Int) + ((n % m : Nat) : Int) := by
      have := Nat.div_add_mod n m
      rw [← Int.natCast_mul, ← Int.natCast_add, this]
    generalize ((n / m : Nat) : Int) = d at *
    generalize ((n % m : Nat) : Int) = r at *
    rw [e]; grind
theorem bez (p q : Int) : ∃ u v : Int, u * p + v * q = (Int.gcd p q : Int) := by
  obtain ⟨u, v, h⟩ := bezN p.natAbs q.natAbs
  rcases Int.natAbs_eq p with hp | hp <;> rcases Int.natAbs_eq q with hq | hq
  · exact ⟨u, v, by rw [← hp, ← hq] at h; exact h⟩
  · exact ⟨u, -v, by rw [← hp] at h; rw [show (q.natAbs : Int) = -q by omega] at h; rw [← Int.neg_mul_comm] at h; exact h⟩
  · exact ⟨-u, v, by rw [← hq] at h; rw [show (p.natAbs : Int) = -p by omega] at h; rw [← Int.neg_mul_comm] at h; exact h⟩
  · exact ⟨-u, -v, by rw [show (q.natAbs : Int) = -q by omega, show (p.natAbs : Int) = -p by omega] at h; rw [← Int.neg_mul_comm, ← Int.neg_mul_comm] at h; exact h⟩
theorem sq_nonneg (a : Int) : 0 ≤ a * a := by
  rcases Int.le_total 0 a with h | h
  · exact Int.mul_nonneg h h
  · exact Int.mul_nonneg_of_nonpos_of_nonpos h h
theorem sq_pos {a : Int} (h : a ≠ 0) : 0 < a * a := by
  rcases Int.lt_or_gt_of_ne h with g | g
  · exact Int.mul_pos_of_neg_of_neg g g
  · exact Int.mul_pos g g
/-- a multiple of a vector, by cross and dot -/
theorem multiple_iff (p q x y : Int) (h : p ≠ 0 ∨ q ≠ 0) :
    (∃ n : Int, 0 ≤ n ∧ x = p * n ∧ y = q * n) ↔ (p * y - q * x = 0 ∧ 0 ≤ p * x + q * y ∧ (Int.gcd p q : Int) ∣ (Int.gcd x y : Int)) := by
  have hpos : 0 < p * p + q * q := by
    have h1 := sq_nonneg p
    have h2 := sq_nonneg q
    rcases h with h | h
    · have := sq_pos h; omega
    · have := sq_pos h; omega
  constructor
  · rintro ⟨n, hn, rfl, rfl⟩
    refine ⟨by grind, ?_, ?_⟩
    · have : p * (p * n) + q * (q * n) = (p * p + q * q) * n := by grind
      rw [this]; exact Int.mul_nonneg (by omega) hn
    · exact Int.dvd_coe_gcd (Int.dvd_mul_of_dvd_left (Int.gcd_dvd_left ..)) (Int.dvd_mul_of_dvd_left (Int.gcd_dvd_right ..))
  · rintro ⟨hc, hd, hg⟩
    obtain ⟨u, v, hb⟩ := bez p q
    have hh : (Int.gcd p q : Int) ≠ 0 := by
      intro e
      have : Int.gcd p q = 0 := by omega
      have := Int.gcd_eq_zero_iff.1 this
      omega
    obtain ⟨x', hx⟩ := Int.dvd_trans hg (Int.gcd_dvd_left x y)
    obtain ⟨y', hy⟩ := Int.dvd_trans hg (Int.gcd_dvd_right x y)
    generalize (Int.gcd p q : Int) = d at *
    have e1 : p * (u * x' + v * y') = x := by
      have : d * (p * (u * x' + v * y')) = d * x := by grind
      exact Int.eq_of_mul_eq_mul_left hh this
    have e2 : q * (u * x' + v * y') = y := by
      have : d * (q * (u * x' + v * y')) = d * y := by grind
      exact Int.eq_of_mul_eq_mul_left hh this
    refine ⟨u * x' + v * y', ?_, e1.symm, e2.symm⟩
    generalize u * x' + v * y' = n at *
    rcases Int.le_total 0 n with g | g
    · exact g
    · have : (p * p + q * q) * n = p * x + q * y := by rw [← e1, ← e2]; grind
      by_cases hn : n = 0
      · omega
      · have := Int.mul_neg_of_pos_of_neg hpos (show n < 0 by omega); omega

theorem hit1_def (g x : List Int) : (g.getD 0 0 = 0 → hit1 g x = (decide (0 ≤ (x.getD 1 0).tdiv (g.getD 1 0)) && decide (g.map (· * (x.getD 1 0).tdiv (g.getD 1 0)) = x))) ∧
    (g.getD 0 0 ≠ 0 → hit1 g x = (decide (0 ≤ (x.getD 0 0).tdiv (g.getD 0 0)) && decide (g.map (· * (x.getD 0 0).tdiv (g.getD 0 0)) = x))) := by
  unfold hit1
  constructor
  · intro h; rw [if_pos h]
  · intro h; rw [if_neg h]
theorem hit1_iff {g x : List Int} (hg : g.length = 2) (hx : x.length = 2) (h : g.getD 0 0 ≠ 0 ∨ g.getD 1 0 ≠ 0) :
    hit1 g x = true ↔ ∃ n : Int, 0 ≤ n ∧ x.getD 0 0 = g.getD 0 0 * n ∧ x.getD 1 0 = g.getD 1 0 * n := by
  unfold hit1
  rw [two_list hg, two_list hx]
  generalize g.getD 0 0 = p at *
  generalize g.getD 1 0 = q at *
  generalize x.getD 0 0 = a at *
  generalize x.getD 1 0 = b at *
  by_cases hp : p = 0
  · subst hp
    have hq : q ≠ 0 := by omega
    simp
    constructor
    · rintro ⟨h1, h2, h3⟩; exact ⟨_, h1, h2.symm, h3.symm⟩
    · rintro ⟨n, hn, rfl, rfl⟩
      rw [Int.mul_tdiv_cancel_left _ hq]; exact ⟨hn, rfl, rfl⟩
  · simp [hp]
    constructor
    · rintro ⟨h1, h2, h3⟩; exact ⟨_, h1, h2.symm, h3.symm⟩
    · rintro ⟨n, hn, rfl, rfl⟩
      rw [Int.mul_tdiv_cancel_left _ hp]; exact ⟨hn, rfl, rfl⟩
/-- the program's test for one generator -/
theorem hit1_prog {g x : List Int} (hg : g.length = 2) (hx : x.length = 2) (h : gcdL g ≠ 0) :
    hit1 g x = (decide (crossI g x = 0) && decide (0 ≤ dotI g x) && decide ((gcdL x).tmod (gcdL g) = 0)) := by
  have h0 : g.getD 0 0 ≠ 0 ∨ g.getD 1 0 ≠ 0 := by
    rcases Classical.em (g.getD 0 0 = 0) with e | e
    · right; intro e2; exact h ((gcdL_zero hg).2 ⟨e, e2⟩)
    · exact .inl e
  rw [Bool.eq_iff_iff, hit1_iff hg hx h0, multiple_iff _ _ _ _ h0]
  rw [gcdL_two hg, gcdL_two hx]
  have hdot : dotI g x = g.getD 0 0 * x.getD 0 0 + g.getD 1 0 * x.getD 1 0 := by
    unfold dotI; rw [hg]; simp only [dotK]; omega
  rw [hdot]
  have hcr : crossI g x = g.getD 0 0 * x.getD 1 0 - g.getD 1 0 * x.getD 0 0 := rfl
  rw [hcr]
  generalize g.getD 0 0 * x.getD 1 0 - g.getD 1 0 * x.getD 0 0 = A
  generalize g.getD 0 0 * x.getD 0 0 + g.getD 1 0 * x.getD 1 0 = B
  simp [and_assoc, Int.dvd_iff_tmod_eq_zero]
end Go.Proofs.YtehhoplenloocaaGreat

/- Sums of generators: the walks. -/
namespace Go.Proofs.YtehhoplenloocaaGreat
open Go.RowKit
set_option linter.unusedVariables false
set_option linter.unusedSimpArgs false

/-- the generators of a right term -/
structure GensOk (G : List (List Int)) : Prop where
  len : G.length ≤ 2
  gen : ∀ k, k < G.length → genB (G.getD k []) = true
  two : G.length = 2 → crossI (G.getD 0 []) (G.getD 1 []) ≠ 0
theorem GensOk.at {G : List (List Int)} (h : GensOk G) {k : Nat} (hk : k < G.length) : (G.getD k []).length = 2 ∧ allIn (G.getD k []) (-30) 30 = true ∧ allIn (G.getD k []) (-1000000000) 1000000000 = true ∧ gcdL (G.getD k []) ≠ 0 := by
  have := h.gen k hk
  simp only [genB, Bool.and_eq_true, decide_eq_true_eq] at this
  have b := ptB_bd this.1 (by omega)
  exact ⟨b.1, (ptB_len this.1).2, b.2.1, this.2⟩
theorem gens_of_term {s : Int} {U : List Int} {G : List (List Int)} (h : termB s U G = true) : GensOk G ∧ ptB U 1000 = true ∧ (s = 1 ∨ s = -1) := by
  unfold termB at h
  simp only [Bool.and_eq_true, decide_eq_true_eq] at h
  obtain ⟨⟨⟨⟨h1, h2⟩, h3⟩, h4⟩, h5⟩ := h
  refine ⟨⟨h3, fun k hk => ?_, h5⟩, h2, h1⟩
  rw [List.all_eq_true] at h4
  rw [List.getD_eq_getElem?_getD, List.getElem?_eq_getElem hk]
  exact h4 _ (List.getElem_mem hk)
theorem tdiv_bd (a d : Int) (hd : d ≠ 0) (M : Int) (h1 : -M ≤ a) (h2 : a ≤ M) : -M ≤ a.tdiv d ∧ a.tdiv d ≤ M := by
  have : (a.tdiv d).natAbs ≤ a.natAbs := by rw [Int.natAbs_tdiv]; exact Nat.div_le_self _ _
  omega
theorem cross_small {a b : List Int} (la : a.length = 2) (lb : b.length = 2) (ha : allIn a (-1000000) 1000000 = true) (hb : allIn b (-1000000) 1000000 = true) : -2000000000000 ≤ crossI a b ∧ crossI a b ≤ 2000000000000 := by
  have p0 := allIn_at ha 0 (by omega)
  have p1 := allIn_at ha 1 (by omega)
  have q0 := allIn_at hb 0 (by omega)
  have q1 := allIn_at hb 1 (by omega)
  have key : ∀ {x y : Int}, -1000000 ≤ x → x ≤ 1000000 → -1000000 ≤ y → y ≤ 1000000 → -1000000000000 ≤ x * y ∧ x * y ≤ 1000000000000 := by
    intro x y h1 h2 h3 h4
    rcases Int.le_total 0 y with h | h
    · have := mul_bd2 (a := x) (b := y) (M := 1000000) (N := 1000000) h1 h2 h h4 (by omega); omega
    · have := mul_bd2 (a := x) (b := -y) (M := 1000000) (N := 1000000) h1 h2 (by omega) (by omega) (by omega)
      rw [Int.mul_neg] at this; omega
  have h1 := key p0.1 p0.2 q1.1 q1.2
  have h2 := key p1.1 p1.2 q0.1 q0.2
  unfold crossI; omega

end Go.Proofs.YtehhoplenloocaaGreat

/- Sums of generators: the model's walk. -/
namespace Go.Proofs.YtehhoplenloocaaGreat
open Go.RowKit
set_option linter.unusedVariables false
set_option linter.unusedSimpArgs false

end Go.Proofs.YtehhoplenloocaaGreat

/- TermAt: the walks. -/
namespace Go.Proofs.YtehhoplenloocaaGreat
open Go.RowKit
set_option linter.unusedVariables false
set_option linter.unusedSimpArgs false

def termAt (s : Int) (U : List Int) (G : List (List Int)) (x : List Int) : Int :=
  if termB s U G && vecB x && decide (x.length = 2) && hitsB G (minusI x U) then s else 0
theorem vecB_bd {x : List Int} (h : vecB x = true) : allIn x (-1000) 1000 = true := by
  unfold vecB at h; simp only [Bool.and_eq_true] at h; exact h.2
theorem allIn_two {x y m : Int} (hx : -m ≤ x ∧ x ≤ m) (hy : -m ≤ y ∧ y ≤ m) : allIn [x, y] (-m) m = true := by
  simp [allIn, inB]; omega
theorem minusI_bd {x U : List Int} (lx : x.length = 2) (lU : U.length = 2) (hx : allIn x (-1000) 1000 = true) (hU : allIn U (-1000) 1000 = true) : allIn (minusI x U) (-1000000) 1000000 = true := by
  have a0 := allIn_at hx 0 (by omega)
  have a1 := allIn_at hx 1 (by omega)
  have b0 := allIn_at hU 0 (by omega)
  have b1 := allIn_at hU 1 (by omega)
  exact allIn_two (by omega) (by omega)

end Go.Proofs.YtehhoplenloocaaGreat

/- TermAt of the model: the walk. -/
namespace Go.Proofs.YtehhoplenloocaaGreat
open Go.RowKit
set_option linter.unusedVariables false
set_option linter.unusedSimpArgs false

end Go.Proofs.YtehhoplenloocaaGreat

/- Powers modulo 10007: Fermat's theorem by calculation, exponents modulo 10006. No program in sight. -/
namespace Go.Proofs.YtehhoplenloocaaGreat

/-- a power of a whole number, modulo 10007 -/
def pmN (a n : Nat) : Nat := a ^ n % 10007
def chkP : Nat → Bool
  | 0 => true
  | n + 1 => Nat.beq (pmN (n + 1) 10006) 1 && chkP n
theorem chkP_all : chkP 10006 = true := by decide +kernel
theorem chkP_at (N : Nat) (hN : chkP N = true) (a : Nat) (h : 1 ≤ a) (h' : a ≤ N) : pmN a 10006 = 1 := by
  generalize he : 10006 = E at *
  induction N with
  | zero => omega
  | succ N ih =>
    unfold chkP at hN
    rw [he] at hN
    rw [Bool.and_eq_true] at hN
    by_cases e : a = N + 1
    · rw [e]; exact Nat.eq_of_beq_eq_true hN.1
    · exact ih hN.2 (by omega)
theorem fermatN (a : Nat) (h : 1 ≤ a) (h' : a ≤ 10006) : pmN a 10006 = 1 := chkP_at 10006 chkP_all a h h'
theorem pmN_add (a i j : Nat) : pmN a (i + j) = pmN a i * pmN a j % 10007 := by
  unfold pmN; rw [Nat.pow_add, Nat.mul_mod]
theorem pmN_mul (a i j : Nat) : pmN a (i * j) = pmN (pmN a i) j := by
  unfold pmN; rw [Nat.pow_mul, Nat.pow_mod]
theorem pmN_lt (a n : Nat) : pmN a n < 10007 := Nat.mod_lt _ (by omega)
theorem pmN_mod (a n : Nat) : pmN (a % 10007) n = pmN a n := by
  unfold pmN; rw [← Nat.pow_mod]
theorem pmN_period (a k r : Nat) (h : 1 ≤ a) (h' : a ≤ 10006) : pmN a (10006 * k + r) = pmN a r := by
  rw [pmN_add, pmN_mul]
  rw [fermatN a h h']
  have e : pmN 1 k = 1 := by unfold pmN; simp
  rw [e, Nat.one_mul]; exact Nat.mod_eq_of_lt (pmN_lt a r)
theorem pmN_cong (a i j : Nat) (h : 1 ≤ a) (h' : a ≤ 10006) (hij : i % 10006 = j % 10006) : pmN a i = pmN a j := by
  have e1 : i = 10006 * (i / 10006) + i % 10006 := by omega
  have e2 : j = 10006 * (j / 10006) + j % 10006 := by omega
  rw [e1, e2, pmN_period _ _ _ h h', pmN_period _ _ _ h h', hij]
theorem pmN_sq (a n : Nat) : pmN (a * a % 10007) n = pmN a (2 * n) := by
  rw [pmN_mod, pmN_mul]; show pmN (a * a) n = _
  have : pmN a 2 = a * a % 10007 := by unfold pmN; rw [Nat.pow_succ, Nat.pow_one]
  rw [this, pmN_mod]

/-- the power modulo 10007 of a number from 1 to 10006 with a whole exponent of either sign -/
def powP (a n : Int) : Int := if inB a 1 10006 && inB n (-1000000) 1000000 then (pmN a.toNat (n % 10006).toNat : Int) else 0
theorem powP_pos (a n : Int) (ha : 1 ≤ a) (ha' : a ≤ 10006) (hn : 0 ≤ n) : pmN a.toNat n.toNat = pmN a.toNat (n % 10006).toNat :=
  pmN_cong _ _ _ (by omega) (by omega) (by omega)
theorem powP_neg (a n : Int) (ha : 1 ≤ a) (ha' : a ≤ 10006) (hn : n < 0) : pmN (pmN a.toNat 10005) (-n).toNat = pmN a.toNat (n % 10006).toNat := by
  rw [← pmN_mul]
  refine pmN_cong _ _ _ (by omega) (by omega) ?_
  obtain ⟨m, rfl⟩ : ∃ m : Nat, n = -((m : Int) + 1) := ⟨(-n).toNat - 1, by omega⟩
  have e : (-(-((m : Int) + 1))).toNat = m + 1 := by omega
  rw [e]
  omega

theorem pm_odd (o x k : Nat) (hk : k % 2 = 1) : o * x % 10007 * pmN (x * x % 10007) (k / 2) % 10007 = o * pmN x k % 10007 := by
  have e : k = 1 + 2 * (k / 2) := by omega
  have h : pmN x k = pmN x 1 * pmN x (2 * (k / 2)) % 10007 := by
    rw [← pmN_add]; exact congrArg (pmN x) e
  rw [pmN_sq, h, Nat.mul_mod (o * x % 10007), Nat.mod_mod, ← Nat.mul_mod, Nat.mul_mod o, Nat.mod_mod, ← Nat.mul_mod]
  have h1 : pmN x 1 = x % 10007 := by unfold pmN; rw [Nat.pow_one]
  rw [h1, ← Nat.mul_assoc]
  rw [Nat.mul_mod (o * x), Nat.mul_mod (o * (x % 10007))]
  rw [Nat.mul_mod o x, Nat.mul_mod o (x % 10007), Nat.mod_mod]
theorem pm_even (o x k : Nat) (hk : k % 2 = 0) : o * pmN (x * x % 10007) (k / 2) % 10007 = o * pmN x k % 10007 := by
  have e : 2 * (k / 2) = k := by omega
  rw [pmN_sq, e]
end Go.Proofs.YtehhoplenloocaaGreat

/- PointsValue: the plain law and the walks. -/
namespace Go.Proofs.YtehhoplenloocaaGreat
open Go.RowKit
set_option linter.unusedVariables false
set_option linter.unusedSimpArgs false

def goodR (X : List Int) : Bool := vecB X && decide (X.length = 2)
def monI (X : List Int) (s u : Int) : Int := powP s (X.getD 0 0) * powP u (X.getD 1 0)
def accP (ls : List (List Int)) (s u : Int) : Nat → Int
  | 0 => 0
  | k + 1 => (accP ls s u k + monI (ls.getD k []) s u) % 10007
def ptsV (ls : List (List Int)) (s u : Int) : Int × Bool :=
  if inB s 1 10006 && inB u 1 10006 && ls.all goodR then (accP ls s u ls.length, true) else (0, false)
theorem ret_pts {p : Int × Bool} {a : Int} {b : Bool} (h : p = (a, b)) : Ending.returned (.tuple #[.int .i64 a, .bool b]) = Ending.returned (.tuple #[.int .i64 p.1, .bool p.2]) := by rw [h]
theorem powP_bd (a n : Int) : 0 ≤ powP a n ∧ powP a n < 10007 := by
  unfold powP
  split
  · unfold pmN
    have := Nat.mod_lt (a.toNat ^ (n % 10006).toNat) (show 0 < 10007 by omega)
    omega
  · omega
theorem monI_bd (X : List Int) (s u : Int) : 0 ≤ monI X s u ∧ monI X s u ≤ 100140049 := by
  have h1 := powP_bd s (X.getD 0 0)
  have h2 := powP_bd u (X.getD 1 0)
  unfold monI
  have := mul_bd2 (a := powP s (X.getD 0 0)) (b := powP u (X.getD 1 0)) (M := 10007) (N := 10007) (by omega) (by omega) h2.1 (by omega) (by omega)
  exact ⟨Int.mul_nonneg h1.1 h2.1, by omega⟩
theorem goodR_of {X : List Int} (h : goodR X = true) : X.length = 2 ∧ allIn X (-1000) 1000 = true := by
  simp only [goodR, vecB, Bool.and_eq_true, decide_eq_true_eq] at h
  exact ⟨h.2, h.1.2⟩
theorem ptsV_bad {ls : List (List Int)} {s u : Int} {k : Nat} (hk : k < ls.length) (h : goodR (ls.getD k []) = false) : ptsV ls s u = (0, false) := by
  unfold ptsV
  rw [if_neg]
  intro hc
  simp only [Bool.and_eq_true, List.all_eq_true] at hc
  have := hc.2 (ls.getD k []) (by rw [List.getD_eq_getElem?_getD, List.getElem?_eq_getElem hk]; exact List.getElem_mem hk)
  rw [h] at this; cases this
theorem ptsV_good {ls : List (List Int)} {s u : Int} (hs : inB s 1 10006 = true) (hu : inB u 1 10006 = true) (h : ∀ j, j < ls.length → goodR (ls.getD j []) = true) : ptsV ls s u = (accP ls s u ls.length, true) := by
  unfold ptsV
  rw [if_pos]
  simp only [Bool.and_eq_true, List.all_eq_true]
  refine ⟨⟨hs, hu⟩, fun x hx => ?_⟩
  obtain ⟨i, hi, rfl⟩ := List.mem_iff_getElem.1 hx
  have := h i hi
  rwa [List.getD_eq_getElem?_getD, List.getElem?_eq_getElem hi] at this

end Go.Proofs.YtehhoplenloocaaGreat

/- PointsValue of the model: the walks. -/
namespace Go.Proofs.YtehhoplenloocaaGreat
open Go.RowKit
set_option linter.unusedVariables false
set_option linter.unusedSimpArgs false

end Go.Proofs.YtehhoplenloocaaGreat

/- Values of terms: the plain law. -/
namespace Go.Proofs.YtehhoplenloocaaGreat
open Go.RowKit
set_option linter.unusedVariables false
set_option linter.unusedSimpArgs false

def tv0 (s : Int) (U : List Int) (a b : Int) : Int := if s < 0 then (10007 - monI U a b % 10007) % 10007 else monI U a b % 10007
def facI (g : List Int) (a b : Int) : Int := (10008 - monI g a b % 10007) % 10007
def tvK (s : Int) (U : List Int) (G : List (List Int)) (a b : Int) : Nat → Int
  | 0 => tv0 s U a b
  | k + 1 => tvK s U G a b k * powP (facI (G.getD k []) a b) (-1) % 10007
def termV (s : Int) (U : List Int) (G : List (List Int)) (a b : Int) : Int × Bool :=
  if termB s U G && inB a 1 10006 && inB b 1 10006 && G.all (fun g => decide (facI g a b ≠ 0)) then (tvK s U G a b G.length, true) else (0, false)
theorem facI_bd (g : List Int) (a b : Int) : 0 ≤ facI g a b ∧ facI g a b < 10007 := by unfold facI; omega
theorem tvK_bd (s : Int) (U : List Int) (G : List (List Int)) (a b : Int) : ∀ k, 0 ≤ tvK s U G a b k ∧ tvK s U G a b k < 10007
  | 0 => by rw [tvK]; unfold tv0; split <;> omega
  | k + 1 => by rw [tvK]; omega
theorem termV_no1 {s : Int} {U : List Int} {G : List (List Int)} {a b : Int} (h : termB s U G = false) : termV s U G a b = (0, false) := by unfold termV; rw [h]; rfl
theorem termV_no2 {s : Int} {U : List Int} {G : List (List Int)} {a b : Int} (h : inB a 1 10006 = false) : termV s U G a b = (0, false) := by unfold termV; rw [h, Bool.and_false]; rfl
theorem termV_no3 {s : Int} {U : List Int} {G : List (List Int)} {a b : Int} (h : inB b 1 10006 = false) : termV s U G a b = (0, false) := by unfold termV; rw [h, Bool.and_false]; rfl
theorem termV_no4 {s : Int} {U : List Int} {G : List (List Int)} {a b : Int} {k : Nat} (hk : k < G.length) (h : facI (G.getD k []) a b = 0) : termV s U G a b = (0, false) := by
  unfold termV; rw [all_getD_no (p := fun g => decide (facI g a b ≠ 0)) hk (by simp only [h]; simp), Bool.and_false]; rfl
theorem termV_yes {s : Int} {U : List Int} {G : List (List Int)} {a b : Int} (h1 : termB s U G = true) (h2 : inB a 1 10006 = true) (h3 : inB b 1 10006 = true) (h : ∀ k, k < G.length → facI (G.getD k []) a b ≠ 0) : termV s U G a b = (tvK s U G a b G.length, true) := by
  unfold termV
  rw [h1, h2, h3, all_getD (p := fun g => decide (facI g a b ≠ 0)) (fun k hk => by simp only [decide_eq_true_eq]; exact h k hk)]; rfl
/-- the program's first value -/
theorem tv0_prog {s : Int} (hs : s = 1 ∨ s = -1) (U : List Int) (a b : Int) :
    (((s + 10007).tmod 10007 * powP a (U.getD 0 0)).tmod 10007 * powP b (U.getD 1 0)).tmod 10007 = tv0 s U a b := by
  have h1 := powP_bd a (U.getD 0 0)
  have h2 := powP_bd b (U.getD 1 0)
  unfold tv0 monI
  generalize powP a (U.getD 0 0) = p at *
  generalize powP b (U.getD 1 0) = q at *
  rcases hs with rfl | rfl
  · have e1 : ((1 : Int) + 10007).tmod 10007 = 1 := by decide
    rw [e1, Int.one_mul, Int.tmod_eq_emod_of_nonneg h1.1, Int.emod_eq_of_lt h1.1 h1.2, Int.tmod_eq_emod_of_nonneg (Int.mul_nonneg h1.1 h2.1)]
    simp
  · have e1 : ((-1 : Int) + 10007).tmod 10007 = 10006 := by decide
    rw [e1, Int.tmod_eq_emod_of_nonneg (by omega : 0 ≤ 10006 * p)]
    have hm : 0 ≤ 10006 * p % 10007 := by omega
    rw [Int.tmod_eq_emod_of_nonneg (Int.mul_nonneg hm h2.1), if_pos (by omega)]
    have hk : 10006 * p % 10007 = 10006 * p - 10007 * (10006 * p / 10007) := by omega
    rw [hk]
    generalize 10006 * p / 10007 = k
    have e : (10006 * p - 10007 * k) * q = 10006 * (p * q) - 10007 * (k * q) := by grind
    rw [e]
    generalize p * q = r
    generalize k * q = z
    omega
end Go.Proofs.YtehhoplenloocaaGreat

/- TermValue: the program's walk. -/
namespace Go.Proofs.YtehhoplenloocaaGreat
open Go.RowKit
set_option linter.unusedVariables false
set_option linter.unusedSimpArgs false

theorem mul_lt7 {p q : Int} (h1 : 0 ≤ p ∧ p < 10007) (h2 : 0 ≤ q ∧ q < 10007) : 0 ≤ p * q ∧ p * q ≤ 100140049 := by
  have := mul_bd2 (a := p) (b := q) (M := 10007) (N := 10007) (by omega) (by omega) h2.1 (by omega) (by omega)
  exact ⟨Int.mul_nonneg h1.1 h2.1, by omega⟩
theorem tm7 {x : Int} (h : 0 ≤ x) : 0 ≤ x.tmod 10007 ∧ x.tmod 10007 < 10007 := by
  rw [Int.tmod_eq_emod_of_nonneg h]; omega
/-- the factor as the program reckons it -/
theorem facI_prog (g : List Int) (a b : Int) : (1 - (powP a (g.getD 0 0) * powP b (g.getD 1 0)).tmod 10007 + 10007).tmod 10007 = facI g a b := by
  have := monI_bd g a b
  unfold facI
  rw [show monI g a b = powP a (g.getD 0 0) * powP b (g.getD 1 0) from rfl] at *
  generalize powP a (g.getD 0 0) * powP b (g.getD 1 0) = m at *
  rw [Int.tmod_eq_emod_of_nonneg this.1, Int.tmod_eq_emod_of_nonneg (by omega)]; omega

end Go.Proofs.YtehhoplenloocaaGreat

/- TermValue: the model's walk. -/
namespace Go.Proofs.YtehhoplenloocaaGreat
open Go.RowKit
set_option linter.unusedVariables false
set_option linter.unusedSimpArgs false

end Go.Proofs.YtehhoplenloocaaGreat
