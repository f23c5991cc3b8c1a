/- Whole points of simplices by the classes of a lattice: plain law. -/
import Derived.Test.YtehhoplenloocaaGreatCelM
namespace Go.Proofs.YtehhoplenloocaaGreat
set_option linter.unusedVariables false
set_option linter.unusedSimpArgs false

/-! ### lists without doubles -/
theorem nodup_le {α : Type} [DecidableEq α] : ∀ {l m : List α}, l.Nodup → (∀ x ∈ l, x ∈ m) → l.length ≤ m.length
  | [], m, _, _ => Nat.zero_le _
  | a :: l, m, h, hs => by
    rw [List.nodup_cons] at h
    have ha : a ∈ m := hs a (by simp)
    have ih := nodup_le (l := l) (m := m.erase a) h.2 fun x hx => by
      have hne : x ≠ a := fun e => h.1 (e ▸ hx)
      exact (List.mem_erase_of_ne hne).2 (hs x (by simp [hx]))
    rw [List.length_erase_of_mem ha] at ih
    have := List.length_pos_of_mem ha
    rw [List.length_cons]; omega
theorem nodup_len {α : Type} [DecidableEq α] {l m : List α} (h : l.Nodup) (k : m.Nodup) (e : ∀ x, x ∈ l ↔ x ∈ m) : l.length = m.length :=
  Nat.le_antisymm (nodup_le h fun x hx => (e x).1 hx) (nodup_le k fun x hx => (e x).2 hx)
theorem nodup_flat {α β : Type} {g : α → List β} : ∀ {l : List α}, l.Nodup → (∀ v ∈ l, (g v).Nodup) → (∀ v ∈ l, ∀ u ∈ l, ∀ x, x ∈ g v → x ∈ g u → v = u) → (l.flatMap g).Nodup
  | [], _, _, _ => by simp
  | a :: l, h, hg, hd => by
    rw [List.nodup_cons] at h
    rw [List.flatMap_cons, List.nodup_append]
    refine ⟨hg a (by simp), nodup_flat h.2 (fun v hv => hg v (by simp [hv])) fun v hv u hu => hd v (by simp [hv]) u (by simp [hu]), fun x hx y hy e => ?_⟩
    subst e
    obtain ⟨u, hu, hxu⟩ := List.mem_flatMap.1 hy
    exact h.1 (hd a (by simp) u (by simp [hu]) x hx hxu ▸ hu)
theorem sum_by {α : Type} (h : α → Nat) (g : Nat → Nat) : ∀ (l : List α), (∀ v ∈ l, h v ≤ 3) → (l.map fun v => g (h v)).sum = g 0 * l.countP (fun v => h v == 0) + g 1 * l.countP (fun v => h v == 1) + g 2 * l.countP (fun v => h v == 2) + g 3 * l.countP (fun v => h v == 3)
  | [], _ => by simp
  | a :: l, hl => by
    have ih := sum_by h g l fun v hv => hl v (by simp [hv])
    have ha := hl a (by simp)
    rw [List.map_cons, List.sum_cons, ih]
    rcases (show h a = 0 ∨ h a = 1 ∨ h a = 2 ∨ h a = 3 by omega) with e | e | e | e <;> simp [List.countP_cons, e, Nat.mul_add] <;> omega
theorem count_one {α : Type} {p : α → Bool} {a : α} : ∀ {l : List α}, l.Nodup → a ∈ l → p a = true → (∀ b ∈ l, p b = true → b = a) → l.countP p = 1
  | [], _, h, _, _ => by simp at h
  | b :: l, hn, hm, ha, hu => by
    rw [List.nodup_cons] at hn
    by_cases e : b = a
    · subst e
      rw [List.countP_cons, if_pos ha]
      have : l.countP p = 0 := by
        rw [List.countP_eq_zero]
        intro c hc hp
        exact hn.1 (hu c (by simp [hc]) hp ▸ hc)
      omega
    · have hb : ¬ p b = true := fun h => e (hu b (by simp) h)
      rw [List.countP_cons, if_neg hb]
      have hm' : a ∈ l := by
        rcases List.mem_cons.1 hm with h | h
        · exact absurd h.symm e
        · exact h
      rw [count_one hn.2 hm' ha fun c hc => hu c (by simp [hc])]

/-! ### simplices -/
abbrev fnL (y : List Int) : Nat → Int := fun j => y.getD j 0
/-- the factors of the rows times the determinant's size, as linear forms -/
structure Simp (n : Nat) (M : List (List Int)) (D : Int) (f : (Nat → Int) → Nat → Int) : Prop where
  n2 : n = 2 ∨ n = 3
  pos : 0 < D
  sq : Sq n M
  add : ∀ x y r, f (fun j => x j + y j) r = f x r + f y r
  mul : ∀ c x r, f (fun j => c * x j) r = c * f x r
  cg : ∀ x y, (∀ j, j < n → x j = y j) → ∀ r, f x r = f y r
  row : ∀ i r, i < n → r < n → f (fun j => atM M i j) r = if i = r then D else 0
  out : ∀ z r, n ≤ r → f z r = 0
  cra : ∀ z j, j < n → D * z j = f z 0 * atM M 0 j + f z 1 * atM M 1 j + f z 2 * atM M 2 j
variable {n : Nat} {M : List (List Int)} {D : Int} {f : (Nat → Int) → Nat → Int}
theorem Simp.rowz (h : Simp n M D f) (i : Nat) (r : Nat) : f (fun j => atM M i j) r = if i = r ∧ r < n then D else 0 := by
  by_cases hr : r < n
  · by_cases hi : i < n
    · rw [h.row i r hi hr]; simp [hr]
    · have e : f (fun j => atM M i j) r = f (fun j => 0 * atM M 0 j) r := h.cg _ _ (fun j _ => by rw [h.sq.out2 (by omega)]; omega) r
      rw [e, h.mul, if_neg (by omega)]; omega
  · rw [h.out _ _ (by omega), if_neg (by omega)]
theorem Simp.comb (h : Simp n M D f) (a b c : Int) (r : Nat) : f (fun j => a * atM M 0 j + b * atM M 1 j + c * atM M 2 j) r = if r < n then D * (if r = 0 then a else if r = 1 then b else if r = 2 then c else 0) else 0 := by
  rw [h.add (fun j => a * atM M 0 j + b * atM M 1 j), h.add, h.mul, h.mul, h.mul, h.rowz, h.rowz, h.rowz]
  by_cases hr : r < n
  · have := h.n2
    simp only [hr, and_true, if_true]
    rcases (show r = 0 ∨ r = 1 ∨ r = 2 by omega) with rfl | rfl | rfl <;> simp [Int.mul_comm]
  · rw [if_neg (by omega), if_neg (by omega), if_neg (by omega), if_neg hr]; omega
theorem Simp.lat (h : Simp n M D f) {z : Nat → Int} (hz : InL M z) (r : Nat) : ∃ k, f z r = D * k := by
  obtain ⟨a, b, c, hz⟩ := hz
  rw [h.cg z _ (fun j _ => hz j) r, h.comb]
  split
  · exact ⟨_, rfl⟩
  · exact ⟨0, by omega⟩
theorem Simp.zero (h : Simp n M D f) {z : Nat → Int} (hz : ∀ r, r < n → f z r = 0) (j : Nat) (hj : j < n) : z j = 0 := by
  have e := h.cra z j hj
  have hr : ∀ r, f z r = 0 := fun r => by
    by_cases hr : r < n
    · exact hz r hr
    · exact h.out z r (by omega)
  rw [hr, hr, hr] at e
  have hp := h.pos
  have : D * z j = D * 0 := by omega
  exact Int.eq_of_mul_eq_mul_left (by omega) this
theorem Simp.inl (h : Simp n M D f) {z : Nat → Int} (hz : ∀ r, r < n → f z r % D = 0) (ho : ∀ j, n ≤ j → z j = 0) : InL M z := by
  refine ⟨f z 0 / D, f z 1 / D, f z 2 / D, fun j => ?_⟩
  have hr : ∀ r, D * (f z r / D) = f z r := fun r => by
    have e := Int.mul_ediv_add_emod (f z r) D
    by_cases hr : r < n
    · rw [hz r hr] at e; omega
    · rw [h.out z r (by omega)]; simp
  by_cases hj : j < n
  · have e := h.cra z j hj
    have hp := h.pos
    refine Int.eq_of_mul_eq_mul_left (show D ≠ 0 by omega) ?_
    rw [e, Int.mul_add, Int.mul_add, ← Int.mul_assoc, ← Int.mul_assoc, ← Int.mul_assoc, hr, hr, hr]
  · rw [ho j (by omega), h.sq.out (by omega), h.sq.out (by omega), h.sq.out (by omega)]; omega
/-- each vector has its leader -/
theorem leader_ex {n : Nat} {H : List (List Int)} (h : HX n H) (h3 : n ≤ 3) (z : Nat → Int) (ho : ∀ j, n ≤ j → z j = 0) : ∃ v, v ∈ ldK H n ∧ InL H (fun j => z j - v.getD j 0) := by
  obtain ⟨a, ha⟩ : ∃ a : Int, a = if 0 < n then z 0 / atM H 0 0 else 0 := ⟨_, rfl⟩
  obtain ⟨b, hb⟩ : ∃ b : Int, b = if 1 < n then (z 1 - a * atM H 0 1) / atM H 1 1 else 0 := ⟨_, rfl⟩
  obtain ⟨c, hc⟩ : ∃ c : Int, c = if 2 < n then (z 2 - a * atM H 0 2 - b * atM H 1 2) / atM H 2 2 else 0 := ⟨_, rfl⟩
  have hval : ∀ j, j < n → 0 ≤ z j - (a * atM H 0 j + b * atM H 1 j + c * atM H 2 j) ∧ z j - (a * atM H 0 j + b * atM H 1 j + c * atM H 2 j) < atM H j j := fun j hj => by
    have t := h.tri
    have hp := h.pos j hj
    rcases (show j = 0 ∨ j = 1 ∨ j = 2 by omega) with rfl | rfl | rfl
    · rw [t 1 0 (by omega), t 2 0 (by omega)]
      rw [if_pos hj] at ha
      have e := Int.mul_ediv_add_emod (z 0) (atM H 0 0)
      have e1 := Int.emod_nonneg (z 0) (show atM H 0 0 ≠ 0 by omega)
      have e2 := Int.emod_lt_of_pos (z 0) hp
      rw [← ha, Int.mul_comm] at e
      omega
    · rw [t 2 1 (by omega)]
      rw [if_pos hj] at hb
      have e := Int.mul_ediv_add_emod (z 1 - a * atM H 0 1) (atM H 1 1)
      have e1 := Int.emod_nonneg (z 1 - a * atM H 0 1) (show atM H 1 1 ≠ 0 by omega)
      have e2 := Int.emod_lt_of_pos (z 1 - a * atM H 0 1) hp
      rw [← hb, Int.mul_comm] at e
      omega
    · rw [if_pos hj] at hc
      have e := Int.mul_ediv_add_emod (z 2 - a * atM H 0 2 - b * atM H 1 2) (atM H 2 2)
      have e1 := Int.emod_nonneg (z 2 - a * atM H 0 2 - b * atM H 1 2) (show atM H 2 2 ≠ 0 by omega)
      have e2 := Int.emod_lt_of_pos (z 2 - a * atM H 0 2 - b * atM H 1 2) hp
      rw [← hc, Int.mul_comm] at e
      omega
  have hget : ∀ j, ((List.range n).map fun j => z j - (a * atM H 0 j + b * atM H 1 j + c * atM H 2 j)).getD j 0 = if j < n then z j - (a * atM H 0 j + b * atM H 1 j + c * atM H 2 j) else 0 := fun j => by
    by_cases hj : j < n
    · rw [List.getD_eq_getElem?_getD, List.getElem?_map, List.getElem?_range hj, if_pos hj]; rfl
    · rw [List.getD_eq_getElem?_getD, List.getElem?_eq_none (by simp; omega), if_neg hj]; rfl
  refine ⟨(List.range n).map fun j => z j - (a * atM H 0 j + b * atM H 1 j + c * atM H 2 j), (ldK_mem H n _).2 ⟨by simp, fun j hj => ?_⟩, a, b, c, fun j => ?_⟩
  · rw [hget, if_pos hj]; exact hval j hj
  · dsimp only
    rw [hget]
    split
    · omega
    · rename_i hj
      rw [ho j (by omega), h.sq.out (by omega), h.sq.out (by omega), h.sq.out (by omega)]; omega

/-- the rest of a factor -/
def rho (f : (Nat → Int) → Nat → Int) (D : Int) (v : List Int) (r : Nat) : Int := f (fnL v) r % D
/-- the height of a point of the cell -/
def hgt (f : (Nat → Int) → Nat → Int) (D : Int) (v : List Int) : Nat := ((rho f D v 0 + rho f D v 1 + rho f D v 2 + (-(rho f D v 0 + rho f D v 1 + rho f D v 2)) % D) / D).toNat
theorem Simp.rho_bd (h : Simp n M D f) (v : List Int) (r : Nat) : 0 ≤ rho f D v r ∧ rho f D v r < D := ⟨Int.emod_nonneg _ (by have := h.pos; omega), Int.emod_lt_of_pos _ h.pos⟩
theorem Simp.hgt_eq (h : Simp n M D f) (v : List Int) : ∃ s, 0 ≤ s ∧ s < D ∧ rho f D v 0 + rho f D v 1 + rho f D v 2 + s = D * (hgt f D v : Int) ∧ hgt f D v ≤ n := by
  have hp := h.pos
  have r0 := h.rho_bd v 0
  have r1 := h.rho_bd v 1
  have r2 := h.rho_bd v 2
  have r2' : n = 2 → rho f D v 2 = 0 := fun e => by unfold rho; rw [h.out _ _ (by omega)]; simp
  unfold hgt
  obtain ⟨t, ht⟩ : ∃ t, t = rho f D v 0 + rho f D v 1 + rho f D v 2 := ⟨_, rfl⟩
  rw [← ht]
  have s0 := Int.emod_nonneg (-t) (show D ≠ 0 by omega)
  have s1 := Int.emod_lt_of_pos (-t) hp
  have e := Int.mul_ediv_add_emod (-t) D
  have e2 : t + (-t) % D = D * (-(-t / D)) := by rw [Int.mul_neg]; omega
  have e3 : (t + (-t) % D) / D = -(-t / D) := by rw [e2, Int.mul_ediv_cancel_left _ (by omega)]
  rw [e3]
  generalize -(-t / D) = k at *
  have k0 : 0 ≤ k := by
    rcases Int.lt_or_le k 0 with g | g
    · have : D * k ≤ D * (-1) := Int.mul_le_mul_of_nonneg_left (by omega) (by omega)
      omega
    · exact g
  have kn : k ≤ n := by
    rcases Int.lt_or_le (n : Int) k with g | g
    · have : D * ((n : Int) + 1) ≤ D * k := Int.mul_le_mul_of_nonneg_left (by omega) (by omega)
      rcases h.n2 with e | e
      · have := r2' e
        subst e
        rw [show D * ((2 : Nat) + 1 : Int) = 3 * D by simp; omega] at this
        omega
      · subst e
        rw [show D * ((3 : Nat) + 1 : Int) = 4 * D by simp; omega] at this
        omega
    · exact g
  exact ⟨(-t) % D, s0, s1, by rw [e2, Int.toNat_of_nonneg k0], by omega⟩
/-- the factors that are not negative -/
def Q (n : Nat) (m : Int) : List (Nat × Nat × Nat) := ((List.range 4).flatMap fun a => (List.range 4).flatMap fun b => (List.range 4).map fun c => (a, b, c)).filter fun q => decide ((q.1 + q.2.1 + q.2.2 : Int) ≤ m) && (decide (2 < n) || q.2.2 == 0)
theorem Q_mem {n : Nat} {m : Int} (hm : m ≤ 3) (q : Nat × Nat × Nat) : q ∈ Q n m ↔ (q.1 + q.2.1 + q.2.2 : Int) ≤ m ∧ (2 < n ∨ q.2.2 = 0) := by
  obtain ⟨a, b, c⟩ := q
  unfold Q
  rw [List.mem_filter]
  constructor
  · rintro ⟨-, h⟩; simpa using h
  · intro h
    refine ⟨?_, by simpa using h⟩
    dsimp only at h
    rw [List.mem_flatMap]
    refine ⟨a, List.mem_range.2 (by omega), ?_⟩
    rw [List.mem_flatMap]
    refine ⟨b, List.mem_range.2 (by omega), ?_⟩
    rw [List.mem_map]
    exact ⟨c, List.mem_range.2 (by omega), rfl⟩
theorem Q_nodup (n : Nat) (m : Int) : (Q n m).Nodup := List.Pairwise.filter _ (by decide)
/-- a point of a class with whole factors more -/
def ptY (n : Nat) (M : List (List Int)) (D : Int) (f : (Nat → Int) → Nat → Int) (v : List Int) (q : Nat × Nat × Nat) : List Int :=
  (List.range n).map fun j => v.getD j 0 + (((q.1 : Int) - f (fnL v) 0 / D) * atM M 0 j + ((q.2.1 : Int) - f (fnL v) 1 / D) * atM M 1 j + ((q.2.2 : Int) - f (fnL v) 2 / D) * atM M 2 j)
def ptZ (n : Nat) (M : List (List Int)) (D : Int) (f : (Nat → Int) → Nat → Int) (v : List Int) (q : Nat × Nat × Nat) : List Int :=
  (List.range n).map fun j => -v.getD j 0 + (((q.1 : Int) + 1 + f (fnL v) 0 / D) * atM M 0 j + ((q.2.1 : Int) + 1 + f (fnL v) 1 / D) * atM M 1 j + ((q.2.2 : Int) + 1 + f (fnL v) 2 / D) * atM M 2 j)
theorem rmap_getD {n : Nat} (g : Nat → Int) (j : Nat) : ((List.range n).map g).getD j 0 = if j < n then g j else 0 := by
  by_cases hj : j < n
  · rw [List.getD_eq_getElem?_getD, List.getElem?_map, List.getElem?_range hj, if_pos hj]; rfl
  · rw [List.getD_eq_getElem?_getD, List.getElem?_eq_none (by simp; omega), if_neg hj]; rfl
def q3 (q : Nat × Nat × Nat) (r : Nat) : Int := if r = 0 then q.1 else if r = 1 then q.2.1 else if r = 2 then q.2.2 else 0
theorem Simp.fY (h : Simp n M D f) (v : List Int) (q : Nat × Nat × Nat) {r : Nat} (hr : r < n) : f (fnL (ptY n M D f v q)) r = rho f D v r + D * q3 q r := by
  rw [h.cg (fnL (ptY n M D f v q)) (fun j => fnL v j + (((q.1 : Int) - f (fnL v) 0 / D) * atM M 0 j + ((q.2.1 : Int) - f (fnL v) 1 / D) * atM M 1 j + ((q.2.2 : Int) - f (fnL v) 2 / D) * atM M 2 j)) (fun j hj => by
    show (ptY n M D f v q).getD j 0 = _
    unfold ptY; rw [rmap_getD, if_pos hj]) r, h.add, h.comb, if_pos hr]
  unfold rho q3
  have e := Int.mul_ediv_add_emod (f (fnL v) r) D
  have := h.n2
  rcases (show r = 0 ∨ r = 1 ∨ r = 2 by omega) with rfl | rfl | rfl <;> simp <;> rw [Int.mul_sub] <;> omega
theorem Simp.fZ (h : Simp n M D f) (v : List Int) (q : Nat × Nat × Nat) {r : Nat} (hr : r < n) : f (fnL (ptZ n M D f v q)) r = D * (q3 q r + 1) - rho f D v r := by
  rw [h.cg (fnL (ptZ n M D f v q)) (fun j => (-1) * fnL v j + (((q.1 : Int) + 1 + f (fnL v) 0 / D) * atM M 0 j + ((q.2.1 : Int) + 1 + f (fnL v) 1 / D) * atM M 1 j + ((q.2.2 : Int) + 1 + f (fnL v) 2 / D) * atM M 2 j)) (fun j hj => by
    show (ptZ n M D f v q).getD j 0 = _
    unfold ptZ; rw [rmap_getD, if_pos hj]; dsimp only [fnL]; omega) r, h.add, h.mul, h.comb, if_pos hr]
  unfold rho q3
  have e := Int.mul_ediv_add_emod (f (fnL v) r) D
  have := h.n2
  rcases (show r = 0 ∨ r = 1 ∨ r = 2 by omega) with rfl | rfl | rfl <;> simp <;> rw [Int.mul_add, Int.mul_add] <;> (try rw [Int.mul_add]) <;> omega
theorem ptY_len (n : Nat) (M : List (List Int)) (D : Int) (f : (Nat → Int) → Nat → Int) (v : List Int) (q : Nat × Nat × Nat) : (ptY n M D f v q).length = n := by simp [ptY]
theorem ptZ_len (n : Nat) (M : List (List Int)) (D : Int) (f : (Nat → Int) → Nat → Int) (v : List Int) (q : Nat × Nat × Nat) : (ptZ n M D f v q).length = n := by simp [ptZ]
theorem Simp.clY (h : Simp n M D f) (v : List Int) (hv : v.length = n) (q : Nat × Nat × Nat) : InL M (fun j => (ptY n M D f v q).getD j 0 - v.getD j 0) := by
  refine ⟨(q.1 : Int) - f (fnL v) 0 / D, (q.2.1 : Int) - f (fnL v) 1 / D, (q.2.2 : Int) - f (fnL v) 2 / D, fun j => ?_⟩
  show (ptY n M D f v q).getD j 0 - v.getD j 0 = _
  unfold ptY
  rw [rmap_getD]
  split
  · rename_i hj
    show v.getD j 0 + (((q.1 : Int) - f (fnL v) 0 / D) * atM M 0 j + ((q.2.1 : Int) - f (fnL v) 1 / D) * atM M 1 j + ((q.2.2 : Int) - f (fnL v) 2 / D) * atM M 2 j) - v.getD j 0 = ((q.1 : Int) - f (fnL v) 0 / D) * atM M 0 j + ((q.2.1 : Int) - f (fnL v) 1 / D) * atM M 1 j + ((q.2.2 : Int) - f (fnL v) 2 / D) * atM M 2 j
    omega
  · rename_i hj
    rw [h.sq.out (by omega), h.sq.out (by omega), h.sq.out (by omega), List.getD_eq_getElem?_getD, List.getElem?_eq_none (by omega)]; simp
theorem Simp.clZ (h : Simp n M D f) (v : List Int) (hv : v.length = n) (q : Nat × Nat × Nat) : InL M (fun j => (ptZ n M D f v q).getD j 0 + v.getD j 0) := by
  refine ⟨(q.1 : Int) + 1 + f (fnL v) 0 / D, (q.2.1 : Int) + 1 + f (fnL v) 1 / D, (q.2.2 : Int) + 1 + f (fnL v) 2 / D, fun j => ?_⟩
  show (ptZ n M D f v q).getD j 0 + v.getD j 0 = _
  unfold ptZ
  rw [rmap_getD]
  split
  · rename_i hj
    show -v.getD j 0 + (((q.1 : Int) + 1 + f (fnL v) 0 / D) * atM M 0 j + ((q.2.1 : Int) + 1 + f (fnL v) 1 / D) * atM M 1 j + ((q.2.2 : Int) + 1 + f (fnL v) 2 / D) * atM M 2 j) + v.getD j 0 = ((q.1 : Int) + 1 + f (fnL v) 0 / D) * atM M 0 j + ((q.2.1 : Int) + 1 + f (fnL v) 1 / D) * atM M 1 j + ((q.2.2 : Int) + 1 + f (fnL v) 2 / D) * atM M 2 j
    omega
  · rename_i hj
    rw [h.sq.out (by omega), h.sq.out (by omega), h.sq.out (by omega), List.getD_eq_getElem?_getD, List.getElem?_eq_none (by omega)]; simp
/-- a list is told by its factors -/
theorem Simp.same (h : Simp n M D f) {x y : List Int} (hx : x.length = n) (hy : y.length = n) (e : ∀ r, r < n → f (fnL x) r = f (fnL y) r) : x = y := by
  have hz := h.zero (z := fun j => fnL x j + (-1) * fnL y j) (fun r hr => by rw [h.add, h.mul, e r hr]; omega)
  apply List.ext_getElem (by omega)
  intro j h1 h2
  have := hz j (by omega)
  dsimp only [fnL] at this
  rw [List.getD_eq_getElem?_getD, List.getD_eq_getElem?_getD, List.getElem?_eq_getElem h1, List.getElem?_eq_getElem h2] at this
  simp at this; omega
/-- what is counted -/
theorem Simp.count (h : Simp n M D f) {H : List (List Int)} (hH : HX n H) (hi : ∀ z, InL H z ↔ InL M z) {t : Int} (ht : t ≤ 3) {L : List (List Int)} (hL : L.Nodup)
    (hm : ∀ y, y ∈ L ↔ y.length = n ∧ (∀ r, r < n → 0 ≤ f (fnL y) r) ∧ f (fnL y) 0 + f (fnL y) 1 + f (fnL y) 2 ≤ t * D) :
    L.length = ((ldK H n).map fun v => (Q n (t - hgt f D v)).length).sum := by
  have hn3 : n ≤ 3 := by have := h.n2; omega
  have hp := h.pos
  have hlen : ∀ v ∈ ldK H n, v.length = n := fun v hv => ((ldK_mem H n v).1 hv).1
  have hsum : ∀ v q, (2 < n ∨ q.2.2 = 0) → (f (fnL (ptY n M D f v q)) 0 + f (fnL (ptY n M D f v q)) 1 + f (fnL (ptY n M D f v q)) 2 ≤ t * D ↔ (q.1 + q.2.1 + q.2.2 : Int) ≤ t - hgt f D v) := fun v q hq => by
    obtain ⟨s, s0, s1, s2, -⟩ := h.hgt_eq v
    have e2 : f (fnL (ptY n M D f v q)) 2 = rho f D v 2 + D * q3 q 2 := by
      by_cases h2 : 2 < n
      · exact h.fY v q h2
      · rw [h.out _ _ (by omega)]
        unfold rho q3; rw [h.out _ _ (by omega)]
        have : q.2.2 = 0 := by omega
        simp [this]
    rw [h.fY v q (by have := h.n2; omega), h.fY v q (by have := h.n2; omega), e2]
    have k0 : q3 q 0 = q.1 := rfl
    have k1 : q3 q 1 = q.2.1 := rfl
    have k2 : q3 q 2 = q.2.2 := rfl
    rw [k0, k1, k2]
    generalize hgt f D v = g at *
    have e3 : t * D = D * t := Int.mul_comm _ _
    have e4 : D * ((q.1 : Int) + q.2.1 + q.2.2 + g - t) = D * (q.1 : Int) + D * (q.2.1 : Int) + D * (q.2.2 : Int) + D * (g : Int) - D * t := by rw [Int.mul_sub, Int.mul_add, Int.mul_add, Int.mul_add]
    constructor
    · intro hle
      rcases Int.lt_or_le 0 ((q.1 : Int) + q.2.1 + q.2.2 + g - t) with g1 | g1
      · have : D * 1 ≤ D * ((q.1 : Int) + q.2.1 + q.2.2 + g - t) := Int.mul_le_mul_of_nonneg_left (by omega) (by omega)
        omega
      · omega
    · intro hle
      have : D * ((q.1 : Int) + q.2.1 + q.2.2 + g - t) ≤ D * 0 := Int.mul_le_mul_of_nonneg_left (by omega) (by omega)
      omega
  have hfl : ((ldK H n).map fun v => (Q n (t - hgt f D v)).length).sum = ((ldK H n).flatMap fun v => (Q n (t - hgt f D v)).map (ptY n M D f v)).length := by rw [List.length_flatMap]; simp
  rw [hfl]
  refine nodup_len hL (nodup_flat (ldK_nodup H n) (fun v hv => nodup_map_of (Q_nodup _ _) fun x hx y hy e => ?_) fun v hv u hu x hxv hxu => ?_) fun y => ?_
  · have e0 := h.fY v x (r := 0) (by have := h.n2; omega)
    have e1 := h.fY v x (r := 1) (by have := h.n2; omega)
    have e0' := h.fY v y (r := 0) (by have := h.n2; omega)
    have e1' := h.fY v y (r := 1) (by have := h.n2; omega)
    rw [e] at e0 e1
    have k0 : D * q3 x 0 = D * q3 y 0 := by omega
    have k1 : D * q3 x 1 = D * q3 y 1 := by omega
    have k0 := Int.eq_of_mul_eq_mul_left (by omega) k0
    have k1 := Int.eq_of_mul_eq_mul_left (by omega) k1
    have k2 : x.2.2 = y.2.2 := by
      by_cases h2 : 2 < n
      · have e2 := h.fY v x h2
        have e2' := h.fY v y h2
        rw [e] at e2
        have k2 : D * q3 x 2 = D * q3 y 2 := by omega
        have k2 := Int.eq_of_mul_eq_mul_left (by omega) k2
        simp [q3] at k2; omega
      · have a := ((Q_mem (by omega) x).1 hx).2
        have b := ((Q_mem (by omega) y).1 hy).2
        omega
    simp [q3] at k0 k1
    exact Prod.ext (by omega) (Prod.ext (by omega) k2)
  · obtain ⟨q, -, rfl⟩ := List.mem_map.1 hxv
    obtain ⟨q', -, e⟩ := List.mem_map.1 hxu
    refine ld_unique hH hn3 hv hu ((hi _).2 ?_)
    have c1 := h.clY v (hlen v hv) q
    have c2 := h.clY u (hlen u hu) q'
    rw [e] at c2
    exact (c2.add (c1.smul (-1))).congr fun j => by omega
  · rw [hm, List.mem_flatMap]
    constructor
    · rintro ⟨hyl, hpos, hle⟩
      obtain ⟨v, hv, hcl⟩ := leader_ex hH hn3 (fnL y) (fun j hj => by show y.getD j 0 = 0; rw [List.getD_eq_getElem?_getD, List.getElem?_eq_none (by omega)]; rfl)
      have hvl := hlen v hv
      have hmod : ∀ r, rho f D v r = f (fnL y) r % D := fun r => by
        obtain ⟨k, hk⟩ := h.lat ((hi _).1 hcl) r
        have e : f (fun j => fnL y j - v.getD j 0) r = f (fnL y) r - f (fnL v) r := by
          rw [h.cg _ (fun j => fnL y j + (-1) * fnL v j) (fun j _ => by show _ - _ = _; dsimp only [fnL]; omega) r, h.add, h.mul]; omega
        rw [e] at hk
        unfold rho
        rw [show f (fnL y) r = f (fnL v) r + D * k by omega, Int.add_mul_emod_self_left]
      obtain ⟨q, hq⟩ : ∃ q : Nat × Nat × Nat, q = ((f (fnL y) 0 / D).toNat, (f (fnL y) 1 / D).toNat, (f (fnL y) 2 / D).toNat) := ⟨_, rfl⟩
      have hq3 : ∀ r, r < n → q3 q r = f (fnL y) r / D := fun r hr => by
        have := Int.ediv_nonneg (hpos r hr) (show 0 ≤ D by omega)
        have := h.n2
        rw [hq]
        rcases (show r = 0 ∨ r = 1 ∨ r = 2 by omega) with rfl | rfl | rfl <;> simp [q3] <;> omega
      have hq0 : 2 < n ∨ q.2.2 = 0 := by
        by_cases h2 : 2 < n
        · exact .inl h2
        · right
          rw [hq]
          simp only [h.out _ 2 (show n ≤ 2 by omega)]; simp
      have hy : ptY n M D f v q = y := h.same (ptY_len ..) hyl fun r hr => by
        rw [h.fY v q hr, hmod, hq3 r hr, Int.add_comm, Int.mul_ediv_add_emod]
      refine ⟨v, hv, List.mem_map.2 ⟨q, (Q_mem (by omega) q).2 ⟨(hsum v q hq0).1 (by rw [hy]; exact hle), hq0⟩, hy⟩⟩
    · rintro ⟨v, hv, hy⟩
      obtain ⟨q, hq, rfl⟩ := List.mem_map.1 hy
      obtain ⟨q1, q2⟩ := (Q_mem (by omega) q).1 hq
      refine ⟨ptY_len .., fun r hr => ?_, (hsum v q q2).2 q1⟩
      rw [h.fY v q hr]
      have := (h.rho_bd v r).1
      have : 0 ≤ D * q3 q r := Int.mul_nonneg (by omega) (by unfold q3; split <;> (try split) <;> (try split) <;> omega)
      omega
/-- what is counted inside -/
theorem Simp.inner (h : Simp n M D f) {H : List (List Int)} (hH : HX n H) (hi : ∀ z, InL H z ↔ InL M z) {t : Int} (ht : t ≤ 2) {L : List (List Int)} (hL : L.Nodup)
    (hm : ∀ y, y ∈ L ↔ y.length = n ∧ (∀ r, r < n → 0 < f (fnL y) r) ∧ f (fnL y) 0 + f (fnL y) 1 + f (fnL y) 2 < t * D) :
    L.length = ((ldK H n).map fun v => (Q n (t + hgt f D v - (n + 1))).length).sum := by
  have hn3 : n ≤ 3 := by have := h.n2; omega
  have hp := h.pos
  have hlen : ∀ v ∈ ldK H n, v.length = n := fun v hv => ((ldK_mem H n v).1 hv).1
  have hhg : ∀ v, hgt f D v ≤ n := fun v => by obtain ⟨s, -, -, -, hh⟩ := h.hgt_eq v; exact hh
  have hsum : ∀ v q, (2 < n ∨ q.2.2 = 0) → (f (fnL (ptZ n M D f v q)) 0 + f (fnL (ptZ n M D f v q)) 1 + f (fnL (ptZ n M D f v q)) 2 < t * D ↔ (q.1 + q.2.1 + q.2.2 : Int) ≤ t + hgt f D v - (n + 1)) := fun v q hq => by
    obtain ⟨s, s0, s1, s2, -⟩ := h.hgt_eq v
    have e2 : f (fnL (ptZ n M D f v q)) 2 = D * (q3 q 2 + ((n : Int) - 2)) - rho f D v 2 := by
      by_cases h2 : 2 < n
      · have e : n = 3 := by omega
        rw [h.fZ v q h2, e]; rfl
      · rw [h.out _ _ (by omega)]
        unfold rho q3; rw [h.out _ _ (by omega)]
        have : q.2.2 = 0 := by omega
        have e : n = 2 := by have := h.n2; omega
        simp [this, e]
    rw [h.fZ v q (by have := h.n2; omega), h.fZ v q (by have := h.n2; omega), e2]
    have k0 : q3 q 0 = q.1 := rfl
    have k1 : q3 q 1 = q.2.1 := rfl
    have k2 : q3 q 2 = q.2.2 := rfl
    rw [k0, k1, k2]
    generalize hgt f D v = g at *
    have e3 : t * D = D * t := Int.mul_comm _ _
    have e4 : D * ((q.1 : Int) + q.2.1 + q.2.2 + n - g - t) = D * (q.1 : Int) + D * (q.2.1 : Int) + D * (q.2.2 : Int) + D * (n : Int) - D * (g : Int) - D * t := by rw [Int.mul_sub, Int.mul_sub, Int.mul_add, Int.mul_add, Int.mul_add]
    have e5 : D * ((q.1 : Int) + 1) = D * (q.1 : Int) + D := by rw [Int.mul_add, Int.mul_one]
    have e6 : D * ((q.2.1 : Int) + 1) = D * (q.2.1 : Int) + D := by rw [Int.mul_add, Int.mul_one]
    have e7 : D * ((q.2.2 : Int) + ((n : Int) - 2)) = D * (q.2.2 : Int) + D * (n : Int) - 2 * D := by rw [Int.mul_add, Int.mul_sub]; omega
    rw [e5, e6, e7]
    constructor
    · intro hle
      rcases Int.lt_or_le (-1) ((q.1 : Int) + q.2.1 + q.2.2 + n - g - t) with g1 | g1
      · have : D * 0 ≤ D * ((q.1 : Int) + q.2.1 + q.2.2 + n - g - t) := Int.mul_le_mul_of_nonneg_left (by omega) (by omega)
        omega
      · omega
    · intro hle
      have : D * ((q.1 : Int) + q.2.1 + q.2.2 + n - g - t) ≤ D * (-1) := Int.mul_le_mul_of_nonneg_left (by omega) (by omega)
      omega
  have hfl : ((ldK H n).map fun v => (Q n (t + hgt f D v - (n + 1))).length).sum = ((ldK H n).flatMap fun v => (Q n (t + hgt f D v - (n + 1))).map (ptZ n M D f v)).length := by rw [List.length_flatMap]; simp
  rw [hfl]
  refine nodup_len hL (nodup_flat (ldK_nodup H n) (fun v hv => nodup_map_of (Q_nodup _ _) fun x hx y hy e => ?_) fun v hv u hu x hxv hxu => ?_) fun y => ?_
  · have e0 := h.fZ v x (r := 0) (by have := h.n2; omega)
    have e1 := h.fZ v x (r := 1) (by have := h.n2; omega)
    have e0' := h.fZ v y (r := 0) (by have := h.n2; omega)
    have e1' := h.fZ v y (r := 1) (by have := h.n2; omega)
    rw [e] at e0 e1
    have k0 : D * (q3 x 0 + 1) = D * (q3 y 0 + 1) := by omega
    have k1 : D * (q3 x 1 + 1) = D * (q3 y 1 + 1) := by omega
    have k0 := Int.eq_of_mul_eq_mul_left (by omega) k0
    have k1 := Int.eq_of_mul_eq_mul_left (by omega) k1
    have hm3 : t + (hgt f D v : Int) - (n + 1) ≤ 3 := by have := hhg v; omega
    have k2 : x.2.2 = y.2.2 := by
      by_cases h2 : 2 < n
      · have e2 := h.fZ v x h2
        have e2' := h.fZ v y h2
        rw [e] at e2
        have k2 : D * (q3 x 2 + 1) = D * (q3 y 2 + 1) := by omega
        have k2 := Int.eq_of_mul_eq_mul_left (by omega) k2
        simp [q3] at k2; omega
      · have a := ((Q_mem hm3 x).1 hx).2
        have b := ((Q_mem hm3 y).1 hy).2
        omega
    simp [q3] at k0 k1
    exact Prod.ext (by omega) (Prod.ext (by omega) k2)
  · obtain ⟨q, -, rfl⟩ := List.mem_map.1 hxv
    obtain ⟨q', -, e⟩ := List.mem_map.1 hxu
    refine ld_unique hH hn3 hv hu ((hi _).2 ?_)
    have c1 := h.clZ v (hlen v hv) q
    have c2 := h.clZ u (hlen u hu) q'
    rw [e] at c2
    exact (c1.add (c2.smul (-1))).congr fun j => by omega
  · rw [hm, List.mem_flatMap]
    constructor
    · rintro ⟨hyl, hpos, hle⟩
      obtain ⟨v, hv, hcl⟩ := leader_ex hH hn3 (fun j => -fnL y j) (fun j hj => by show -y.getD j 0 = 0; rw [List.getD_eq_getElem?_getD, List.getElem?_eq_none (by omega)]; rfl)
      have hvl := hlen v hv
      have hmod : ∀ r, rho f D v r = (-f (fnL y) r) % D := fun r => by
        obtain ⟨k, hk⟩ := h.lat ((hi _).1 hcl) r
        have e : f (fun j => -fnL y j - v.getD j 0) r = -f (fnL y) r - f (fnL v) r := by
          rw [h.cg _ (fun j => (-1) * fnL y j + (-1) * fnL v j) (fun j _ => by show _ - _ = _; dsimp only [fnL]; omega) r, h.add, h.mul, h.mul]; omega
        rw [e] at hk
        unfold rho
        rw [show -f (fnL y) r = f (fnL v) r + D * k by omega, Int.add_mul_emod_self_left]
      obtain ⟨q, hq⟩ : ∃ q : Nat × Nat × Nat, q = ((-(-f (fnL y) 0 / D) - 1).toNat, (-(-f (fnL y) 1 / D) - 1).toNat, (-(-f (fnL y) 2 / D) - 1).toNat) := ⟨_, rfl⟩
      have hq3 : ∀ r, r < n → q3 q r = -(-f (fnL y) r / D) - 1 := fun r hr => by
        have h1 : -f (fnL y) r / D < 0 := Int.ediv_neg_of_neg_of_pos (by have := hpos r hr; omega) hp
        have := h.n2
        rw [hq]
        rcases (show r = 0 ∨ r = 1 ∨ r = 2 by omega) with rfl | rfl | rfl <;> simp [q3] <;> omega
      have hq0 : 2 < n ∨ q.2.2 = 0 := by
        by_cases h2 : 2 < n
        · exact .inl h2
        · right
          rw [hq]
          simp only [h.out _ 2 (show n ≤ 2 by omega)]; simp
      have hy : ptZ n M D f v q = y := h.same (ptZ_len ..) hyl fun r hr => by
        rw [h.fZ v q hr, hmod, hq3 r hr]
        have e := Int.mul_ediv_add_emod (-f (fnL y) r) D
        rw [Int.sub_add_cancel, Int.mul_neg]; omega
      have hm3 : t + (hgt f D v : Int) - (n + 1) ≤ 3 := by have := hhg v; omega
      refine ⟨v, hv, List.mem_map.2 ⟨q, (Q_mem hm3 q).2 ⟨(hsum v q hq0).1 (by rw [hy]; exact hle), hq0⟩, hy⟩⟩
    · rintro ⟨v, hv, hy⟩
      obtain ⟨q, hq, rfl⟩ := List.mem_map.1 hy
      have hm3 : t + (hgt f D v : Int) - (n + 1) ≤ 3 := by have := hhg v; omega
      obtain ⟨q1, q2⟩ := (Q_mem hm3 q).1 hq
      refine ⟨ptZ_len .., fun r hr => ?_, (hsum v q q2).2 q1⟩
      rw [h.fZ v q hr]
      have := (h.rho_bd v r).2
      have h0 : 0 ≤ D * q3 q r := Int.mul_nonneg (by omega) (by unfold q3; split <;> (try split) <;> (try split) <;> omega)
      rw [Int.mul_add]; omega
/-- there is one leader of height nought -/
theorem Simp.one (h : Simp n M D f) {H : List (List Int)} (hH : HX n H) (hi : ∀ z, InL H z ↔ InL M z) : (ldK H n).countP (fun v => hgt f D v == 0) = 1 := by
  have hn3 : n ≤ 3 := by have := h.n2; omega
  have hp := h.pos
  have hz : List.replicate n (0 : Int) ∈ ldK H n := (ldK_mem H n _).2 ⟨by simp, fun c hc => by
    rw [List.getD_eq_getElem?_getD, List.getElem?_replicate, if_pos hc]
    have := hH.pos c hc
    exact ⟨Int.le_refl _, this⟩⟩
  have hg0 : ∀ j, (List.replicate n (0 : Int)).getD j 0 = 0 := fun j => by
    rw [List.getD_eq_getElem?_getD, List.getElem?_replicate]; split <;> rfl
  refine count_one (ldK_nodup H n) hz ?_ fun v hv hh => ?_
  · have e : ∀ r, rho f D (List.replicate n 0) r = 0 := fun r => by
      unfold rho
      rw [h.cg _ (fun j => 0 * fnL [] j) (fun j _ => by show (List.replicate n (0 : Int)).getD j 0 = _; rw [hg0]; omega) r, h.mul]; simp
    unfold hgt
    rw [e, e, e]; simp
  · have hh : hgt f D v = 0 := by simpa using hh
    obtain ⟨s, s0, s1, s2, -⟩ := h.hgt_eq v
    rw [hh] at s2
    have r0 := (h.rho_bd v 0).1
    have r1 := (h.rho_bd v 1).1
    have r2 := (h.rho_bd v 2).1
    simp at s2
    have hin : InL M (fnL v) := h.inl (fun r hr => by
      show rho f D v r = 0
      rcases (show r = 0 ∨ r = 1 ∨ r = 2 by omega) with rfl | rfl | rfl <;> omega) fun j hj => by
        show v.getD j 0 = 0
        rw [List.getD_eq_getElem?_getD, List.getElem?_eq_none (by rw [((ldK_mem H n v).1 hv).1]; omega)]; rfl
    exact ld_unique hH hn3 hv hz ((hi _).2 (hin.congr fun j => by rw [hg0]; show fnL v j = v.getD j 0 - 0; dsimp only [fnL]; omega))
end Go.Proofs.YtehhoplenloocaaGreat
