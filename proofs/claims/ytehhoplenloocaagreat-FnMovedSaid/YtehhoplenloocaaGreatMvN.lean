/- Normal forms of polygons are kept by moves: plain law. -/
import Derived.Test.YtehhoplenloocaaGreatRel
import Derived.Test.YtehhoplenloocaaGreatNrmX
namespace Go.Proofs.YtehhoplenloocaaGreat
set_option linter.unusedVariables false
set_option linter.unusedSimpArgs false

/-! ### the order of lists of rows -/
theorem ltLL_trans : ∀ {a b c : List (List Int)}, ltLL a b = true → ltLL b c = true → ltLL a c = true
  | [], [], _, h, _ => by simp [ltLL] at h
  | _ :: _, [], _, h, _ => by simp [ltLL] at h
  | [], _ :: _, [], _, h => by simp [ltLL] at h
  | _ :: _, _ :: _, [], _, h => by simp [ltLL] at h
  | [], _ :: _, _ :: _, _, _ => by simp [ltLL]
  | x :: a, y :: b, z :: c, h, k => by
    rw [ltLL] at h k ⊢
    by_cases e1 : x = y
    · subst e1
      rw [if_pos rfl] at h
      by_cases e2 : x = z
      · subst e2
        rw [if_pos rfl] at k ⊢
        exact ltLL_trans h k
      · rw [if_neg e2] at k ⊢; exact k
    · rw [if_neg e1] at h
      by_cases e2 : y = z
      · subst e2
        rw [if_neg e1]; exact h
      · rw [if_neg e2] at k
        have t := ltB_trans h k
        have e3 : x ≠ z := fun e => by subst e; rw [ltB_self] at t; cases t
        rw [if_neg e3]; exact t
theorem ltLL_total : ∀ {a b : List (List Int)}, (∀ r ∈ a, r.length = 2) → (∀ r ∈ b, r.length = 2) → ltLL a b = false → ltLL b a = false → a = b
  | [], [], _, _, _, _ => rfl
  | [], _ :: _, _, _, h, _ => by simp [ltLL] at h
  | _ :: _, [], _, _, _, h => by simp [ltLL] at h
  | x :: a, y :: b, p, q, h, k => by
    rw [ltLL] at h k
    by_cases e : x = y
    · subst e
      rw [if_pos rfl] at h k
      rw [ltLL_total (fun r hr => p r (by simp [hr])) (fun r hr => q r (by simp [hr])) h k]
    · rw [if_neg e] at h
      rw [if_neg (fun c => e c.symm)] at k
      exact absurd (ltB_total (by rw [p x (by simp), q y (by simp)]) h k) e
/-- the best candidate is one of them, and none is less -/
theorem bsK_least {ls : List (List Int)} : ∀ {m : Nat}, okK ls (m + 1) = true → (∃ j, j < m + 1 ∧ bsK ls (m + 1) = (cdV ls j).1) ∧ ∀ j, j < m + 1 → ltLL (cdV ls j).1 (bsK ls (m + 1)) = false
  | 0, h => by
    have e : bsK ls 1 = (cdV ls 0).1 := rfl
    refine ⟨⟨0, by omega, e⟩, fun j hj => ?_⟩
    obtain rfl : j = 0 := by omega
    rw [e]
    cases hh : ltLL (cdV ls 0).1 (cdV ls 0).1
    · rfl
    · exact absurd hh (by
        have : ∀ l : List (List Int), ltLL l l = false := fun l => by
          induction l with
          | nil => rfl
          | cons x l ih => rw [ltLL, if_pos rfl]; exact ih
        rw [this]; simp)
  | m + 1, h => by
    have h' := h
    unfold okK at h'
    rw [Bool.and_eq_true] at h'
    obtain ⟨⟨j, hj, ej⟩, il⟩ := bsK_least h'.1
    have hne : bsK ls (m + 1) ≠ [] := fun e => by
      have := (bsK_ok h'.1).1 (by omega)
      rw [e] at this; simp at this
    have es : bsK ls (m + 1 + 1) = if ltLL (cdV ls (m + 1)).1 (bsK ls (m + 1)) = true then (cdV ls (m + 1)).1 else bsK ls (m + 1) := by
      rw [bsK]; unfold updL; rw [if_neg hne]
    rw [es]
    have self : ∀ l : List (List Int), ltLL l l = false := fun l => by
      induction l with
      | nil => rfl
      | cons x l ih => rw [ltLL, if_pos rfl]; exact ih
    split
    · rename_i hl
      refine ⟨⟨m + 1, by omega, rfl⟩, fun i hi => ?_⟩
      by_cases e : i = m + 1
      · rw [e]; exact self _
      · cases hh : ltLL (cdV ls i).1 (cdV ls (m + 1)).1
        · rfl
        · have := ltLL_trans hh hl
          rw [il i (by omega)] at this; cases this
    · rename_i hl
      refine ⟨⟨j, by omega, ej⟩, fun i hi => ?_⟩
      by_cases e : i = m + 1
      · rw [e]; simpa using hl
      · exact il i (by omega)
theorem okK_all {ls : List (List Int)} : ∀ {m : Nat}, okK ls m = true ↔ ∀ j, j < m → (cdV ls j).2 = true
  | 0 => by simp [okK]
  | m + 1 => by
    rw [okK, Bool.and_eq_true, okK_all]
    constructor
    · rintro ⟨h1, h2⟩ j hj
      by_cases e : j = m
      · rw [e]; exact h2
      · exact h1 j (by omega)
    · intro h; exact ⟨fun j hj => h j (by omega), h m (by omega)⟩
/-- the candidates by corners and sides -/
theorem cd_iff {ls : List (List Int)} (c : List (List Int) × Bool) : (∃ j, j < 2 * ls.length ∧ c = cdV ls j) ↔ ∃ k, k < ls.length ∧ ∃ st : Int, (st = 1 ∨ st = -1) ∧ c = hullV (frC ls k st) := by
  constructor
  · rintro ⟨j, hj, rfl⟩; exact ⟨j / 2, by omega, stOf j, stOf_or j, rfl⟩
  · rintro ⟨k, hk, st, hs, rfl⟩
    rcases hs with rfl | rfl
    · refine ⟨2 * k, by omega, ?_⟩
      unfold cdV
      rw [show 2 * k / 2 = k by omega, show stOf (2 * k) = 1 by unfold stOf; rw [if_pos (by omega)]]
    · refine ⟨2 * k + 1, by omega, ?_⟩
      unfold cdV
      rw [show (2 * k + 1) / 2 = k by omega, show stOf (2 * k + 1) = -1 by unfold stOf; rw [if_neg (by omega)]]

/-! ### frames and moves -/
theorem nrm_aff (T : Aff) (hd : T.det = 1 ∨ T.det = -1) (u w a c x : Pt) (st : Int) : nrmP (T.lin u) (T.det * (T.lin w).1, T.det * (T.lin w).2) st (T.f a) (T.f c) (T.f x) = nrmP u w (T.det * st) a c x := by
  have dd : T.det * T.det = 1 := by rcases hd with e | e <;> rw [e] <;> rfl
  have k : ∀ v : Pt, crossP (T.lin v) (T.det * (T.lin w).1, T.det * (T.lin w).2) = crossP v w := fun v => by
    have e : crossP (T.lin v) (T.det * (T.lin w).1, T.det * (T.lin w).2) = T.det * crossP (T.lin v) (T.lin w) := by unfold crossP; dsimp only; grind
    rw [e, T.cross, ← Int.mul_assoc, dd, Int.one_mul]
  have k2 : ∀ v : Pt, st * crossP (T.lin u) (T.lin v) = T.det * st * crossP u v := fun v => by rw [T.cross]; grind
  unfold nrmP
  rw [T.sub, T.sub, k, k, k2, k2]
theorem prim_aff {T : Aff} (hd : T.det = 1 ∨ T.det = -1) {v v' : List Int} (h : v.length = 2) (h' : v'.length = 2) (h0 : 1 ≤ gcdL v) (e : ptOf v' = T.lin (ptOf v)) : ptOf (primQ v') = T.lin (ptOf (primQ v)) := by
  have hg : ∀ {v : List Int}, v.length = 2 → gcdL v = (Int.gcd (ptOf v).1 (ptOf v).2 : Int) := fun {v} h => by
    rw [two_form h, gcdL_pair]; rfl
  have eg : gcdL v' = gcdL v := by
    rw [hg h, hg h', e, T.gcd hd]
  have nz : ∀ {v : List Int}, v.length = 2 → 1 ≤ gcdL v → ¬ (v.getD 0 0 = 0 ∧ v.getD 1 0 = 0) := fun {v} h h0 c => by
    rw [hg h] at h0
    have : (ptOf v) = (0, 0) := Prod.ext c.1 c.2
    rw [this] at h0
    simp at h0
  obtain ⟨-, a1, a2, -⟩ := prim_two h (nz h h0)
  obtain ⟨-, b1, b2, -⟩ := prim_two h' (nz h' (by omega))
  rw [eg] at b1 b2
  have e1 : (ptOf v').1 = (T.lin (ptOf v)).1 := by rw [e]
  have e2 : (ptOf v').2 = (T.lin (ptOf v)).2 := by rw [e]
  have e1 : v'.getD 0 0 = T.A * v.getD 0 0 + T.B * v.getD 1 0 := e1
  have e2 : v'.getD 1 0 = T.C * v.getD 0 0 + T.E * v.getD 1 0 := e2
  have c1 : gcdL v * (primQ v').getD 0 0 = gcdL v * (T.A * (primQ v).getD 0 0 + T.B * (primQ v).getD 1 0) := by
    rw [← b1, e1]
    have : T.A * v.getD 0 0 + T.B * v.getD 1 0 = T.A * (gcdL v * (primQ v).getD 0 0) + T.B * (gcdL v * (primQ v).getD 1 0) := by rw [← a1, ← a2]
    rw [this]; grind
  have c2 : gcdL v * (primQ v').getD 1 0 = gcdL v * (T.C * (primQ v).getD 0 0 + T.E * (primQ v).getD 1 0) := by
    rw [← b2, e2]
    have : T.C * v.getD 0 0 + T.E * v.getD 1 0 = T.C * (gcdL v * (primQ v).getD 0 0) + T.E * (gcdL v * (primQ v).getD 1 0) := by rw [← a1, ← a2]
    rw [this]; grind
  exact Prod.ext (Int.eq_of_mul_eq_mul_left (by omega) c1) (Int.eq_of_mul_eq_mul_left (by omega) c2)
theorem frC_mem {p : List (List Int)} {k : Nat} {st : Int} (z : List Int) : z ∈ frC p k st ↔ ∃ y, y ∈ p ∧ z = rowP (nrmP (ptOf (cU p k st)) (ptnP (ptOf (cU p k st))) st (pf p k) (pf p (nbI p.length k (-st))) (ptOf y)) := by
  unfold frC frL
  rw [List.mem_map]
  constructor
  · rintro ⟨y, hy, rfl⟩; exact ⟨y, hy, rfl⟩
  · rintro ⟨y, hy, rfl⟩; exact ⟨y, hy, rfl⟩
theorem rel_cU {p q : List (List Int)} {T : Aff} {r : Nat} (h : Rel p q T r) (hp : isPolyB p = true) (hq : isPolyB q = true) {k : Nat} (hk : k < p.length) {st : Int} (hs : st = 1 ∨ st = -1) : ptOf (cU q k st) = T.lin (ptOf (cU p (sgR p.length r T.det k) (T.det * st))) := by
  have hl := sgR_lt (d := T.det) h.lt hk
  have hds : T.det * st = 1 ∨ T.det * st = -1 := by rcases h.det with d | d <;> rcases hs with e | e <;> rw [d, e] <;> simp
  have h3 := (isPoly_parts hp).1
  obtain ⟨g1, -, -, -⟩ := cU_facts hp hl hds
  unfold cU
  refine prim_aff h.det rfl rfl g1 ?_
  show subP (pf q (nbI q.length k st)) (pf q k) = T.lin (subP (pf p (nbI p.length (sgR p.length r T.det k) (T.det * st))) (pf p (sgR p.length r T.det k)))
  rw [h.len, h.pt hk, h.pt (nb_lt hk st), T.sub, sgR_nb (by omega) h.det h.lt hk hs]
theorem rel_frame {p q : List (List Int)} {T : Aff} {r : Nat} (h : Rel p q T r) (hp : isPolyB p = true) (hq : isPolyB q = true) {k : Nat} (hk : k < p.length) {st : Int} (hs : st = 1 ∨ st = -1) : hullV (frC q k st) = hullV (frC p (sgR p.length r T.det k) (T.det * st)) := by
  have hl := sgR_lt (d := T.det) h.lt hk
  have hds : T.det * st = 1 ∨ T.det * st = -1 := by rcases h.det with d | d <;> rcases hs with e | e <;> rw [d, e] <;> simp
  obtain ⟨h3, h12, -⟩ := isPoly_parts hp
  have hkq : k < q.length := by rw [h.len]; exact hk
  obtain ⟨-, gp, -, -⟩ := cU_facts hp hl hds
  obtain ⟨-, gq, tq, -⟩ := cU_facts hq hkq hs
  have key : ∀ y : List Int, nrmP (ptOf (cU q k st)) (ptnP (ptOf (cU q k st))) st (pf q k) (pf q (nbI q.length k (-st))) (T.f (ptOf y)) = nrmP (ptOf (cU p (sgR p.length r T.det k) (T.det * st))) (ptnP (ptOf (cU p (sgR p.length r T.det k) (T.det * st)))) (T.det * st) (pf p (sgR p.length r T.det k)) (pf p (nbI p.length (sgR p.length r T.det k) (-(T.det * st)))) (ptOf y) := fun y => by
    have hu := rel_cU h hp hq hk hs
    have tq : 0 < st * crossP (ptOf (cU q k st)) (subP (pf q (nbI q.length k (-st))) (pf q k)) := tq
    have o1 : crossP (ptOf (cU q k st)) (ptnP (ptOf (cU q k st))) = 1 := ptnP_one gq
    have o2 : crossP (ptOf (cU p (sgR p.length r T.det k) (T.det * st))) (ptnP (ptOf (cU p (sgR p.length r T.det k) (T.det * st)))) = 1 := ptnP_one gp
    rw [← nrm_aff T h.det]
    rw [hu] at tq o1 ⊢
    have e1 : T.f (pf p (sgR p.length r T.det k)) = pf q k := (h.pt hk).symm
    have e2 : T.f (pf p (nbI p.length (sgR p.length r T.det k) (-(T.det * st)))) = pf q (nbI q.length k (-st)) := by
      rw [h.len, h.pt (nb_lt hk (-st)), sgR_nb (by omega) h.det h.lt hk (st := -st) (by omega), Int.mul_neg]
    rw [e1, e2]
    refine nrmP_indep o1 ?_ hs _ _ _ tq
    have dd : T.det * T.det = 1 := by rcases h.det with e | e <;> rw [e] <;> rfl
    have e : ∀ u w : Pt, crossP (T.lin u) (T.det * (T.lin w).1, T.det * (T.lin w).2) = T.det * crossP (T.lin u) (T.lin w) := fun u w => by unfold crossP; dsimp only; grind
    rw [e, T.cross, ← Int.mul_assoc, dd, Int.one_mul, o2]
  refine hullV_mem (fun z => ?_) ?_ ?_
  · rw [frC_mem, frC_mem]
    constructor
    · rintro ⟨x, hx, rfl⟩
      obtain ⟨y, hy, rfl⟩ := (h.mem x).1 hx
      exact ⟨y, hy, by rw [ptOf_rowP, key]⟩
    · rintro ⟨y, hy, rfl⟩
      exact ⟨_, (h.mem _).2 ⟨y, hy, rfl⟩, by rw [ptOf_rowP, key]⟩
  · unfold frC frL; rw [List.length_map, h.len]; omega
  · unfold frC frL; rw [List.length_map]; omega
/-- the normal form is kept -/
theorem rel_norm {p q : List (List Int)} {T : Aff} {r : Nat} (h : Rel p q T r) (hp : isPolyB p = true) (hq : isPolyB q = true) : nrV q = nrV p := by
  obtain ⟨h3, h12, -⟩ := isPoly_parts hp
  have hc : ∀ c, (∃ j, j < 2 * q.length ∧ c = cdV q j) ↔ ∃ j, j < 2 * p.length ∧ c = cdV p j := fun c => by
    rw [cd_iff, cd_iff]
    constructor
    · rintro ⟨k, hk, st, hs, rfl⟩
      rw [h.len] at hk
      have hds : T.det * st = 1 ∨ T.det * st = -1 := by rcases h.det with d | d <;> rcases hs with e | e <;> rw [d, e] <;> simp
      exact ⟨_, sgR_lt h.lt hk, _, hds, rel_frame h hp hq hk hs⟩
    · rintro ⟨j, hj, st, hs, rfl⟩
      obtain ⟨k, hk, e⟩ := sgR_onto h.det h.lt hj
      have hds : T.det * st = 1 ∨ T.det * st = -1 := by rcases h.det with d | d <;> rcases hs with e | e <;> rw [d, e] <;> simp
      refine ⟨k, by rw [h.len]; exact hk, T.det * st, hds, ?_⟩
      have dd : T.det * (T.det * st) = st := by rw [← Int.mul_assoc]; rcases h.det with e | e <;> rw [e] <;> simp
      rw [rel_frame h hp hq hk hds, e, dd]
  have hok : okK q (2 * q.length) = okK p (2 * p.length) := by
    rw [Bool.eq_iff_iff, okK_all, okK_all]
    constructor
    · intro H j hj
      obtain ⟨i, hi, e⟩ := (hc _).2 ⟨j, hj, rfl⟩
      rw [e]; exact H i hi
    · intro H j hj
      obtain ⟨i, hi, e⟩ := (hc _).1 ⟨j, hj, rfl⟩
      rw [e]; exact H i hi
  unfold nrV
  rw [hp, hq, hok]
  cases ho : okK p (2 * p.length)
  · rfl
  have hoq := hok.trans ho
  obtain ⟨m, hm⟩ : ∃ m, 2 * p.length = m + 1 := ⟨2 * p.length - 1, by omega⟩
  have hmq : 2 * q.length = m + 1 := by rw [h.len]; exact hm
  rw [hm] at ho
  rw [hmq] at hoq
  have hc' : ∀ c, (∃ j, j < m + 1 ∧ c = cdV q j) ↔ ∃ j, j < m + 1 ∧ c = cdV p j := by
    rw [← hm]
    intro c
    rw [← hc, h.len]
  obtain ⟨⟨i, hi, ei⟩, ip⟩ := bsK_least ho
  obtain ⟨⟨j, hj, ej⟩, iq⟩ := bsK_least hoq
  have l1 := (bsK_ok ho).2
  have l2 := (bsK_ok hoq).2
  have : bsK q (m + 1) = bsK p (m + 1) := by
    refine ltLL_total l2 l1 ?_ ?_
    · obtain ⟨t, ht, et⟩ := (hc' _).1 ⟨j, hj, rfl⟩
      have := ip t ht
      rw [← et, ← ej] at this; exact this
    · obtain ⟨t, ht, et⟩ := (hc' _).2 ⟨i, hi, rfl⟩
      have := iq t ht
      rw [← et, ← ei] at this; exact this
  rw [hm, hmq, this]
end Go.Proofs.YtehhoplenloocaaGreat
