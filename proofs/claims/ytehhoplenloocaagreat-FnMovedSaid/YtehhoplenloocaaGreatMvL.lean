/- The statement on moved polygons: plain law. -/
import Derived.Test.YtehhoplenloocaaGreatMvN
import Derived.Test.YtehhoplenloocaaGreatIMv
namespace Go.Proofs.YtehhoplenloocaaGreat
set_option linter.unusedVariables false
set_option linter.unusedSimpArgs false

/-! ### the given move -/
theorem inv_two (a b c e : Int) : invM [[a, b], [c, e]] = [[e * detM [[a, b], [c, e]], -b * detM [[a, b], [c, e]]], [-c * detM [[a, b], [c, e]], a * detM [[a, b], [c, e]]]] := by
  have h : ∀ i j, minorL [[a, b], [c, e]] i j = minorK [[a, b], [c, e]] i j 2 := fun _ _ => rfl
  have k : ∀ x : Int, detF 1 [[x]] = x := fun x => by simp [detF, detSum, sgnN]
  unfold invM invRow
  simp only [List.length_cons, List.length_nil, Nat.zero_add, show List.range 2 = [0, 1] from rfl, List.map_cons, List.map_nil]
  have e00 : adjE 2 [[a, b], [c, e]] 0 0 = e := by
    unfold adjE; rw [if_neg (by decide), h]
    show detF 1 (minorK [[a, b], [c, e]] 0 0 2) = e
    rw [show minorK [[a, b], [c, e]] 0 0 2 = [[e]] from rfl, k]
  have e01 : adjE 2 [[a, b], [c, e]] 0 1 = -b := by
    unfold adjE; rw [if_pos (by decide), h]
    show -detF 1 (minorK [[a, b], [c, e]] 1 0 2) = -b
    rw [show minorK [[a, b], [c, e]] 1 0 2 = [[b]] from rfl, k]
  have e10 : adjE 2 [[a, b], [c, e]] 1 0 = -c := by
    unfold adjE; rw [if_pos (by decide), h]
    show -detF 1 (minorK [[a, b], [c, e]] 0 1 2) = -c
    rw [show minorK [[a, b], [c, e]] 0 1 2 = [[c]] from rfl, k]
  have e11 : adjE 2 [[a, b], [c, e]] 1 1 = a := by
    unfold adjE; rw [if_neg (by decide), h]
    show detF 1 (minorK [[a, b], [c, e]] 1 1 2) = a
    rw [show minorK [[a, b], [c, e]] 1 1 2 = [[a]] from rfl, k]
  rw [e00, e01, e10, e11]
theorem mv_aff {U : List (List Int)} {V : List Int} (h : moveB U V = true) : ∃ T : Aff, (T.det = 1 ∨ T.det = -1) ∧ (∀ r : List Int, r.length = 2 → mvP U V r = rowP (T.f (ptOf r))) ∧ (∀ r : List Int, r.length = 2 → mvP (invM U) (ngV (invM U) V) (mvP U V r) = r) := by
  obtain ⟨l1, l2, l3, -⟩ := moveB_mv h
  have hu : uniB U = true := by
    unfold moveB at h
    simp only [Bool.and_eq_true] at h
    exact h.2.1
  obtain ⟨hm, hd⟩ := uniB_mat hu
  have r0 := (l2 0 (by omega)).1
  have r1 := (l2 1 (by omega)).1
  have hs := matB_sq hm
  match U, V, l1, l3, r0, r1 with
  | [[a, b], [c, e]], [x, y], _, _, _, _ =>
    have ed : detM [[a, b], [c, e]] = a * e - b * c := detF_two hs
    rw [ed] at hd
    have f : ∀ p q r0 r1 : Int, dotI [p, q] [r0, r1] = p * r0 + q * r1 := fun p q r0 r1 => dotI_two rfl rfl
    refine ⟨⟨a, b, c, e, x, y⟩, hd, fun r hr => ?_, fun r hr => ?_⟩
    · match r, hr with
      | [s, t], _ =>
        show [dotI [a, b] [s, t] + x, dotI [c, e] [s, t] + y] = [a * s + b * t + x, c * s + e * t + y]
        rw [f, f]
    · match r, hr with
      | [s, t], _ =>
        rw [inv_two, ed]
        have dd : (a * e - b * c) * (a * e - b * c) = 1 := by rcases hd with g | g <;> rw [g] <;> rfl
        generalize hD : a * e - b * c = D at *
        show [dotI [e * D, -b * D] [dotI [a, b] [s, t] + x, dotI [c, e] [s, t] + y] + -dotI [e * D, -b * D] [x, y], dotI [-c * D, a * D] [dotI [a, b] [s, t] + x, dotI [c, e] [s, t] + y] + -dotI [-c * D, a * D] [x, y]] = [s, t]
        rw [f, f, f, f, f, f]
        have g1 : e * D * (a * s + b * t + x) + -b * D * (c * s + e * t + y) + -(e * D * x + -b * D * y) = (a * e - b * c) * D * s := by grind
        have g2 : -c * D * (a * s + b * t + x) + a * D * (c * s + e * t + y) + -(-c * D * x + a * D * y) = (a * e - b * c) * D * t := by grind
        rw [g1, g2, hD, dd, Int.one_mul, Int.one_mul]
theorem poly_row {p : List (List Int)} (hp : isPolyB p = true) {x : List Int} (hx : x ∈ p) : x.length = 2 := by
  obtain ⟨-, -, hf⟩ := isPoly_parts hp
  exact (ptB_len (flatB_all.1 hf x hx)).1
theorem moved_law {U : List (List Int)} {V : List Int} {p : List (List Int)} (hok : (mvV U V p).2 = true) :
    arV (mvV U V p).1 = arV p ∧ bdV (mvV U V p).1 = bdV p ∧ inV (mvV U V p).1 = inV p ∧ ((imvV U V).2 = true → mvV (imvV U V).1.1 (imvV U V).1.2 (mvV U V p).1 = (p, true)) ∧ nrV (mvV U V p).1 = nrV p := by
  obtain ⟨h1, h2⟩ : moveB U V = true ∧ isPolyB p = true := by
    unfold mvV at hok
    split at hok
    · rename_i h; rw [Bool.and_eq_true] at h; exact h
    · cases hok
  rw [mvV_yes h1 h2] at hok ⊢
  obtain ⟨T, hd, hT, hI⟩ := mv_aff h1
  have hmap : p.map (mvP U V) = p.map fun x => rowP (T.f (ptOf x)) := List.map_congr_left fun x hx => hT x (poly_row h2 hx)
  obtain ⟨hq, r, hR⟩ := rel_map h2 hd hmap hok
  generalize (hullV (p.map (mvP U V))).1 = q at *
  obtain ⟨h3, h12, hf⟩ := isPoly_parts h2
  obtain ⟨-, q12, hfq⟩ := isPoly_parts hq
  have ea := hR.area h3
  have eb := hR.bound h3 hf hfq
  refine ⟨?_, ?_, ?_, fun hi => ?_, rel_norm hR h2 hq⟩
  · unfold arV; rw [if_pos h2, if_pos hq, ea]
  · unfold bdV; rw [if_pos h2, if_pos hq, eb]
  · unfold inV; rw [if_pos h2, if_pos hq, ea, eb]
  · have hio : imvOk U V = true := by
      cases h : imvOk U V
      · rw [imvV_no h] at hi; cases hi
      · rfl
    rw [imvV_yes hio]
    have hm : moveB (invM U) (ngV (invM U) V) = true := by
      unfold imvOk at hio
      simp only [Bool.and_eq_true] at hio
      exact hio.2.2
    show mvV (invM U) (ngV (invM U) V) q = (p, true)
    rw [mvV_yes hm hq, hullV_mem (l' := p) (fun z => ?_) (by rw [List.length_map]; omega) (by omega), hullV_self h2]
    rw [List.mem_map]
    constructor
    · rintro ⟨x, hx, rfl⟩
      obtain ⟨y, hy, rfl⟩ := (hR.mem x).1 hx
      rw [← hT y (poly_row h2 hy), hI y (poly_row h2 hy)]; exact hy
    · intro hz
      refine ⟨_, (hR.mem _).2 ⟨z, hz, rfl⟩, ?_⟩
      rw [← hT z (poly_row h2 hz), hI z (poly_row h2 hz)]

/-! ### the normal form is normal -/
def frT (u w : Pt) (st sh : Int) (a : Pt) : Aff :=
  ⟨w.2 + sh * st * u.2, -w.1 - sh * st * u.1, -(st * u.2), st * u.1, -((w.2 + sh * st * u.2) * a.1 + (-w.1 - sh * st * u.1) * a.2), -(-(st * u.2) * a.1 + st * u.1 * a.2)⟩
theorem frT_at (u w : Pt) (st : Int) (a c x : Pt) : nrmP u w st a c x = (frT u w st (crossP (subP c a) w / (st * crossP u (subP c a))) a).f x := by
  unfold nrmP frT Aff.f
  generalize crossP (subP c a) w / (st * crossP u (subP c a)) = sh
  apply Prod.ext
  · dsimp only; unfold crossP subP; dsimp only; grind
  · dsimp only; unfold crossP subP; dsimp only; grind
theorem frT_det {u w : Pt} (h : crossP u w = 1) (st sh : Int) (a : Pt) : (frT u w st sh a).det = st := by
  unfold frT Aff.det; dsimp only
  have : (w.2 + sh * st * u.2) * (st * u.1) - (-w.1 - sh * st * u.1) * -(st * u.2) = st * crossP u w := by unfold crossP; grind
  rw [this, h, Int.mul_one]
/-- the corners lie within the angle at each corner -/
theorem side_nn {n : Nat} {p : Nat → Pt} (h : TP n p) (h3 : 3 ≤ n) {k y : Nat} (hk : k < n) (hy : y < n) : 0 ≤ tn (p k) (p (nbI n k 1)) (p y) ∧ 0 ≤ tn (p k) (p y) (p (nbI n k (-1))) := by
  have l1 := nb_lt hk 1
  have l2 := nb_lt hk (-1)
  have e1 := nb_one (by omega) hk
  have e2 := nb_neg (by omega) hk
  generalize nbI n k 1 = i at *
  generalize nbI n k (-1) = j at *
  by_cases hyk : y = k
  · subst hyk
    have a1 : tn (p y) (p i) (p y) = 0 := by unfold tn crossP subP; dsimp only; grind
    have a2 : tn (p y) (p y) (p j) = 0 := by unfold tn crossP subP; dsimp only; grind
    omega
  constructor
  · by_cases hyi : y = i
    · subst hyi
      have a1 : tn (p k) (p y) (p y) = 0 := by unfold tn crossP subP; dsimp only; grind
      omega
    · have := tp_cyc h hk l1 hy (by split at e1 <;> omega)
      omega
  · by_cases hyj : y = j
    · subst hyj
      have a1 : tn (p k) (p y) (p y) = 0 := by unfold tn crossP subP; dsimp only; grind
      omega
    · have := tp_cyc h hk hy l2 (by split at e2 <;> omega)
      omega
theorem zero_least {z0 z1 y0 y1 : Int} (hz0 : 0 ≤ z0) (hz1 : 0 < z1) (h1 : 0 ≤ y1) (h2 : 0 ≤ y0 * z1 - y1 * z0) (hne : ¬ (y0 = 0 ∧ y1 = 0)) : ltP (0, 0) (y0, y1) := by
  have a := Int.mul_nonneg h1 hz0
  have h3 : 0 ≤ y0 := by
    rcases Int.lt_or_le y0 0 with c | c
    · have := Int.mul_neg_of_neg_of_pos c hz1; omega
    · exact c
  unfold ltP
  show 0 < y0 ∨ (0 = y0 ∧ 0 < y1)
  omega
theorem isPoly_loc' {ls : List (List Int)} (hp : isPolyB ls = true) : locB ls.length (pf ls) = true := by
  unfold isPolyB at hp; simp only [Bool.and_eq_true] at hp; exact hp.2.2
/-- all corners lie on one side of a side -/
theorem sideU {ls : List (List Int)} (hp : isPolyB ls = true) {k : Nat} (hk : k < ls.length) {st : Int} (hs : st = 1 ∨ st = -1) : ∀ y, y < ls.length → 0 ≤ st * crossP (ptOf (cU ls k st)) (subP (pf ls y) (pf ls k)) := fun y hy => by
  obtain ⟨⟨h3, h12⟩, hf, ht⟩ := poly_parts hp
  obtain ⟨s1, s2⟩ := side_nn ht h3 hk hy
  obtain ⟨hg, -, -, -⟩ := cU_facts hp hk hs
  have hnz : ¬ ((minusI (ls.getD (nbI ls.length k st) []) (ls.getD k [])).getD 0 0 = 0 ∧ (minusI (ls.getD (nbI ls.length k st) []) (ls.getD k [])).getD 1 0 = 0) := fun c => by
    rw [two_form (show (minusI (ls.getD (nbI ls.length k st) []) (ls.getD k [])).length = 2 from rfl), c.1, c.2] at hg
    exact absurd hg (by decide)
  obtain ⟨-, a1, a2, -⟩ := prim_two (v := minusI (ls.getD (nbI ls.length k st) []) (ls.getD k [])) rfl hnz
  have h0 : 0 ≤ st * tn (pf ls k) (pf ls (nbI ls.length k st)) (pf ls y) := by
    rcases hs with rfl | rfl
    · rw [Int.one_mul]; exact s1
    · rw [tn_swap2] at s2; omega
  have e : st * tn (pf ls k) (pf ls (nbI ls.length k st)) (pf ls y) = gcdL (minusI (ls.getD (nbI ls.length k st) []) (ls.getD k [])) * (st * crossP (ptOf (cU ls k st)) (subP (pf ls y) (pf ls k))) := by
    have b1 : (subP (pf ls (nbI ls.length k st)) (pf ls k)).1 = gcdL (minusI (ls.getD (nbI ls.length k st) []) (ls.getD k [])) * (ptOf (cU ls k st)).1 := a1
    have b2 : (subP (pf ls (nbI ls.length k st)) (pf ls k)).2 = gcdL (minusI (ls.getD (nbI ls.length k st) []) (ls.getD k [])) * (ptOf (cU ls k st)).2 := a2
    generalize gcdL (minusI (ls.getD (nbI ls.length k st) []) (ls.getD k [])) = g at *
    generalize ptOf (cU ls k st) = u at *
    unfold tn
    generalize subP (pf ls (nbI ls.length k st)) (pf ls k) = v at *
    unfold crossP
    rw [b1, b2]; grind
  rw [e] at h0
  generalize gcdL (minusI (ls.getD (nbI ls.length k st) []) (ls.getD k [])) = g at *
  generalize st * crossP (ptOf (cU ls k st)) (subP (pf ls y) (pf ls k)) = x at *
  rcases Int.lt_or_le x 0 with c | c
  · have := Int.mul_neg_of_pos_of_neg (show 0 < g by omega) c; omega
  · exact c
theorem norm_law {a : List (List Int)} (h : (nrV a).2 = true) : nrV (nrV a).1 = ((nrV a).1, true) ∧ 0 < (nrV a).1.length ∧ (nrV a).1.getD 0 [] = [0, 0] := by
  obtain ⟨hp, hok⟩ : isPolyB a = true ∧ okK a (2 * a.length) = true := by
    unfold nrV at h
    split at h
    · rename_i h1; rw [Bool.and_eq_true] at h1; exact h1
    · cases h
  obtain ⟨⟨h3, h12⟩, hf, ht⟩ := poly_parts hp
  have hn := nrV_yes hp hok
  obtain ⟨m, hm⟩ : ∃ m, 2 * a.length = m + 1 := ⟨2 * a.length - 1, by omega⟩
  have hok' := hok
  rw [hm] at hok'
  obtain ⟨⟨j, hj, ej⟩, -⟩ := bsK_least hok'
  have hcj := okK_all.1 hok j (by omega)
  obtain ⟨k, hk, st, hs, ec⟩ := (cd_iff (ls := a) (cdV a j)).1 ⟨j, by omega, rfl⟩
  rw [ec] at hcj
  have eb : (nrV a).1 = (hullV (frC a k st)).1 := by rw [hn, hm]; show bsK a (m + 1) = _; rw [ej, ec]
  obtain ⟨-, hg, hpos, -⟩ := cU_facts hp hk hs
  have o1 : crossP (ptOf (cU a k st)) (ptnP (ptOf (cU a k st))) = 1 := ptnP_one hg
  have hpos : 0 < st * crossP (ptOf (cU a k st)) (subP (pf a (nbI a.length k (-st))) (pf a k)) := hpos
  have hu := sideU hp hk hs
  generalize hU : ptOf (cU a k st) = u at *
  generalize hW : ptnP u = w at *
  obtain ⟨T, hT⟩ : ∃ T, T = frT u w st (crossP (subP (pf a (nbI a.length k (-st))) (pf a k)) w / (st * crossP u (subP (pf a (nbI a.length k (-st))) (pf a k)))) (pf a k) := ⟨_, rfl⟩
  have hfr : ∀ x, nrmP u w st (pf a k) (pf a (nbI a.length k (-st))) x = T.f x := fun x => by rw [hT]; exact frT_at u w st _ _ x
  have hdet : T.det = st := by rw [hT]; exact frT_det o1 _ _ _
  have hmap : frC a k st = a.map fun x => rowP (T.f (ptOf x)) := by
    unfold frC frL
    refine List.map_congr_left fun x _ => ?_
    rw [frR_P]
    show rowP (nrmP (ptOf (cU a k st)) (ptnP (ptOf (cU a k st))) st (pf a k) (pf a (nbI a.length k (-st))) (ptOf x)) = _
    rw [hU, hW, hfr]
  obtain ⟨hq, r, hR⟩ := rel_map hp (by rw [hdet]; exact hs) hmap hcj
  rw [← eb] at hq hR
  refine ⟨by rw [rel_norm hR hp hq, hn], by rw [hR.len]; omega, ?_⟩
  generalize (nrV a).1 = b at *
  have hbl := hR.len
  -- the corner k goes to the origin
  have h0 : T.f (pf a k) = (0, 0) := by
    rw [← hfr]; unfold nrmP
    have z : ∀ v : Pt, crossP (subP v v) w = 0 := fun v => by unfold crossP subP; dsimp only; grind
    have z2 : ∀ v : Pt, crossP u (subP v v) = 0 := fun v => by unfold crossP subP; dsimp only; grind
    rw [z, z2]; simp
  have hz : 0 ≤ (T.f (pf a (nbI a.length k (-st)))).1 ∧ 0 < (T.f (pf a (nbI a.length k (-st)))).2 := by
    rw [← hfr]; unfold nrmP
    refine ⟨?_, hpos⟩
    dsimp only
    generalize crossP (subP (pf a (nbI a.length k (-st))) (pf a k)) w = t0
    generalize st * crossP u (subP (pf a (nbI a.length k (-st))) (pf a k)) = t1 at *
    have e1 := Int.mul_ediv_add_emod t0 t1
    have e2 := Int.emod_nonneg t0 (show t1 ≠ 0 by omega)
    rw [Int.mul_comm (t0 / t1)]; omega
  have hall : ∀ y, y < a.length → y ≠ k → ltP (0, 0) (T.f (pf a y)) := fun y hy hyk => by
    obtain ⟨s1, s2⟩ := side_nn ht h3 hk hy
    have c2 := T.tn (pf a k) (pf a y) (pf a (nbI a.length k (-st)))
    rw [h0, hdet] at c2
    have c3 : tn (0, 0) (T.f (pf a y)) (T.f (pf a (nbI a.length k (-st)))) = (T.f (pf a y)).1 * (T.f (pf a (nbI a.length k (-st)))).2 - (T.f (pf a y)).2 * (T.f (pf a (nbI a.length k (-st)))).1 := by
      unfold tn crossP subP; dsimp only; grind
    rw [c3] at c2
    have c1 : (T.f (pf a y)).2 = st * crossP u (subP (pf a y) (pf a k)) := by rw [← hfr]; rfl
    have n1 : 0 ≤ (T.f (pf a y)).2 := by rw [c1]; exact hu y hy
    have n2 : 0 ≤ (T.f (pf a y)).1 * (T.f (pf a (nbI a.length k (-st)))).2 - (T.f (pf a y)).2 * (T.f (pf a (nbI a.length k (-st)))).1 := by
      rw [c2]
      rcases hs with rfl | rfl
      · rw [Int.one_mul]; exact s2
      · rw [tn_swap2] at s1
        rw [show -(-1 : Int) = 1 by rfl]; omega
    refine zero_least (y0 := (T.f (pf a y)).1) (y1 := (T.f (pf a y)).2) hz.1 hz.2 n1 n2 ?_
    · intro e
      have hne : T.f (pf a y) = T.f (pf a k) := by rw [h0]; exact Prod.ext e.1 e.2
      have hds : T.det = 1 ∨ T.det = -1 := by rw [hdet]; exact hs
      have tp := tp_rel ht T hds (r := 0) (by omega)
      obtain ⟨i, hi, ei⟩ := sgR_onto (n := a.length) (r := 0) hds (by omega) hy
      obtain ⟨j', hj', ej'⟩ := sgR_onto (n := a.length) (r := 0) hds (by omega) hk
      rcases Nat.lt_trichotomy i j' with c | c | c
      · exact tp.ne h3 c hj' (by show T.f (pf a (sgR _ _ _ i)) = T.f (pf a (sgR _ _ _ j')); rw [ei, ej']; exact hne)
      · rw [c, ej'] at ei; exact hyk ei.symm
      · exact tp.ne h3 c hi (by show T.f (pf a (sgR _ _ _ j')) = T.f (pf a (sgR _ _ _ i)); rw [ei, ej']; exact hne.symm)
  have hloc := (locB_iff (by rw [hbl]; exact h3)).1 (isPoly_loc' hq)
  have hds : T.det = 1 ∨ T.det = -1 := by rw [hdet]; exact hs
  obtain ⟨i, hi, ei⟩ := sgR_onto hds hR.lt hk
  by_cases e : i = 0
  · rw [e] at ei
    rw [hR.row 0 (by omega), ei, h0]; rfl
  · exfalso
    have l := hloc.least i (by omega) (by rw [hbl]; exact hi)
    rw [hR.pt hi, ei, h0, hR.pt (show 0 < a.length by omega)] at l
    have := hall _ (sgR_lt (d := T.det) hR.lt (show 0 < a.length by omega)) fun c => e (sgR_inj hR.lt hi (by omega) (by rw [ei, c]))
    exact ltP_asymm this l
end Go.Proofs.YtehhoplenloocaaGreat
