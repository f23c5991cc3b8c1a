/- The hull of a moved polygon: the same corners told anew; area, boundary and frames are kept: plain law. -/
import Derived.Test.YtehhoplenloocaaGreatAff
namespace Go.Proofs.YtehhoplenloocaaGreat
set_option linter.unusedVariables false
set_option linter.unusedSimpArgs false

structure Rel (p q : List (List Int)) (T : Aff) (r : Nat) : Prop where
  det : T.det = 1 ∨ T.det = -1
  lt : r < p.length
  len : q.length = p.length
  row : ∀ k, k < p.length → q.getD k [] = rowP (T.f (pf p (sgR p.length r T.det k)))
theorem Rel.pt {p q : List (List Int)} {T : Aff} {r : Nat} (h : Rel p q T r) {k : Nat} (hk : k < p.length) : pf q k = T.f (pf p (sgR p.length r T.det k)) := by
  unfold pf at *
  rw [h.row k hk]; rfl
/-! ### area and boundary -/
theorem Rel.area {p q : List (List Int)} {T : Aff} {r : Nat} (h : Rel p q T r) (h3 : 3 ≤ p.length) : arL q = arL p := by
  rw [ar_tn q (T.f (pf p 0)), ar_tn p (pf p 0), h.len]
  have e : sgN (fun k => tn (T.f (pf p 0)) (pf q k) (pf q (nbI p.length k 1))) p.length = sgN (fun k => T.det * (fun j => tn (pf p 0) (pf p j) (pf p (nbI p.length j T.det))) (sgR p.length r T.det k)) p.length := by
    refine sgN_congr _ fun k hk => ?_
    rw [h.pt hk, h.pt (nb_lt hk 1), T.tn, sgR_nb (by omega) h.det h.lt hk (.inl rfl), Int.mul_one]
  rw [e, sgN_smul, sgN_bij (fun j => tn (pf p 0) (pf p j) (pf p (nbI p.length j T.det))) _ (fun k hk => sgR_lt h.lt hk) (fun i j hi hj => sgR_inj h.lt hi hj) (fun j hj => sgR_onto h.det h.lt hj)]
  rcases h.det with d | d
  · rw [d, Int.one_mul]
  · rw [d, ← sgN_nb (n := p.length) (fun j => tn (pf p 0) (pf p j) (pf p (nbI p.length j (-1)))) (st := 1) (.inl rfl), ← sgN_smul]
    refine sgN_congr _ fun k hk => ?_
    have := nb_back hk (st := 1) (.inl rfl)
    try dsimp only
    rw [this, tn_swap2]; omega
theorem sdI_gP {ls : List (List Int)} (hf : flatB ls 50 = true) {k : Nat} (hk : k < ls.length) : sdI ls k = gP (pf ls k) (pf ls (nbI ls.length k 1)) := by
  unfold sdI nbI
  rw [if_pos rfl]
  exact sd_gP (flat_at hf hk).1 (flat_at hf (Nat.mod_lt _ (by omega))).1
theorem Rel.bound {p q : List (List Int)} {T : Aff} {r : Nat} (h : Rel p q T r) (h3 : 3 ≤ p.length) (hp : flatB p 50 = true) (hq : flatB q 50 = true) : bdL q = bdL p := by
  unfold bdL
  rw [bdK_sg, bdK_sg, h.len]
  have e : sgN (sdI q) p.length = sgN (fun k => (fun j => gP (pf p j) (pf p (nbI p.length j T.det))) (sgR p.length r T.det k)) p.length := by
    refine sgN_congr _ fun k hk => ?_
    have hkq : k < q.length := by rw [h.len]; exact hk
    rw [sdI_gP hq hkq, h.len, h.pt hk, h.pt (nb_lt hk 1), T.gP h.det, sgR_nb (by omega) h.det h.lt hk (.inl rfl), Int.mul_one]
  rw [e, sgN_bij (fun j => gP (pf p j) (pf p (nbI p.length j T.det))) _ (fun k hk => sgR_lt h.lt hk) (fun i j hi hj => sgR_inj h.lt hi hj) (fun j hj => sgR_onto h.det h.lt hj)]
  have e2 : sgN (sdI p) p.length = sgN (fun j => gP (pf p j) (pf p (nbI p.length j 1))) p.length := sgN_congr _ fun k hk => sdI_gP hp hk
  rw [e2]
  rcases h.det with d | d
  · rw [d]
  · rw [d, ← sgN_nb (n := p.length) (fun j => gP (pf p j) (pf p (nbI p.length j (-1)))) (st := 1) (.inl rfl)]
    refine sgN_congr _ fun k hk => ?_
    have := nb_back hk (st := 1) (.inl rfl)
    try dsimp only
    rw [this, gP_comm]

/-! ### the hull of moved corners -/
theorem flatB_all {l : List (List Int)} {m : Int} : flatB l m = true ↔ ∀ r, r ∈ l → ptB r m = true := by unfold flatB; rw [List.all_eq_true]
theorem hullV_mem {l l' : List (List Int)} (hm : ∀ r, r ∈ l ↔ r ∈ l') (h1 : l.length ≤ 200) (h2 : l'.length ≤ 200) : hullV l = hullV l' := by
  have hs : srtP (ptsOf l) = srtP (ptsOf l') := srtP_eq (srtP_pair _) fun z => by
    rw [srtP_mem]
    unfold ptsOf
    rw [List.mem_map, List.mem_map]
    exact ⟨fun ⟨x, a, b⟩ => ⟨x, (hm x).1 a, b⟩, fun ⟨x, a, b⟩ => ⟨x, (hm x).2 a, b⟩⟩
  have hr : hullR l = hullR l' := by unfold hullR; rw [hs]
  have hf : flatB l 50 = flatB l' 50 := by
    rw [Bool.eq_iff_iff, flatB_all, flatB_all]
    exact ⟨fun h r hr => h r ((hm r).2 hr), fun h r hr => h r ((hm r).1 hr)⟩
  have ho : hullOk l = hullOk l' := by unfold hullOk; rw [hf, hr, decide_eq_true h1, decide_eq_true h2]
  unfold hullV; rw [ho, hr]
theorem hullV_self {p : List (List Int)} (hp : isPolyB p = true) : hullV p = (p, true) := by
  obtain ⟨h3, h12, hf⟩ := isPoly_parts hp
  have := poly_hull h3 h12 hf
  rw [hp] at this
  have := this.symm
  rw [Bool.and_eq_true, decide_eq_true_eq] at this
  unfold hullV; rw [this.1, this.2]; rfl
/-- the list that is moved by T -/
theorem rel_map {p l : List (List Int)} {T : Aff} (hp : isPolyB p = true) (hd : T.det = 1 ∨ T.det = -1) (hm : l = p.map fun x => rowP (T.f (ptOf x))) (hok : (hullV l).2 = true) :
    isPolyB (hullV l).1 = true ∧ ∃ r, Rel p (hullV l).1 T r := by
  obtain ⟨⟨h3, h12⟩, hf, ht⟩ := poly_parts hp
  have hne : ∀ i j, i < p.length → j < p.length → i ≠ j → T.f (pf p i) ≠ T.f (pf p j) := by
    intro i j hi hj hij e
    have tp := tp_rel ht T hd (r := 0) (by omega)
    obtain ⟨a, ha, ea⟩ := sgR_onto (n := p.length) (r := 0) hd (by omega) hi
    obtain ⟨b, hb, eb⟩ := sgR_onto (n := p.length) (r := 0) hd (by omega) hj
    have hab : a ≠ b := fun c => hij (by rw [← ea, ← eb, c])
    rcases Nat.lt_or_ge a b with c | c
    · exact tp.ne h3 c hb (by show T.f (pf p (sgR _ _ _ a)) = T.f (pf p (sgR _ _ _ b)); rw [ea, eb]; exact e)
    · exact tp.ne h3 (show b < a by omega) ha (by show T.f (pf p (sgR _ _ _ b)) = T.f (pf p (sgR _ _ _ a)); rw [ea, eb]; exact e.symm)
  obtain ⟨r, hr, hleast⟩ := least_of (fun k => T.f (pf p k)) p.length (by omega) hne
  have hL := tp_rel ht T hd hr
  have h0 : sgR p.length r T.det 0 = r := by
    rcases hd with e | e
    · rw [e, sgR_p]; split <;> omega
    · rw [e, sgR_m]; split <;> omega
  have hloc := hL.loc h3 fun k hk0 hk => by
    show ltP (T.f (pf p (sgR _ _ _ 0))) (T.f (pf p (sgR _ _ _ k)))
    rw [h0]
    exact hleast _ (sgR_lt hr hk) fun e => by
      have := sgR_inj (d := T.det) hr hk (show 0 < p.length by omega) (by rw [e, h0])
      omega
  have hmem : ∀ s, s ∈ srtP (ptsOf l) ↔ ∃ k, k < p.length ∧ s = T.f (pf p k) := fun s => by
    rw [srtP_mem, hm]
    unfold ptsOf
    rw [List.map_map, List.mem_map]
    constructor
    · rintro ⟨x, hx, rfl⟩
      obtain ⟨k, hk, rfl⟩ := List.mem_iff_getElem.1 hx
      refine ⟨k, hk, ?_⟩
      show ptOf (rowP _) = _
      rw [ptOf_rowP]
      unfold pf
      rw [List.getD_eq_getElem?_getD, List.getElem?_eq_getElem hk]; rfl
    · rintro ⟨k, hk, rfl⟩
      refine ⟨p[k], List.getElem_mem hk, ?_⟩
      show ptOf (rowP _) = _
      rw [ptOf_rowP]
      unfold pf
      rw [List.getD_eq_getElem?_getD, List.getElem?_eq_getElem hk]; rfl
  have hh := hull_poly hloc (srtP_pair (ptsOf l)) (fun s hs => by
    obtain ⟨k, hk, rfl⟩ := (hmem s).1 hs
    obtain ⟨j, hj, e⟩ := sgR_onto hd hr hk
    exact ⟨j, hj, by show _ = T.f (pf p (sgR _ _ _ j)); rw [e]⟩) fun k hk => (hmem _).2 ⟨_, sgR_lt hr hk, rfl⟩
  have hR : hullR l = (List.range p.length).map fun k => rowP (T.f (pf p (sgR p.length r T.det k))) := by
    unfold hullR; rw [hh, List.map_map]; rfl
  have hV : (hullV l).1 = hullR l ∧ flatB l 50 = true := by
    unfold hullV at hok ⊢
    split at hok
    · rename_i h
      rw [if_pos h]
      unfold hullOk at h
      simp only [Bool.and_eq_true] at h
      exact ⟨rfl, h.2.1⟩
    · cases hok
  rw [hV.1, hR]
  have hlen : ((List.range p.length).map fun k => rowP (T.f (pf p (sgR p.length r T.det k)))).length = p.length := by simp
  have hat : ∀ k, k < p.length → ((List.range p.length).map fun k => rowP (T.f (pf p (sgR p.length r T.det k)))).getD k [] = rowP (T.f (pf p (sgR p.length r T.det k))) := fun k hk => by
    rw [List.getD_eq_getElem?_getD, List.getElem?_map, List.getElem?_range hk]; rfl
  constructor
  · unfold isPolyB
    rw [Bool.and_eq_true, Bool.and_eq_true, hlen]
    refine ⟨inB_iff.2 ⟨by omega, by omega⟩, ?_, ?_⟩
    · rw [flatB_all]
      intro x hx
      obtain ⟨k, hk, rfl⟩ := List.mem_map.1 hx
      have hk := List.mem_range.1 hk
      refine flatB_all.1 hV.2 _ ?_
      rw [hm, List.mem_map]
      have hs := sgR_lt (d := T.det) hr hk
      refine ⟨p[sgR p.length r T.det k], List.getElem_mem hs, ?_⟩
      unfold pf
      rw [List.getD_eq_getElem?_getD, List.getElem?_eq_getElem hs]; rfl
    · rw [locB_iff h3]
      have hp' : ∀ k, k < p.length → pf ((List.range p.length).map fun k => rowP (T.f (pf p (sgR p.length r T.det k)))) k = T.f (pf p (sgR p.length r T.det k)) := fun k hk => by
        show ptOf _ = _
        rw [hat k hk]; rfl
      refine ⟨h3, fun k hk => ?_, fun k hk0 hk => ?_, fun k hk0 hk => ?_⟩
      · rw [hp' _ (by omega), hp' _ (by omega), hp' _ hk]; exact hloc.turn k hk
      · rw [hp' _ (by omega), hp' _ hk]; exact hloc.least k hk0 hk
      · rw [hp' _ (by omega), hp' _ (by omega), hp' _ hk]; exact hloc.fan k hk0 hk
  · exact ⟨r, hd, hr, hlen, hat⟩
/-- the members of the hull are the moved corners -/
theorem Rel.mem {p q : List (List Int)} {T : Aff} {r : Nat} (h : Rel p q T r) (x : List Int) : x ∈ q ↔ ∃ y, y ∈ p ∧ x = rowP (T.f (ptOf y)) := by
  constructor
  · intro hx
    obtain ⟨k, hk, rfl⟩ := List.mem_iff_getElem.1 hx
    have hkp : k < p.length := by rw [← h.len]; exact hk
    have e := h.row k hkp
    rw [List.getD_eq_getElem?_getD, List.getElem?_eq_getElem hk] at e
    have hs := sgR_lt (d := T.det) h.lt hkp
    refine ⟨p[sgR p.length r T.det k], List.getElem_mem hs, ?_⟩
    refine e.trans ?_
    unfold pf
    rw [List.getD_eq_getElem?_getD, List.getElem?_eq_getElem hs]; rfl
  · rintro ⟨y, hy, rfl⟩
    obtain ⟨j, hj, rfl⟩ := List.mem_iff_getElem.1 hy
    obtain ⟨k, hk, e⟩ := sgR_onto h.det h.lt hj
    have hkq : k < q.length := by rw [h.len]; exact hk
    have ea := h.row k hk
    rw [e, List.getD_eq_getElem?_getD, List.getElem?_eq_getElem hkq] at ea
    have : q[k] = rowP (T.f (ptOf p[j])) := by
      refine ea.trans ?_
      unfold pf
      rw [List.getD_eq_getElem?_getD, List.getElem?_eq_getElem hj]; rfl
    rw [← this]; exact List.getElem_mem hkq
end Go.Proofs.YtehhoplenloocaaGreat
