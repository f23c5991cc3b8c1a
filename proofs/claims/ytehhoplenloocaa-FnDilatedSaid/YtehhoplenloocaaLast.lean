/- A region that draws its order and whose last operation waits for all the others: it is carried out last (a store, say), and need not keep what the others keep. -/
import Derived.StillTail
import Derived.Deep.RegionHeld
import Derived.Test.YtehhoplenloocaaWrp
namespace Go.Proofs.Ytehhoplenloocaa
open Go Go.RowKit
set_option linter.unusedVariables false
set_option linter.unusedSimpArgs false

section
variable {P : Program} {md : Region.Mode} {Q : Exit → Act → World → Prop}

/-- behind the others the last one -/
def lastQ (P : Program) (o : Oper) (Q : Exit → Act → World → Prop) : Exit → Act → World → Prop
  | .normal, a, w => o.wp P a w (fun a' w' => Q .normal a' w') Q
  | e, a, w => Q e a w
theorem lastQ_of {o : Oper} : ∀ e a w, e ≠ .normal → lastQ P o Q e a w → Q e a w := fun e a w he h => by
  cases e <;> first | exact absurd rfl he | exact h
/-- no guards; each waits only for earlier ones; each of the first n has a later one that waits for it -/
def lastB (md : Region.Mode) (ops : Array Oper) (n : Nat) : Bool :=
  (List.range ops.size).all (fun j => (ops[j]?.map fun o => o.guard.isNone && o.after.all fun e => decide (e.on < j)).getD false) && Region.sinkB md ops n && Region.chainB md ops n
theorem wpU_mono {o : Oper} {a : Act} {w : World} {K K' : Act → World → Prop} {Q Q' : Exit → Act → World → Prop} (h : ∀ a w, K a w → K' a w) (hq : ∀ e a w, e ≠ .normal → Q e a w → Q' e a w) (hh : o.wp P a w K Q) : o.wp P a w K' Q' := by
  unfold Oper.wp at *
  generalize (execOp a.eval o).run P w = r at *
  match r, hh with
  | .ok (.value v) w', hh => exact h _ _ hh
  | .ok .skip w', hh => exact h _ _ hh
  | .ok (.defer d) w', hh => exact h _ _ hh
  | .ok (.enter f args) w', hh =>
    exact Calls.mono hh (fun e w'' he => match e, he with
      | .returned v, he => h _ _ he
      | .panicked c, he => hq _ _ _ (by simp) he
      | .outgrown, ⟨a0, w0, he⟩ => ⟨a0, w0, hq _ _ _ (by simp) he⟩)
  | .ok (.row row args) w', hh => exact Rows.mono hh fun _ _ he => h _ _ he
  | .halt (.panic v) w', hh => exact hq _ _ _ (by simp) hh
theorem lastB_at {ops : Array Oper} {n : Nat} (h : lastB md ops n = true) {j : Nat} {o : Oper} (ho : ops[j]? = some o) : o.guard = none ∧ ∀ e ∈ o.after, e.on < j := by
  unfold lastB at h
  simp only [Bool.and_eq_true] at h
  have hj : j < ops.size := (Array.getElem?_eq_some_iff.1 ho).1
  have := List.all_eq_true.1 h.1.1 j (List.mem_range.2 hj)
  rw [ho] at this
  simp only [Option.map_some, Option.getD_some, Bool.and_eq_true, Option.isNone_iff_eq_none, Array.all_eq_true_iff_forall_mem, decide_eq_true_eq] at this
  exact this
/-- where nothing is ready all have been -/
theorem ready_none {ops : Array Oper} {n : Nat} (hB : lastB md ops n = true) {listed : Array Bool} (hs : listed.size = ops.size) (h : Region.ready md ops listed = []) : ∀ i, i < ops.size → listed.getD i true = true := by
  intro i
  induction i using Nat.strongRecOn with
  | _ i ih =>
    intro hi
    cases hl : listed.getD i true with
    | true => rfl
    | false =>
      have ho : ops[i]? = some ops[i] := Array.getElem?_eq_getElem hi
      have hm : i ∈ Region.ready md ops listed := mem_ready.2 ⟨hl, ops[i], ho, fun e he hb => by
        have hlt := (lastB_at hB ho).2 e he
        have := ih e.on hlt (by omega)
        have hsz : e.on < listed.size := by omega
        simp only [Array.getD, hsz, dif_pos] at this ⊢
        exact this⟩
      rw [h] at hm; cases hm
theorem getD_push {l : Array Bool} {i : Nat} (d : Bool) (h : i < l.size) : (l.push false).getD i d = l.getD i d := by
  simp only [Array.getD_eq_getD_getElem?, Array.getElem?_push]
  rw [if_neg (by omega)]
theorem set_push {l : Array Bool} {i : Nat} (h : i < l.size) : (l.push false).setIfInBounds i true = (l.setIfInBounds i true).push false := by
  apply Array.ext_getElem?
  intro j
  simp only [Array.getElem?_setIfInBounds, Array.getElem?_push, Array.size_push, Array.size_setIfInBounds]
  by_cases e : i = j
  · subst e
    rw [if_pos rfl, if_pos (by omega), if_neg (by omega), if_pos rfl, if_pos h]
  · rw [if_neg e]
    by_cases e2 : j = l.size
    · rw [if_pos e2, if_pos e2]
    · rw [if_neg e2, if_neg e2, if_neg e]
theorem wpAny_last {l : List Oper} {n : Nat} {o : Oper} (hl : l.length = n + 1) (ho : l[n]? = some o) (hB : lastB md l.toArray n = true) :
    ∀ (f : Nat) (listed : Array Bool) (a : Act) (w : World), HeadInv md l.toArray n (listed.push false) → listed.size = n → wpAny P md (l.take n).toArray (lastQ P o Q) f listed a w → wpAny P md l.toArray Q (f + 1) (listed.push false) a w := by
  have hg : ∀ j (oj : Oper), l.toArray[j]? = some oj → oj.guard = none := fun j oj h => (lastB_at hB h).1
  have hsz : l.toArray.size = n + 1 := by simpa using hl
  have hB' := hB
  unfold lastB at hB'
  simp only [Bool.and_eq_true] at hB'
  have hat : ∀ j, j < n → (l.take n).toArray[j]? = l.toArray[j]? := fun j hj => by simp [hj]
  have hpn : l.toArray[n]? = some o := by simpa using ho
  have hpre : ∀ (listed : Array Bool), listed.size = n → ∀ j, j < n → (j ∈ Region.ready md l.toArray (listed.push false) ↔ j ∈ Region.ready md (l.take n).toArray listed) := fun listed hs j hj => by
    rw [mem_ready, mem_ready, getD_push true (by omega), hat j hj]
    constructor
    · rintro ⟨h1, oj, h2, h3⟩
      refine ⟨h1, oj, h2, fun e he hb => ?_⟩
      have hlt := (lastB_at hB h2).2 e he
      have := h3 e he hb
      rwa [getD_push false (by omega)] at this
    · rintro ⟨h1, oj, h2, h3⟩
      refine ⟨h1, oj, h2, fun e he hb => ?_⟩
      have hlt := (lastB_at hB h2).2 e he
      rw [getD_push false (by omega)]
      exact h3 e he hb
  have hnone : ∀ (listed : Array Bool), listed.size = n → Region.ready md l.toArray (listed.push false) ≠ [] := fun listed hs h => by
    have := ready_none hB (by rw [Array.size_push, hs, hsz]) h n (by omega)
    simp only [Array.getD_eq_getD_getElem?, Array.getElem?_push] at this
    rw [if_pos hs.symm] at this
    simp at this
  have hlast : ∀ (listed : Array Bool) (a : Act) (w : World), HeadInv md l.toArray n (listed.push false) → listed.size = n → n ∈ Region.ready md l.toArray (listed.push false) → (Region.ready md (l.take n).toArray listed = [] → lastQ P o Q .normal a w) → ∀ f, wpOp P l.toArray Q n (wpAny P md l.toArray Q f ((listed.push false).setIfInBounds n true)) a w := fun listed a w inv hs hn hq f => by
    have hall : ∀ i, i < n → listed.getD i true = true := fun i hi => by
      cases e : listed.getD i true with
      | true => rfl
      | false => exact absurd hn (tail_waits hB'.1.2 hB'.2 (by omega) inv _ i rfl hi (by rw [getD_push true (by omega)]; exact e) n (Nat.le_refl _))
    have hr0 : Region.ready md (l.take n).toArray listed = [] := by
      rw [List.eq_nil_iff_forall_not_mem]
      intro j hj
      obtain ⟨h1, oj, h2, -⟩ := mem_ready.1 hj
      have hjn : j < n := by
        have := (Array.getElem?_eq_some_iff.1 h2).1
        simp at this; omega
      rw [hall j hjn] at h1; cases h1
    have hq := hq hr0
    have hr1 : Region.ready md l.toArray ((listed.push false).setIfInBounds n true) = [] := by
      rw [List.eq_nil_iff_forall_not_mem]
      intro j hj
      obtain ⟨h1, oj, h2, -⟩ := mem_ready.1 hj
      have hjn : j < n + 1 := by
        have := (Array.getElem?_eq_some_iff.1 h2).1
        omega
      by_cases e : j = n
      · subst e
        simp only [Array.getD_eq_getD_getElem?, Array.getElem?_setIfInBounds] at h1
        rw [if_pos (show j < (listed.push false).size by simp [hs])] at h1
        simp at h1
      · rw [getD_set_ne true (Ne.symm e), getD_push true (by omega), hall j (by omega)] at h1; cases h1
    unfold wpOp
    rw [hpn]
    dsimp only
    rw [if_pos (by unfold Region.wanted; rw [hg n o hpn])]
    left
    refine wpU_mono (fun a' w' hh => ?_) (fun _ _ _ _ h => h) hq
    cases f with
    | zero => exact ⟨hr1, hh⟩
    | succ f => exact ⟨fun _ => hh, by rw [hr1]; simp⟩
  intro f
  induction f with
  | zero =>
    intro listed a w inv hs h
    refine ⟨fun h0 => absurd h0 (hnone listed hs), fun i hi => ?_⟩
    have hin : i < n + 1 := by
      obtain ⟨-, oj, h2, -⟩ := mem_ready.1 hi
      have := (Array.getElem?_eq_some_iff.1 h2).1
      omega
    by_cases e : i = n
    · subst e
      exact hlast listed a w inv hs hi (fun _ => h.2) _
    · have := (hpre listed hs i (by omega)).1 hi
      rw [h.1] at this; cases this
  | succ f ih =>
    intro listed a w inv hs h
    refine ⟨fun h0 => absurd h0 (hnone listed hs), fun i hi => ?_⟩
    have hin : i < n + 1 := by
      obtain ⟨-, oj, h2, -⟩ := mem_ready.1 hi
      have := (Array.getElem?_eq_some_iff.1 h2).1
      omega
    by_cases e : i = n
    · subst e
      exact hlast listed a w inv hs hi h.1 _
    · have hi2 := (hpre listed hs i (by omega)).1 hi
      have hop := h.2 i hi2
      have inv2 := inv.set hi (by omega)
      rw [set_push (by omega)] at inv2 ⊢
      obtain ⟨-, oi, hoi, -⟩ := mem_ready.1 hi
      unfold wpOp at hop ⊢
      rw [hat i (by omega), hoi] at hop
      rw [hoi]
      dsimp only at hop ⊢
      rw [if_pos (by unfold Region.wanted; rw [hg i oi hoi])] at hop ⊢
      rcases hop with hop | ⟨h1, a0, w0, h2⟩
      · left
        exact wpU_mono (fun a' w' hh => ih _ a' w' inv2 (by rw [Array.size_setIfInBounds]; exact hs) hh) lastQ_of hop
      · right
        exact ⟨h1, a0, w0, lastQ_of _ _ _ (by simp) h2⟩
/-- the law -/
theorem wp_region_last {id : Nat} {a : Act} {w : World} {l : List Oper} {S : World → Prop} (n : Nat) (o : Oper) (hm : P.follows .mixedOrders = true) (hl : l.length = n + 1) (ho : l[n]? = some o) (hB : lastB .any l.toArray n = true)
    (h : wpAnyH P .any (l.take n).toArray (lastQ P o Q) S n (Array.replicate n false) a w.drew) : (Code.region id l.toArray true).wp P Q a w := by
  refine wp_region_any hm ?_
  have e : l.toArray.size = n + 1 := by simpa using hl
  have e2 : Array.replicate l.toArray.size false = (Array.replicate n false).push false := by
    rw [e, Array.replicate_succ]
  rw [e2, e]
  refine wpAny_last hl ho hB n _ a _ ⟨by simp [e], fun j oj _ hj => ?_, fun t ht ht' => ?_⟩ (by simp) (wpAny_of_held _ _ _ _ h)
  · rw [← e2, getD_replicate_false] at hj; cases hj
  · rw [← e2]; exact getD_in (by simpa using ht') (getD_replicate_false _ _)
end
end Go.Proofs.Ytehhoplenloocaa
