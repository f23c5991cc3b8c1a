/- Putting a row into an ordered list: l2Put. -/
import Derived.Test.YtehhoplenloocaaPS1
import Derived.Test.YtehhoplenloocaaB2
namespace Go.Proofs.Ytehhoplenloocaa
open Go.RowKit
set_option linter.unusedVariables false
set_option linter.unusedSimpArgs false

/-- v is a slice of the call's own, from block B on, of the rows vs -/
def OwnQ (w : World) (B : Nat) (v : Value) (vs : List Value) (ls : List (List Int)) : Prop :=
  w.ownsRow B 30 1 v ls.length vs ∧ (∃ g cap, v = .slice (some ⟨g, 0, none⟩) ls.length cap) ∧ ∀ i, i < ls.length → IS w 0 w.heap.size (vs.getD i (.slice none 0 0)) (ls.getD i [])
theorem OwnQ.len {w : World} {B : Nat} {v : Value} {vs : List Value} {ls : List (List Int)} (h : OwnQ w B v vs ls) : vs.length = ls.length := by have := h.1.1; omega
theorem OwnQ.lit0 (w : World) (B : Nat) (h : B ≤ w.heap.size) : OwnQ (w.alloc (.cells #[] 30)) B (.slice (some ⟨w.heap.size, 0, none⟩) 0 0) [] [] :=
  ⟨World.ownsRow_lit w #[] 0 h (by simp [maxLen]) rfl, ⟨_, _, rfl⟩, fun i hi => absurd hi (Nat.not_lt_zero _)⟩
theorem OwnQ.kept {w w' : World} {B : Nat} {v : Value} {vs : List Value} {ls : List (List Int)} (h : OwnQ w B v vs ls) (hb : Below w.heap.size w w') : OwnQ w' B v vs ls :=
  ⟨World.ownsRow.kept h.1 (row := none) ⟨hb.os, hb.tape, hb.output, hb.size, fun k hk _ => hb.block k hk⟩ (by cases v.ownBlock <;> simp), h.2.1, fun i hi => ((h.2.2 i hi).keep hb (Nat.le_refl _)).mono (Nat.le_refl _) hb.size⟩
theorem addr_add0 (b off j : Nat) : (⟨b, off, none⟩ : Addr).add j = ⟨b, off + j, none⟩ := by simp only [Addr.add]; split <;> simp_all
theorem own_cells {w : World} {B g cap n : Nat} {t : TypeId} {vs : List Value} (h : w.ownsRow B t 1 (.slice (some ⟨g, 0, none⟩) n cap) n vs) {i : Nat} (hi : i < n) : w.cell? ⟨g, i, none⟩ = some (vs.getD i (.slice none 0 0)) := by
  have hl := h.1
  have := World.ownsRow.cells h (g := g) rfl i (vs.getD i (.slice none 0 0)) (by rw [List.getD_eq_getElem?_getD, List.getElem?_eq_getElem (by omega)]; rfl)
  rw [addr_add0, Nat.zero_add] at this; exact this
theorem own_take {w : World} {B g cap n k : Nat} {t : TypeId} {vs : List Value} (h : w.ownsRow B t 1 (.slice (some ⟨g, 0, none⟩) n cap) n vs) (hk : k ≤ n) : w.ownsRow B t 1 (.slice (some ⟨g, 0, none⟩) k cap) k (vs.take k) := by
  obtain ⟨hl, h2⟩ := h
  refine ⟨by rw [List.length_take]; omega, ?_⟩
  rcases h2 with ⟨e, -⟩ | ⟨g', cap', cur, e, hb, hg, hn, hc, hs, ht⟩
  · simp at e
  · injection e with e1 e2 e3
    injection e1 with e1
    injection e1 with e1
    subst e1 e3
    refine .inr ⟨g, cap, cur, rfl, hb, hg, by omega, hc, hs, ?_⟩
    rw [← ht, List.take_take]; congr 1; omega
theorem own_drop {w : World} {B g cap n k : Nat} {t : TypeId} {vs : List Value} (h : w.ownsRow B t 1 (.slice (some ⟨g, 0, none⟩) n cap) n vs) : ∀ j u, (vs.drop k)[j]? = some u → w.cell? ((⟨g, k, none⟩ : Addr).add j) = some u := by
  intro j u hj
  rw [List.getElem?_drop] at hj
  have := World.ownsRow.cells h (g := g) rfl (k + j) u hj
  rw [addr_add0, Nat.zero_add] at this
  rw [addr_add0]; exact this
theorem own_form {w : World} {B n : Nat} {t : TypeId} {v : Value} {xs : List Value} (h : w.ownsRow B t 1 v n xs) (hv : v ≠ .slice none 0 0) : ∃ g cap, v = .slice (some ⟨g, 0, none⟩) n cap ∧ B ≤ g ∧ g < w.heap.size := by
  rcases h.2 with ⟨e, -⟩ | ⟨g, cap, cur, e, hb, hg, -⟩
  · exact absurd e hv
  · exact ⟨g, cap, e, hb, (Array.getElem?_eq_some_iff.1 hg).1⟩
def RowsQ (w : World) (vs : List Value) (ls : List (List Int)) : Prop := vs.length = ls.length ∧ ∀ i, i < ls.length → IS w 0 w.heap.size (vs.getD i (.slice none 0 0)) (ls.getD i [])
theorem RowsQ.below {w w' : World} {vs : List Value} {ls : List (List Int)} (h : RowsQ w vs ls) (hb : Below w.heap.size w w') : RowsQ w' vs ls := ⟨h.1, fun i hi => ((h.2 i hi).keep hb (Nat.le_refl _)).mono (Nat.le_refl _) hb.size⟩
theorem RowsQ.grown {w w' : World} {vs : List Value} {ls : List (List Int)} {ob : Option Nat} (h : RowsQ w vs ls) (hg : w.grownBy w' ob) (hne : ∀ g, ob = some g → ∃ c e fr, w.heap[g]? = some (.cells c e fr) ∧ e ≠ 3) : RowsQ w' vs ls := ⟨h.1, fun i hi => ((h.2 i hi).grown_type hg hne).mono (Nat.le_refl _) hg.size⟩
theorem RowsQ.take {w : World} {vs : List Value} {ls : List (List Int)} (h : RowsQ w vs ls) (k : Nat) : RowsQ w (vs.take k) (ls.take k) := by
  refine ⟨by rw [List.length_take, List.length_take, h.1], fun i hi => ?_⟩
  rw [List.length_take] at hi
  have e1 : (vs.take k).getD i (.slice none 0 0) = vs.getD i (.slice none 0 0) := by rw [List.getD_eq_getElem?_getD, List.getElem?_take_of_lt (by omega), ← List.getD_eq_getElem?_getD]
  have e2 : (ls.take k).getD i [] = ls.getD i [] := by rw [List.getD_eq_getElem?_getD, List.getElem?_take_of_lt (by omega), ← List.getD_eq_getElem?_getD]
  rw [e1, e2]; exact h.2 i (by omega)
theorem RowsQ.drop {w : World} {vs : List Value} {ls : List (List Int)} (h : RowsQ w vs ls) (k : Nat) : RowsQ w (vs.drop k) (ls.drop k) := by
  refine ⟨by rw [List.length_drop, List.length_drop, h.1], fun i hi => ?_⟩
  rw [List.length_drop] at hi
  have e1 : (vs.drop k).getD i (.slice none 0 0) = vs.getD (k + i) (.slice none 0 0) := by rw [List.getD_eq_getElem?_getD, List.getElem?_drop, ← List.getD_eq_getElem?_getD]
  have e2 : (ls.drop k).getD i [] = ls.getD (k + i) [] := by rw [List.getD_eq_getElem?_getD, List.getElem?_drop, ← List.getD_eq_getElem?_getD]
  rw [e1, e2]; exact h.2 (k + i) (by omega)
theorem RowsQ.append {w : World} {vs vs' : List Value} {ls ls' : List (List Int)} (h : RowsQ w vs ls) (h' : RowsQ w vs' ls') : RowsQ w (vs ++ vs') (ls ++ ls') := by
  refine ⟨by rw [List.length_append, List.length_append, h.1, h'.1], fun i hi => ?_⟩
  rw [List.length_append] at hi
  by_cases e : i < ls.length
  · have e1 : (vs ++ vs').getD i (.slice none 0 0) = vs.getD i (.slice none 0 0) := by rw [List.getD_eq_getElem?_getD, List.getElem?_append_left (by rw [h.1]; exact e), ← List.getD_eq_getElem?_getD]
    have e2 : (ls ++ ls').getD i [] = ls.getD i [] := by rw [List.getD_eq_getElem?_getD, List.getElem?_append_left e, ← List.getD_eq_getElem?_getD]
    rw [e1, e2]; exact h.2 i e
  · have e1 : (vs ++ vs').getD i (.slice none 0 0) = vs'.getD (i - ls.length) (.slice none 0 0) := by rw [List.getD_eq_getElem?_getD, List.getElem?_append_right (by rw [h.1]; omega), h.1, ← List.getD_eq_getElem?_getD]
    have e2 : (ls ++ ls').getD i [] = ls'.getD (i - ls.length) [] := by rw [List.getD_eq_getElem?_getD, List.getElem?_append_right (by omega), ← List.getD_eq_getElem?_getD]
    rw [e1, e2]; exact h'.2 _ (by omega)
theorem RowsQ.one {w : World} {v : Value} {r : List Int} {lo hi : Nat} (h : IS w lo hi v r) (hh : hi ≤ w.heap.size) : RowsQ w [v] [r] :=
  ⟨rfl, fun i hi' => by obtain rfl : i = 0 := by simpa using hi'
                        exact h.mono (Nat.zero_le _) hh⟩
theorem OwnQ.rows {w : World} {B : Nat} {v : Value} {vs : List Value} {ls : List (List Int)} (h : OwnQ w B v vs ls) : RowsQ w vs ls := ⟨h.len, h.2.2⟩
theorem OwnQ.of {w : World} {B n : Nat} {v : Value} {vs : List Value} {ls : List (List Int)} (h : w.ownsRow B 30 1 v n vs) (hn : n = ls.length) (hv : v ≠ .slice none 0 0) (hr : RowsQ w vs ls) : OwnQ w B v vs ls := by
  subst hn
  obtain ⟨g, cap, e, -⟩ := own_form h hv
  exact ⟨h, ⟨g, cap, e⟩, hr.2⟩
theorem undrew1 {w w' : World} (h : Below w.drew.heap.size w.drew w') : Below w.heap.size w w' := ⟨h.os, h.tape, h.output, h.size, h.block⟩
/-- append at a step of a region that draws; what is appended may be nothing -/
theorem step_append_own' {P : Program} {w : World} {ops : Array Oper} {o : Oper} {a : Act} {K : Act → World → Prop} {Q : Exit → Act → World → Prop} {E : Prop} (hgd : o.guard = none) (s x : Operand) (t : TypeId)
    (ho : o.op = .call { callee := .builtin .append, args := #[s, x], argTypes := #[t, t] })
    (base : Nat) (e : TypeId) (i : TypeInfo) (z : Value) (size bytes : Nat) (ht : P.underlying t = some (.slice e)) (hi : P.info? e = some i) (hz : i.zero = some z)
    (hsize : i.size = size) (hby : i.bytes = bytes) (hzs : z.cells.size = size) (hsz : 0 < size)
    (v : Value) (n : Nat) (xs : List Value) (hs : a.eval s = v) (hown : w.ownsRow base e size v n xs)
    (ad : Addr) (m c : Nat) (news : List Value) (hx : a.eval x = .slice (some ad) m c) (hl : news.length = m * size) (hnews : ∀ j u, news[j]? = some u → w.cell? (ad.add j) = some u) (h1 : ∀ u ∈ news, u.oneCell' = true)
    (h63 : n + m ≤ maxLen) (hbytes : (n + m) * bytes ≤ 140737488355328) (hbase : base ≤ w.heap.size)
    (h : ∀ v' w', w'.ownsRow base e size v' (n + m) (xs ++ news) → w.grownBy w' v.ownBlock → (v' = .slice none 0 0 ↔ v = .slice none 0 0 ∧ m = 0) → K (a.put o.dst v') w') :
    if Region.wanted o (yielded ops a.tmps) = true then Oper.wp P o a w K Q else E := by
  have hw : Region.wanted o (yielded ops a.tmps) = true := by simp [Region.wanted, hgd]
  rw [if_pos hw]
  exact wp_append_own w s x t ho base e i z size bytes ht hi hz hsize hby hzs hsz v n xs hs hown ad m c news hx hl hnews h1 h63 hbytes hbase h
/-- what l2Put gives -/
def PutOf (ls : List (List Int)) (r : List Int) (ls' : List (List Int)) : Prop :=
  (ls' = ls ∧ ∃ k, k < ls.length ∧ ls.getD k [] = r) ∨ ∃ k, k ≤ ls.length ∧ ls' = ls.take k ++ r :: ls.drop k ∧ (∀ j, k ≤ j → j < ls.length → ltP (ptOf r) (pf ls j)) ∧ (0 < k → ¬ ltP (ptOf r) (pf ls (k - 1)) ∧ ls.getD (k - 1) [] ≠ r)
theorem put_fin {w w3 w5 w7 : World} {B k m lo hi : Nat} {v v5 v7 vr : Value} {vs : List Value} {ls : List (List Int)} {r : List Int} {o : Obj} (hO : RowsQ w vs ls) (hB : B ≤ w.heap.size) (b3 : Below w.heap.size w w3) (hr : IS w3 lo hi vr r) (hhi : hi ≤ w3.heap.size)
    (own3 : w3.ownsRow B 30 1 v k (vs.take k)) (hg5 : (w3.alloc o).grownBy w5 v.ownBlock) (ho5 : w5.ownsRow B 30 1 v5 (k + 1) (vs.take k ++ [vr])) (hg7 : w5.grownBy w7 v5.ownBlock) (ho7 : w7.ownsRow B 30 1 v7 (k + 1 + m) (vs.take k ++ [vr] ++ vs.drop k)) (hm : (vs.drop k).length = m) (hk : k ≤ vs.length) (hv7 : v7 ≠ .slice none 0 0) :
    OwnQ w7 B v7 (vs.take k ++ [vr] ++ vs.drop k) (ls.take k ++ r :: ls.drop k) ∧ Below B w w7 := by
  have h3 := hO.below b3
  have e : ls.take k ++ r :: ls.drop k = ls.take k ++ [r] ++ ls.drop k := by simp
  have r3 : RowsQ w3 (vs.take k ++ [vr] ++ vs.drop k) (ls.take k ++ [r] ++ ls.drop k) := ((h3.take k).append (RowsQ.one hr hhi)).append (h3.drop k)
  have r7 := ((r3.below (below1 w3 o)).grown hg5 (own_type (World.ownsRow.alloc own3 o))).grown hg7 (own_type ho5)
  rw [e]
  refine ⟨OwnQ.of ho7 ?_ hv7 r7, ?_⟩
  · rw [List.length_append, List.length_append, List.length_take, List.length_drop]
    rw [List.length_drop] at hm
    have := hO.1
    simp; omega
  · have c3 : Below B w w3 := b3.mono hB
    have c5 : Below B w w5 := (c3.alloc (Nat.le_trans hB b3.size) o).grown hg5 (by have := b3.size; simp; omega) fun q hq => (World.ownsRow.lt own3 q hq).1
    exact c5.grown hg7 (by have := c5.size; omega) fun q hq => (World.ownsRow.lt ho5 q hq).1
set_option maxRecDepth 100000 in
set_option maxHeartbeats 8000000 in
theorem l2Put_any (ls : List (List Int)) (r : List Int) (v vr : Value) (vs : List Value) (B hb : Nat) (w : World) (ho : OwnQ w B v vs ls) (hr : ISr w hb vr r) (hhb : hb ≤ w.heap.size) (hr2 : r.length = 2) (hl2 : ∀ i, i < ls.length → (ls.getD i []).length = 2) (hl : ls.length ≤ 1000) :
    Calls Try.prog 101 #[v, vr] w fun e w' => ∃ u vs' ls', e = .returned u ∧ OwnQ w' B u vs' ls' ∧ PutOf ls r ls' ∧ Below B w w' := by
  obtain ⟨i0, hi0, hz0, hz1, hz2⟩ := info_parts info_ints
  have HI0 := Lib.hid hi0; clear hi0
  have HZ0 := Lib.hid hz0; clear hz0
  have HZ1 := Lib.hid hz1; clear hz1
  have HZ2 := Lib.hid hz2; clear hz2
  have HO := Lib.hid ho
  have HVL := Lib.hid ho.len
  obtain ⟨hown, ⟨g, cap, rfl⟩, hrow⟩ := id ho
  have hlt := World.ownsRow.lt hown g rfl
  have hcap : ls.length ≤ cap ∧ cap ≤ maxLen := by
    rcases hown.2 with ⟨e, -⟩ | ⟨g', cap', cur, e, hb', hg, hn, hc, hs, ht⟩
    · simp at e
    · injection e with e1 e2 e3
      subst e3
      exact ⟨hn, hc⟩
  unfold maxLen at hcap
  have HC := Lib.hid (fun i (hi : i < ls.length) => own_cells hown hi)
  have HD := Lib.hid (fun k => own_drop (k := k) hown)
  have HT := Lib.hid (fun k (hk : k ≤ ls.length) => own_take hown hk)
  have HROW := Lib.hid hrow
  have HL2 := Lib.hid hl2
  have HR := Lib.hid hr
  have HONE0 := Lib.hid (show ∀ u ∈ vs, u.oneCell' = true from fun u hu => by
    obtain ⟨i, hi, rfl⟩ := List.getElem_of_mem hu
    obtain ⟨a, c, e, -⟩ := hrow i (by rw [← HVL.out]; exact hi)
    rw [List.getD_eq_getElem?_getD, List.getElem?_eq_getElem hi] at e
    simp at e
    rw [e]; rfl)
  clear hrow hl2 ho hown
  obtain ⟨ar, cr, hvr, -⟩ := id hr
  rw [hr2] at hvr
  subst hvr
  have HR2 := Lib.hid hr2
  clear hr hr2
  obtain ⟨n, hn⟩ : ∃ n, n = ls.length := ⟨_, rfl⟩
  rw [← hn] at hl hcap HC HT HROW HL2 ⊢
  have HN := Lib.hid hn
  clear hn
  go_enter Try.func101, Try.ntmps101
  go_wp2
  go_loopw [5] (fun i wr => ∃ (d k : Nat), k ≤ n ∧ i = .int .i64 k ∧ Hid (wr = w.drewN d) ∧ Hid (∀ j, k ≤ j → j < n → ltP (ptOf r) (pf ls j))) (fun i _ => (intOf i).toNat)
  case atStart => exact ⟨0, n, Nat.le_refl _, by go_num, Lib.hid rfl, Lib.hid (fun j h1 h2 => by omega)⟩
  case round =>
    obtain ⟨d, k, hk, rfl, HW, HB⟩ := hrel
    have HKT := Lib.hid (HT.out k hk)
    by_cases hk0 : k = 0
    case' pos =>
      have HEX := Lib.hid (show 0 < k → ¬ ltP (ptOf r) (pf ls (k - 1)) ∧ ls.getD (k - 1) [] ≠ r from fun h => by omega)
      have hkf : decide (0 < k) = false := by rw [decide_eq_false_iff_not]; omega
      clear hk0
      obtain ⟨w1, hw1⟩ : ∃ w1, w1 = wr := ⟨_, rfl⟩
      subst hw1
      have HW1 := HW
      clear HW
      have HBW := Lib.hid (show Below w.heap.size w w1 from by rw [HW1.out]; exact below_draws _ _ _)
      have HS1 := Lib.hid (show w1.heap.size = w.heap.size by rw [HW1.out]; rfl)
      have HVD := Lib.hid (show (vs.drop (k)).length = n - (k) by rw [List.length_drop, HVL.out, HN.out])
      have HONE := Lib.hid (show ∀ u ∈ vs.drop (k), u.oneCell' = true from fun u hu => HONE0.out u (List.mem_of_mem_drop hu))
      by_cases hck : cap = k
      case pos =>
        have hnk : n = k := by omega
        have HV0 := Lib.hid (show (vs.drop (k)).length = 0 * 1 by rw [HVD.out]; omega)
        have HNW := Lib.hid (show ∀ (ad : Addr) (W : World), ∀ jj u, (vs.drop (k))[jj]? = some u → W.cell? (ad.add jj) = some u from fun _ _ jj u h => by
          rw [List.drop_of_length_le (by rw [HVL.out, ← HN.out]; omega)] at h; simp at h)
        clear hnk
        go_wp2_with (at_builtin; refine wpList_append_own _ rfl _ _ 24 rfl w1.heap.size 30 i0 (.slice none 0 0) 1 24 Try.underlying24 HI0.out HZ0.out HZ1.out HZ2.out rfl (by decide) _ 0 [] rfl (World.ownsRow_lit w1 #[] 0 (Nat.le_refl _) (by simp [maxLen]) rfl) _ _ _ (vs.drop (k)) rfl (HVD.out.trans (Nat.mul_one _).symm) (by first | exact HNW.out | exact HNW.out _ _) HONE.out (by unfold maxLen; omega) (by omega) (by simp) ?_)
        intro v6 w2 ho2 hg2 hn2
        obtain ⟨g2, cap2, rfl, hg2l, hg2u⟩ := own_form ho2 (fun e => by first | exact hn2 e | (have := hn2.1 e; simp at this))
        have c2 := (below1 w1 (.cells #[] 30)).grown hg2 (by simp) (fun k hk => by simp [Value.ownBlock] at hk; omega)
        have HB2 := Lib.hid (below_then HBW.out HBW.out.size c2)
        have hs2 := HB2.out.size
        have HO2 := Lib.hid (HO.out.kept HB2.out)
        have HC2 := Lib.hid (fun j u h => World.ownsRow.cells ho2 (g := g2) rfl j u h)
        have hne : some g2 ≠ some g := fun e => by injection e with e; have := HS1.out; omega
        have HRW := Lib.hid (fun W (B : Below w2.heap.size w2 W) => (HR.out.keep HB2.out hhb).keep B (by omega))
        clear c2 ho2 hg2 hn2 HNW
        have q1 : (0 : Int) ≤ (k : Int) := by omega
        have q2 : (k : Int) ≤ (cap : Int) := by omega
        have q3 : ((k : Int)).toNat = k := by omega
        subst cap
        go_wp2_with fail
        have A1 : ISr (w2.drew.alloc (.cells #[] 3)) hb (.slice ar 2 cr) r := HRW.out _ (Below.trans (below_draws _ w2 1) (below1 w2.drew _))
        have A2 : OwnI (w2.drew.alloc (.cells #[] 3)) w2.heap.size (.slice (some ⟨w2.heap.size, 0, none⟩) 0 0) [] := OwnI.lit0 w2.drew w2.heap.size (Nat.le_refl _)
        go_region_held3 (fun _ => True) (trivial) (first
          | (refine step_append_own' (by rfl) _ _ _ (by with_reducible rfl) B 30 i0 _ 1 24 Try.underlying24 HI0.out HZ0.out HZ1.out HZ2.out rfl (by omega) (.slice (some ⟨g5, 0, none⟩) (k + 1) cap5) (k + 1) (vs.take (k) ++ [.slice au nu cu]) (by rfl) ho5 ⟨g2, 0, none⟩ 0 _ (vs.drop (k)) (by rfl) HV0.out CELLS5 HONE.out (by unfold maxLen; omega) (by omega) (by omega) ?_; intro v7 w7 ho7 hg7 hn7)
          | (refine step_append_lies _ (by rfl) _ _ _ (by with_reducible rfl) B 30 i0 _ 1 24 Try.underlying24 HI0.out HZ0.out HZ1.out HZ2.out rfl (by omega) (.slice (some ⟨g, 0, none⟩) (k) (k)) (k) (vs.take (k)) (by rfl) (by first | exact OWN3.alloc _ | exact (OWN3.alloc _).drew) ⟨w3.heap.size, 0, none⟩ 1 1 [.slice au nu cu] (by rfl) (by rfl) (World.news_of_block (cs := #[.slice au nu cu]) (t := 30) (fr := (0, 0)) (heap_alloc_new w3 _)) (by simp [Value.oneCell']) (by omega) (by unfold maxLen; omega) (by omega) (by simp; omega) (w3.heap.size + 1) (by simp) ?_; intro g5 cap5 w5 ho5 hg5 hat5 hlt5; have hz5 : w3.heap.size + 1 ≤ w5.heap.size := (by have hq := hg5.size; simp at hq; omega); have CELLS5 : ∀ i u, (vs.drop (k))[i]? = some u → w5.cell? ((⟨g2, 0, none⟩ : Addr).add i) = some u := fun i u h => hg5.cell (((below1 w3 (.cells #[.slice au nu cu] 30)).cell (p := (⟨g2, 0, none⟩ : Addr).add i) (by rw [addr_add0]; exact Nat.lt_of_lt_of_le hg2u hs3)).trans (CELLS3 i u h)) (by rw [addr_add0]; exact hne))
          | (refine step_append_I (by rfl) _ _ (by with_reducible rfl) (by rfl) (by rfl) A2 A1 (by have := HR2.out; simp; omega) (by simp) ?_; intro au nu cu w3 hnu ko3 hg3; have B3 := undrew1 (Below.grown (below1 w2.drew (.cells #[] 3)) hg3 (by simp) (fun k hk => (World.ownsRow.lt A2 k hk).1)); have hs3 := B3.size; have OWN3 := own_take (k := k) (HO2.out.kept B3).1 (by rw [← HN.out]; omega); have CELLS3 : ∀ i u, (vs.drop (k))[i]? = some u → w3.cell? ((⟨g2, 0, none⟩ : Addr).add i) = some u := fun i u h => (B3.cell (p := (⟨g2, 0, none⟩ : Addr).add i) (by rw [addr_add0]; exact hg2u)).trans (HC2.out i u h)))
        have PF := put_fin HO.out.rows (by omega) (below_then HB2.out hs2 B3) ko3.is (Nat.le_refl _) OWN3 hg5 ho5 hg7 ho7 HV0.out (by rw [HVL.out, ← HN.out]; omega) (fun e => by have := hn7.1 e; simp at this)
        have PF1 := Lib.hid PF.1
        have PF2 := Lib.hid PF.2
        have PT := Lib.hid (show PutOf ls r (ls.take (k) ++ r :: ls.drop (k)) from .inr ⟨k, by rw [← HN.out]; omega, rfl, fun i h1 h2 => HB.out i h1 (by rw [HN.out]; exact h2), HEX.out⟩)
        clear PF ho7 hg7 hn7 ho5 hg5 hat5 hlt5 OWN3 CELLS3 CELLS5 B3 ko3 hg3 hnu A1 A2
        go_wp2
        go_ret
        exact ⟨_, _, _, rfl, PF1.out, PT.out, PF2.out⟩
      case neg =>
        have HNW := Lib.hid (show ∀ jj u, (vs.drop (k))[jj]? = some u → (w1.alloc (.cells #[] 30)).cell? ((⟨g, k, none⟩ : Addr).add jj) = some u from fun jj u h => by
          have h0 := HD.out (k) jj u h
          rw [addr_add0] at h0 ⊢
          exact ((HBW.out.trans ((below1 w1 (.cells #[] 30)).mono (by rw [HS1.out]; exact Nat.le_refl _))).cell (p := ⟨g, k + jj, none⟩) hlt.2).trans h0)
        go_wp2_with (at_builtin; refine wpList_append_own _ rfl _ _ 24 rfl w1.heap.size 30 i0 (.slice none 0 0) 1 24 Try.underlying24 HI0.out HZ0.out HZ1.out HZ2.out rfl (by decide) _ 0 [] rfl (World.ownsRow_lit w1 #[] 0 (Nat.le_refl _) (by simp [maxLen]) rfl) _ _ _ (vs.drop (k)) rfl (HVD.out.trans (Nat.mul_one _).symm) (by first | exact HNW.out | exact HNW.out _ _) HONE.out (by unfold maxLen; omega) (by omega) (by simp) ?_)
        intro v6 w2 ho2 hg2 hn2
        obtain ⟨g2, cap2, rfl, hg2l, hg2u⟩ := own_form ho2 (fun e => by first | exact hn2 e | (have := hn2.1 e; simp at this))
        have c2 := (below1 w1 (.cells #[] 30)).grown hg2 (by simp) (fun k hk => by simp [Value.ownBlock] at hk; omega)
        have HB2 := Lib.hid (below_then HBW.out HBW.out.size c2)
        have hs2 := HB2.out.size
        have HO2 := Lib.hid (HO.out.kept HB2.out)
        have HC2 := Lib.hid (fun j u h => World.ownsRow.cells ho2 (g := g2) rfl j u h)
        have hne : some g2 ≠ some g := fun e => by injection e with e; have := HS1.out; omega
        have HRW := Lib.hid (fun W (B : Below w2.heap.size w2 W) => (HR.out.keep HB2.out hhb).keep B (by omega))
        clear c2 ho2 hg2 hn2 HNW
        have q1 : (0 : Int) ≤ (k : Int) := by omega
        have q2 : (k : Int) ≤ (cap : Int) := by omega
        have q3 : ((k : Int)).toNat = k := by omega
        clear hck
        go_wp2_with fail
        have A1 : ISr (w2.drew.alloc (.cells #[] 3)) hb (.slice ar 2 cr) r := HRW.out _ (Below.trans (below_draws _ w2 1) (below1 w2.drew _))
        have A2 : OwnI (w2.drew.alloc (.cells #[] 3)) w2.heap.size (.slice (some ⟨w2.heap.size, 0, none⟩) 0 0) [] := OwnI.lit0 w2.drew w2.heap.size (Nat.le_refl _)
        go_region_held3 (fun _ => True) (trivial) (first
          | (refine step_append_own' (by rfl) _ _ _ (by with_reducible rfl) B 30 i0 _ 1 24 Try.underlying24 HI0.out HZ0.out HZ1.out HZ2.out rfl (by omega) (.slice (some ⟨g5, 0, none⟩) (k + 1) cap5) (k + 1) (vs.take (k) ++ [.slice au nu cu]) (by rfl) ho5 ⟨g2, 0, none⟩ _ _ (vs.drop (k)) (by rfl) (HVD.out.trans (Nat.mul_one _).symm) CELLS5 HONE.out (by unfold maxLen; omega) (by omega) (by omega) ?_; intro v7 w7 ho7 hg7 hn7)
          | (refine step_append_lies _ (by rfl) _ _ _ (by with_reducible rfl) B 30 i0 _ 1 24 Try.underlying24 HI0.out HZ0.out HZ1.out HZ2.out rfl (by omega) (.slice (some ⟨g, 0, none⟩) (k) (cap)) (k) (vs.take (k)) (by rfl) (by first | exact OWN3.alloc _ | exact (OWN3.alloc _).drew) ⟨w3.heap.size, 0, none⟩ 1 1 [.slice au nu cu] (by rfl) (by rfl) (World.news_of_block (cs := #[.slice au nu cu]) (t := 30) (fr := (0, 0)) (heap_alloc_new w3 _)) (by simp [Value.oneCell']) (by omega) (by unfold maxLen; omega) (by omega) (by simp; omega) (w3.heap.size + 1) (by simp) ?_; intro g5 cap5 w5 ho5 hg5 hat5 hlt5; have hz5 : w3.heap.size + 1 ≤ w5.heap.size := (by have hq := hg5.size; simp at hq; omega); have CELLS5 : ∀ i u, (vs.drop (k))[i]? = some u → w5.cell? ((⟨g2, 0, none⟩ : Addr).add i) = some u := fun i u h => hg5.cell (((below1 w3 (.cells #[.slice au nu cu] 30)).cell (p := (⟨g2, 0, none⟩ : Addr).add i) (by rw [addr_add0]; exact Nat.lt_of_lt_of_le hg2u hs3)).trans (CELLS3 i u h)) (by rw [addr_add0]; exact hne))
          | (refine step_append_I (by rfl) _ _ (by with_reducible rfl) (by rfl) (by rfl) A2 A1 (by have := HR2.out; simp; omega) (by simp) ?_; intro au nu cu w3 hnu ko3 hg3; have B3 := undrew1 (Below.grown (below1 w2.drew (.cells #[] 3)) hg3 (by simp) (fun k hk => (World.ownsRow.lt A2 k hk).1)); have hs3 := B3.size; have OWN3 := own_take (k := k) (HO2.out.kept B3).1 (by rw [← HN.out]; omega); have CELLS3 : ∀ i u, (vs.drop (k))[i]? = some u → w3.cell? ((⟨g2, 0, none⟩ : Addr).add i) = some u := fun i u h => (B3.cell (p := (⟨g2, 0, none⟩ : Addr).add i) (by rw [addr_add0]; exact hg2u)).trans (HC2.out i u h)))
        have PF := put_fin HO.out.rows (by omega) (below_then HB2.out hs2 B3) ko3.is (Nat.le_refl _) OWN3 hg5 ho5 hg7 ho7 HVD.out (by rw [HVL.out, ← HN.out]; omega) (fun e => by have := hn7.1 e; simp at this)
        have PF1 := Lib.hid PF.1
        have PF2 := Lib.hid PF.2
        have PT := Lib.hid (show PutOf ls r (ls.take (k) ++ r :: ls.drop (k)) from .inr ⟨k, by rw [← HN.out]; omega, rfl, fun i h1 h2 => HB.out i h1 (by rw [HN.out]; exact h2), HEX.out⟩)
        clear PF ho7 hg7 hn7 ho5 hg5 hat5 hlt5 OWN3 CELLS3 CELLS5 B3 ko3 hg3 hnu A1 A2
        go_wp2
        go_ret
        exact ⟨_, _, _, rfl, PF1.out, PT.out, PF2.out⟩
    case' neg =>
      obtain ⟨j, rfl⟩ : ∃ j, k = j + 1 := ⟨k - 1, by omega⟩
      have hc : wr.cell? ⟨g, j, none⟩ = some (vs.getD j (.slice none 0 0)) := by rw [HW.out]; exact HC.out j (by omega)
      have hrj := (HROW.out j (by omega)).read
      have Q1 := l2Before_any r (ls.getD j []) (.slice ar 2 cr) _ hb w.heap.size wr (by rw [HW.out]; exact HR.out) (by rw [HW.out]; exact hrj) HR2.out (HL2.out j (by omega))
      have Q2 := fun d => l2Same_any (ls.getD j []) r _ (.slice ar 2 cr) w.heap.size hb (wr.drewN d) (by rw [HW.out]; exact hrj) (by rw [HW.out]; exact HR.out)
      obtain ⟨aj, cj, hvj, -⟩ := id hrj
      rw [HL2.out j (by omega)] at hvj
      rw [hvj] at hc Q1 Q2
      have HCD := Lib.hid (fun d => (show (wr.drewN d).cell? _ = _ from hc))
      have hpf : ptOf (ls.getD j []) = pf ls j := rfl
      rw [hpf] at Q1
      by_cases hlt' : ltP (ptOf r) (pf ls j)
      case pos =>
        rw [decide_eq_true hlt'] at Q1
        have HB' := Lib.hid (show ∀ i, j ≤ i → i < n → ltP (ptOf r) (pf ls i) from fun i h1 h2 => by
          by_cases e : i = j
          · rw [e]; exact hlt'
          · exact HB.out i (by omega) h2)
        clear hlt' hpf hvj hrj Q2
        go_wp2_with (go_at_call 151; (with_reducible refine Q1.mono ?_); rintro e w' ⟨rfl, d1, rfl⟩)
        go_roundw
        case rel => exact ⟨d + d1, j, by omega, by go_num, Lib.hid (by rw [HW.out, World.drewN_drewN]), HB'⟩
        case measure => simp [intOf]
      rw [decide_eq_false hlt'] at Q1
      by_cases he : ls.getD j [] = r
      case pos =>
        rw [decide_eq_true he] at Q2
        have HP := Lib.hid (show PutOf ls r ls from .inl ⟨rfl, j, by rw [← HN.out]; omega, he⟩)
        clear hlt' hpf hvj hrj he
        go_wp2_with (first | (go_at_call 151; (with_reducible refine Q1.mono ?_); rintro e w' ⟨rfl, d1, rfl⟩; have hc1 := HCD.out d1) | (go_at_call 104; (with_reducible refine (Q2 _).mono ?_); rintro e w' ⟨rfl, d2, rfl⟩))
        go_ret
        exact ⟨_, vs, ls, rfl, by rw [HW.out, HN.out]; exact HO.out, HP.out, by rw [HW.out]; simp only [World.drewN_drewN]; exact below_draws _ _ _⟩
      rw [decide_eq_false he] at Q2
      have HEX := Lib.hid (show 0 < j + 1 → ¬ ltP (ptOf r) (pf ls (j + 1 - 1)) ∧ ls.getD (j + 1 - 1) [] ≠ r from fun h => ⟨hlt', he⟩)
      clear hlt' hpf hvj hrj he hk0
      go_wp2_with (go_at_call 151; (with_reducible refine Q1.mono ?_); rintro e w' ⟨rfl, d1, rfl⟩; have hc1 := HCD.out d1)
      refine (Q2 _).mono ?_
      rintro e w1 ⟨rfl, d2, hw1⟩
      have HW1 := Lib.hid (show w1 = w.drewN (d + d1 + d2) by rw [hw1, HW.out]; simp only [World.drewN_drewN])
      clear hw1 Q1 Q2 hc HCD hc1 HW
      have HBW := Lib.hid (show Below w.heap.size w w1 from by rw [HW1.out]; exact below_draws _ _ _)
      have HS1 := Lib.hid (show w1.heap.size = w.heap.size by rw [HW1.out]; rfl)
      have HVD := Lib.hid (show (vs.drop (j + 1)).length = n - (j + 1) by rw [List.length_drop, HVL.out, HN.out])
      have HONE := Lib.hid (show ∀ u ∈ vs.drop (j + 1), u.oneCell' = true from fun u hu => HONE0.out u (List.mem_of_mem_drop hu))
      by_cases hck : cap = j + 1
      case pos =>
        have hnk : n = j + 1 := by omega
        have HV0 := Lib.hid (show (vs.drop (j + 1)).length = 0 * 1 by rw [HVD.out]; omega)
        have HNW := Lib.hid (show ∀ (ad : Addr) (W : World), ∀ jj u, (vs.drop (j + 1))[jj]? = some u → W.cell? (ad.add jj) = some u from fun _ _ jj u h => by
          rw [List.drop_of_length_le (by rw [HVL.out, ← HN.out]; omega)] at h; simp at h)
        clear hnk
        go_wp2_with (at_builtin; refine wpList_append_own _ rfl _ _ 24 rfl w1.heap.size 30 i0 (.slice none 0 0) 1 24 Try.underlying24 HI0.out HZ0.out HZ1.out HZ2.out rfl (by decide) _ 0 [] rfl (World.ownsRow_lit w1 #[] 0 (Nat.le_refl _) (by simp [maxLen]) rfl) _ _ _ (vs.drop (j + 1)) rfl (HVD.out.trans (Nat.mul_one _).symm) (by first | exact HNW.out | exact HNW.out _ _) HONE.out (by unfold maxLen; omega) (by omega) (by simp) ?_)
        intro v6 w2 ho2 hg2 hn2
        obtain ⟨g2, cap2, rfl, hg2l, hg2u⟩ := own_form ho2 (fun e => by first | exact hn2 e | (have := hn2.1 e; simp at this))
        have c2 := (below1 w1 (.cells #[] 30)).grown hg2 (by simp) (fun k hk => by simp [Value.ownBlock] at hk; omega)
        have HB2 := Lib.hid (below_then HBW.out HBW.out.size c2)
        have hs2 := HB2.out.size
        have HO2 := Lib.hid (HO.out.kept HB2.out)
        have HC2 := Lib.hid (fun j u h => World.ownsRow.cells ho2 (g := g2) rfl j u h)
        have hne : some g2 ≠ some g := fun e => by injection e with e; have := HS1.out; omega
        have HRW := Lib.hid (fun W (B : Below w2.heap.size w2 W) => (HR.out.keep HB2.out hhb).keep B (by omega))
        clear c2 ho2 hg2 hn2 HNW
        have q1 : (0 : Int) ≤ (j : Int) + 1 := by omega
        have q2 : (j : Int) + 1 ≤ (cap : Int) := by omega
        have q3 : ((j : Int) + 1).toNat = j + 1 := by omega
        subst cap
        go_wp2_with fail
        have A1 : ISr (w2.drew.alloc (.cells #[] 3)) hb (.slice ar 2 cr) r := HRW.out _ (Below.trans (below_draws _ w2 1) (below1 w2.drew _))
        have A2 : OwnI (w2.drew.alloc (.cells #[] 3)) w2.heap.size (.slice (some ⟨w2.heap.size, 0, none⟩) 0 0) [] := OwnI.lit0 w2.drew w2.heap.size (Nat.le_refl _)
        go_region_held3 (fun _ => True) (trivial) (first
          | (refine step_append_own' (by rfl) _ _ _ (by with_reducible rfl) B 30 i0 _ 1 24 Try.underlying24 HI0.out HZ0.out HZ1.out HZ2.out rfl (by omega) (.slice (some ⟨g5, 0, none⟩) (j + 1 + 1) cap5) (j + 1 + 1) (vs.take (j + 1) ++ [.slice au nu cu]) (by rfl) ho5 ⟨g2, 0, none⟩ 0 _ (vs.drop (j + 1)) (by rfl) HV0.out CELLS5 HONE.out (by unfold maxLen; omega) (by omega) (by omega) ?_; intro v7 w7 ho7 hg7 hn7)
          | (refine step_append_lies _ (by rfl) _ _ _ (by with_reducible rfl) B 30 i0 _ 1 24 Try.underlying24 HI0.out HZ0.out HZ1.out HZ2.out rfl (by omega) (.slice (some ⟨g, 0, none⟩) (j + 1) (j + 1)) (j + 1) (vs.take (j + 1)) (by rfl) (by first | exact OWN3.alloc _ | exact (OWN3.alloc _).drew) ⟨w3.heap.size, 0, none⟩ 1 1 [.slice au nu cu] (by rfl) (by rfl) (World.news_of_block (cs := #[.slice au nu cu]) (t := 30) (fr := (0, 0)) (heap_alloc_new w3 _)) (by simp [Value.oneCell']) (by omega) (by unfold maxLen; omega) (by omega) (by simp; omega) (w3.heap.size + 1) (by simp) ?_; intro g5 cap5 w5 ho5 hg5 hat5 hlt5; have hz5 : w3.heap.size + 1 ≤ w5.heap.size := (by have hq := hg5.size; simp at hq; omega); have CELLS5 : ∀ i u, (vs.drop (j + 1))[i]? = some u → w5.cell? ((⟨g2, 0, none⟩ : Addr).add i) = some u := fun i u h => hg5.cell (((below1 w3 (.cells #[.slice au nu cu] 30)).cell (p := (⟨g2, 0, none⟩ : Addr).add i) (by rw [addr_add0]; exact Nat.lt_of_lt_of_le hg2u hs3)).trans (CELLS3 i u h)) (by rw [addr_add0]; exact hne))
          | (refine step_append_I (by rfl) _ _ (by with_reducible rfl) (by rfl) (by rfl) A2 A1 (by have := HR2.out; simp; omega) (by simp) ?_; intro au nu cu w3 hnu ko3 hg3; have B3 := undrew1 (Below.grown (below1 w2.drew (.cells #[] 3)) hg3 (by simp) (fun k hk => (World.ownsRow.lt A2 k hk).1)); have hs3 := B3.size; have OWN3 := own_take (k := j + 1) (HO2.out.kept B3).1 (by rw [← HN.out]; omega); have CELLS3 : ∀ i u, (vs.drop (j + 1))[i]? = some u → w3.cell? ((⟨g2, 0, none⟩ : Addr).add i) = some u := fun i u h => (B3.cell (p := (⟨g2, 0, none⟩ : Addr).add i) (by rw [addr_add0]; exact hg2u)).trans (HC2.out i u h)))
        have PF := put_fin HO.out.rows (by omega) (below_then HB2.out hs2 B3) ko3.is (Nat.le_refl _) OWN3 hg5 ho5 hg7 ho7 HV0.out (by rw [HVL.out, ← HN.out]; omega) (fun e => by have := hn7.1 e; simp at this)
        have PF1 := Lib.hid PF.1
        have PF2 := Lib.hid PF.2
        have PT := Lib.hid (show PutOf ls r (ls.take (j + 1) ++ r :: ls.drop (j + 1)) from .inr ⟨j + 1, by rw [← HN.out]; omega, rfl, fun i h1 h2 => HB.out i h1 (by rw [HN.out]; exact h2), HEX.out⟩)
        clear PF ho7 hg7 hn7 ho5 hg5 hat5 hlt5 OWN3 CELLS3 CELLS5 B3 ko3 hg3 hnu A1 A2
        go_wp2
        go_ret
        exact ⟨_, _, _, rfl, PF1.out, PT.out, PF2.out⟩
      case neg =>
        have HNW := Lib.hid (show ∀ jj u, (vs.drop (j + 1))[jj]? = some u → (w1.alloc (.cells #[] 30)).cell? ((⟨g, j + 1, none⟩ : Addr).add jj) = some u from fun jj u h => by
          have h0 := HD.out (j + 1) jj u h
          rw [addr_add0] at h0 ⊢
          exact ((HBW.out.trans ((below1 w1 (.cells #[] 30)).mono (by rw [HS1.out]; exact Nat.le_refl _))).cell (p := ⟨g, j + 1 + jj, none⟩) hlt.2).trans h0)
        go_wp2_with (at_builtin; refine wpList_append_own _ rfl _ _ 24 rfl w1.heap.size 30 i0 (.slice none 0 0) 1 24 Try.underlying24 HI0.out HZ0.out HZ1.out HZ2.out rfl (by decide) _ 0 [] rfl (World.ownsRow_lit w1 #[] 0 (Nat.le_refl _) (by simp [maxLen]) rfl) _ _ _ (vs.drop (j + 1)) rfl (HVD.out.trans (Nat.mul_one _).symm) (by first | exact HNW.out | exact HNW.out _ _) HONE.out (by unfold maxLen; omega) (by omega) (by simp) ?_)
        intro v6 w2 ho2 hg2 hn2
        obtain ⟨g2, cap2, rfl, hg2l, hg2u⟩ := own_form ho2 (fun e => by first | exact hn2 e | (have := hn2.1 e; simp at this))
        have c2 := (below1 w1 (.cells #[] 30)).grown hg2 (by simp) (fun k hk => by simp [Value.ownBlock] at hk; omega)
        have HB2 := Lib.hid (below_then HBW.out HBW.out.size c2)
        have hs2 := HB2.out.size
        have HO2 := Lib.hid (HO.out.kept HB2.out)
        have HC2 := Lib.hid (fun j u h => World.ownsRow.cells ho2 (g := g2) rfl j u h)
        have hne : some g2 ≠ some g := fun e => by injection e with e; have := HS1.out; omega
        have HRW := Lib.hid (fun W (B : Below w2.heap.size w2 W) => (HR.out.keep HB2.out hhb).keep B (by omega))
        clear c2 ho2 hg2 hn2 HNW
        have q1 : (0 : Int) ≤ (j : Int) + 1 := by omega
        have q2 : (j : Int) + 1 ≤ (cap : Int) := by omega
        have q3 : ((j : Int) + 1).toNat = j + 1 := by omega
        clear hck
        go_wp2_with fail
        have A1 : ISr (w2.drew.alloc (.cells #[] 3)) hb (.slice ar 2 cr) r := HRW.out _ (Below.trans (below_draws _ w2 1) (below1 w2.drew _))
        have A2 : OwnI (w2.drew.alloc (.cells #[] 3)) w2.heap.size (.slice (some ⟨w2.heap.size, 0, none⟩) 0 0) [] := OwnI.lit0 w2.drew w2.heap.size (Nat.le_refl _)
        go_region_held3 (fun _ => True) (trivial) (first
          | (refine step_append_own' (by rfl) _ _ _ (by with_reducible rfl) B 30 i0 _ 1 24 Try.underlying24 HI0.out HZ0.out HZ1.out HZ2.out rfl (by omega) (.slice (some ⟨g5, 0, none⟩) (j + 1 + 1) cap5) (j + 1 + 1) (vs.take (j + 1) ++ [.slice au nu cu]) (by rfl) ho5 ⟨g2, 0, none⟩ _ _ (vs.drop (j + 1)) (by rfl) (HVD.out.trans (Nat.mul_one _).symm) CELLS5 HONE.out (by unfold maxLen; omega) (by omega) (by omega) ?_; intro v7 w7 ho7 hg7 hn7)
          | (refine step_append_lies _ (by rfl) _ _ _ (by with_reducible rfl) B 30 i0 _ 1 24 Try.underlying24 HI0.out HZ0.out HZ1.out HZ2.out rfl (by omega) (.slice (some ⟨g, 0, none⟩) (j + 1) (cap)) (j + 1) (vs.take (j + 1)) (by rfl) (by first | exact OWN3.alloc _ | exact (OWN3.alloc _).drew) ⟨w3.heap.size, 0, none⟩ 1 1 [.slice au nu cu] (by rfl) (by rfl) (World.news_of_block (cs := #[.slice au nu cu]) (t := 30) (fr := (0, 0)) (heap_alloc_new w3 _)) (by simp [Value.oneCell']) (by omega) (by unfold maxLen; omega) (by omega) (by simp; omega) (w3.heap.size + 1) (by simp) ?_; intro g5 cap5 w5 ho5 hg5 hat5 hlt5; have hz5 : w3.heap.size + 1 ≤ w5.heap.size := (by have hq := hg5.size; simp at hq; omega); have CELLS5 : ∀ i u, (vs.drop (j + 1))[i]? = some u → w5.cell? ((⟨g2, 0, none⟩ : Addr).add i) = some u := fun i u h => hg5.cell (((below1 w3 (.cells #[.slice au nu cu] 30)).cell (p := (⟨g2, 0, none⟩ : Addr).add i) (by rw [addr_add0]; exact Nat.lt_of_lt_of_le hg2u hs3)).trans (CELLS3 i u h)) (by rw [addr_add0]; exact hne))
          | (refine step_append_I (by rfl) _ _ (by with_reducible rfl) (by rfl) (by rfl) A2 A1 (by have := HR2.out; simp; omega) (by simp) ?_; intro au nu cu w3 hnu ko3 hg3; have B3 := undrew1 (Below.grown (below1 w2.drew (.cells #[] 3)) hg3 (by simp) (fun k hk => (World.ownsRow.lt A2 k hk).1)); have hs3 := B3.size; have OWN3 := own_take (k := j + 1) (HO2.out.kept B3).1 (by rw [← HN.out]; omega); have CELLS3 : ∀ i u, (vs.drop (j + 1))[i]? = some u → w3.cell? ((⟨g2, 0, none⟩ : Addr).add i) = some u := fun i u h => (B3.cell (p := (⟨g2, 0, none⟩ : Addr).add i) (by rw [addr_add0]; exact hg2u)).trans (HC2.out i u h)))
        have PF := put_fin HO.out.rows (by omega) (below_then HB2.out hs2 B3) ko3.is (Nat.le_refl _) OWN3 hg5 ho5 hg7 ho7 HVD.out (by rw [HVL.out, ← HN.out]; omega) (fun e => by have := hn7.1 e; simp at this)
        have PF1 := Lib.hid PF.1
        have PF2 := Lib.hid PF.2
        have PT := Lib.hid (show PutOf ls r (ls.take (j + 1) ++ r :: ls.drop (j + 1)) from .inr ⟨j + 1, by rw [← HN.out]; omega, rfl, fun i h1 h2 => HB.out i h1 (by rw [HN.out]; exact h2), HEX.out⟩)
        clear PF ho7 hg7 hn7 ho5 hg5 hat5 hlt5 OWN3 CELLS3 CELLS5 B3 ko3 hg3 hnu A1 A2
        go_wp2
        go_ret
        exact ⟨_, _, _, rfl, PF1.out, PT.out, PF2.out⟩
end Go.Proofs.Ytehhoplenloocaa
