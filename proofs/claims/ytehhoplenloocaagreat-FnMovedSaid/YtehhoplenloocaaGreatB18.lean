/- B18: texts in one: HerI HerA HerO HerS HerB. -/
import Derived.Test.YtehhoplenloocaaGreatB17
import Derived.Deep.RegionHeld3
import Derived.StillTailTactics
import Derived.BigQuiet
/- Hermite's form: the program's walk. -/
namespace Go.Proofs.YtehhoplenloocaaGreat
open Go.RowKit
set_option linter.unusedVariables false
set_option linter.unusedSimpArgs false

theorem RowsW.far {w : World} {lo hi b off n : Nat} {V : Nat → Value} {cur : Nat → List Int} (h : RowsW w lo hi b off n V cur) {i j : Nat} (hi' : i < n) (hj : j < n) (hij : i ≠ j) {br : Nat} (hb : blkOf (V j) = some br) : blkOf (V i) = none ∨ blkOf (V i) ≠ some br := by
  rcases Nat.lt_or_ge i j with g | g
  · rcases h.apart i j g hj with e | e
    · rw [hb] at e; cases e
    · rw [hb] at e; exact .inr fun e' => e e'.symm
  · have := h.apart j i (by omega) hi'
    rwa [hb] at this
/-- one row has been written by a callee -/
theorem RowsW.row1 {w w' : World} {lo hi b off n k br or' cr m : Nat} {V : Nat → Value} {cur : Nat → List Int} (h : RowsW w lo hi b off n V cur) (hk : k < n) (hv : V k = .slice (some ⟨br, or', none⟩) m cr) (hm : 0 < m) {l : List Int} (hl : l.length = m) (hcl : (cur k).length = m)
    (hbk : BK w' br or' m 3 (fun i => .int .i64 (l.getD i 0))) (hg : w.grownBy w' (some br)) : RowsW w' lo hi b off n V (fun i => if i = k then l else cur i) ∧ lo ≤ br := by
  obtain ⟨br', or2, cr', hv', hlo, hhi, hne, -⟩ := h.at hk (by omega)
  rw [hv] at hv'
  injection hv' with e1 e2 e3
  injection e1 with e1
  injection e1 with e1 e4
  subst e1 e4 e3
  have hblk : blkOf (V k) = some br := by rw [hv]; exact blkOf_some _ _ _ _ hm
  refine ⟨⟨h.outer.of_block (hg.block b h.outer.lt (by intro e; injection e with e; exact hne e.symm)), fun i hi => ?_, h.apart⟩, hlo⟩
  by_cases e : i = k
  · subst e
    rw [if_pos rfl]
    obtain ⟨a, cap, hva, l1, l2, -⟩ := id (h.row i hi)
    rw [hv] at hva
    injection hva with _ hva2 hva
    subst hva
    refine ⟨_, cr, by rw [hv, hl], by rw [hl]; omega, l2, fun _ => ⟨br, or', rfl, hlo, hhi, ?_⟩⟩
    rw [hl]; exact hbk
  · rw [if_neg e]
    exact (h.row i hi).grown hg (h.far hi hk e hblk)
def swF {α : Type} (k r : Nat) (f : Nat → α) (i : Nat) : α := if i = k then f r else if i = r then f k else f i
/-- two rows have changed their places -/
theorem RowsW.swap {w : World} {lo hi b off n k r : Nat} {V : Nat → Value} {cur : Nat → List Int} (h : RowsW w lo hi b off n V cur) (hk : k < n) (hr : r < n) (hkr : k ≠ r) (hl : ∀ i, i < n → 0 < (cur i).length) :
    RowsW ((w.setCell ⟨b, off + r, none⟩ (V k)).setCell ⟨b, off + k, none⟩ (V r)) lo hi b off n (swF k r V) (swF k r cur) := by
  have hg : w.grownBy ((w.setCell ⟨b, off + r, none⟩ (V k)).setCell ⟨b, off + k, none⟩ (V r)) (some b) := by
    refine ⟨rfl, rfl, rfl, by simp, fun i hi hne' => ?_⟩
    have hn : i ≠ b := by intro e; apply hne'; rw [e]
    rw [Below.heap_setCell _ _ _ _ hn, Below.heap_setCell _ _ _ _ hn]
  have hrow : ∀ i, i < n → IS ((w.setCell ⟨b, off + r, none⟩ (V k)).setCell ⟨b, off + k, none⟩ (V r)) lo hi (V i) (cur i) := fun i hi => by
    obtain ⟨br, or', cr, hv, -, -, hne, -⟩ := h.at hi (hl i hi)
    exact (h.row i hi).grown hg (.inr (by rw [hv, blkOf_some _ _ _ _ (hl i hi)]; intro e; injection e with e; exact hne e))
  refine ⟨?_, fun i hi => ?_, fun i j hij hj => ?_⟩
  · exact ((h.outer.set hr (V k)).set hk (V r)).congr fun i hi => rfl
  · unfold swF
    by_cases e : i = k
    · rw [if_pos e, if_pos e]; exact hrow r hr
    · rw [if_neg e, if_neg e]
      by_cases e2 : i = r
      · rw [if_pos e2, if_pos e2]; exact hrow k hk
      · rw [if_neg e2, if_neg e2]; exact hrow i hi
  · have hap : ∀ x y, x < n → y < n → x ≠ y → blkOf (V y) = none ∨ blkOf (V y) ≠ blkOf (V x) := fun x y hx hy hxy => by
      obtain ⟨br, or', cr, hv, -⟩ := h.at hx (hl x hx)
      have hb : blkOf (V x) = some br := by rw [hv]; exact blkOf_some _ _ _ _ (hl x hx)
      rw [hb]; exact h.far hy hx (Ne.symm hxy) hb
    have hs : ∀ i, swF k r V i = V (swF k r id i) := fun i => by unfold swF; split <;> (try split) <;> rfl
    have hl2 : ∀ i, i < n → swF k r id i < n := fun i hi => by unfold swF; simp only [id]; split <;> (try split) <;> omega
    have hne : swF k r id i ≠ swF k r id j := by unfold swF; simp only [id]; split <;> split <;> (try split) <;> (try split) <;> omega
    rw [hs i, hs j]
    exact hap _ _ (hl2 i (by omega)) (hl2 j hj) hne
/-- a number of a row of rows, as the world has it -/
def rdM (w : World) (b off r k : Nat) : Nat :=
  match w.cell? ⟨b, off + r, none⟩ with
  | some (.slice (some a) _ _) => match w.cell? ⟨a.block, a.off + k, none⟩ with
    | some (.int _ x) => x.natAbs
    | _ => 0
  | _ => 0
theorem rdM_of {w : World} {b off r k br or' m cr : Nat} {x : Int} (h1 : w.cell? ⟨b, off + r, none⟩ = some (.slice (some ⟨br, or', none⟩) m cr)) (h2 : w.cell? ⟨br, or' + k, none⟩ = some (.int .i64 x)) : rdM w b off r k = x.natAbs := by
  unfold rdM; rw [h1]; simp only [h2]
def MR (w : World) (lo hi b off n : Nat) (M : List (List Int)) : Prop := ∃ V, RowsW w lo hi b off n V (fun i => M.getD i [])
theorem MR.drew {w : World} {lo hi b off n : Nat} {M : List (List Int)} (h : MR w lo hi b off n M) : MR w.drew lo hi b off n M := by
  obtain ⟨V, h⟩ := h
  exact ⟨V, h.outer.of_block rfl, fun i hi' => (h.row i hi').keep (below_draws hi _ 1) (Nat.le_refl _), h.apart⟩
theorem MR.row {w : World} {lo hi b off n : Nat} {M : List (List Int)} {V : Nat → Value} (h : RowsW w lo hi b off n V (fun i => M.getD i [])) (hs : Sq n M) {k : Nat} (hk : k < n) :
    ∃ br or' cr, V k = .slice (some ⟨br, or', none⟩) n cr ∧ w.cell? ⟨b, off + k, none⟩ = some (.slice (some ⟨br, or', none⟩) n cr) ∧ lo ≤ br ∧ br < hi ∧ BK w br or' n 3 (fun i => .int .i64 ((M.getD k []).getD i 0)) ∧ ∀ j, j < n → w.cell? ⟨br, or' + j, none⟩ = some (.int .i64 (atM M k j)) := by
  obtain ⟨br, or', cr, hv, h1, h2, h3, h4⟩ := h.at hk (by show 0 < (M.getD k []).length; rw [hs.row k hk]; omega)
  have hv : V k = .slice (some ⟨br, or', none⟩) (M.getD k []).length cr := hv
  have h4 : BK w br or' (M.getD k []).length 3 (fun i => .int .i64 ((M.getD k []).getD i 0)) := h4
  rw [hs.row k hk] at hv h4
  exact ⟨br, or', cr, hv, by rw [← hv]; exact h.outer.cell hk, h1, h2, h4, fun j hj => h4.cell hj⟩
theorem swF_step {n k r : Nat} {Q : List (List Int)} (h : Sq n Q) (hk : k < n) (hr : r < n) (hkr : k ≠ r) (q : Int) (i : Nat) : swF k r (fun i => if i = k then subW (Q.getD k []) (Q.getD r []) q else Q.getD i []) i = (stepQ k r q Q).getD i [] := by
  unfold swF stepQ
  rw [getD_setR (by rw [List.length_set, h.len]; exact hr), getD_setR (by rw [h.len]; exact hk)]
  by_cases e : i = k
  · subst e
    rw [if_pos rfl, if_neg hkr, if_pos rfl]
    show (if r = i then _ else _) = _
    rw [if_neg (Ne.symm hkr)]
  · rw [if_neg e]
    by_cases e2 : i = r
    · subst e2
      rw [if_pos rfl, if_pos rfl]
      show (if k = k then _ else _) = _
      rw [if_pos rfl]
    · rw [if_neg e2, if_neg e2, if_neg e]
      show (if i = k then _ else _) = _
      rw [if_neg e]
theorem subW_neg (a : List Int) : subW a a 2 = neW a := by
  apply List.ext_getElem?
  intro i
  unfold subW neW
  rw [List.getElem?_zipWith, List.getElem?_map]
  cases a[i]? with
  | none => rfl
  | some x =>
    show some (wrap64 (x - wrap64 (x * 2))) = some (wrap64 (x * -1))
    congr 1
    unfold wrap64; omega
theorem copyInts_row {n : Nat} (l : List Int) (hn : l.length = n) (h0 : 0 < n) (h3 : n ≤ 3) (v : Value) (hb : Nat) (w : World) (h : ISr w hb v l) :
    Calls Tryz.prog 62 #[v] w fun e w' => ∃ bc oc cc, e = .returned (.slice (some ⟨bc, oc, none⟩) n cc) ∧ w.heap.size ≤ bc ∧ bc < w'.heap.size ∧ (∀ i, i < n → w'.cell? ⟨bc, oc + i, none⟩ = some (.int .i64 (l.getD i 0))) ∧ Below w.heap.size w w' :=
  (copyInts_any l v hb w h (by omega)).mono fun e w' ⟨u, he, ho, hbl⟩ => by
    rcases ho.is.cases with ⟨e1, -⟩ | ⟨-, -, bc, oc, cc, hv, -, -, g1, g2, g3⟩
    · rw [e1] at hn; simp at hn; omega
    · rw [hn] at hv g3
      exact ⟨bc, oc, cc, by rw [he, hv], g1, g2, fun i hi => g3.cell hi, hbl⟩
theorem negS_no {k : Nat} {C : List (List Int)} (h : ¬ atM C k k < 0) : negS k C = C := by unfold negS; rw [if_neg h]
theorem negS_yes {k : Nat} {C : List (List Int)} (h : atM C k k < 0) : negS k C = C.set k (neW (C.getD k [])) := by unfold negS; rw [if_pos h]
end Go.Proofs.YtehhoplenloocaaGreat

/- The start of Hermite's form: a matrix whose determinant is not nought. -/
namespace Go.Proofs.YtehhoplenloocaaGreat
open Go.RowKit
set_option linter.unusedVariables false

theorem sqB_sq {n : Nat} {M : List (List Int)} (h : SqB n M) : Sq n M := ⟨h.len, fun i hi => (h.row i hi).1⟩
theorem dN_det {M : List (List Int)} (h : SqB M.length M) (h1 : 1 ≤ M.length) (h3 : M.length ≤ 3) : dN M = detM M := by
  unfold detM
  rcases (show M.length = 1 ∨ M.length = 2 ∨ M.length = 3 by omega) with e | e | e
  · rw [e] at h ⊢
    rw [detF_one h]
    obtain ⟨a, rfl⟩ := (sqB_sq h).one
    rfl
  · rw [e] at h ⊢
    rw [detF_two h]
    obtain ⟨a, b, c, d, rfl⟩ := (sqB_sq h).two
    rfl
  · rw [e] at h ⊢
    rw [detF_three h]
    obtain ⟨a, b, c, d, e, f, g, i, j, rfl⟩ := (sqB_sq h).three
    simp only [dN, det3, dd, List.getD_cons_zero, List.getD_cons_succ]
    try grind
theorem hi_start {M : List (List Int)} (hm : matB M = true) (hd : ¬ detO M = 0) : HI M.length 0 M := by
  have hs := matB_sq hm
  have hl := matB_len hm
  rw [detO_yes hm] at hd
  have hb := detM_bd hm
  refine ⟨sqB_sq hs, fun i j => ?_, fun c hc => by omega, fun t ht => ?_⟩
  · unfold atM
    by_cases hi : i < M.length
    · by_cases hj : j < (M.getD i []).length
      · have := allIn_at (hs.row i hi).2 j hj; omega
      · rw [List.getD_eq_getElem?_getD, List.getElem?_eq_none (by omega)]; simp
    · rw [show M.getD i [] = [] by rw [List.getD_eq_getElem?_getD, List.getElem?_eq_none (by omega)]; rfl]; simp
  · rw [dN_det hs hl.1 hl.2] at ht
    omega
end Go.Proofs.YtehhoplenloocaaGreat

/- HermiteOf: the program's walk. -/
namespace Go.Proofs.YtehhoplenloocaaGreat
open Go.RowKit
set_option linter.unusedVariables false
set_option linter.unusedSimpArgs false

def hofV (M : List (List Int)) : List (List Int) × Bool := if detO M = 0 then ([], false) else if matB (herM M) then (herM M, true) else ([], false)
theorem hofV_no {M : List (List Int)} (h : detO M = 0) : hofV M = ([], false) := by unfold hofV; rw [if_pos h]
theorem hofV_no2 {M : List (List Int)} (h : ¬ detO M = 0) (h2 : matB (herM M) = false) : hofV M = ([], false) := by unfold hofV; rw [if_neg h, h2]; rfl
theorem hofV_yes {M : List (List Int)} (h : ¬ detO M = 0) (h2 : matB (herM M) = true) : hofV M = (herM M, true) := by unfold hofV; rw [if_neg h, h2]; rfl
end Go.Proofs.YtehhoplenloocaaGreat

/- Hermite's form: the model's walk. -/
namespace Go.Proofs.YtehhoplenloocaaGreat
open Go.RowKit
set_option linter.unusedVariables false
set_option linter.unusedSimpArgs false

/-- a slice of the call's own of rows that are never written, laid open -/
structure RowsO (w : World) (lo b off n : Nat) (V : Nat → Value) (cur : Nat → List Int) : Prop where
  outer : BK w b off n 25 V
  row : ∀ i, i < n → IS w lo w.heap.size (V i) (cur i)
theorem RowsO.keep {w w' : World} {lo b off n : Nat} {V : Nat → Value} {cur : Nat → List Int} (h : RowsO w lo b off n V cur) (hb : Below w.heap.size w w') : RowsO w' lo b off n V cur :=
  ⟨h.outer.keep hb h.outer.lt, fun i hi => ((h.row i hi).keep hb (Nat.le_refl _)).mono (Nat.le_refl _) hb.size⟩
theorem RowsO.set {w : World} {lo b off n k : Nat} {V : Nat → Value} {cur : Nat → List Int} (h : RowsO w lo b off n V cur) (hk : k < n) {vr : Value} {r : List Int} (hr : IS w lo w.heap.size vr r) :
    RowsO (w.setCell ⟨b, off + k, none⟩ vr) lo b off n (fun i => if i = k then vr else V i) (fun i => if i = k then r else cur i) := by
  have hg : w.grownBy (w.setCell ⟨b, off + k, none⟩ vr) (some b) := ⟨rfl, rfl, rfl, by simp, fun i hi hne' => by
    rw [Below.heap_setCell _ _ _ _ (by intro e; apply hne'; rw [e])]⟩
  have hty : ∀ g, some b = some g → ∃ c e fr, w.heap[g]? = some (.cells c e fr) ∧ e ≠ 3 := fun g hg => by
    injection hg with hg
    subst hg
    obtain ⟨cs, e, -⟩ := h.outer
    exact ⟨cs, _, _, e, by decide⟩
  refine ⟨h.outer.set hk vr, fun i hi => ?_⟩
  have hsz : (w.setCell ⟨b, off + k, none⟩ vr).heap.size = w.heap.size := by simp
  rw [hsz]
  by_cases e : i = k
  · rw [if_pos e, if_pos e]; exact hr.grown_type hg hty
  · rw [if_neg e, if_neg e]; exact (h.row i hi).grown_type hg hty
theorem RowsO.congr {w : World} {lo b off n : Nat} {V : Nat → Value} {cur cur' : Nat → List Int} (h : RowsO w lo b off n V cur) (e : ∀ i, i < n → cur i = cur' i) : RowsO w lo b off n V cur' :=
  ⟨h.outer, fun i hi => by rw [← e i hi]; exact h.row i hi⟩
def MO (w : World) (lo b off n : Nat) (M : List (List Int)) : Prop := ∃ V, RowsO w lo b off n V (fun i => M.getD i [])
theorem MO.keep {w w' : World} {lo b off n : Nat} {M : List (List Int)} (h : MO w lo b off n M) (hb : Below w.heap.size w w') : MO w' lo b off n M := by
  obtain ⟨V, h⟩ := h; exact ⟨V, h.keep hb⟩
theorem MO.row {w : World} {lo b off n : Nat} {M : List (List Int)} {V : Nat → Value} (h : RowsO w lo b off n V (fun i => M.getD i [])) (hs : Sq n M) {k : Nat} (hk : k < n) :
    ∃ br or' cr, V k = .slice (some ⟨br, or', none⟩) n cr ∧ w.cell? ⟨b, off + k, none⟩ = some (.slice (some ⟨br, or', none⟩) n cr) ∧ lo ≤ br ∧ br < w.heap.size ∧ IS w lo w.heap.size (.slice (some ⟨br, or', none⟩) n cr) (M.getD k []) ∧ ∀ j, j < n → w.cell? ⟨br, or' + j, none⟩ = some (.int .i64 (atM M k j)) := by
  have hr := h.row k hk
  have hl := hs.row k hk
  rcases hr.cases with ⟨e, -⟩ | ⟨-, -, br, or', cr, hv, -, -, h1, h2, h3⟩
  · have e : M.getD k [] = [] := e
    rw [e] at hl; simp at hl; omega
  · have hv : V k = .slice (some ⟨br, or', none⟩) (M.getD k []).length cr := hv
    rw [hl] at hv
    have h3 : BK w br or' (M.getD k []).length 3 (fun i => .int .i64 ((M.getD k []).getD i 0)) := h3
    rw [hl] at h3
    rw [hv] at hr
    exact ⟨br, or', cr, hv, by rw [← hv]; exact h.outer.cell hk, h1, h2, hr, fun j hj => h3.cell hj⟩
theorem MO.of {w : World} {lo : Nat} {v : Value} {ls : List (List Int)} (h : ISS w lo w.heap.size v ls) (hn : 0 < ls.length) : ∃ b off cap, v = .slice (some ⟨b, off, none⟩) ls.length cap ∧ lo ≤ b ∧ b < w.heap.size ∧ ls.length ≤ cap ∧ cap ≤ maxLen ∧ MO w lo b off ls.length ls := by
  obtain ⟨b, off, cap, V, rfl, h1, h2, h3, h4, hw⟩ := RowsW.of h hn
  exact ⟨b, off, cap, rfl, h1, h2, h3, h4, V, hw.outer, hw.row⟩
theorem MO.read {w : World} {lo b off n cap : Nat} {M : List (List Int)} (h : MO w lo b off n M) (hn : M.length = n) (hc : n ≤ cap) (hm : cap ≤ maxLen) (hb : b < w.heap.size) : ISSr w w.heap.size (.slice (some ⟨b, off, none⟩) n cap) M := by
  obtain ⟨V, h⟩ := h
  subst hn
  exact ⟨_, cap, rfl, hc, hm, fun _ => ⟨b, off, V, rfl, hb, fun i hi => ⟨h.outer.cell hi, (h.row i hi).read⟩⟩⟩
theorem subW_mul (a b : List Int) (q : Int) : List.zipWith (fun x y => wrap64 (x - y)) a (b.map (fun x => wrap64 (x * q))) = subW a b q := by
  unfold subW; rw [List.zipWith_map_right]
end Go.Proofs.YtehhoplenloocaaGreat

/- Hermite's form is exact: no number wraps, the rows tell the same lattice, and the determinant stays up to its sign. Plain law. -/
namespace Go.Proofs.YtehhoplenloocaaGreat
open Go.RowKit
set_option linter.unusedVariables false
set_option linter.unusedSimpArgs false

/-- a whole combination of the (at most three) rows -/
def InL (M : List (List Int)) (z : Nat → Int) : Prop := ∃ a b c : Int, ∀ j, z j = a * atM M 0 j + b * atM M 1 j + c * atM M 2 j
theorem InL.congr {M : List (List Int)} {x y : Nat → Int} (h : InL M x) (e : ∀ j, x j = y j) : InL M y := by
  obtain ⟨a, b, c, h⟩ := h; exact ⟨a, b, c, fun j => by rw [← e j]; exact h j⟩
theorem InL.add {M : List (List Int)} {x y : Nat → Int} (h : InL M x) (k : InL M y) : InL M (fun j => x j + y j) := by
  obtain ⟨a, b, c, h⟩ := h
  obtain ⟨a', b', c', k⟩ := k
  exact ⟨a + a', b + b', c + c', fun j => by dsimp only; rw [h j, k j]; grind⟩
theorem InL.smul {M : List (List Int)} {x : Nat → Int} (q : Int) (h : InL M x) : InL M (fun j => q * x j) := by
  obtain ⟨a, b, c, h⟩ := h
  exact ⟨q * a, q * b, q * c, fun j => by dsimp only; rw [h j]; grind⟩
theorem InL.row (M : List (List Int)) {i : Nat} (hi : i < 3) : InL M (fun j => atM M i j) := by
  rcases (show i = 0 ∨ i = 1 ∨ i = 2 by omega) with rfl | rfl | rfl
  · exact ⟨1, 0, 0, fun j => by simp⟩
  · exact ⟨0, 1, 0, fun j => by simp⟩
  · exact ⟨0, 0, 1, fun j => by simp⟩
theorem InL.sub {M N : List (List Int)} {z : Nat → Int} (h : ∀ i, i < 3 → InL N (fun j => atM M i j)) (hz : InL M z) : InL N z := by
  obtain ⟨a, b, c, hz⟩ := hz
  exact ((((h 0 (by omega)).smul a).add ((h 1 (by omega)).smul b)).add ((h 2 (by omega)).smul c)).congr fun j => (hz j).symm
theorem InL.iff {M N : List (List Int)} (h : ∀ i, i < 3 → InL N (fun j => atM M i j)) (k : ∀ i, i < 3 → InL M (fun j => atM N i j)) (z : Nat → Int) : InL M z ↔ InL N z := ⟨InL.sub h, InL.sub k⟩

theorem Sq.out {n : Nat} {M : List (List Int)} (h : Sq n M) {i j : Nat} (hj : n ≤ j) : atM M i j = 0 := by
  unfold atM
  by_cases hi : i < n
  · rw [List.getD_eq_getElem?_getD, List.getElem?_eq_none (by rw [h.row i hi]; exact hj)]; rfl
  · rw [show M.getD i [] = [] by rw [List.getD_eq_getElem?_getD, List.getElem?_eq_none (by rw [h.len]; omega)]; rfl]; rfl
theorem Sq.out2 {n : Nat} {M : List (List Int)} (h : Sq n M) {i j : Nat} (hi : n ≤ i) : atM M i j = 0 := by
  unfold atM
  rw [show M.getD i [] = [] by rw [List.getD_eq_getElem?_getD, List.getElem?_eq_none (by rw [h.len]; omega)]; rfl]; rfl
theorem dN_at1 {M : List (List Int)} (h : Sq 1 M) : dN M = atM M 0 0 := by obtain ⟨a, rfl⟩ := h.one; rfl
theorem dN_at2 {M : List (List Int)} (h : Sq 2 M) : dN M = atM M 0 0 * atM M 1 1 - atM M 0 1 * atM M 1 0 := by obtain ⟨a, b, c, d, rfl⟩ := h.two; rfl
theorem dN_at3 {M : List (List Int)} (h : Sq 3 M) : dN M = atM M 0 0 * (atM M 1 1 * atM M 2 2 - atM M 1 2 * atM M 2 1) - atM M 0 1 * (atM M 1 0 * atM M 2 2 - atM M 1 2 * atM M 2 0) + atM M 0 2 * (atM M 1 0 * atM M 2 1 - atM M 1 1 * atM M 2 0) := by
  obtain ⟨a, b, c, d, e, f, g, i, j, rfl⟩ := h.three; rfl

/-- what a step of Euclid does, without the wrap -/
structure StepE (k r : Nat) (q : Int) (M N : List (List Int)) : Prop where
  ek : ∀ j, atM N k j = atM M r j
  er : ∀ j, atM N r j = atM M k j - atM M r j * q
  eo : ∀ i, i ≠ k → i ≠ r → ∀ j, atM N i j = atM M i j
theorem StepE.inl {k r : Nat} {q : Int} {M N : List (List Int)} (h : StepE k r q M N) (hk : k < 3) (hr : r < 3) (z : Nat → Int) : InL N z ↔ InL M z := by
  refine InL.iff (fun i hi => ?_) (fun i hi => ?_) z
  · by_cases e1 : i = r
    · subst e1
      exact ((InL.row M hk).add ((InL.row M hr).smul (-q))).congr fun j => by rw [h.er j]; grind
    · by_cases e2 : i = k
      · subst e2
        exact (InL.row M hr).congr fun j => (h.ek j).symm
      · exact (InL.row M hi).congr fun j => (h.eo i e2 e1 j).symm
  · by_cases e1 : i = r
    · subst e1
      exact (InL.row N hk).congr fun j => h.ek j
    · by_cases e2 : i = k
      · subst e2
        exact ((InL.row N hr).add ((InL.row N hk).smul q)).congr fun j => by rw [h.er j, h.ek j]; grind
      · exact (InL.row N hi).congr fun j => h.eo i e2 e1 j
theorem StepE.det {n k r : Nat} {q : Int} {M N : List (List Int)} (h : StepE k r q M N) (hm : Sq n M) (hn : Sq n N) (h3 : n ≤ 3) (hk : k < r) (hr : r < n) : dN N = -dN M := by
  rcases (show n = 1 ∨ n = 2 ∨ n = 3 by omega) with rfl | rfl | rfl
  · omega
  · obtain rfl : k = 0 := by omega
    obtain rfl : r = 1 := by omega
    rw [dN_at2 hm, dN_at2 hn, h.ek, h.ek, h.er, h.er]; grind
  · rw [dN_at3 hm, dN_at3 hn]
    rcases (show (k = 0 ∧ r = 1) ∨ (k = 0 ∧ r = 2) ∨ (k = 1 ∧ r = 2) by omega) with ⟨rfl, rfl⟩ | ⟨rfl, rfl⟩ | ⟨rfl, rfl⟩
    · rw [h.ek, h.ek, h.ek, h.er, h.er, h.er, h.eo 2 (by omega) (by omega), h.eo 2 (by omega) (by omega), h.eo 2 (by omega) (by omega)]; grind
    · rw [h.ek, h.ek, h.ek, h.er, h.er, h.er, h.eo 1 (by omega) (by omega), h.eo 1 (by omega) (by omega), h.eo 1 (by omega) (by omega)]; grind
    · rw [h.ek, h.ek, h.ek, h.er, h.er, h.er, h.eo 0 (by omega) (by omega), h.eo 0 (by omega) (by omega), h.eo 0 (by omega) (by omega)]; grind

theorem tdiv_small {x y B : Int} (hx : -B ≤ x ∧ x ≤ B) (hB : B ≤ 1000000000) : wrap64 (x.tdiv y) = x.tdiv y := by
  have h : (x.tdiv y).natAbs ≤ x.natAbs := by rw [Int.natAbs_tdiv]; exact Nat.div_le_self _ _
  exact wrap_id (by omega)
theorem num_step {x y z u B : Int} (hB : B ≤ 1000000000) (h0 : ¬ y = 0) (hx : -B ≤ x ∧ x ≤ B) (hz : -B ≤ z ∧ z ≤ B) (hu : -B ≤ u ∧ u ≤ B) (hd : -B ≤ z * y - u * x ∧ z * y - u * x ≤ B) :
    wrap64 (z - wrap64 (u * wrap64 (x.tdiv y))) = z - u * x.tdiv y ∧ -B ≤ z - u * x.tdiv y ∧ z - u * x.tdiv y ≤ B := by
  rw [tdiv_small hx hB]
  have e : x.tmod y = x - y * x.tdiv y := by have := Int.mul_tdiv_add_tmod x y; omega
  have hm := tmod_natAbs x y h0
  generalize x.tdiv y = q at *
  have key : y * (z - u * q) = (z * y - u * x) + u * x.tmod y := by rw [e]; grind
  have key2 : y.natAbs * (z - u * q).natAbs ≤ y.natAbs * B.toNat := by
    rw [← Int.natAbs_mul, key]
    refine Nat.le_trans (Int.natAbs_add_le _ _) ?_
    rw [Int.natAbs_mul]
    have h1 : u.natAbs * (x.tmod y).natAbs ≤ B.toNat * (y.natAbs - 1) := Nat.mul_le_mul (by omega) (by omega)
    have h2 : B.toNat * (y.natAbs - 1) + B.toNat = y.natAbs * B.toNat := by
      have : y.natAbs = (y.natAbs - 1) + 1 := by omega
      rw [this, Nat.add_mul, Nat.one_mul, Nat.add_sub_cancel, Nat.mul_comm]
    omega
  have key3 := Nat.le_of_mul_le_mul_left key2 (by omega)
  have b : -B ≤ z - u * q ∧ z - u * q ≤ B := by omega
  have c : wrap64 (u * q) = u * q := wrap_id (by omega)
  rw [c]
  exact ⟨wrap_id (by omega), b⟩
/-- two rows within bounds, whose determinants with the column k are within bounds too -/
structure PR (k r : Nat) (M : List (List Int)) (B : Int) : Prop where
  pk : ∀ j, -B ≤ atM M k j ∧ atM M k j ≤ B
  pr : ∀ j, -B ≤ atM M r j ∧ atM M r j ≤ B
  pd : ∀ j, -B ≤ atM M k j * atM M r k - atM M r j * atM M k k ∧ atM M k j * atM M r k - atM M r j * atM M k k ≤ B
theorem stepE {n k r : Nat} {M : List (List Int)} {B : Int} (hs : Sq n M) (hk : k < n) (hr : r < n) (hkr : k ≠ r) (hp : PR k r M B) (hB : B ≤ 1000000000) (h0 : ¬ atM M r k = 0) :
    StepE k r ((atM M k k).tdiv (atM M r k)) M (stepQ k r (qE k r M) M) ∧ PR k r (stepQ k r (qE k r M) M) B := by
  have hN := stepQ_sq hs hk hr (qE k r M)
  have hS : StepE k r ((atM M k k).tdiv (atM M r k)) M (stepQ k r (qE k r M) M) := by
    refine ⟨fun j => ?_, fun j => ?_, fun i hik hir j => ?_⟩
    · by_cases hj : j < n
      · rw [stepQ_at hs hk hr hkr _ _ hj, if_neg hkr, if_pos rfl]
      · rw [hs.out (by omega), hN.out (by omega)]
    · by_cases hj : j < n
      · rw [stepQ_at hs hk hr hkr _ _ hj, if_pos rfl]
        exact (num_step hB h0 (hp.pk k) (hp.pk j) (hp.pr j) (hp.pd j)).1
      · rw [hs.out (by omega), hs.out (by omega), hN.out (by omega)]; simp
    · by_cases hj : j < n
      · rw [stepQ_at hs hk hr hkr _ _ hj, if_neg hir, if_neg hik]
      · rw [hs.out (by omega), hN.out (by omega)]
  refine ⟨hS, ⟨fun j => ?_, fun j => ?_, fun j => ?_⟩⟩
  · rw [hS.ek]; exact hp.pr j
  · rw [hS.er]; exact (num_step hB h0 (hp.pk k) (hp.pk j) (hp.pr j) (hp.pd j)).2
  · rw [hS.ek, hS.er, hS.er, hS.ek]
    have := hp.pd j
    generalize (atM M k k).tdiv (atM M r k) = q
    have e : atM M r j * (atM M k k - atM M r k * q) - (atM M k j - atM M r j * q) * atM M r k = -(atM M k j * atM M r k - atM M r j * atM M k k) := by grind
    rw [e]; omega
/-- what stays -/
structure EX (n : Nat) (M0 M : List (List Int)) : Prop where
  sq : Sq n M
  inl : ∀ z, InL M z ↔ InL M0 z
  dt : dN M = dN M0 ∨ dN M = -dN M0
theorem EX.refl {n : Nat} {M : List (List Int)} (h : Sq n M) : EX n M M := ⟨h, fun _ => Iff.rfl, .inl rfl⟩
theorem EX.trans {n : Nat} {A B C : List (List Int)} (h : EX n A B) (k : EX n B C) : EX n A C :=
  ⟨k.sq, fun z => (k.inl z).trans (h.inl z), by rcases h.dt with e | e <;> rcases k.dt with e2 | e2 <;> rw [e2, e] <;> simp⟩
theorem EX.euc {n k r : Nat} {B : Int} (h3 : n ≤ 3) (hk : k < r) (hr : r < n) (hB : B ≤ 1000000000) : ∀ f (M : List (List Int)), Sq n M → PR k r M B → EX n M (eucM f k r M) ∧ PR k r (eucM f k r M) B ∧ ∀ i, i ≠ k → i ≠ r → ∀ j, atM (eucM f k r M) i j = atM M i j
  | 0, M, hs, hp => ⟨EX.refl hs, hp, fun _ _ _ _ => rfl⟩
  | f + 1, M, hs, hp => by
    unfold eucM
    split
    · exact ⟨EX.refl hs, hp, fun _ _ _ _ => rfl⟩
    · rename_i h0
      obtain ⟨h1, h2⟩ := stepE hs (by omega) hr (by omega) hp hB h0
      have hN := stepQ_sq hs (show k < n by omega) hr (qE k r M)
      obtain ⟨g1, g2, g3⟩ := EX.euc h3 hk hr hB f _ hN h2
      exact ⟨EX.trans ⟨hN, h1.inl (by omega) (by omega), .inr (h1.det hs hN h3 hk hr)⟩ g1, g2, fun i e1 e2 j => by rw [g3 i e1 e2 j, h1.eo i e1 e2 j]⟩
theorem EX.neg {n k : Nat} {M : List (List Int)} (h3 : n ≤ 3) (hk : k < n) (hs : Sq n M) (hb : ∀ j, -1000000000000000 ≤ atM M k j ∧ atM M k j ≤ 1000000000000000) :
    EX n M (negS k M) ∧ (∀ i, i ≠ k → ∀ j, atM (negS k M) i j = atM M i j) ∧ (∀ j, atM (negS k M) k j = atM M k j ∨ atM (negS k M) k j = -atM M k j) ∧ 0 ≤ atM (negS k M) k k := by
  unfold negS
  split
  · rename_i hl
    have hlen : k < M.length := by rw [hs.len]; exact hk
    have hne : ∀ i j, atM (M.set k (neW (M.getD k []))) i j = if i = k then -atM M k j else atM M i j := fun i j => by
      rw [atM_set hlen]
      split
      · have := hb j
        unfold neW
        unfold atM at this ⊢
        generalize M.getD k [] = row at *
        rw [List.getD_eq_getElem?_getD] at this
        rw [List.getD_eq_getElem?_getD, List.getD_eq_getElem?_getD, List.getElem?_map]
        cases e : row[j]? with
        | none => rfl
        | some x =>
          rw [e] at this
          show wrap64 (x * -1) = -x
          have h2 : -1000000000000000 ≤ x ∧ x ≤ 1000000000000000 := this
          rw [wrap_id (by omega)]; omega
      · rfl
    have hN : Sq n (M.set k (neW (M.getD k []))) := hs.set hk (by rw [neW_len]; exact hs.row k hk)
    generalize hNN : M.set k (neW (M.getD k [])) = N at *
    refine ⟨⟨hN, fun z => InL.iff (fun i hi => ?_) (fun i hi => ?_) z, .inr ?_⟩, fun i e j => by rw [hne, if_neg e], fun j => .inr (by rw [hne, if_pos rfl]), by rw [hne, if_pos rfl]; omega⟩
    · by_cases e : i = k
      · subst e; exact ((InL.row M hi).smul (-1)).congr fun j => by rw [hne, if_pos rfl]; omega
      · exact (InL.row M hi).congr fun j => by rw [hne, if_neg e]
    · by_cases e : i = k
      · subst e; exact ((InL.row N hi).smul (-1)).congr fun j => by rw [hne, if_pos rfl]; omega
      · exact (InL.row N hi).congr fun j => by rw [hne, if_neg e]
    · rcases (show n = 1 ∨ n = 2 ∨ n = 3 by omega) with rfl | rfl | rfl
      · obtain rfl : k = 0 := by omega
        rw [dN_at1 hs, dN_at1 hN, hne]; simp
      · rw [dN_at2 hs, dN_at2 hN]
        simp only [hne]
        rcases (show k = 0 ∨ k = 1 by omega) with rfl | rfl <;> simp <;> grind
      · rw [dN_at3 hs, dN_at3 hN]
        simp only [hne]
        rcases (show k = 0 ∨ k = 1 ∨ k = 2 by omega) with rfl | rfl | rfl <;> simp <;> grind
  · exact ⟨EX.refl hs, fun _ _ _ => rfl, fun _ => .inl rfl, by omega⟩
theorem mul_bdH {a b M N : Int} (ha : -M ≤ a ∧ a ≤ M) (hb : -N ≤ b ∧ b ≤ N) : -(M * N) ≤ a * b ∧ a * b ≤ M * N := by
  have h1 : a.natAbs * b.natAbs ≤ M.natAbs * N.natAbs := Nat.mul_le_mul (by omega) (by omega)
  rw [← Int.natAbs_mul, ← Int.natAbs_mul] at h1
  have : 0 ≤ M * N := Int.mul_nonneg (by omega) (by omega)
  omega
theorem flW_at {x d : Int} (hd : 0 < d) (hx : -1000000000000000 ≤ x ∧ x ≤ 1000000000000000) : 0 ≤ x - d * flW x d ∧ x - d * flW x d < d ∧ -(x.natAbs + 1 : Int) ≤ flW x d ∧ flW x d ≤ x.natAbs + 1 := by
  have e := Int.mul_tdiv_add_tmod x d
  have hm := tmod_natAbs x d (by omega)
  have ht : (x.tdiv d).natAbs ≤ x.natAbs := by rw [Int.natAbs_tdiv]; exact Nat.div_le_self _ _
  have hs : 0 ≤ x → 0 ≤ x.tmod d := fun h => Int.tmod_nonneg _ h
  unfold flW
  rw [show wrap64 (x.tdiv d) = x.tdiv d from wrap_id (by omega), show wrap64 (x.tdiv d - 1) = x.tdiv d - 1 from wrap_id (by omega)]
  split
  · rw [Int.mul_sub, Int.mul_one]; omega
  · omega
/-- what a reduction of row s by row k does, without the wrap -/
theorem red1E {n k s : Nat} {M : List (List Int)} (h3 : n ≤ 3) (hs : Sq n M) (hsk : s < k) (hk : k < n) (hd : 0 < atM M k k) (hdb : atM M k k ≤ 100000000000000) (hb : ∀ j, -100000000000000 ≤ atM M s j ∧ atM M s j ≤ 100000000000000)
    (hp : ∀ j, j ≠ k → -100000000000000 ≤ atM M k j * flW (atM M s k) (atM M k k) ∧ atM M k j * flW (atM M s k) (atM M k k) ≤ 100000000000000) :
    EX n M (subR s k (flW (atM M s k) (atM M k k)) M) ∧ (∀ j, atM (subR s k (flW (atM M s k) (atM M k k)) M) s j = atM M s j - atM M k j * flW (atM M s k) (atM M k k)) ∧ (∀ i, i ≠ s → ∀ j, atM (subR s k (flW (atM M s k) (atM M k k)) M) i j = atM M i j) ∧ 0 ≤ atM (subR s k (flW (atM M s k) (atM M k k)) M) s k ∧ atM (subR s k (flW (atM M s k) (atM M k k)) M) s k < atM M k k := by
  have hf := flW_at hd (x := atM M s k) (by have := hb k; omega)
  have hN := subR_sq hs (show s < n by omega) hk (flW (atM M s k) (atM M k k))
  have hat : ∀ i j, atM (subR s k (flW (atM M s k) (atM M k k)) M) i j = if i = s then atM M s j - atM M k j * flW (atM M s k) (atM M k k) else atM M i j := fun i j => by
    by_cases hj : j < n
    · rw [subR_at hs (by omega) hk _ _ hj]
      by_cases e : i = s
      · rw [if_pos e, if_pos e]
        have h1 : -200000000000000 ≤ atM M k j * flW (atM M s k) (atM M k k) ∧ atM M k j * flW (atM M s k) (atM M k k) ≤ 200000000000000 := by
          by_cases ej : j = k
          · subst ej; have := hb j; omega
          · have := hp j ej; omega
        have h2 := hb j
        rw [show wrap64 (atM M k j * flW (atM M s k) (atM M k k)) = atM M k j * flW (atM M s k) (atM M k k) from wrap_id (by omega)]
        exact wrap_id (by omega)
      · rw [if_neg e, if_neg e]
    · have e1 := hs.out (i := s) (j := j) (by omega)
      have e2 := hs.out (i := k) (j := j) (by omega)
      have e3 := hs.out (i := i) (j := j) (by omega)
      rw [hN.out (by omega), e1, e2, e3]; simp
  generalize hNN : subR s k (flW (atM M s k) (atM M k k)) M = N at *
  generalize hq : flW (atM M s k) (atM M k k) = q at *
  refine ⟨⟨hN, fun z => InL.iff (fun i hi => ?_) (fun i hi => ?_) z, .inl ?_⟩, fun j => by rw [hat, if_pos rfl], fun i e j => by rw [hat, if_neg e], by rw [hat, if_pos rfl]; omega, by rw [hat, if_pos rfl]; omega⟩
  · by_cases e : i = s
    · subst e; exact ((InL.row M hi).add ((InL.row M (show k < 3 by omega)).smul (-q))).congr fun j => by rw [hat, if_pos rfl]; grind
    · exact (InL.row M hi).congr fun j => by rw [hat, if_neg e]
  · by_cases e : i = s
    · subst e; exact ((InL.row N hi).add ((InL.row N (show k < 3 by omega)).smul q)).congr fun j => by rw [hat, hat, if_pos rfl, if_neg (by omega)]; grind
    · exact (InL.row N hi).congr fun j => by rw [hat, if_neg e]
  · rcases (show n = 1 ∨ n = 2 ∨ n = 3 by omega) with rfl | rfl | rfl
    · omega
    · rw [dN_at2 hs, dN_at2 hN]
      simp only [hat]
      obtain rfl : s = 0 := by omega
      obtain rfl : k = 1 := by omega
      simp; grind
    · rw [dN_at3 hs, dN_at3 hN]
      simp only [hat]
      rcases (show (s = 0 ∧ k = 1) ∨ (s = 0 ∧ k = 2) ∨ (s = 1 ∧ k = 2) by omega) with ⟨rfl, rfl⟩ | ⟨rfl, rfl⟩ | ⟨rfl, rfl⟩ <;> simp <;> grind
theorem redE {n k : Nat} {M : List (List Int)} (h3 : n ≤ 3) (hs : Sq n M) (hk : k < n) (hd : 0 < atM M k k) (hdb : atM M k k ≤ 100000000000000) (hb : ∀ i, i < k → ∀ j, -100000000000000 ≤ atM M i j ∧ atM M i j ≤ 100000000000000)
    (hp : ∀ i, i < k → ∀ j, j ≠ k → -100000000000000 ≤ atM M k j * flW (atM M i k) (atM M k k) ∧ atM M k j * flW (atM M i k) (atM M k k) ≤ 100000000000000) :
    ∀ t, t ≤ k → EX n M (redS k t M) ∧ (∀ i, t ≤ i → ∀ j, atM (redS k t M) i j = atM M i j) ∧ ∀ i, i < t → (∀ j, atM (redS k t M) i j = atM M i j - atM M k j * flW (atM M i k) (atM M k k)) ∧ 0 ≤ atM (redS k t M) i k ∧ atM (redS k t M) i k < atM M k k
  | 0, _ => ⟨EX.refl hs, fun _ _ _ => rfl, fun i hi => by omega⟩
  | t + 1, ht => by
    obtain ⟨g1, g2, g3⟩ := redE h3 hs hk hd hdb hb hp t (by omega)
    have ek : ∀ j, atM (redS k t M) k j = atM M k j := g2 k (by omega)
    have et : ∀ j, atM (redS k t M) t j = atM M t j := g2 t (by omega)
    unfold redS
    have r := red1E (n := n) (k := k) (s := t) (M := redS k t M) h3 g1.sq (by omega) hk (by rw [ek]; exact hd) (by rw [ek]; exact hdb) (fun j => by rw [et]; exact hb t (by omega) j) (fun j hj => by rw [ek, ek, et]; exact hp t (by omega) j hj)
    obtain ⟨r1, r2, r3, r4, r5⟩ := r
    refine ⟨g1.trans r1, fun i hi j => by rw [r3 i (by omega), g2 i (by omega)], fun i hi => ?_⟩
    by_cases e : i = t
    · subst e
      refine ⟨fun j => by rw [r2, ek, ek, et, et], r4, by rw [← ek k]; exact r5⟩
    · obtain ⟨q1, q2, q3⟩ := g3 i (by omega)
      exact ⟨fun j => by rw [r3 i e]; exact q1 j, by rw [r3 i e]; exact q2, by rw [r3 i e]; exact q3⟩
/-- Hermite's form -/
structure HX (n : Nat) (H : List (List Int)) : Prop where
  sq : Sq n H
  tri : ∀ i j, j < i → atM H i j = 0
  pos : ∀ i, i < n → 0 < atM H i i
  red : ∀ i j, i < j → j < n → 0 ≤ atM H i j ∧ atM H i j < atM H j j
theorem Tri.all {n : Nat} {M : List (List Int)} (hs : Sq n M) (h : Tri n n M) (i j : Nat) (hj : j < i) : atM M i j = 0 := by
  by_cases hi : i < n
  · exact h j (by omega) i hj hi
  · exact hs.out2 (by omega)
theorem PR.of {n k r : Nat} {M : List (List Int)} {A B C : Int} (hk : ∀ j, -A ≤ atM M k j ∧ atM M k j ≤ A) (hr : ∀ j, -C ≤ atM M r j ∧ atM M r j ≤ C) (h : A * C + C * A ≤ B) (hA : A ≤ B) (hC : C ≤ B) : PR k r M B := by
  refine ⟨fun j => ?_, fun j => ?_, fun j => ?_⟩
  · have := hk j; omega
  · have := hr j; omega
  · have h1 := mul_bdH (hk j) (hr k)
    have h2 := mul_bdH (hr j) (hk k)
    omega
theorem her1 {M : List (List Int)} (hI : HI 1 0 M) (hb : ∀ i j, -100 ≤ atM M i j ∧ atM M i j ≤ 100) : HX 1 (herS 1 1 M) ∧ EX 1 M (herS 1 1 M) := by
  have hz := colS_end hI (by omega) (show 0 < 1 by omega)
  change HI 1 1 M at hz
  have n1 := EX.neg (k := 0) (by omega) (by omega) hI.sq (fun j => by have := hb 0 j; omega)
  have hz2 := negS_hi hz (by omega) (show 0 < 1 by omega)
  have nz := diag_nz hz2.sq (by omega) (show 0 < 1 by omega) hz2.tri hz2.nz
  change HX 1 (negS 0 M) ∧ EX 1 M (negS 0 M)
  obtain ⟨e1, -, -, e4⟩ := n1
  refine ⟨⟨e1.sq, fun i j hj => e1.sq.out2 (by omega), fun i hi => ?_, fun i j h1 h2 => ?_⟩, e1⟩
  · obtain rfl : i = 0 := by omega
    omega
  · omega
theorem her2 {M : List (List Int)} (hI : HI 2 0 M) (hb : ∀ i j, -100 ≤ atM M i j ∧ atM M i j ≤ 100) : HX 2 (herS 2 2 M) ∧ EX 2 M (herS 2 2 M) := by
  have hz := colS_end hI (by omega) (show 0 < 2 by omega)
  obtain ⟨f, hf⟩ : ∃ f, f = (atM M 1 0).natAbs := ⟨_, rfl⟩
  have a1 := EX.euc (n := 2) (k := 0) (r := 1) (B := 20000) (by omega) (by omega) (by omega) (by omega) f M hI.sq (PR.of (n := 2) (A := 100) (C := 100) (hb 0) (hb 1) (by omega) (by omega) (by omega))
  have ea : colS 0 (2 - 1 - 0) M = eucM f 0 1 M := by subst hf; rfl
  rw [ea] at hz
  have eh : herS 2 2 M = redS 1 1 (negS 1 (negS 0 (eucM f 0 1 M))) := by subst hf; rfl
  rw [eh]
  obtain ⟨xa, pa, -⟩ := a1
  generalize eucM f 0 1 M = A at *
  have b1 := EX.neg (k := 0) (by omega) (show 0 < 2 by omega) xa.sq (fun j => by have := pa.pk j; omega)
  have hzb := negS_hi hz (by omega) (show 0 < 2 by omega)
  have nzb := diag_nz hzb.sq (by omega) (show 0 < 2 by omega) hzb.tri hzb.nz
  generalize negS 0 A = B at *
  obtain ⟨xb, ob, kb, sb⟩ := b1
  have hzc := colS_end hzb (by omega) (show 1 < 2 by omega)
  change HI 2 2 B at hzc
  have d1 := EX.neg (k := 1) (by omega) (show 1 < 2 by omega) xb.sq (fun j => by rw [ob 1 (by omega)]; have := pa.pr j; omega)
  have hzd := negS_hi hzc (by omega) (show 1 < 2 by omega)
  have nzd := diag_nz hzd.sq (by omega) (show 1 < 2 by omega) hzd.tri hzd.nz
  generalize negS 1 B = D at *
  obtain ⟨xd, od, kd, sd⟩ := d1
  have b0 : ∀ j, -20000 ≤ atM D 0 j ∧ atM D 0 j ≤ 20000 := fun j => by
    rw [od 0 (by omega)]
    have := pa.pk j
    rcases kb j with e | e <;> rw [e] <;> omega
  have b11 : atM D 1 1 ≤ 20000 := by
    have := pa.pr 1
    rcases kd 1 with e | e <;> rw [e, ob 1 (by omega)] <;> omega
  have hz1 : ∀ j, j ≠ 1 → atM D 1 j = 0 := fun j hj => by
    rcases (show j = 0 ∨ 2 ≤ j by omega) with rfl | h
    · exact hzd.tri 0 (by omega) 1 (by omega) (by omega)
    · exact xd.sq.out h
  obtain ⟨r1, r2, r3⟩ := redE (n := 2) (k := 1) (by omega) xd.sq (by omega) (by omega) (by omega) (fun i hi j => (show i = 0 by omega) ▸ (show -100000000000000 ≤ atM D 0 j ∧ atM D 0 j ≤ 100000000000000 from ⟨Int.le_trans (by omega) (b0 j).1, Int.le_trans (b0 j).2 (by omega)⟩)) (fun i hi j hj => by rw [hz1 j hj]; omega) 1 (by omega)
  generalize redS 1 1 D = E at *
  have e0 := r3 0 (by omega)
  refine ⟨⟨r1.sq, fun i j hj => ?_, fun i hi => ?_, fun i j h1 h2 => ?_⟩, ((xa.trans xb).trans xd).trans r1⟩
  · rcases (show i = 1 ∨ 2 ≤ i by omega) with rfl | h
    · rw [r2 1 (by omega)]; exact hz1 j (by omega)
    · exact r1.sq.out2 h
  · rcases (show i = 0 ∨ i = 1 by omega) with rfl | rfl
    · rw [e0.1 0, hz1 0 (by omega), od 0 (by omega)]; omega
    · rw [r2 1 (by omega)]; omega
  · obtain rfl : i = 0 := by omega
    obtain rfl : j = 1 := by omega
    rw [r2 1 (by omega)]; exact e0.2
theorem dN_bd3 {M : List (List Int)} (hs : Sq 3 M) (hb : ∀ i j, -100 ≤ atM M i j ∧ atM M i j ≤ 100) : -6000000 ≤ dN M ∧ dN M ≤ 6000000 := by
  rw [dN_at3 hs]
  have m : ∀ a b c d, -10000 ≤ atM M a b * atM M c d ∧ atM M a b * atM M c d ≤ 10000 := fun a b c d => by have := mul_bdH (hb a b) (hb c d); omega
  have t : ∀ a b c d e f g h i j, -2000000 ≤ atM M a b * (atM M c d * atM M e f - atM M g h * atM M i j) ∧ atM M a b * (atM M c d * atM M e f - atM M g h * atM M i j) ≤ 2000000 := fun a b c d e f g h i j => by
    have h1 := m c d e f
    have h2 := m g h i j
    have := mul_bdH (N := 20000) (hb a b) (b := atM M c d * atM M e f - atM M g h * atM M i j) (by omega)
    omega
  have t1 := t 0 0 1 1 2 2 1 2 2 1
  have t2 := t 0 1 1 0 2 2 1 2 2 0
  have t3 := t 0 2 1 0 2 1 1 1 2 0
  omega
theorem her3 {M : List (List Int)} (hI : HI 3 0 M) (hb : ∀ i j, -100 ≤ atM M i j ∧ atM M i j ≤ 100) : HX 3 (herS 3 3 M) ∧ EX 3 M (herS 3 3 M) := by
  have hz := colS_end hI (by omega) (show 0 < 3 by omega)
  have hdb := dN_bd3 hI.sq hb
  obtain ⟨f, hf⟩ : ∃ f, f = (atM M 1 0).natAbs := ⟨_, rfl⟩
  have a1 := EX.euc (n := 3) (k := 0) (r := 1) (B := 20000) (by omega) (by omega) (by omega) (by omega) f M hI.sq (PR.of (n := 3) (A := 100) (C := 100) (hb 0) (hb 1) (by omega) (by omega) (by omega))
  obtain ⟨g, hg⟩ : ∃ g, g = (atM (eucM f 0 1 M) 2 0).natAbs := ⟨_, rfl⟩
  have ea : colS 0 (3 - 1 - 0) M = eucM g 0 2 (eucM f 0 1 M) := by subst hg; subst hf; rfl
  rw [ea] at hz
  obtain ⟨h, hh⟩ : ∃ h, h = (atM (negS 0 (eucM g 0 2 (eucM f 0 1 M))) 2 1).natAbs := ⟨_, rfl⟩
  have eh : herS 3 3 M = redS 2 2 (negS 2 (redS 1 1 (negS 1 (eucM h 1 2 (negS 0 (eucM g 0 2 (eucM f 0 1 M))))))) := by subst hh; subst hg; subst hf; rfl
  rw [eh]
  clear ea eh hg
  obtain ⟨xa, pa, oa⟩ := a1
  have hb2 := fun j => hb 2 j
  have b1 : ∀ j, -20000 ≤ atM (eucM f 0 1 M) 1 j ∧ atM (eucM f 0 1 M) 1 j ≤ 20000 := pa.pr
  have a2 := EX.euc (n := 3) (k := 0) (r := 2) (B := 4000000) (by omega) (by omega) (by omega) (by omega) g _ xa.sq (PR.of (n := 3) (A := 20000) (C := 100) pa.pk (fun j => by rw [oa 2 (by omega) (by omega)]; exact hb2 j) (by omega) (by omega) (by omega))
  generalize eucM f 0 1 M = A at *
  obtain ⟨xa2, pa2, oa2⟩ := a2
  have b1' : ∀ j, -20000 ≤ atM (eucM g 0 2 A) 1 j ∧ atM (eucM g 0 2 A) 1 j ≤ 20000 := fun j => by rw [oa2 1 (by omega) (by omega)]; exact b1 j
  generalize eucM g 0 2 A = A2 at *
  have b1 := EX.neg (k := 0) (by omega) (show 0 < 3 by omega) xa2.sq (fun j => by have := pa2.pk j; omega)
  have hzb := negS_hi hz (by omega) (show 0 < 3 by omega)
  have nzb := diag_nz hzb.sq (by omega) (show 0 < 3 by omega) hzb.tri hzb.nz
  generalize negS 0 A2 = B at *
  obtain ⟨xb, ob, kb, sb⟩ := b1
  have hzc := colS_end hzb (by omega) (show 1 < 3 by omega)
  have ec : colS 1 (3 - 1 - 1) B = eucM h 1 2 B := by subst hh; rfl
  rw [ec] at hzc
  clear ec hh
  have B0 : ∀ j, -4000000 ≤ atM B 0 j ∧ atM B 0 j ≤ 4000000 := fun j => by
    have := pa2.pk j
    rcases kb j with e | e <;> rw [e] <;> omega
  have B1 : ∀ j, -20000 ≤ atM B 1 j ∧ atM B 1 j ≤ 20000 := fun j => by rw [ob 1 (by omega)]; exact b1' j
  have B2 : ∀ j, -4000000 ≤ atM B 2 j ∧ atM B 2 j ≤ 4000000 := fun j => by rw [ob 2 (by omega)]; exact pa2.pr j
  have z1 : atM B 1 0 = 0 := hzb.tri 0 (by omega) 1 (by omega) (by omega)
  have z2 : atM B 2 0 = 0 := hzb.tri 0 (by omega) 2 (by omega) (by omega)
  have XB : EX 3 M B := (xa.trans xa2).trans xb
  have hdB : -6000000 ≤ dN B ∧ dN B ≤ 6000000 := by rcases XB.dt with e | e <;> rw [e] <;> omega
  have hmin : -6000000 ≤ atM B 1 1 * atM B 2 2 - atM B 1 2 * atM B 2 1 ∧ atM B 1 1 * atM B 2 2 - atM B 1 2 * atM B 2 1 ≤ 6000000 := by
    rw [dN_at3 xb.sq, z1, z2] at hdB
    simp only [Int.zero_mul, Int.mul_zero, Int.sub_zero, Int.add_zero] at hdB
    generalize atM B 1 1 * atM B 2 2 - atM B 1 2 * atM B 2 1 = t at *
    have h1 : t.natAbs ≤ (atM B 0 0 * t).natAbs := by
      rw [Int.natAbs_mul]
      exact Nat.le_mul_of_pos_left _ (by omega)
    omega
  have pc : PR 1 2 B 6000000 := ⟨fun j => by have := B1 j; omega, fun j => by have := B2 j; omega, fun j => by
    rcases (show j = 0 ∨ j = 1 ∨ j = 2 ∨ 3 ≤ j by omega) with rfl | rfl | rfl | h
    · rw [z1, z2]; omega
    · rw [Int.mul_comm]; omega
    · rw [Int.mul_comm (atM B 2 2)]; omega
    · rw [xb.sq.out h, xb.sq.out h]; omega⟩
  have c1 := EX.euc (n := 3) (k := 1) (r := 2) (B := 6000000) (by omega) (by omega) (by omega) (by omega) h B xb.sq pc
  obtain ⟨xc, pcc, oc⟩ := c1
  generalize eucM h 1 2 B = C at *
  have d1 := EX.neg (k := 1) (by omega) (show 1 < 3 by omega) xc.sq (fun j => by have := pcc.pk j; omega)
  have hzd := negS_hi hzc (by omega) (show 1 < 3 by omega)
  have nzd := diag_nz hzd.sq (by omega) (show 1 < 3 by omega) hzd.tri hzd.nz
  generalize negS 1 C = D at *
  obtain ⟨xd, od, kd, sd⟩ := d1
  have D0 : ∀ j, -4000000 ≤ atM D 0 j ∧ atM D 0 j ≤ 4000000 := fun j => by rw [od 0 (by omega), oc 0 (by omega) (by omega)]; exact B0 j
  have D00 : 0 < atM D 0 0 := by rw [od 0 (by omega), oc 0 (by omega) (by omega)]; omega
  have D1 : ∀ j, -6000000 ≤ atM D 1 j ∧ atM D 1 j ≤ 6000000 := fun j => by
    have := pcc.pk j
    rcases kd j with e | e <;> rw [e] <;> omega
  have D2 : ∀ j, -6000000 ≤ atM D 2 j ∧ atM D 2 j ≤ 6000000 := fun j => by rw [od 2 (by omega)]; exact pcc.pr j
  have D11 : 0 < atM D 1 1 := by omega
  have D10 : atM D 1 0 = 0 := hzd.tri 0 (by omega) 1 (by omega) (by omega)
  have fl0 := flW_at D11 (x := atM D 0 1) (by have := D0 1; omega)
  have pE : ∀ j, -60000000000000 ≤ atM D 1 j * flW (atM D 0 1) (atM D 1 1) ∧ atM D 1 j * flW (atM D 0 1) (atM D 1 1) ≤ 60000000000000 := fun j => by
    have := mul_bdH (D1 j) (N := 4000001) (b := flW (atM D 0 1) (atM D 1 1)) (by have := D0 1; omega)
    omega
  obtain ⟨r1, r2, r3⟩ := redE (n := 3) (k := 1) (by omega) xd.sq (by omega) D11 (by have := D1 1; omega) (fun i hi j => (show i = 0 by omega) ▸ (show -100000000000000 ≤ atM D 0 j ∧ atM D 0 j ≤ 100000000000000 from ⟨Int.le_trans (by omega) (D0 j).1, Int.le_trans (D0 j).2 (by omega)⟩)) (fun i hi j hj => (show i = 0 by omega) ▸ (show -100000000000000 ≤ atM D 1 j * flW (atM D 0 1) (atM D 1 1) ∧ atM D 1 j * flW (atM D 0 1) (atM D 1 1) ≤ 100000000000000 from ⟨Int.le_trans (by omega) (pE j).1, Int.le_trans (pE j).2 (by omega)⟩)) 1 (by omega)
  have hze := redS_hi hzd (by omega) (show 1 < 3 by omega) 1 (by omega)
  generalize redS 1 1 D = E at *
  have E0 : ∀ j, -80000000000000 ≤ atM E 0 j ∧ atM E 0 j ≤ 80000000000000 := fun j => by
    rw [(r3 0 (by omega)).1 j]
    have := pE j
    have := D0 j
    omega
  have E1 : ∀ j, -6000000 ≤ atM E 1 j ∧ atM E 1 j ≤ 6000000 := fun j => by rw [r2 1 (by omega)]; exact D1 j
  have E2 : ∀ j, -6000000 ≤ atM E 2 j ∧ atM E 2 j ≤ 6000000 := fun j => by rw [r2 2 (by omega)]; exact D2 j
  have E00 : 0 < atM E 0 0 := by rw [(r3 0 (by omega)).1 0, D10]; omega
  have E01 := (r3 0 (by omega)).2
  have E11 : 0 < atM E 1 1 := by rw [r2 1 (by omega)]; exact D11
  have E10 : atM E 1 0 = 0 := by rw [r2 1 (by omega)]; exact D10
  rw [← r2 1 (by omega)] at E01
  have hzf := colS_end hze (by omega) (show 2 < 3 by omega)
  change HI 3 3 E at hzf
  have f1 := EX.neg (k := 2) (by omega) (show 2 < 3 by omega) r1.sq (fun j => by have := E2 j; omega)
  have hzg := negS_hi hzf (by omega) (show 2 < 3 by omega)
  have nzg := diag_nz hzg.sq (by omega) (show 2 < 3 by omega) hzg.tri hzg.nz
  generalize negS 2 E = F at *
  obtain ⟨xf, of, kf, sf⟩ := f1
  have F22 : 0 < atM F 2 2 := by omega
  have hz2 : ∀ j, j ≠ 2 → atM F 2 j = 0 := fun j hj => by
    rcases (show j = 0 ∨ j = 1 ∨ 3 ≤ j by omega) with rfl | rfl | h
    · exact hzg.tri 0 (by omega) 2 (by omega) (by omega)
    · exact hzg.tri 1 (by omega) 2 (by omega) (by omega)
    · exact xf.sq.out h
  obtain ⟨s1, s2, s3⟩ := redE (n := 3) (k := 2) (by omega) xf.sq (by omega) F22 (by have := E2 2; rcases kf 2 with e | e <;> rw [e] <;> omega) (fun i hi j => by
      rw [of i (by omega)]
      rcases (show i = 0 ∨ i = 1 by omega) with rfl | rfl
      · have := E0 j; omega
      · have := E1 j; omega) (fun i hi j hj => by rw [hz2 j hj]; omega) 2 (by omega)
  generalize redS 2 2 F = G at *
  have G0 := s3 0 (by omega)
  have G1 := s3 1 (by omega)
  have g2 := s2 2 (by omega)
  have q0 : ∀ j, j ≠ 2 → atM G 0 j = atM E 0 j := fun j hj => by rw [G0.1 j, hz2 j hj, of 0 (by omega)]; omega
  have q1 : ∀ j, j ≠ 2 → atM G 1 j = atM E 1 j := fun j hj => by rw [G1.1 j, hz2 j hj, of 1 (by omega)]; omega
  refine ⟨⟨s1.sq, fun i j hj => ?_, fun i hi => ?_, fun i j h1 h2 => ?_⟩, (((XB.trans xc).trans xd).trans r1).trans (xf.trans s1)⟩
  · rcases (show i = 1 ∨ i = 2 ∨ 3 ≤ i by omega) with rfl | rfl | h
    · obtain rfl : j = 0 := by omega
      rw [q1 0 (by omega)]; exact E10
    · rw [g2]; exact hz2 j (by omega)
    · exact s1.sq.out2 h
  · rcases (show i = 0 ∨ i = 1 ∨ i = 2 by omega) with rfl | rfl | rfl
    · rw [q0 0 (by omega)]; exact E00
    · rw [q1 1 (by omega)]; exact E11
    · rw [g2]; exact F22
  · rcases (show (i = 0 ∧ j = 1) ∨ (i = 0 ∧ j = 2) ∨ (i = 1 ∧ j = 2) by omega) with ⟨rfl, rfl⟩ | ⟨rfl, rfl⟩ | ⟨rfl, rfl⟩
    · rw [q0 1 (by omega), q1 1 (by omega)]; exact E01
    · rw [g2]; exact G0.2
    · rw [g2]; exact G1.2
theorem matB_at {M : List (List Int)} (h : matB M = true) (i j : Nat) : -100 ≤ atM M i j ∧ atM M i j ≤ 100 := by
  have hs := sqB_sq (matB_sq h)
  by_cases hi : i < M.length
  · by_cases hj : j < M.length
    · have := matB_row h hi
      exact allIn_at this.2 j (by rw [this.1]; exact hj)
    · rw [hs.out (by omega)]; omega
  · rw [hs.out2 (by omega)]; omega
theorem her_all {M : List (List Int)} (hm : matB M = true) (hd : ¬ detO M = 0) : HX M.length (herM M) ∧ EX M.length M (herM M) := by
  have hI := hi_start hm hd
  have hl := matB_len hm
  have hb := matB_at hm
  unfold herM
  rcases (show M.length = 1 ∨ M.length = 2 ∨ M.length = 3 by omega) with e | e | e <;> rw [e] at hI ⊢
  · exact her1 hI hb
  · exact her2 hI hb
  · exact her3 hI hb
end Go.Proofs.YtehhoplenloocaaGreat
