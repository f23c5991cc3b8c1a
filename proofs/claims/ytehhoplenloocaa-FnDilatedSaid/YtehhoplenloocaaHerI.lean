/- Hermite's form: the program's walk. -/
import Derived.Test.YtehhoplenloocaaHerM
import Derived.Test.YtehhoplenloocaaInv
import Derived.Deep.RegionHeld3
import Derived.StillTailTactics
namespace Go.Proofs.Ytehhoplenloocaa
open Go.RowKit
set_option linter.unusedVariables false
set_option linter.unusedSimpArgs false

theorem RowsW.far {w : World} {lo hi b off n : Nat} {V : Nat → Value} {cur : Nat → List Int} (h : RowsW w lo hi b off n V cur) {i j : Nat} (hi' : i < n) (hj : j < n) (hij : i ≠ j) {br : Nat} (hb : blkOf (V j) = some br) : blkOf (V i) = none ∨ blkOf (V i) ≠ some br := by
  rcases Nat.lt_or_ge i j with g | g
  · rcases h.apart i j g hj with e | e
    · rw [hb] at e; cases e
    · rw [hb] at e; exact .inr fun e' => e e'.symm
  · have := h.apart j i (by omega) hi'
    rwa [hb] at this
/-- one row has been written by a callee -/
theorem RowsW.row1 {w w' : World} {lo hi b off n k br or' cr m : Nat} {V : Nat → Value} {cur : Nat → List Int} (h : RowsW w lo hi b off n V cur) (hk : k < n) (hv : V k = .slice (some ⟨br, or', none⟩) m cr) (hm : 0 < m) {l : List Int} (hl : l.length = m) (hcl : (cur k).length = m)
    (hbk : BK w' br or' m 3 (fun i => .int .i64 (l.getD i 0))) (hg : w.grownBy w' (some br)) : RowsW w' lo hi b off n V (fun i => if i = k then l else cur i) ∧ lo ≤ br := by
  obtain ⟨br', or2, cr', hv', hlo, hhi, hne, -⟩ := h.at hk (by omega)
  rw [hv] at hv'
  injection hv' with e1 e2 e3
  injection e1 with e1
  injection e1 with e1 e4
  subst e1 e4 e3
  have hblk : blkOf (V k) = some br := by rw [hv]; exact blkOf_some _ _ _ _ hm
  refine ⟨⟨h.outer.of_block (hg.block b h.outer.lt (by intro e; injection e with e; exact hne e.symm)), fun i hi => ?_, h.apart⟩, hlo⟩
  by_cases e : i = k
  · subst e
    rw [if_pos rfl]
    obtain ⟨a, cap, hva, l1, l2, -⟩ := id (h.row i hi)
    rw [hv] at hva
    injection hva with _ hva2 hva
    subst hva
    refine ⟨_, cr, by rw [hv, hl], by rw [hl]; omega, l2, fun _ => ⟨br, or', rfl, hlo, hhi, ?_⟩⟩
    rw [hl]; exact hbk
  · rw [if_neg e]
    exact (h.row i hi).grown hg (h.far hi hk e hblk)
def swF {α : Type} (k r : Nat) (f : Nat → α) (i : Nat) : α := if i = k then f r else if i = r then f k else f i
/-- two rows have changed their places -/
theorem RowsW.swap {w : World} {lo hi b off n k r : Nat} {V : Nat → Value} {cur : Nat → List Int} (h : RowsW w lo hi b off n V cur) (hk : k < n) (hr : r < n) (hkr : k ≠ r) (hl : ∀ i, i < n → 0 < (cur i).length) :
    RowsW ((w.setCell ⟨b, off + r, none⟩ (V k)).setCell ⟨b, off + k, none⟩ (V r)) lo hi b off n (swF k r V) (swF k r cur) := by
  have hg : w.grownBy ((w.setCell ⟨b, off + r, none⟩ (V k)).setCell ⟨b, off + k, none⟩ (V r)) (some b) := by
    refine ⟨rfl, rfl, rfl, by simp, fun i hi hne' => ?_⟩
    have hn : i ≠ b := by intro e; apply hne'; rw [e]
    rw [Below.heap_setCell _ _ _ _ hn, Below.heap_setCell _ _ _ _ hn]
  have hrow : ∀ i, i < n → IS ((w.setCell ⟨b, off + r, none⟩ (V k)).setCell ⟨b, off + k, none⟩ (V r)) lo hi (V i) (cur i) := fun i hi => by
    obtain ⟨br, or', cr, hv, -, -, hne, -⟩ := h.at hi (hl i hi)
    exact (h.row i hi).grown hg (.inr (by rw [hv, blkOf_some _ _ _ _ (hl i hi)]; intro e; injection e with e; exact hne e))
  refine ⟨?_, fun i hi => ?_, fun i j hij hj => ?_⟩
  · exact ((h.outer.set hr (V k)).set hk (V r)).congr fun i hi => rfl
  · unfold swF
    by_cases e : i = k
    · rw [if_pos e, if_pos e]; exact hrow r hr
    · rw [if_neg e, if_neg e]
      by_cases e2 : i = r
      · rw [if_pos e2, if_pos e2]; exact hrow k hk
      · rw [if_neg e2, if_neg e2]; exact hrow i hi
  · have hap : ∀ x y, x < n → y < n → x ≠ y → blkOf (V y) = none ∨ blkOf (V y) ≠ blkOf (V x) := fun x y hx hy hxy => by
      obtain ⟨br, or', cr, hv, -⟩ := h.at hx (hl x hx)
      have hb : blkOf (V x) = some br := by rw [hv]; exact blkOf_some _ _ _ _ (hl x hx)
      rw [hb]; exact h.far hy hx (Ne.symm hxy) hb
    have hs : ∀ i, swF k r V i = V (swF k r id i) := fun i => by unfold swF; split <;> (try split) <;> rfl
    have hl2 : ∀ i, i < n → swF k r id i < n := fun i hi => by unfold swF; simp only [id]; split <;> (try split) <;> omega
    have hne : swF k r id i ≠ swF k r id j := by unfold swF; simp only [id]; split <;> split <;> (try split) <;> (try split) <;> omega
    rw [hs i, hs j]
    exact hap _ _ (hl2 i (by omega)) (hl2 j hj) hne
/-- a number of a row of rows, as the world has it -/
def rdM (w : World) (b off r k : Nat) : Nat :=
  match w.cell? ⟨b, off + r, none⟩ with
  | some (.slice (some a) _ _) => match w.cell? ⟨a.block, a.off + k, none⟩ with
    | some (.int _ x) => x.natAbs
    | _ => 0
  | _ => 0
theorem rdM_of {w : World} {b off r k br or' m cr : Nat} {x : Int} (h1 : w.cell? ⟨b, off + r, none⟩ = some (.slice (some ⟨br, or', none⟩) m cr)) (h2 : w.cell? ⟨br, or' + k, none⟩ = some (.int .i64 x)) : rdM w b off r k = x.natAbs := by
  unfold rdM; rw [h1]; simp only [h2]
def MR (w : World) (lo hi b off n : Nat) (M : List (List Int)) : Prop := ∃ V, RowsW w lo hi b off n V (fun i => M.getD i [])
theorem MR.drew {w : World} {lo hi b off n : Nat} {M : List (List Int)} (h : MR w lo hi b off n M) : MR w.drew lo hi b off n M := by
  obtain ⟨V, h⟩ := h
  exact ⟨V, h.outer.of_block rfl, fun i hi' => (h.row i hi').keep (below_draws hi _ 1) (Nat.le_refl _), h.apart⟩
theorem MR.row {w : World} {lo hi b off n : Nat} {M : List (List Int)} {V : Nat → Value} (h : RowsW w lo hi b off n V (fun i => M.getD i [])) (hs : Sq n M) {k : Nat} (hk : k < n) :
    ∃ br or' cr, V k = .slice (some ⟨br, or', none⟩) n cr ∧ w.cell? ⟨b, off + k, none⟩ = some (.slice (some ⟨br, or', none⟩) n cr) ∧ lo ≤ br ∧ br < hi ∧ BK w br or' n 3 (fun i => .int .i64 ((M.getD k []).getD i 0)) ∧ ∀ j, j < n → w.cell? ⟨br, or' + j, none⟩ = some (.int .i64 (atM M k j)) := by
  obtain ⟨br, or', cr, hv, h1, h2, h3, h4⟩ := h.at hk (by show 0 < (M.getD k []).length; rw [hs.row k hk]; omega)
  have hv : V k = .slice (some ⟨br, or', none⟩) (M.getD k []).length cr := hv
  have h4 : BK w br or' (M.getD k []).length 3 (fun i => .int .i64 ((M.getD k []).getD i 0)) := h4
  rw [hs.row k hk] at hv h4
  exact ⟨br, or', cr, hv, by rw [← hv]; exact h.outer.cell hk, h1, h2, h4, fun j hj => h4.cell hj⟩
theorem swF_step {n k r : Nat} {Q : List (List Int)} (h : Sq n Q) (hk : k < n) (hr : r < n) (hkr : k ≠ r) (q : Int) (i : Nat) : swF k r (fun i => if i = k then subW (Q.getD k []) (Q.getD r []) q else Q.getD i []) i = (stepQ k r q Q).getD i [] := by
  unfold swF stepQ
  rw [getD_setR (by rw [List.length_set, h.len]; exact hr), getD_setR (by rw [h.len]; exact hk)]
  by_cases e : i = k
  · subst e
    rw [if_pos rfl, if_neg hkr, if_pos rfl]
    show (if r = i then _ else _) = _
    rw [if_neg (Ne.symm hkr)]
  · rw [if_neg e]
    by_cases e2 : i = r
    · subst e2
      rw [if_pos rfl, if_pos rfl]
      show (if k = k then _ else _) = _
      rw [if_pos rfl]
    · rw [if_neg e2, if_neg e2, if_neg e]
      show (if i = k then _ else _) = _
      rw [if_neg e]
theorem subW_neg (a : List Int) : subW a a 2 = neW a := by
  apply List.ext_getElem?
  intro i
  unfold subW neW
  rw [List.getElem?_zipWith, List.getElem?_map]
  cases a[i]? with
  | none => rfl
  | some x =>
    show some (wrap64 (x - wrap64 (x * 2))) = some (wrap64 (x * -1))
    congr 1
    unfold wrap64; omega
theorem copyInts_row {n : Nat} (l : List Int) (hn : l.length = n) (h0 : 0 < n) (h3 : n ≤ 3) (v : Value) (hb : Nat) (w : World) (h : ISr w hb v l) :
    Calls Try.prog 82 #[v] w fun e w' => ∃ bc oc cc, e = .returned (.slice (some ⟨bc, oc, none⟩) n cc) ∧ w.heap.size ≤ bc ∧ bc < w'.heap.size ∧ (∀ i, i < n → w'.cell? ⟨bc, oc + i, none⟩ = some (.int .i64 (l.getD i 0))) ∧ Below w.heap.size w w' :=
  (copyInts_any l v hb w h (by omega)).mono fun e w' ⟨u, he, ho, hbl⟩ => by
    rcases ho.is.cases with ⟨e1, -⟩ | ⟨-, -, bc, oc, cc, hv, -, -, g1, g2, g3⟩
    · rw [e1] at hn; simp at hn; omega
    · rw [hn] at hv g3
      exact ⟨bc, oc, cc, by rw [he, hv], g1, g2, fun i hi => g3.cell hi, hbl⟩
theorem negS_no {k : Nat} {C : List (List Int)} (h : ¬ atM C k k < 0) : negS k C = C := by unfold negS; rw [if_neg h]
theorem negS_yes {k : Nat} {C : List (List Int)} (h : atM C k k < 0) : negS k C = C.set k (neW (C.getD k [])) := by unfold negS; rw [if_pos h]
set_option maxRecDepth 100000 in
set_option maxHeartbeats 8000000 in
theorem hermite_any (M : List (List Int)) (n : Nat) (v : Value) (hb : Nat) (w : World) (h : ISSr w hb v M) (hhb : hb ≤ w.heap.size) (hI : HI n 0 M) (h1 : 1 ≤ n) (h3 : n ≤ 3) :
    Calls Try.prog 81 #[v] w fun e w' => ∃ u, e = .returned u ∧ ISS w' w.heap.size w'.heap.size u (herS n n M) ∧ Below w.heap.size w w' := by
  have hn := hI.sq.len
  have CP := copyPoints_any M v hb w h hhb (by omega) (fun i hi => by rw [hI.sq.row i (by omega)]; omega)
  have HH := Lib.hid (herS_hi hI h3)
  obtain ⟨a, cap, rfl, -⟩ := id h
  rw [hn] at CP ⊢
  have HN := Lib.hid hn
  clear h hI hn
  go_enter Try.func81, Try.ntmps81
  go_wp2_with fail
  with_reducible refine CP.mono ?_
  rintro e w1 ⟨u, rfl, ku, c1⟩
  obtain ⟨b, off, cp, V0, rfl, hlo, hhi, hnc, hcm, hrw⟩ := RowsW.of ku.is (by rw [HN.out]; omega)
  rw [HN.out] at hnc hrw ⊢
  have HRW := Lib.hid (show MR w1 w.heap.size w1.heap.size b off n (herS n 0 M) from ⟨V0, hrw⟩)
  have B1 := Lib.hid c1
  clear ku c1 CP hrw V0
  go_wp2
  go_loopw [4, 5, 6, 11] (fun _ _ _ i wr => ∃ (k : Nat), k ≤ n ∧ i = .int .i64 k ∧ Hid (MR wr w.heap.size w1.heap.size b off n (herS n k M)) ∧ Hid (Below w.heap.size w wr) ∧ Hid (w1.heap.size ≤ wr.heap.size)) (fun _ _ _ i _ => n - (intOf i).toNat)
  case atStart => exact ⟨0, by omega, rfl, HRW, B1, Lib.hid (Nat.le_refl _)⟩
  case round =>
    obtain ⟨k, hk, rfl, hmr, hbe, hsz⟩ := hrel
    by_cases hlt : k < n
    · have HK := HH.out k hk
      have HEQ := Lib.hid (show herS n (k + 1) M = redS k k (negS k (colS k (n - 1 - k) (herS n k M))) from rfl)
      have HCE := Lib.hid (colS_end HK h3 hlt)
      have HCA := Lib.hid (colS_all HK h3)
      have hdec : decide ((k : Int) < n) = true := by simp; omega
      have hkk : IntKind.i64.wrap ((k : Int) + 1) = (k : Int) + 1 := wr64 _ (by omega)
      obtain ⟨wy, hwy⟩ : ∃ wy, wy = wr := ⟨_, rfl⟩
      subst hwy
      generalize herS n k M = N at *
      go_wp2
      go_loopw [5] (fun i wr2 => ∃ (t : Nat), k + 1 + t ≤ n ∧ i = .int .i64 ((k : Int) + 1 + t) ∧ Hid (MR wr2 w.heap.size w1.heap.size b off n (colS k t N)) ∧ Hid (Below w.heap.size w wr2) ∧ Hid (w1.heap.size ≤ wr2.heap.size)) (fun i _ => n - (intOf i).toNat)
      case atStart => exact ⟨0, by omega, by simp, hmr, hbe, hsz⟩
      case round =>
        obtain ⟨t, ht, rfl, hmr2, hbe2, hsz2⟩ := hrel
        clear hmr hbe hsz
        by_cases htt : k + 1 + t < n
        · have hd2 : decide ((k : Int) + 1 + t < n) = true := by simp; omega
          have HCB := Lib.hid (HCA.out t ht).1
          have HCN := Lib.hid (show colS k (t + 1) N = eucM (atM (colS k t N) (k + 1 + t) k).natAbs k (k + 1 + t) (colS k t N) from rfl)
          obtain ⟨wz, hwz⟩ : ∃ wz, wz = wr := ⟨_, rfl⟩
          subst hwz
          generalize colS k t N = P at *
          obtain ⟨r, hr⟩ : ∃ r, r = k + 1 + t := ⟨_, rfl⟩
          have hrI : (k : Int) + 1 + t = (r : Int) := by omega
          rw [hrI] at hd2 ⊢
          have hkr : k < r := by omega
          have hrn : r < n := by omega
          have hrn2 : (r : Int) < (n : Int) := by omega
          have hk2 : (k : Int) < (n : Int) := by omega
          rw [← hr] at HCN
          have HRR := Lib.hid hr
          have HRI := Lib.hid hrI
          clear hr hrI htt hdec hkk ht
          go_wp2
          go_loopw [] (fun wr3 => ∃ (f : Nat) (Q : List (List Int)), (atM Q r k).natAbs ≤ f ∧ Hid (eucM f k r Q = eucM (atM P r k).natAbs k r P) ∧ Hid (HI n k Q) ∧ Hid (MR wr3 w.heap.size w1.heap.size b off n Q) ∧ Hid (Below w.heap.size w wr3) ∧ Hid (w1.heap.size ≤ wr3.heap.size)) (fun wr3 => rdM wr3 b off r k)
          case atStart => exact ⟨_, P, Nat.le_refl _, Lib.hid rfl, HCB, hmr2, hbe2, hsz2⟩
          case round =>
            obtain ⟨f, Q, hf, heu, hq, hmr3, hbe3, hsz3⟩ := hrel
            clear hmr2 hbe2 hsz2 HCB
            obtain ⟨V, hrw⟩ := hmr3.out
            obtain ⟨bk, ok, ck, hVk, ckO, -, hbk1, BKk, cellk⟩ := MR.row hrw hq.out.sq hlt
            obtain ⟨br, orr, cr, hVr, crO, -, hbr1, BKr, cellr⟩ := MR.row hrw hq.out.sq hrn
            have crk := cellr k hlt
            have ckk := cellk k hlt
            have HRD := Lib.hid (rdM_of crO crk)
            by_cases e0 : atM Q r k = 0
            · have hQ : eucM f k r Q = Q := by cases f with
                | zero => rfl
                | succ f => unfold eucM; rw [if_pos e0]
              have HEND := Lib.hid (show colS k (t + 1) N = Q by rw [HCN.out, ← heu.out, hQ])
              rw [e0] at crk
              clear hQ heu hf HRD cellk cellr BKk BKr
              go_wp2
              go_roundw
              case rel =>
                have hrr := HRR.out
                exact ⟨t + 1, by omega, by have := HRI.out; go_num, by rw [HEND.out]; exact hmr3, hbe3, hsz3⟩
              case measure => have hrr := HRR.out; simp [intOf]; omega
            · have hne : br ≠ bk := by
                intro e
                rcases hrw.apart k r hkr hrn with e2 | e2
                · rw [hVr, blkOf_some _ _ _ _ (by omega)] at e2; cases e2
                · rw [hVr, hVk, blkOf_some _ _ _ _ (by omega), blkOf_some _ _ _ _ (by omega), e] at e2; exact e2 rfl
              have LW := lessW_any (Q.getD k []) (Q.getD r []) (qE k r Q) bk ok ck br orr cr n wr.drew (hq.out.sq.row k hlt) (hq.out.sq.row r hrn) h3 BKk (fun i hi => cellr i hi) hne (show br < wr.heap.size from BKr.lt)
              have HEU := Lib.hid (show ∃ f', (atM (stepQ k r (qE k r Q) Q) r k).natAbs ≤ f' ∧ eucM f' k r (stepQ k r (qE k r Q) Q) = eucM (atM P r k).natAbs k r P from by
                cases f with
                | zero => omega
                | succ f =>
                  refine ⟨f, ?_, ?_⟩
                  · rw [stepQ_at hq.out.sq hlt hrn (by omega) _ r hlt, if_pos rfl]
                    unfold qE
                    rw [euc_rem e0 (hq.out.inr r k)]
                    have := tmod_natAbs (atM Q k k) (atM Q r k) e0
                    omega
                  · rw [← heu.out]
                    show _ = (if atM Q r k = 0 then Q else _)
                    rw [if_neg e0])
              have HLT := Lib.hid (show (atM (stepQ k r (qE k r Q) Q) r k).natAbs < (atM Q r k).natAbs from by
                rw [stepQ_at hq.out.sq hlt hrn (by omega) _ r hlt, if_pos rfl]
                unfold qE
                rw [euc_rem e0 (hq.out.inr r k)]
                exact tmod_natAbs (atM Q k k) (atM Q r k) e0)
              have HQ' := Lib.hid (hq.out.step h3 hkr hrn (qE k r Q))
              have hqv : IntKind.i64.wrap ((atM Q k k).tdiv (atM Q r k)) = qE k r Q := by rw [wrap_64]; rfl
              have HBK := Lib.hid BKk
              have HVK := Lib.hid hVk
              have HVR := Lib.hid hVr
              have HRW := Lib.hid hrw
              clear BKk BKr cellk cellr hVk hVr hrw heu hf
              generalize atM Q k k = x at *
              generalize atM Q r k = y at *
              generalize hqq : qE k r Q = q at *
              clear hqq
              have k0 : (0 : Int) ≤ (k : Int) := by omega
              have r0 : (0 : Int) ≤ (r : Int) := by omega
              go_wp2_with fail
              go_still_tail 23, (by kernel_rfl)
              change wpList _ _ _ _ _ wr.drew
              go_wp2_with fail
              with_reducible refine LW.mono ?_
              rintro e w4 ⟨rfl, bk4, hg4⟩
              have hg4 : wr.grownBy w4 (some bk) := ⟨hg4.os, hg4.tape, hg4.output, hg4.size, hg4.block⟩
              obtain ⟨R4, hlb⟩ := HRW.out.row1 hlt HVK.out (by omega) (l := subW (Q.getD k []) (Q.getD r []) q) (by rw [subW_len _ (by rw [hq.out.sq.row k hlt, hq.out.sq.row r hrn]), hq.out.sq.row k hlt]) (hq.out.sq.row k hlt) bk4 hg4
              have hlen : ∀ i, i < n → 0 < (if i = k then subW (Q.getD k []) (Q.getD r []) q else Q.getD i []).length := fun i hi => by
                split
                · rw [subW_len _ (by rw [hq.out.sq.row k hlt, hq.out.sq.row r hrn]), hq.out.sq.row k hlt]; omega
                · rw [hq.out.sq.row i hi]; omega
              have R5 := R4.swap hlt hrn (by omega) hlen
              have R6 := Lib.hid (show MR _ _ _ _ _ _ (stepQ k r q Q) from ⟨_, R5.congr fun i hi => swF_step hq.out.sq hlt hrn (by omega) q i⟩)
              have B4 := Lib.hid (hbe3.out.grown hg4 hbe3.out.size (fun k hk => by injection hk with hk; rw [← hk]; exact hlb))
              have Z4 := hg4.size
              have dkO := R4.outer.cell hlt
              have drO := R4.outer.cell hrn
              have fzO := R4.outer.frozen (off + k)
              have fzr := R4.outer.frozen (off + r)
              rw [HVK.out] at dkO R6
              rw [HVR.out] at drO R6
              clear R4 R5 hlen bk4 hg4 LW hqv
              go_wp2_with fail
              go_region
              obtain ⟨f', hf', heu'⟩ := HEU.out
              have HEU' := Lib.hid heu'
              have hb4 := B4.out.size
              have HME := Lib.hid (show rdM ((w4.setCell ⟨b, off + r, none⟩ (.slice (some ⟨bk, ok, none⟩) n ck)).setCell ⟨b, off + k, none⟩ (.slice (some ⟨br, orr, none⟩) n cr)) b off r k < rdM wr b off r k from by
                obtain ⟨V6, r6⟩ := R6.out
                obtain ⟨b6, o6, c6, -, d6, -, -, -, e6⟩ := MR.row r6 HQ'.out.sq hrn
                rw [rdM_of d6 (e6 k hlt), HRD.out]
                exact HLT.out)
              clear heu' dkO drO fzO fzr ckO crO ckk crk HEU HLT
              go_wp2
              go_roundw
              case rel => exact ⟨f', stepQ k r q Q, hf', HEU', HQ', Lib.hid R6.out.drew, Lib.hid (((B4.out.setCell (show w.heap.size ≤ b from hlo) _).setCell (show w.heap.size ≤ b from hlo) _).trans (below_draws _ _ 1)), Lib.hid (by have := hsz3.out; simp; omega)⟩
              case measure => exact HME.out
        · have hte : t = n - 1 - k := by omega
          have HCE2 : Hid (HI n (k + 1) (colS k t N)) := by rw [hte]; exact HCE
          have HEQ2 : Hid (herS n (k + 1) M = redS k k (negS k (colS k t N))) := by rw [hte]; exact HEQ
          clear HCE HEQ HCA
          generalize colS k t N = C at *
          have HNH := Lib.hid (negS_hi HCE2.out h3 hlt)
          obtain ⟨V, hrw⟩ := hmr2.out
          obtain ⟨bk, ok, ck, hVk, ckO, hbk0, hbk1, BKk, cellk⟩ := MR.row hrw HCE2.out.sq hlt
          have ckk := cellk k hlt
          have k0 : (0 : Int) ≤ (k : Int) := by omega
          have hk2 : (k : Int) < (n : Int) := by omega
          have htI : ¬ (k : Int) + 1 + t < (n : Int) := by omega
          have hzz := hsz2.out
          clear hte hdec hkk
          by_cases hneg : atM C k k < 0
          · have HNE := Lib.hid (negS_yes hneg)
            have hrl := HCE2.out.sq.row k hlt
            have CPI := copyInts_row (C.getD k []) hrl (by omega) h3 (.slice (some ⟨bk, ok, none⟩) n ck) w1.heap.size wr.drew (by
              have := (hrw.row k hlt).read
              rw [hVk] at this
              exact this.keep (below_draws w1.heap.size wr 1) (Nat.le_refl _))
            have hbb : b < wr.heap.size := hrw.outer.lt
            have hbkl : bk < wr.heap.size := BKk.lt
            have hbne : b ≠ bk := by
              obtain ⟨br, or', cr, hv, -, -, hne, -⟩ := hrw.at hlt (by show 0 < (C.getD k []).length; omega)
              rw [hVk] at hv
              injection hv with e1
              injection e1 with e1
              injection e1 with e1
              rw [e1]; exact Ne.symm hne
            have HVK := Lib.hid hVk
            have HRW := Lib.hid hrw
            have HBK := Lib.hid BKk
            have HRL := Lib.hid hrl
            clear hVk hrw BKk cellk hrl
            generalize atM C k k = x at *
            go_wp2_with fail
            go_region_held3 (fun w' => w'.cell? ⟨b, off + k, none⟩ = some (.slice (some ⟨bk, ok, none⟩) n ck)) (first | exact ckO | exact d5 | exact d4 | go_keep)
              (first
                | (go_at_call 83; (with_reducible refine (lessW_any (C.getD k []) (C.getD k []) 2 bk ok ck bc oc cc n w4 HRL.out HRL.out h3 (HBK.out.keep c4' hbkl) gc (by omega) g2).mono ?_); rintro e w5 ⟨rfl, bk5, hg5⟩; have d5 : w5.cell? ⟨b, off + k, none⟩ = some (.slice (some ⟨bk, ok, none⟩) n ck) := (World.cell?_of_block (hg5.block b (Nat.lt_of_lt_of_le hbb c4'.size) (by intro e; injection e with e; exact hbne e))).trans d4)
                | (go_at_call 82; (with_reducible refine CPI.mono ?_); rintro e w4 ⟨bc, oc, cc, rfl, g1, g2, gc, c4⟩; have g1' : wr.heap.size ≤ bc := g1; have c4' : Below wr.heap.size wr w4 := (below_draws wr.heap.size wr 1).trans c4; have d4 := (c4'.cell (p := ⟨b, off + k, none⟩) hbb).trans ckO))
            have R5 := (HRW.out.keep c4' hzz hbb).row1 hlt HVK.out (by omega) (l := subW (C.getD k []) (C.getD k []) 2) (by rw [subW_len _ rfl, HRL.out]) HRL.out bk5 hg5
            have R6 : Hid (MR w5 w.heap.size w1.heap.size b off n (negS k C)) := Lib.hid ⟨V, R5.1.congr fun i hi => by
              rw [HNE.out, getD_setR (by rw [HCE2.out.sq.len]; exact hlt), subW_neg]⟩
            have B5 := Lib.hid ((below_then hbe2.out hbe2.out.size c4').grown hg5 (Nat.le_trans hbe2.out.size c4'.size) (fun k hk => by injection hk with hk; rw [← hk]; exact hbk0))
            have Z5 := Lib.hid (Nat.le_trans hzz (Nat.le_trans c4'.size hg5.size))
            clear R5 bk5 hg5 d5 d4 c4' c4 gc g1 g1' g2 CPI hmr2 hbe2 hsz2 HRW HBK HNE HCE2
            generalize negS k C = C2 at *
            have hmr2 := R6
            have hbe2 := B5
            have hsz2 := Z5
            go_wp2
            go_loopw [6] (fun j wr4 => ∃ (s : Nat), s ≤ k ∧ j = .int .i64 s ∧ Hid (MR wr4 w.heap.size w1.heap.size b off n (redS k s C2)) ∧ Hid (Below w.heap.size w wr4) ∧ Hid (w1.heap.size ≤ wr4.heap.size)) (fun j _ => k - (intOf j).toNat)
            case atStart => exact ⟨0, by omega, rfl, hmr2, hbe2, hsz2⟩
            case round =>
              obtain ⟨s, hs, rfl, hmr4, hbe4, hsz4⟩ := hrel
              clear hmr2 hbe2 hsz2 ckO ckk
              by_cases hst : s < k
              · have HRS := Lib.hid (redS_hi HNH.out h3 hlt s hs)
                have HRE := Lib.hid (show redS k (s + 1) C2 = subR s k (flW (atM (redS k s C2) s k) (atM (redS k s C2) k k)) (redS k s C2) from rfl)
                generalize redS k s C2 = D at *
                have hdz : ¬ atM D k k = 0 := diag_nz HRS.out.sq h3 hlt HRS.out.tri HRS.out.nz
                obtain ⟨V4, hrw4⟩ := hmr4.out
                have hsn : s < n := by omega
                obtain ⟨bk4, ok4, ck4, hVk4, ckO, -, hbk4, BKk, cellk⟩ := MR.row hrw4 HRS.out.sq hlt
                obtain ⟨bs, os, cs, hVs, csO, -, hbs4, BKs, cells⟩ := MR.row hrw4 HRS.out.sq hsn
                have ckk := cellk k hlt
                have csk := cells k hlt
                have hne : bk4 ≠ bs := by
                  intro e
                  rcases hrw4.apart s k hst hlt with e2 | e2
                  · rw [hVk4, blkOf_some _ _ _ _ (by omega)] at e2; cases e2
                  · rw [hVk4, hVs, blkOf_some _ _ _ _ (by omega), blkOf_some _ _ _ _ (by omega), e] at e2; exact e2 rfl
                have LW := lessW_any (D.getD s []) (D.getD k []) (flW (atM D s k) (atM D k k)) bs os cs bk4 ok4 ck4 n wr.drew (HRS.out.sq.row s hsn) (HRS.out.sq.row k hlt) h3 BKs (fun i hi => cellk i hi) hne (show bk4 < wr.heap.size from BKk.lt)
                have DW : Calls Try.prog 84 #[.int .i64 (atM D s k), .int .i64 (atM D k k)] wr.drew fun e w' => e = .returned (.int .i64 (flW (atM D s k) (atM D k k))) ∧ w' = wr.drew := (downW_any (atM D s k) (atM D k k) wr.drew hdz).mono fun e w' h => ⟨h.1, h.2.symm⟩
                have HVS := Lib.hid hVs
                have HRW4 := Lib.hid hrw4
                clear BKk BKs cellk cells hVk4 hVs hrw4
                generalize atM D k k = y at *
                generalize atM D s k = x at *
                generalize hqq : flW x y = q at *
                clear hqq
                have s0 : (0 : Int) ≤ (s : Int) := by omega
                have s1 : (s : Int) < (n : Int) := by omega
                have s2 : (s : Int) < (k : Int) := by omega
                go_wp2_with fail
                go_still_tail 23, (by kernel_rfl)
                still_call DW
                repeat still_step
                try refine wpStill_nil ?_
                change wpList _ _ _ _ _ wr.drew
                go_wp2_with fail
                with_reducible refine LW.mono ?_
                rintro e w4 ⟨rfl, bk5, hg4⟩
                have hg4 : wr.grownBy w4 (some bs) := ⟨hg4.os, hg4.tape, hg4.output, hg4.size, hg4.block⟩
                obtain ⟨R4, hlb⟩ := HRW4.out.row1 hsn HVS.out (by omega) (l := subW (D.getD s []) (D.getD k []) q) (by rw [subW_len _ (by rw [HRS.out.sq.row k hlt, HRS.out.sq.row s hsn]), HRS.out.sq.row s hsn]) (HRS.out.sq.row s hsn) bk5 hg4
                have R6 := Lib.hid (show MR w4 w.heap.size w1.heap.size b off n (redS k (s + 1) C2) from ⟨V4, R4.congr fun i hi => by
                  rw [HRE.out]
                  unfold subR
                  rw [getD_setR (by rw [HRS.out.sq.len]; exact hsn)]⟩)
                have B4 := Lib.hid (hbe4.out.grown hg4 hbe4.out.size (fun k hk => by injection hk with hk; rw [← hk]; exact hlb))
                have Z4 := Lib.hid (Nat.le_trans hsz4.out hg4.size)
                clear R4 bk5 hg4 LW DW
                go_wp2
                go_roundw
                case rel => exact ⟨s + 1, by omega, by go_num, R6, B4, Z4⟩
                case measure => simp [intOf]; omega
              · obtain rfl : s = k := by omega
                rw [← HEQ2.out] at hmr4
                go_wp2
                go_roundw
                case rel => exact ⟨s + 1, by omega, by go_num, hmr4, hbe4, hsz4⟩
                case measure => simp [intOf]; omega
          · have HNE := Lib.hid (negS_no hneg)
            rw [HNE.out] at HNH HEQ2
            clear HNE hrw BKk cellk
            generalize atM C k k = x at *
            go_wp2
            go_loopw [6] (fun j wr4 => ∃ (s : Nat), s ≤ k ∧ j = .int .i64 s ∧ Hid (MR wr4 w.heap.size w1.heap.size b off n (redS k s C)) ∧ Hid (Below w.heap.size w wr4) ∧ Hid (w1.heap.size ≤ wr4.heap.size)) (fun j _ => k - (intOf j).toNat)
            case atStart => exact ⟨0, by omega, rfl, hmr2, hbe2, hsz2⟩
            case round =>
              obtain ⟨s, hs, rfl, hmr4, hbe4, hsz4⟩ := hrel
              clear hmr2 hbe2 hsz2 ckO ckk
              by_cases hst : s < k
              · have HRS := Lib.hid (redS_hi HNH.out h3 hlt s hs)
                have HRE := Lib.hid (show redS k (s + 1) C = subR s k (flW (atM (redS k s C) s k) (atM (redS k s C) k k)) (redS k s C) from rfl)
                generalize redS k s C = D at *
                have hdz : ¬ atM D k k = 0 := diag_nz HRS.out.sq h3 hlt HRS.out.tri HRS.out.nz
                obtain ⟨V4, hrw4⟩ := hmr4.out
                have hsn : s < n := by omega
                obtain ⟨bk4, ok4, ck4, hVk4, ckO, -, hbk4, BKk, cellk⟩ := MR.row hrw4 HRS.out.sq hlt
                obtain ⟨bs, os, cs, hVs, csO, -, hbs4, BKs, cells⟩ := MR.row hrw4 HRS.out.sq hsn
                have ckk := cellk k hlt
                have csk := cells k hlt
                have hne : bk4 ≠ bs := by
                  intro e
                  rcases hrw4.apart s k hst hlt with e2 | e2
                  · rw [hVk4, blkOf_some _ _ _ _ (by omega)] at e2; cases e2
                  · rw [hVk4, hVs, blkOf_some _ _ _ _ (by omega), blkOf_some _ _ _ _ (by omega), e] at e2; exact e2 rfl
                have LW := lessW_any (D.getD s []) (D.getD k []) (flW (atM D s k) (atM D k k)) bs os cs bk4 ok4 ck4 n wr.drew (HRS.out.sq.row s hsn) (HRS.out.sq.row k hlt) h3 BKs (fun i hi => cellk i hi) hne (show bk4 < wr.heap.size from BKk.lt)
                have DW : Calls Try.prog 84 #[.int .i64 (atM D s k), .int .i64 (atM D k k)] wr.drew fun e w' => e = .returned (.int .i64 (flW (atM D s k) (atM D k k))) ∧ w' = wr.drew := (downW_any (atM D s k) (atM D k k) wr.drew hdz).mono fun e w' h => ⟨h.1, h.2.symm⟩
                have HVS := Lib.hid hVs
                have HRW4 := Lib.hid hrw4
                clear BKk BKs cellk cells hVk4 hVs hrw4
                generalize atM D k k = y at *
                generalize atM D s k = x at *
                generalize hqq : flW x y = q at *
                clear hqq
                have s0 : (0 : Int) ≤ (s : Int) := by omega
                have s1 : (s : Int) < (n : Int) := by omega
                have s2 : (s : Int) < (k : Int) := by omega
                go_wp2_with fail
                go_still_tail 23, (by kernel_rfl)
                still_call DW
                repeat still_step
                try refine wpStill_nil ?_
                change wpList _ _ _ _ _ wr.drew
                go_wp2_with fail
                with_reducible refine LW.mono ?_
                rintro e w4 ⟨rfl, bk5, hg4⟩
                have hg4 : wr.grownBy w4 (some bs) := ⟨hg4.os, hg4.tape, hg4.output, hg4.size, hg4.block⟩
                obtain ⟨R4, hlb⟩ := HRW4.out.row1 hsn HVS.out (by omega) (l := subW (D.getD s []) (D.getD k []) q) (by rw [subW_len _ (by rw [HRS.out.sq.row k hlt, HRS.out.sq.row s hsn]), HRS.out.sq.row s hsn]) (HRS.out.sq.row s hsn) bk5 hg4
                have R6 := Lib.hid (show MR w4 w.heap.size w1.heap.size b off n (redS k (s + 1) C) from ⟨V4, R4.congr fun i hi => by
                  rw [HRE.out]
                  unfold subR
                  rw [getD_setR (by rw [HRS.out.sq.len]; exact hsn)]⟩)
                have B4 := Lib.hid (hbe4.out.grown hg4 hbe4.out.size (fun k hk => by injection hk with hk; rw [← hk]; exact hlb))
                have Z4 := Lib.hid (Nat.le_trans hsz4.out hg4.size)
                clear R4 bk5 hg4 LW DW
                go_wp2
                go_roundw
                case rel => exact ⟨s + 1, by omega, by go_num, R6, B4, Z4⟩
                case measure => simp [intOf]; omega
              · obtain rfl : s = k := by omega
                rw [← HEQ2.out] at hmr4
                go_wp2
                go_roundw
                case rel => exact ⟨s + 1, by omega, by go_num, hmr4, hbe4, hsz4⟩
                case measure => simp [intOf]; omega
    · obtain rfl : k = n := by omega
      obtain ⟨V, hrw⟩ := hmr.out
      have HIS := Lib.hid (hrw.iss hnc hcm hlo hhi)
      have HLE := Lib.hid (show (List.range k).map (fun i => (herS k k M).getD i []) = herS k k M from by
        have hl := (HH.out k (Nat.le_refl _)).sq.len
        apply List.ext_getElem
        · simp [hl]
        · intro i h1 h2
          simp [List.getD_eq_getElem?_getD, List.getElem?_eq_getElem h2])
      have hzz := hsz.out
      clear hrw
      go_wp2
      go_ret
      refine ⟨_, rfl, ?_, hbe.out⟩
      rw [← HLE.out]
      exact HIS.out.mono (Nat.le_refl _) hzz
end Go.Proofs.Ytehhoplenloocaa
