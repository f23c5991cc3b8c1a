/- B18: texts in one: HerI HerA HerO HerS HerB. -/
import Derived.Test.YtehhoplenloocaaB17
import Derived.Deep.RegionHeld3
import Derived.StillTailTactics
import Derived.BigQuiet
/- Hermite's form: the program's walk. -/
namespace Go.Proofs.Ytehhoplenloocaa
open Go.RowKit
set_option linter.unusedVariables false
set_option linter.unusedSimpArgs false

theorem RowsW.far {w : World} {lo hi b off n : Nat} {V : Nat → Value} {cur : Nat → List Int} (h : RowsW w lo hi b off n V cur) {i j : Nat} (hi' : i < n) (hj : j < n) (hij : i ≠ j) {br : Nat} (hb : blkOf (V j) = some br) : blkOf (V i) = none ∨ blkOf (V i) ≠ some br := by
  rcases Nat.lt_or_ge i j with g | g
  · rcases h.apart i j g hj with e | e
    · rw [hb] at e; cases e
    · rw [hb] at e; exact .inr fun e' => e e'.symm
  · have := h.apart j i (by omega) hi'
    rwa [hb] at this
/-- one row has been written by a callee -/
theorem RowsW.row1 {w w' : World} {lo hi b off n k br or' cr m : Nat} {V : Nat → Value} {cur : Nat → List Int} (h : RowsW w lo hi b off n V cur) (hk : k < n) (hv : V k = .slice (some ⟨br, or', none⟩) m cr) (hm : 0 < m) {l : List Int} (hl : l.length = m) (hcl : (cur k).length = m)
    (hbk : BK w' br or' m 3 (fun i => .int .i64 (l.getD i 0))) (hg : w.grownBy w' (some br)) : RowsW w' lo hi b off n V (fun i => if i = k then l else cur i) ∧ lo ≤ br := by
  obtain ⟨br', or2, cr', hv', hlo, hhi, hne, -⟩ := h.at hk (by omega)
  rw [hv] at hv'
  injection hv' with e1 e2 e3
  injection e1 with e1
  injection e1 with e1 e4
  subst e1 e4 e3
  have hblk : blkOf (V k) = some br := by rw [hv]; exact blkOf_some _ _ _ _ hm
  refine ⟨⟨h.outer.of_block (hg.block b h.outer.lt (by intro e; injection e with e; exact hne e.symm)), fun i hi => ?_, h.apart⟩, hlo⟩
  by_cases e : i = k
  · subst e
    rw [if_pos rfl]
    obtain ⟨a, cap, hva, l1, l2, -⟩ := id (h.row i hi)
    rw [hv] at hva
    injection hva with _ hva2 hva
    subst hva
    refine ⟨_, cr, by rw [hv, hl], by rw [hl]; omega, l2, fun _ => ⟨br, or', rfl, hlo, hhi, ?_⟩⟩
    rw [hl]; exact hbk
  · rw [if_neg e]
    exact (h.row i hi).grown hg (h.far hi hk e hblk)
def swF {α : Type} (k r : Nat) (f : Nat → α) (i : Nat) : α := if i = k then f r else if i = r then f k else f i
/-- two rows have changed their places -/
theorem RowsW.swap {w : World} {lo hi b off n k r : Nat} {V : Nat → Value} {cur : Nat → List Int} (h : RowsW w lo hi b off n V cur) (hk : k < n) (hr : r < n) (hkr : k ≠ r) (hl : ∀ i, i < n → 0 < (cur i).length) :
    RowsW ((w.setCell ⟨b, off + r, none⟩ (V k)).setCell ⟨b, off + k, none⟩ (V r)) lo hi b off n (swF k r V) (swF k r cur) := by
  have hg : w.grownBy ((w.setCell ⟨b, off + r, none⟩ (V k)).setCell ⟨b, off + k, none⟩ (V r)) (some b) := by
    refine ⟨rfl, rfl, rfl, by simp, fun i hi hne' => ?_⟩
    have hn : i ≠ b := by intro e; apply hne'; rw [e]
    rw [Below.heap_setCell _ _ _ _ hn, Below.heap_setCell _ _ _ _ hn]
  have hrow : ∀ i, i < n → IS ((w.setCell ⟨b, off + r, none⟩ (V k)).setCell ⟨b, off + k, none⟩ (V r)) lo hi (V i) (cur i) := fun i hi => by
    obtain ⟨br, or', cr, hv, -, -, hne, -⟩ := h.at hi (hl i hi)
    exact (h.row i hi).grown hg (.inr (by rw [hv, blkOf_some _ _ _ _ (hl i hi)]; intro e; injection e with e; exact hne e))
  refine ⟨?_, fun i hi => ?_, fun i j hij hj => ?_⟩
  · exact ((h.outer.set hr (V k)).set hk (V r)).congr fun i hi => rfl
  · unfold swF
    by_cases e : i = k
    · rw [if_pos e, if_pos e]; exact hrow r hr
    · rw [if_neg e, if_neg e]
      by_cases e2 : i = r
      · rw [if_pos e2, if_pos e2]; exact hrow k hk
      · rw [if_neg e2, if_neg e2]; exact hrow i hi
  · have hap : ∀ x y, x < n → y < n → x ≠ y → blkOf (V y) = none ∨ blkOf (V y) ≠ blkOf (V x) := fun x y hx hy hxy => by
      obtain ⟨br, or', cr, hv, -⟩ := h.at hx (hl x hx)
      have hb : blkOf (V x) = some br := by rw [hv]; exact blkOf_some _ _ _ _ (hl x hx)
      rw [hb]; exact h.far hy hx (Ne.symm hxy) hb
    have hs : ∀ i, swF k r V i = V (swF k r id i) := fun i => by unfold swF; split <;> (try split) <;> rfl
    have hl2 : ∀ i, i < n → swF k r id i < n := fun i hi => by unfold swF; simp only [id]; split <;> (try split) <;> omega
    have hne : swF k r id i ≠ swF k r id j := by unfold swF; simp only [id]; split <;> split <;> (try split) <;> (try split) <;> omega
    rw [hs i, hs j]
    exact hap _ _ (hl2 i (by omega)) (hl2 j hj) hne
/-- a number of a row of rows, as the world has it -/
def rdM (w : World) (b off r k : Nat) : Nat :=
  match w.cell? ⟨b, off + r, none⟩ with
  | some (.slice (some a) _ _) => match w.cell? ⟨a.block, a.off + k, none⟩ with
    | some (.int _ x) => x.natAbs
    | _ => 0
  | _ => 0
theorem rdM_of {w : World} {b off r k br or' m cr : Nat} {x : Int} (h1 : w.cell? ⟨b, off + r, none⟩ = some (.slice (some ⟨br, or', none⟩) m cr)) (h2 : w.cell? ⟨br, or' + k, none⟩ = some (.int .i64 x)) : rdM w b off r k = x.natAbs := by
  unfold rdM; rw [h1]; simp only [h2]
def MR (w : World) (lo hi b off n : Nat) (M : List (List Int)) : Prop := ∃ V, RowsW w lo hi b off n V (fun i => M.getD i [])
theorem MR.drew {w : World} {lo hi b off n : Nat} {M : List (List Int)} (h : MR w lo hi b off n M) : MR w.drew lo hi b off n M := by
  obtain ⟨V, h⟩ := h
  exact ⟨V, h.outer.of_block rfl, fun i hi' => (h.row i hi').keep (below_draws hi _ 1) (Nat.le_refl _), h.apart⟩
theorem MR.row {w : World} {lo hi b off n : Nat} {M : List (List Int)} {V : Nat → Value} (h : RowsW w lo hi b off n V (fun i => M.getD i [])) (hs : Sq n M) {k : Nat} (hk : k < n) :
    ∃ br or' cr, V k = .slice (some ⟨br, or', none⟩) n cr ∧ w.cell? ⟨b, off + k, none⟩ = some (.slice (some ⟨br, or', none⟩) n cr) ∧ lo ≤ br ∧ br < hi ∧ BK w br or' n 3 (fun i => .int .i64 ((M.getD k []).getD i 0)) ∧ ∀ j, j < n → w.cell? ⟨br, or' + j, none⟩ = some (.int .i64 (atM M k j)) := by
  obtain ⟨br, or', cr, hv, h1, h2, h3, h4⟩ := h.at hk (by show 0 < (M.getD k []).length; rw [hs.row k hk]; omega)
  have hv : V k = .slice (some ⟨br, or', none⟩) (M.getD k []).length cr := hv
  have h4 : BK w br or' (M.getD k []).length 3 (fun i => .int .i64 ((M.getD k []).getD i 0)) := h4
  rw [hs.row k hk] at hv h4
  exact ⟨br, or', cr, hv, by rw [← hv]; exact h.outer.cell hk, h1, h2, h4, fun j hj => h4.cell hj⟩
theorem swF_step {n k r : Nat} {Q : List (List Int)} (h : Sq n Q) (hk : k < n) (hr : r < n) (hkr : k ≠ r) (q : Int) (i : Nat) : swF k r (fun i => if i = k then subW (Q.getD k []) (Q.getD r []) q else Q.getD i []) i = (stepQ k r q Q).getD i [] := by
  unfold swF stepQ
  rw [getD_setR (by rw [List.length_set, h.len]; exact hr), getD_setR (by rw [h.len]; exact hk)]
  by_cases e : i = k
  · subst e
    rw [if_pos rfl, if_neg hkr, if_pos rfl]
    show (if r = i then _ else _) = _
    rw [if_neg (Ne.symm hkr)]
  · rw [if_neg e]
    by_cases e2 : i = r
    · subst e2
      rw [if_pos rfl, if_pos rfl]
      show (if k = k then _ else _) = _
      rw [if_pos rfl]
    · rw [if_neg e2, if_neg e2, if_neg e]
      show (if i = k then _ else _) = _
      rw [if_neg e]
theorem subW_neg (a : List Int) : subW a a 2 = neW a := by
  apply List.ext_getElem?
  intro i
  unfold subW neW
  rw [List.getElem?_zipWith, List.getElem?_map]
  cases a[i]? with
  | none => rfl
  | some x =>
    show some (wrap64 (x - wrap64 (x * 2))) = some (wrap64 (x * -1))
    congr 1
    unfold wrap64; omega
theorem copyInts_row {n : Nat} (l : List Int) (hn : l.length = n) (h0 : 0 < n) (h3 : n ≤ 3) (v : Value) (hb : Nat) (w : World) (h : ISr w hb v l) :
    Calls Try.prog 82 #[v] w fun e w' => ∃ bc oc cc, e = .returned (.slice (some ⟨bc, oc, none⟩) n cc) ∧ w.heap.size ≤ bc ∧ bc < w'.heap.size ∧ (∀ i, i < n → w'.cell? ⟨bc, oc + i, none⟩ = some (.int .i64 (l.getD i 0))) ∧ Below w.heap.size w w' :=
  (copyInts_any l v hb w h (by omega)).mono fun e w' ⟨u, he, ho, hbl⟩ => by
    rcases ho.is.cases with ⟨e1, -⟩ | ⟨-, -, bc, oc, cc, hv, -, -, g1, g2, g3⟩
    · rw [e1] at hn; simp at hn; omega
    · rw [hn] at hv g3
      exact ⟨bc, oc, cc, by rw [he, hv], g1, g2, fun i hi => g3.cell hi, hbl⟩
theorem negS_no {k : Nat} {C : List (List Int)} (h : ¬ atM C k k < 0) : negS k C = C := by unfold negS; rw [if_neg h]
theorem negS_yes {k : Nat} {C : List (List Int)} (h : atM C k k < 0) : negS k C = C.set k (neW (C.getD k [])) := by unfold negS; rw [if_pos h]
set_option maxRecDepth 100000 in
set_option maxHeartbeats 8000000 in
theorem hermite_any (M : List (List Int)) (n : Nat) (v : Value) (hb : Nat) (w : World) (h : ISSr w hb v M) (hhb : hb ≤ w.heap.size) (hI : HI n 0 M) (h1 : 1 ≤ n) (h3 : n ≤ 3) :
    Calls Try.prog 81 #[v] w fun e w' => ∃ u, e = .returned u ∧ ISS w' w.heap.size w'.heap.size u (herS n n M) ∧ Below w.heap.size w w' := by
  have hn := hI.sq.len
  have CP := copyPoints_any M v hb w h hhb (by omega) (fun i hi => by rw [hI.sq.row i (by omega)]; omega)
  have HH := Lib.hid (herS_hi hI h3)
  obtain ⟨a, cap, rfl, -⟩ := id h
  rw [hn] at CP ⊢
  have HN := Lib.hid hn
  clear h hI hn
  go_enter Try.func81, Try.ntmps81
  go_wp2_with fail
  with_reducible refine CP.mono ?_
  rintro e w1 ⟨u, rfl, ku, c1⟩
  obtain ⟨b, off, cp, V0, rfl, hlo, hhi, hnc, hcm, hrw⟩ := RowsW.of ku.is (by rw [HN.out]; omega)
  rw [HN.out] at hnc hrw ⊢
  have HRW := Lib.hid (show MR w1 w.heap.size w1.heap.size b off n (herS n 0 M) from ⟨V0, hrw⟩)
  have B1 := Lib.hid c1
  clear ku c1 CP hrw V0
  go_wp2
  go_loopw [4, 5, 6, 11] (fun _ _ _ i wr => ∃ (k : Nat), k ≤ n ∧ i = .int .i64 k ∧ Hid (MR wr w.heap.size w1.heap.size b off n (herS n k M)) ∧ Hid (Below w.heap.size w wr) ∧ Hid (w1.heap.size ≤ wr.heap.size)) (fun _ _ _ i _ => n - (intOf i).toNat)
  case atStart => exact ⟨0, by omega, rfl, HRW, B1, Lib.hid (Nat.le_refl _)⟩
  case round =>
    obtain ⟨k, hk, rfl, hmr, hbe, hsz⟩ := hrel
    by_cases hlt : k < n
    · have HK := HH.out k hk
      have HEQ := Lib.hid (show herS n (k + 1) M = redS k k (negS k (colS k (n - 1 - k) (herS n k M))) from rfl)
      have HCE := Lib.hid (colS_end HK h3 hlt)
      have HCA := Lib.hid (colS_all HK h3)
      have hdec : decide ((k : Int) < n) = true := by simp; omega
      have hkk : IntKind.i64.wrap ((k : Int) + 1) = (k : Int) + 1 := wr64 _ (by omega)
      obtain ⟨wy, hwy⟩ : ∃ wy, wy = wr := ⟨_, rfl⟩
      subst hwy
      generalize herS n k M = N at *
      go_wp2
      go_loopw [5] (fun i wr2 => ∃ (t : Nat), k + 1 + t ≤ n ∧ i = .int .i64 ((k : Int) + 1 + t) ∧ Hid (MR wr2 w.heap.size w1.heap.size b off n (colS k t N)) ∧ Hid (Below w.heap.size w wr2) ∧ Hid (w1.heap.size ≤ wr2.heap.size)) (fun i _ => n - (intOf i).toNat)
      case atStart => exact ⟨0, by omega, by simp, hmr, hbe, hsz⟩
      case round =>
        obtain ⟨t, ht, rfl, hmr2, hbe2, hsz2⟩ := hrel
        clear hmr hbe hsz
        by_cases htt : k + 1 + t < n
        · have hd2 : decide ((k : Int) + 1 + t < n) = true := by simp; omega
          have HCB := Lib.hid (HCA.out t ht).1
          have HCN := Lib.hid (show colS k (t + 1) N = eucM (atM (colS k t N) (k + 1 + t) k).natAbs k (k + 1 + t) (colS k t N) from rfl)
          obtain ⟨wz, hwz⟩ : ∃ wz, wz = wr := ⟨_, rfl⟩
          subst hwz
          generalize colS k t N = P at *
          obtain ⟨r, hr⟩ : ∃ r, r = k + 1 + t := ⟨_, rfl⟩
          have hrI : (k : Int) + 1 + t = (r : Int) := by omega
          rw [hrI] at hd2 ⊢
          have hkr : k < r := by omega
          have hrn : r < n := by omega
          have hrn2 : (r : Int) < (n : Int) := by omega
          have hk2 : (k : Int) < (n : Int) := by omega
          rw [← hr] at HCN
          have HRR := Lib.hid hr
          have HRI := Lib.hid hrI
          clear hr hrI htt hdec hkk ht
          go_wp2
          go_loopw [] (fun wr3 => ∃ (f : Nat) (Q : List (List Int)), (atM Q r k).natAbs ≤ f ∧ Hid (eucM f k r Q = eucM (atM P r k).natAbs k r P) ∧ Hid (HI n k Q) ∧ Hid (MR wr3 w.heap.size w1.heap.size b off n Q) ∧ Hid (Below w.heap.size w wr3) ∧ Hid (w1.heap.size ≤ wr3.heap.size)) (fun wr3 => rdM wr3 b off r k)
          case atStart => exact ⟨_, P, Nat.le_refl _, Lib.hid rfl, HCB, hmr2, hbe2, hsz2⟩
          case round =>
            obtain ⟨f, Q, hf, heu, hq, hmr3, hbe3, hsz3⟩ := hrel
            clear hmr2 hbe2 hsz2 HCB
            obtain ⟨V, hrw⟩ := hmr3.out
            obtain ⟨bk, ok, ck, hVk, ckO, -, hbk1, BKk, cellk⟩ := MR.row hrw hq.out.sq hlt
            obtain ⟨br, orr, cr, hVr, crO, -, hbr1, BKr, cellr⟩ := MR.row hrw hq.out.sq hrn
            have crk := cellr k hlt
            have ckk := cellk k hlt
            have HRD := Lib.hid (rdM_of crO crk)
            by_cases e0 : atM Q r k = 0
            · have hQ : eucM f k r Q = Q := by cases f with
                | zero => rfl
                | succ f => unfold eucM; rw [if_pos e0]
              have HEND := Lib.hid (show colS k (t + 1) N = Q by rw [HCN.out, ← heu.out, hQ])
              rw [e0] at crk
              clear hQ heu hf HRD cellk cellr BKk BKr
              go_wp2
              go_roundw
              case rel =>
                have hrr := HRR.out
                exact ⟨t + 1, by omega, by have := HRI.out; go_num, by rw [HEND.out]; exact hmr3, hbe3, hsz3⟩
              case measure => have hrr := HRR.out; simp [intOf]; omega
            · have hne : br ≠ bk := by
                intro e
                rcases hrw.apart k r hkr hrn with e2 | e2
                · rw [hVr, blkOf_some _ _ _ _ (by omega)] at e2; cases e2
                · rw [hVr, hVk, blkOf_some _ _ _ _ (by omega), blkOf_some _ _ _ _ (by omega), e] at e2; exact e2 rfl
              have LW := lessW_any (Q.getD k []) (Q.getD r []) (qE k r Q) bk ok ck br orr cr n wr.drew (hq.out.sq.row k hlt) (hq.out.sq.row r hrn) h3 BKk (fun i hi => cellr i hi) hne (show br < wr.heap.size from BKr.lt)
              have HEU := Lib.hid (show ∃ f', (atM (stepQ k r (qE k r Q) Q) r k).natAbs ≤ f' ∧ eucM f' k r (stepQ k r (qE k r Q) Q) = eucM (atM P r k).natAbs k r P from by
                cases f with
                | zero => omega
                | succ f =>
                  refine ⟨f, ?_, ?_⟩
                  · rw [stepQ_at hq.out.sq hlt hrn (by omega) _ r hlt, if_pos rfl]
                    unfold qE
                    rw [euc_rem e0 (hq.out.inr r k)]
                    have := tmod_natAbs (atM Q k k) (atM Q r k) e0
                    omega
                  · rw [← heu.out]
                    show _ = (if atM Q r k = 0 then Q else _)
                    rw [if_neg e0])
              have HLT := Lib.hid (show (atM (stepQ k r (qE k r Q) Q) r k).natAbs < (atM Q r k).natAbs from by
                rw [stepQ_at hq.out.sq hlt hrn (by omega) _ r hlt, if_pos rfl]
                unfold qE
                rw [euc_rem e0 (hq.out.inr r k)]
                exact tmod_natAbs (atM Q k k) (atM Q r k) e0)
              have HQ' := Lib.hid (hq.out.step h3 hkr hrn (qE k r Q))
              have hqv : IntKind.i64.wrap ((atM Q k k).tdiv (atM Q r k)) = qE k r Q := by rw [wrap_64]; rfl
              have HBK := Lib.hid BKk
              have HVK := Lib.hid hVk
              have HVR := Lib.hid hVr
              have HRW := Lib.hid hrw
              clear BKk BKr cellk cellr hVk hVr hrw heu hf
              generalize atM Q k k = x at *
              generalize atM Q r k = y at *
              generalize hqq : qE k r Q = q at *
              clear hqq
              have k0 : (0 : Int) ≤ (k : Int) := by omega
              have r0 : (0 : Int) ≤ (r : Int) := by omega
              go_wp2_with fail
              go_still_tail 23, (by kernel_rfl)
              change wpList _ _ _ _ _ wr.drew
              go_wp2_with fail
              with_reducible refine LW.mono ?_
              rintro e w4 ⟨rfl, bk4, hg4⟩
              have hg4 : wr.grownBy w4 (some bk) := ⟨hg4.os, hg4.tape, hg4.output, hg4.size, hg4.block⟩
              obtain ⟨R4, hlb⟩ := HRW.out.row1 hlt HVK.out (by omega) (l := subW (Q.getD k []) (Q.getD r []) q) (by rw [subW_len _ (by rw [hq.out.sq.row k hlt, hq.out.sq.row r hrn]), hq.out.sq.row k hlt]) (hq.out.sq.row k hlt) bk4 hg4
              have hlen : ∀ i, i < n → 0 < (if i = k then subW (Q.getD k []) (Q.getD r []) q else Q.getD i []).length := fun i hi => by
                split
                · rw [subW_len _ (by rw [hq.out.sq.row k hlt, hq.out.sq.row r hrn]), hq.out.sq.row k hlt]; omega
                · rw [hq.out.sq.row i hi]; omega
              have R5 := R4.swap hlt hrn (by omega) hlen
              have R6 := Lib.hid (show MR _ _ _ _ _ _ (stepQ k r q Q) from ⟨_, R5.congr fun i hi => swF_step hq.out.sq hlt hrn (by omega) q i⟩)
              have B4 := Lib.hid (hbe3.out.grown hg4 hbe3.out.size (fun k hk => by injection hk with hk; rw [← hk]; exact hlb))
              have Z4 := hg4.size
              have dkO := R4.outer.cell hlt
              have drO := R4.outer.cell hrn
              have fzO := R4.outer.frozen (off + k)
              have fzr := R4.outer.frozen (off + r)
              rw [HVK.out] at dkO R6
              rw [HVR.out] at drO R6
              clear R4 R5 hlen bk4 hg4 LW hqv
              go_wp2_with fail
              go_region
              obtain ⟨f', hf', heu'⟩ := HEU.out
              have HEU' := Lib.hid heu'
              have hb4 := B4.out.size
              have HME := Lib.hid (show rdM ((w4.setCell ⟨b, off + r, none⟩ (.slice (some ⟨bk, ok, none⟩) n ck)).setCell ⟨b, off + k, none⟩ (.slice (some ⟨br, orr, none⟩) n cr)) b off r k < rdM wr b off r k from by
                obtain ⟨V6, r6⟩ := R6.out
                obtain ⟨b6, o6, c6, -, d6, -, -, -, e6⟩ := MR.row r6 HQ'.out.sq hrn
                rw [rdM_of d6 (e6 k hlt), HRD.out]
                exact HLT.out)
              clear heu' dkO drO fzO fzr ckO crO ckk crk HEU HLT
              go_wp2
              go_roundw
              case rel => exact ⟨f', stepQ k r q Q, hf', HEU', HQ', Lib.hid R6.out.drew, Lib.hid (((B4.out.setCell (show w.heap.size ≤ b from hlo) _).setCell (show w.heap.size ≤ b from hlo) _).trans (below_draws _ _ 1)), Lib.hid (by have := hsz3.out; simp; omega)⟩
              case measure => exact HME.out
        · have hte : t = n - 1 - k := by omega
          have HCE2 : Hid (HI n (k + 1) (colS k t N)) := by rw [hte]; exact HCE
          have HEQ2 : Hid (herS n (k + 1) M = redS k k (negS k (colS k t N))) := by rw [hte]; exact HEQ
          clear HCE HEQ HCA
          generalize colS k t N = C at *
          have HNH := Lib.hid (negS_hi HCE2.out h3 hlt)
          obtain ⟨V, hrw⟩ := hmr2.out
          obtain ⟨bk, ok, ck, hVk, ckO, hbk0, hbk1, BKk, cellk⟩ := MR.row hrw HCE2.out.sq hlt
          have ckk := cellk k hlt
          have k0 : (0 : Int) ≤ (k : Int) := by omega
          have hk2 : (k : Int) < (n : Int) := by omega
          have htI : ¬ (k : Int) + 1 + t < (n : Int) := by omega
          have hzz := hsz2.out
          clear hte hdec hkk
          by_cases hneg : atM C k k < 0
          · have HNE := Lib.hid (negS_yes hneg)
            have hrl := HCE2.out.sq.row k hlt
            have CPI := copyInts_row (C.getD k []) hrl (by omega) h3 (.slice (some ⟨bk, ok, none⟩) n ck) w1.heap.size wr.drew (by
              have := (hrw.row k hlt).read
              rw [hVk] at this
              exact this.keep (below_draws w1.heap.size wr 1) (Nat.le_refl _))
            have hbb : b < wr.heap.size := hrw.outer.lt
            have hbkl : bk < wr.heap.size := BKk.lt
            have hbne : b ≠ bk := by
              obtain ⟨br, or', cr, hv, -, -, hne, -⟩ := hrw.at hlt (by show 0 < (C.getD k []).length; omega)
              rw [hVk] at hv
              injection hv with e1
              injection e1 with e1
              injection e1 with e1
              rw [e1]; exact Ne.symm hne
            have HVK := Lib.hid hVk
            have HRW := Lib.hid hrw
            have HBK := Lib.hid BKk
            have HRL := Lib.hid hrl
            clear hVk hrw BKk cellk hrl
            generalize atM C k k = x at *
            go_wp2_with fail
            go_region_held3 (fun w' => w'.cell? ⟨b, off + k, none⟩ = some (.slice (some ⟨bk, ok, none⟩) n ck)) (first | exact ckO | exact d5 | exact d4 | go_keep)
              (first
                | (go_at_call 83; (with_reducible refine (lessW_any (C.getD k []) (C.getD k []) 2 bk ok ck bc oc cc n w4 HRL.out HRL.out h3 (HBK.out.keep c4' hbkl) gc (by omega) g2).mono ?_); rintro e w5 ⟨rfl, bk5, hg5⟩; have d5 : w5.cell? ⟨b, off + k, none⟩ = some (.slice (some ⟨bk, ok, none⟩) n ck) := (World.cell?_of_block (hg5.block b (Nat.lt_of_lt_of_le hbb c4'.size) (by intro e; injection e with e; exact hbne e))).trans d4)
                | (go_at_call 82; (with_reducible refine CPI.mono ?_); rintro e w4 ⟨bc, oc, cc, rfl, g1, g2, gc, c4⟩; have g1' : wr.heap.size ≤ bc := g1; have c4' : Below wr.heap.size wr w4 := (below_draws wr.heap.size wr 1).trans c4; have d4 := (c4'.cell (p := ⟨b, off + k, none⟩) hbb).trans ckO))
            have R5 := (HRW.out.keep c4' hzz hbb).row1 hlt HVK.out (by omega) (l := subW (C.getD k []) (C.getD k []) 2) (by rw [subW_len _ rfl, HRL.out]) HRL.out bk5 hg5
            have R6 : Hid (MR w5 w.heap.size w1.heap.size b off n (negS k C)) := Lib.hid ⟨V, R5.1.congr fun i hi => by
              rw [HNE.out, getD_setR (by rw [HCE2.out.sq.len]; exact hlt), subW_neg]⟩
            have B5 := Lib.hid ((below_then hbe2.out hbe2.out.size c4').grown hg5 (Nat.le_trans hbe2.out.size c4'.size) (fun k hk => by injection hk with hk; rw [← hk]; exact hbk0))
            have Z5 := Lib.hid (Nat.le_trans hzz (Nat.le_trans c4'.size hg5.size))
            clear R5 bk5 hg5 d5 d4 c4' c4 gc g1 g1' g2 CPI hmr2 hbe2 hsz2 HRW HBK HNE HCE2
            generalize negS k C = C2 at *
            have hmr2 := R6
            have hbe2 := B5
            have hsz2 := Z5
            go_wp2
            go_loopw [6] (fun j wr4 => ∃ (s : Nat), s ≤ k ∧ j = .int .i64 s ∧ Hid (MR wr4 w.heap.size w1.heap.size b off n (redS k s C2)) ∧ Hid (Below w.heap.size w wr4) ∧ Hid (w1.heap.size ≤ wr4.heap.size)) (fun j _ => k - (intOf j).toNat)
            case atStart => exact ⟨0, by omega, rfl, hmr2, hbe2, hsz2⟩
            case round =>
              obtain ⟨s, hs, rfl, hmr4, hbe4, hsz4⟩ := hrel
              clear hmr2 hbe2 hsz2 ckO ckk
              by_cases hst : s < k
              · have HRS := Lib.hid (redS_hi HNH.out h3 hlt s hs)
                have HRE := Lib.hid (show redS k (s + 1) C2 = subR s k (flW (atM (redS k s C2) s k) (atM (redS k s C2) k k)) (redS k s C2) from rfl)
                generalize redS k s C2 = D at *
                have hdz : ¬ atM D k k = 0 := diag_nz HRS.out.sq h3 hlt HRS.out.tri HRS.out.nz
                obtain ⟨V4, hrw4⟩ := hmr4.out
                have hsn : s < n := by omega
                obtain ⟨bk4, ok4, ck4, hVk4, ckO, -, hbk4, BKk, cellk⟩ := MR.row hrw4 HRS.out.sq hlt
                obtain ⟨bs, os, cs, hVs, csO, -, hbs4, BKs, cells⟩ := MR.row hrw4 HRS.out.sq hsn
                have ckk := cellk k hlt
                have csk := cells k hlt
                have hne : bk4 ≠ bs := by
                  intro e
                  rcases hrw4.apart s k hst hlt with e2 | e2
                  · rw [hVk4, blkOf_some _ _ _ _ (by omega)] at e2; cases e2
                  · rw [hVk4, hVs, blkOf_some _ _ _ _ (by omega), blkOf_some _ _ _ _ (by omega), e] at e2; exact e2 rfl
                have LW := lessW_any (D.getD s []) (D.getD k []) (flW (atM D s k) (atM D k k)) bs os cs bk4 ok4 ck4 n wr.drew (HRS.out.sq.row s hsn) (HRS.out.sq.row k hlt) h3 BKs (fun i hi => cellk i hi) hne (show bk4 < wr.heap.size from BKk.lt)
                have DW : Calls Try.prog 84 #[.int .i64 (atM D s k), .int .i64 (atM D k k)] wr.drew fun e w' => e = .returned (.int .i64 (flW (atM D s k) (atM D k k))) ∧ w' = wr.drew := (downW_any (atM D s k) (atM D k k) wr.drew hdz).mono fun e w' h => ⟨h.1, h.2.symm⟩
                have HVS := Lib.hid hVs
                have HRW4 := Lib.hid hrw4
                clear BKk BKs cellk cells hVk4 hVs hrw4
                generalize atM D k k = y at *
                generalize atM D s k = x at *
                generalize hqq : flW x y = q at *
                clear hqq
                have s0 : (0 : Int) ≤ (s : Int) := by omega
                have s1 : (s : Int) < (n : Int) := by omega
                have s2 : (s : Int) < (k : Int) := by omega
                go_wp2_with fail
                go_still_tail 23, (by kernel_rfl)
                still_call DW
                repeat still_step
                try refine wpStill_nil ?_
                change wpList _ _ _ _ _ wr.drew
                go_wp2_with fail
                with_reducible refine LW.mono ?_
                rintro e w4 ⟨rfl, bk5, hg4⟩
                have hg4 : wr.grownBy w4 (some bs) := ⟨hg4.os, hg4.tape, hg4.output, hg4.size, hg4.block⟩
                obtain ⟨R4, hlb⟩ := HRW4.out.row1 hsn HVS.out (by omega) (l := subW (D.getD s []) (D.getD k []) q) (by rw [subW_len _ (by rw [HRS.out.sq.row k hlt, HRS.out.sq.row s hsn]), HRS.out.sq.row s hsn]) (HRS.out.sq.row s hsn) bk5 hg4
                have R6 := Lib.hid (show MR w4 w.heap.size w1.heap.size b off n (redS k (s + 1) C2) from ⟨V4, R4.congr fun i hi => by
                  rw [HRE.out]
                  unfold subR
                  rw [getD_setR (by rw [HRS.out.sq.len]; exact hsn)]⟩)
                have B4 := Lib.hid (hbe4.out.grown hg4 hbe4.out.size (fun k hk => by injection hk with hk; rw [← hk]; exact hlb))
                have Z4 := Lib.hid (Nat.le_trans hsz4.out hg4.size)
                clear R4 bk5 hg4 LW DW
                go_wp2
                go_roundw
                case rel => exact ⟨s + 1, by omega, by go_num, R6, B4, Z4⟩
                case measure => simp [intOf]; omega
              · obtain rfl : s = k := by omega
                rw [← HEQ2.out] at hmr4
                go_wp2
                go_roundw
                case rel => exact ⟨s + 1, by omega, by go_num, hmr4, hbe4, hsz4⟩
                case measure => simp [intOf]; omega
          · have HNE := Lib.hid (negS_no hneg)
            rw [HNE.out] at HNH HEQ2
            clear HNE hrw BKk cellk
            generalize atM C k k = x at *
            go_wp2
            go_loopw [6] (fun j wr4 => ∃ (s : Nat), s ≤ k ∧ j = .int .i64 s ∧ Hid (MR wr4 w.heap.size w1.heap.size b off n (redS k s C)) ∧ Hid (Below w.heap.size w wr4) ∧ Hid (w1.heap.size ≤ wr4.heap.size)) (fun j _ => k - (intOf j).toNat)
            case atStart => exact ⟨0, by omega, rfl, hmr2, hbe2, hsz2⟩
            case round =>
              obtain ⟨s, hs, rfl, hmr4, hbe4, hsz4⟩ := hrel
              clear hmr2 hbe2 hsz2 ckO ckk
              by_cases hst : s < k
              · have HRS := Lib.hid (redS_hi HNH.out h3 hlt s hs)
                have HRE := Lib.hid (show redS k (s + 1) C = subR s k (flW (atM (redS k s C) s k) (atM (redS k s C) k k)) (redS k s C) from rfl)
                generalize redS k s C = D at *
                have hdz : ¬ atM D k k = 0 := diag_nz HRS.out.sq h3 hlt HRS.out.tri HRS.out.nz
                obtain ⟨V4, hrw4⟩ := hmr4.out
                have hsn : s < n := by omega
                obtain ⟨bk4, ok4, ck4, hVk4, ckO, -, hbk4, BKk, cellk⟩ := MR.row hrw4 HRS.out.sq hlt
                obtain ⟨bs, os, cs, hVs, csO, -, hbs4, BKs, cells⟩ := MR.row hrw4 HRS.out.sq hsn
                have ckk := cellk k hlt
                have csk := cells k hlt
                have hne : bk4 ≠ bs := by
                  intro e
                  rcases hrw4.apart s k hst hlt with e2 | e2
                  · rw [hVk4, blkOf_some _ _ _ _ (by omega)] at e2; cases e2
                  · rw [hVk4, hVs, blkOf_some _ _ _ _ (by omega), blkOf_some _ _ _ _ (by omega), e] at e2; exact e2 rfl
                have LW := lessW_any (D.getD s []) (D.getD k []) (flW (atM D s k) (atM D k k)) bs os cs bk4 ok4 ck4 n wr.drew (HRS.out.sq.row s hsn) (HRS.out.sq.row k hlt) h3 BKs (fun i hi => cellk i hi) hne (show bk4 < wr.heap.size from BKk.lt)
                have DW : Calls Try.prog 84 #[.int .i64 (atM D s k), .int .i64 (atM D k k)] wr.drew fun e w' => e = .returned (.int .i64 (flW (atM D s k) (atM D k k))) ∧ w' = wr.drew := (downW_any (atM D s k) (atM D k k) wr.drew hdz).mono fun e w' h => ⟨h.1, h.2.symm⟩
                have HVS := Lib.hid hVs
                have HRW4 := Lib.hid hrw4
                clear BKk BKs cellk cells hVk4 hVs hrw4
                generalize atM D k k = y at *
                generalize atM D s k = x at *
                generalize hqq : flW x y = q at *
                clear hqq
                have s0 : (0 : Int) ≤ (s : Int) := by omega
                have s1 : (s : Int) < (n : Int) := by omega
                have s2 : (s : Int) < (k : Int) := by omega
                go_wp2_with fail
                go_still_tail 23, (by kernel_rfl)
                still_call DW
                repeat still_step
                try refine wpStill_nil ?_
                change wpList _ _ _ _ _ wr.drew
                go_wp2_with fail
                with_reducible refine LW.mono ?_
                rintro e w4 ⟨rfl, bk5, hg4⟩
                have hg4 : wr.grownBy w4 (some bs) := ⟨hg4.os, hg4.tape, hg4.output, hg4.size, hg4.block⟩
                obtain ⟨R4, hlb⟩ := HRW4.out.row1 hsn HVS.out (by omega) (l := subW (D.getD s []) (D.getD k []) q) (by rw [subW_len _ (by rw [HRS.out.sq.row k hlt, HRS.out.sq.row s hsn]), HRS.out.sq.row s hsn]) (HRS.out.sq.row s hsn) bk5 hg4
                have R6 := Lib.hid (show MR w4 w.heap.size w1.heap.size b off n (redS k (s + 1) C) from ⟨V4, R4.congr fun i hi => by
                  rw [HRE.out]
                  unfold subR
                  rw [getD_setR (by rw [HRS.out.sq.len]; exact hsn)]⟩)
                have B4 := Lib.hid (hbe4.out.grown hg4 hbe4.out.size (fun k hk => by injection hk with hk; rw [← hk]; exact hlb))
                have Z4 := Lib.hid (Nat.le_trans hsz4.out hg4.size)
                clear R4 bk5 hg4 LW DW
                go_wp2
                go_roundw
                case rel => exact ⟨s + 1, by omega, by go_num, R6, B4, Z4⟩
                case measure => simp [intOf]; omega
              · obtain rfl : s = k := by omega
                rw [← HEQ2.out] at hmr4
                go_wp2
                go_roundw
                case rel => exact ⟨s + 1, by omega, by go_num, hmr4, hbe4, hsz4⟩
                case measure => simp [intOf]; omega
    · obtain rfl : k = n := by omega
      obtain ⟨V, hrw⟩ := hmr.out
      have HIS := Lib.hid (hrw.iss hnc hcm hlo hhi)
      have HLE := Lib.hid (show (List.range k).map (fun i => (herS k k M).getD i []) = herS k k M from by
        have hl := (HH.out k (Nat.le_refl _)).sq.len
        apply List.ext_getElem
        · simp [hl]
        · intro i h1 h2
          simp [List.getD_eq_getElem?_getD, List.getElem?_eq_getElem h2])
      have hzz := hsz.out
      clear hrw
      go_wp2
      go_ret
      refine ⟨_, rfl, ?_, hbe.out⟩
      rw [← HLE.out]
      exact HIS.out.mono (Nat.le_refl _) hzz
end Go.Proofs.Ytehhoplenloocaa

/- The start of Hermite's form: a matrix whose determinant is not nought. -/
namespace Go.Proofs.Ytehhoplenloocaa
open Go.RowKit
set_option linter.unusedVariables false

theorem sqB_sq {n : Nat} {M : List (List Int)} (h : SqB n M) : Sq n M := ⟨h.len, fun i hi => (h.row i hi).1⟩
theorem dN_det {M : List (List Int)} (h : SqB M.length M) (h1 : 1 ≤ M.length) (h3 : M.length ≤ 3) : dN M = detM M := by
  unfold detM
  rcases (show M.length = 1 ∨ M.length = 2 ∨ M.length = 3 by omega) with e | e | e
  · rw [e] at h ⊢
    rw [detF_one h]
    obtain ⟨a, rfl⟩ := (sqB_sq h).one
    rfl
  · rw [e] at h ⊢
    rw [detF_two h]
    obtain ⟨a, b, c, d, rfl⟩ := (sqB_sq h).two
    rfl
  · rw [e] at h ⊢
    rw [detF_three h]
    obtain ⟨a, b, c, d, e, f, g, i, j, rfl⟩ := (sqB_sq h).three
    simp only [dN, det3, dd, List.getD_cons_zero, List.getD_cons_succ]
    try grind
theorem hi_start {M : List (List Int)} (hm : matB M = true) (hd : ¬ detO M = 0) : HI M.length 0 M := by
  have hs := matB_sq hm
  have hl := matB_len hm
  rw [detO_yes hm] at hd
  have hb := detM_bd hm
  refine ⟨sqB_sq hs, fun i j => ?_, fun c hc => by omega, fun t ht => ?_⟩
  · unfold atM
    by_cases hi : i < M.length
    · by_cases hj : j < (M.getD i []).length
      · have := allIn_at (hs.row i hi).2 j hj; omega
      · rw [List.getD_eq_getElem?_getD, List.getElem?_eq_none (by omega)]; simp
    · rw [show M.getD i [] = [] by rw [List.getD_eq_getElem?_getD, List.getElem?_eq_none (by omega)]; rfl]; simp
  · rw [dN_det hs hl.1 hl.2] at ht
    omega
end Go.Proofs.Ytehhoplenloocaa

/- HermiteOf: the program's walk. -/
namespace Go.Proofs.Ytehhoplenloocaa
open Go.RowKit
set_option linter.unusedVariables false
set_option linter.unusedSimpArgs false

def hofV (M : List (List Int)) : List (List Int) × Bool := if detO M = 0 then ([], false) else if matB (herM M) then (herM M, true) else ([], false)
theorem hofV_no {M : List (List Int)} (h : detO M = 0) : hofV M = ([], false) := by unfold hofV; rw [if_pos h]
theorem hofV_no2 {M : List (List Int)} (h : ¬ detO M = 0) (h2 : matB (herM M) = false) : hofV M = ([], false) := by unfold hofV; rw [if_neg h, h2]; rfl
theorem hofV_yes {M : List (List Int)} (h : ¬ detO M = 0) (h2 : matB (herM M) = true) : hofV M = (herM M, true) := by unfold hofV; rw [if_neg h, h2]; rfl
set_option maxHeartbeats 1000000 in
theorem implHermiteOf_any (M : List (List Int)) (v : Value) (hb : Nat) (w : World) (h : ISSr w hb v M) (hhb : hb ≤ w.heap.size) :
    Calls Try.prog 88 #[v] w fun e w' => ∃ u, e = .returned (.tuple #[u, .bool (hofV M).2]) ∧ ISS w' w.heap.size w'.heap.size u (hofV M).1 ∧ Below w.heap.size w w' := by
  have DO := implDetOf_any M v hb w h hhb
  by_cases hd : detO M = 0
  · rw [hofV_no hd]
    rw [hd] at DO
    clear h hd
    go_enter Try.func88, Try.ntmps88
    go_wp2_with (go_at_call 105; (with_reducible refine DO.mono ?_); rintro e w1 ⟨rfl, c1⟩)
    go_ret2
    exact ⟨_, rfl, ISS.nil _ _ _, c1⟩
  · have hm : matB M = true := by
      cases hm : matB M
      · exact absurd (detO_no hm) hd
      · rfl
    have hl := matB_len hm
    have HE := fun W (B : Below w.heap.size w W) => hermite_any M M.length v hb W (h.keep B hhb) (Nat.le_trans hhb B.size) (hi_start hm hd) hl.1 hl.2
    have HV := Lib.hid (fun e => hofV_no2 hd e)
    have HY := Lib.hid (fun e => hofV_yes hd e)
    generalize detO M = d at *
    clear h hm hl
    go_enter Try.func88, Try.ntmps88
    go_wp2_with fail
    with_reducible refine DO.mono ?_
    rintro e w1 ⟨rfl, c1⟩
    have H1 := HE w1 c1
    have hdd : (d == 0) = false := by rw [beq_eq_false_iff_ne]; exact hd
    go_wp2_with fail
    with_reducible refine H1.mono ?_
    rintro e w2 ⟨u, rfl, ku, c2⟩
    have B2 := Lib.hid (below_then c1 c1.size c2)
    have MO := matrixOf_any (herM M) u w2.heap.size w2 ku.read
    have KU := Lib.hid (show ISS w2 w.heap.size w2.heap.size u (herM M) from ku.mono c1.size (Nat.le_refl _))
    clear H1 HE ku c2 c1
    cases hmb : matB (herM M)
    all_goals
      rw [hmb] at MO
    · have HVV := Lib.hid (HV.out hmb)
      go_wp2_with (go_at_call 146; (with_reducible refine MO.mono ?_); rintro e w7 ⟨rfl, rfl⟩)
      go_ret2
      rw [HVV.out]
      exact ⟨_, rfl, ISS.nil _ _ _, B2.out⟩
    · have HVV := Lib.hid (HY.out hmb)
      go_wp2_with (go_at_call 146; (with_reducible refine MO.mono ?_); rintro e w7 ⟨rfl, rfl⟩)
      go_ret2
      rw [HVV.out]
      exact ⟨_, rfl, KU.out, B2.out⟩
end Go.Proofs.Ytehhoplenloocaa

/- Hermite's form: the model's walk. -/
namespace Go.Proofs.Ytehhoplenloocaa
open Go.RowKit
set_option linter.unusedVariables false
set_option linter.unusedSimpArgs false

/-- a slice of the call's own of rows that are never written, laid open -/
structure RowsO (w : World) (lo b off n : Nat) (V : Nat → Value) (cur : Nat → List Int) : Prop where
  outer : BK w b off n 30 V
  row : ∀ i, i < n → IS w lo w.heap.size (V i) (cur i)
theorem RowsO.keep {w w' : World} {lo b off n : Nat} {V : Nat → Value} {cur : Nat → List Int} (h : RowsO w lo b off n V cur) (hb : Below w.heap.size w w') : RowsO w' lo b off n V cur :=
  ⟨h.outer.keep hb h.outer.lt, fun i hi => ((h.row i hi).keep hb (Nat.le_refl _)).mono (Nat.le_refl _) hb.size⟩
theorem RowsO.set {w : World} {lo b off n k : Nat} {V : Nat → Value} {cur : Nat → List Int} (h : RowsO w lo b off n V cur) (hk : k < n) {vr : Value} {r : List Int} (hr : IS w lo w.heap.size vr r) :
    RowsO (w.setCell ⟨b, off + k, none⟩ vr) lo b off n (fun i => if i = k then vr else V i) (fun i => if i = k then r else cur i) := by
  have hg : w.grownBy (w.setCell ⟨b, off + k, none⟩ vr) (some b) := ⟨rfl, rfl, rfl, by simp, fun i hi hne' => by
    rw [Below.heap_setCell _ _ _ _ (by intro e; apply hne'; rw [e])]⟩
  have hty : ∀ g, some b = some g → ∃ c e fr, w.heap[g]? = some (.cells c e fr) ∧ e ≠ 3 := fun g hg => by
    injection hg with hg
    subst hg
    obtain ⟨cs, e, -⟩ := h.outer
    exact ⟨cs, _, _, e, by decide⟩
  refine ⟨h.outer.set hk vr, fun i hi => ?_⟩
  have hsz : (w.setCell ⟨b, off + k, none⟩ vr).heap.size = w.heap.size := by simp
  rw [hsz]
  by_cases e : i = k
  · rw [if_pos e, if_pos e]; exact hr.grown_type hg hty
  · rw [if_neg e, if_neg e]; exact (h.row i hi).grown_type hg hty
theorem RowsO.congr {w : World} {lo b off n : Nat} {V : Nat → Value} {cur cur' : Nat → List Int} (h : RowsO w lo b off n V cur) (e : ∀ i, i < n → cur i = cur' i) : RowsO w lo b off n V cur' :=
  ⟨h.outer, fun i hi => by rw [← e i hi]; exact h.row i hi⟩
def MO (w : World) (lo b off n : Nat) (M : List (List Int)) : Prop := ∃ V, RowsO w lo b off n V (fun i => M.getD i [])
theorem MO.keep {w w' : World} {lo b off n : Nat} {M : List (List Int)} (h : MO w lo b off n M) (hb : Below w.heap.size w w') : MO w' lo b off n M := by
  obtain ⟨V, h⟩ := h; exact ⟨V, h.keep hb⟩
theorem MO.row {w : World} {lo b off n : Nat} {M : List (List Int)} {V : Nat → Value} (h : RowsO w lo b off n V (fun i => M.getD i [])) (hs : Sq n M) {k : Nat} (hk : k < n) :
    ∃ br or' cr, V k = .slice (some ⟨br, or', none⟩) n cr ∧ w.cell? ⟨b, off + k, none⟩ = some (.slice (some ⟨br, or', none⟩) n cr) ∧ lo ≤ br ∧ br < w.heap.size ∧ IS w lo w.heap.size (.slice (some ⟨br, or', none⟩) n cr) (M.getD k []) ∧ ∀ j, j < n → w.cell? ⟨br, or' + j, none⟩ = some (.int .i64 (atM M k j)) := by
  have hr := h.row k hk
  have hl := hs.row k hk
  rcases hr.cases with ⟨e, -⟩ | ⟨-, -, br, or', cr, hv, -, -, h1, h2, h3⟩
  · have e : M.getD k [] = [] := e
    rw [e] at hl; simp at hl; omega
  · have hv : V k = .slice (some ⟨br, or', none⟩) (M.getD k []).length cr := hv
    rw [hl] at hv
    have h3 : BK w br or' (M.getD k []).length 3 (fun i => .int .i64 ((M.getD k []).getD i 0)) := h3
    rw [hl] at h3
    rw [hv] at hr
    exact ⟨br, or', cr, hv, by rw [← hv]; exact h.outer.cell hk, h1, h2, hr, fun j hj => h3.cell hj⟩
theorem MO.of {w : World} {lo : Nat} {v : Value} {ls : List (List Int)} (h : ISS w lo w.heap.size v ls) (hn : 0 < ls.length) : ∃ b off cap, v = .slice (some ⟨b, off, none⟩) ls.length cap ∧ lo ≤ b ∧ b < w.heap.size ∧ ls.length ≤ cap ∧ cap ≤ maxLen ∧ MO w lo b off ls.length ls := by
  obtain ⟨b, off, cap, V, rfl, h1, h2, h3, h4, hw⟩ := RowsW.of h hn
  exact ⟨b, off, cap, rfl, h1, h2, h3, h4, V, hw.outer, hw.row⟩
theorem MO.read {w : World} {lo b off n cap : Nat} {M : List (List Int)} (h : MO w lo b off n M) (hn : M.length = n) (hc : n ≤ cap) (hm : cap ≤ maxLen) (hb : b < w.heap.size) : ISSr w w.heap.size (.slice (some ⟨b, off, none⟩) n cap) M := by
  obtain ⟨V, h⟩ := h
  subst hn
  exact ⟨_, cap, rfl, hc, hm, fun _ => ⟨b, off, V, rfl, hb, fun i hi => ⟨h.outer.cell hi, (h.row i hi).read⟩⟩⟩
theorem subW_mul (a b : List Int) (q : Int) : List.zipWith (fun x y => wrap64 (x - y)) a (b.map (fun x => wrap64 (x * q))) = subW a b q := by
  unfold subW; rw [List.zipWith_map_right]
set_option maxRecDepth 100000 in
set_option maxHeartbeats 8000000 in
theorem l3Hermite_any (M : List (List Int)) (n : Nat) (v : Value) (hb : Nat) (w : World) (h : ISSr w hb v M) (hhb : hb ≤ w.heap.size) (hI : HI n 0 M) (h1 : 1 ≤ n) (h3 : n ≤ 3) :
    Calls Try.prog 100 #[v] w fun e w' => ∃ u, e = .returned u ∧ ISSr w' w'.heap.size u (herS n n M) ∧ Below w.heap.size w w' := by
  obtain ⟨i0, hi0, hz0, hz1, hz2⟩ := info_parts info_ints
  have HI0 := Lib.hid hi0; clear hi0
  have HZ0 := Lib.hid hz0; clear hz0
  have HZ1 := Lib.hid hz1; clear hz1
  have HZ2 := Lib.hid hz2; clear hz2
  have hn := hI.sq.len
  have HH := Lib.hid (herS_hi hI h3)
  have HR := Lib.hid (fun i (hi : i < n) => hI.sq.row i hi)
  obtain ⟨a, cap, rfl, -, -, hcell⟩ := id h
  rw [hn] at hcell ⊢
  have HN := Lib.hid hn.symm
  have HC := Lib.hid hcell
  clear h hI hn hcell
  go_enter Try.func100, Try.ntmps100
  go_wp2
  go_loopw [3, 4] (fun ov i wr => ∃ (k : Nat) (acc : List (List Int)), k ≤ n ∧ i = .int .i64 k ∧ acc.length ≤ k ∧ Hid (acc = M.take k) ∧ Hid (OwnL wr w.heap.size ov acc) ∧ Hid (Below w.heap.size w wr)) (fun _ i _ => n - (intOf i).toNat)
  case atStart => exact ⟨0, [], by omega, rfl, Nat.le_refl _, Lib.hid (by simp), OwnL.lit0 w _ (Nat.le_refl _), below1 _ _⟩
  case round =>
    obtain ⟨k, acc, hk, rfl, hal, hacc, hown, hbe⟩ := hrel
    by_cases hlt : k < n
    · have hkl : k < M.length := by rw [← HN.out]; exact hlt
      obtain ⟨b, off, V0, rfl, hbb, hcc⟩ := HC.out (by intro e; rw [e] at hkl; exact absurd hkl (Nat.not_lt_zero _))
      have hck := ((hbe.out.trans ((below1 wr (.cells #[] 3)).mono hbe.out.size)).cell (p := ⟨b, off + k, none⟩) (Nat.lt_of_lt_of_le hbb hhb)).trans (hcc k hlt).1
      have hrow := ((hcc k hlt).2.keep hbe.out hhb).keep (below1 wr (.cells #[] 3)) (by have := hbe.out.size; omega)
      have HE := Lib.hid (take_snocL M k hkl)
      rw [← hacc.out] at HE
      have hrl := HR.out k hlt
      have hbs := hbe.out.size
      have HROW := Lib.hid hrow
      clear hcc hkl hrow
      generalize M.getD k [] = r at *
      have hrl2 : r.length ≤ 3 := by omega
      have HRL := Lib.hid hrl
      clear hrl
      generalize V0 k = xk at *
      have hck0 := hck
      go_wp2_with (at_builtin; refine wpList_append_I rfl _ _ rfl rfl rfl (OwnI.lit0 wr wr.heap.size (Nat.le_refl _)) HROW.out (by simp; omega) (by simp) ?_)
      intro au cu w2 hown2 hg2
      have hown2 : OwnI w2 wr.heap.size (.slice au r.length cu) r := hown2
      have c2 := (below1 wr (.cells #[] 3)).grown hg2 (by simp) (fun k hk => by simp [Value.ownBlock] at hk; omega)
      have HK := Lib.hid hown2.is
      obtain ⟨V, p, hpt⟩ := hown.out.part c2
      have HPT := Lib.hid hpt
      have HB2 := Lib.hid (below_then hbe.out hbs c2)
      have hs2 := c2.size
      clear hpt hown2 c2 hg2
      go_wp2_with (at_builtin; refine wpList_append_own _ rfl _ _ 24 rfl w.heap.size 30 i0 (.slice none 0 0) 1 24 Try.underlying24 HI0.out HZ0.out HZ1.out HZ2.out rfl (by decide) _ _ _ rfl (HPT.out.alloc _) ⟨w2.heap.size, 0, none⟩ 1 1 [.slice au r.length cu] rfl rfl ?c1 ?c2 ?c3 ?c4 ?c5 ?_)
      case c1 => exact cell_one_new _ _ _
      case c2 => first | rfl | (intro u hu; simp at hu; subst hu; rfl)
      case c3 => unfold maxLen; omega
      case c4 => omega
      case c5 => first | omega | (simp; omega)
      intro v2 w3 hown2 hgrow _
      have HO := Lib.hid (HPT.out.push HK.out (Nat.le_refl _) hs2 (Nat.le_refl _) hgrow hown2)
      have HBE := Lib.hid (OwnLp.below HB2.out (by omega) _ hgrow HPT.out (Nat.le_refl _))
      clear hown2 hgrow
      go_wp2
      go_roundw
      case rel => exact ⟨k + 1, _, by omega, by go_num, by simp; omega, HE, HO, HBE⟩
      case measure => simp [intOf]; omega
    · obtain rfl : k = n := by omega
      have hfin : acc = M := by rw [hacc.out, HN.out, List.take_length]
      subst hfin
      obtain ⟨b, off, cp, hv, hlo, hbh, hnc, hcm, hmo⟩ := MO.of hown.out.is (by rw [← HN.out]; omega)
      rw [← HN.out] at hv hnc hmo
      subst hv
      have HM0 := Lib.hid hmo
      have HB0 := Lib.hid hbe.out
      clear hmo hown hbe hacc hal
      obtain ⟨M, hMM⟩ : ∃ M, M = acc := ⟨_, rfl⟩
      subst hMM
      obtain ⟨n, hnn⟩ : ∃ n, n = k := ⟨_, rfl⟩
      subst hnn
      obtain ⟨w1, hww⟩ : ∃ w1, w1 = wr := ⟨_, rfl⟩
      subst hww
      have HM0 := Lib.hid (show MO w1 w.heap.size b off n (herS n 0 M) from HM0.out)
      clear hk hlt HC HR
      go_wp2
      go_loopw [5, 6, 7, 8, 9] (fun i _ _ _ _ wr => ∃ (k : Nat), k ≤ n ∧ i = .int .i64 k ∧ Hid (MO wr w.heap.size b off n (herS n k M)) ∧ Hid (Below w.heap.size w wr)) (fun i _ _ _ _ _ => n - (intOf i).toNat)
      case atStart => exact ⟨0, by omega, rfl, HM0, HB0⟩
      case round =>
        obtain ⟨k, hk, rfl, hmr, hbe⟩ := hrel
        clear HM0 HB0
        by_cases hlt : k < n
        · have HK := HH.out k hk
          have HEQ := Lib.hid (show herS n (k + 1) M = redS k k (negS k (colS k (n - 1 - k) (herS n k M))) from rfl)
          have HCE := Lib.hid (colS_end HK h3 hlt)
          have HCA := Lib.hid (colS_all HK h3)
          have hdec : decide ((k : Int) < n) = true := by simp; omega
          have hkk : IntKind.i64.wrap ((k : Int) + 1) = (k : Int) + 1 := wr64 _ (by omega)
          obtain ⟨wy, hwy⟩ : ∃ wy, wy = wr := ⟨_, rfl⟩
          subst hwy
          generalize herS n k M = N at *
          go_wp2
          go_loopw [6, 7, 8] (fun i _ _ wr2 => ∃ (t : Nat), k + 1 + t ≤ n ∧ i = .int .i64 ((k : Int) + 1 + t) ∧ Hid (MO wr2 w.heap.size b off n (colS k t N)) ∧ Hid (Below w.heap.size w wr2)) (fun i _ _ _ => n - (intOf i).toNat)
          case atStart => exact ⟨0, by omega, by simp, hmr, hbe⟩
          case round =>
            obtain ⟨t, ht, rfl, hmr2, hbe2⟩ := hrel
            clear hmr hbe
            by_cases htt : k + 1 + t < n
            · have hd2 : decide ((k : Int) + 1 + t < n) = true := by simp; omega
              have HCB := Lib.hid (HCA.out t ht).1
              have HCN := Lib.hid (show colS k (t + 1) N = eucM (atM (colS k t N) (k + 1 + t) k).natAbs k (k + 1 + t) (colS k t N) from rfl)
              obtain ⟨wz, hwz⟩ : ∃ wz, wz = wr := ⟨_, rfl⟩
              subst hwz
              generalize colS k t N = P at *
              obtain ⟨r, hr⟩ : ∃ r, r = k + 1 + t := ⟨_, rfl⟩
              have hrI : (k : Int) + 1 + t = (r : Int) := by omega
              rw [hrI] at hd2 ⊢
              have hkr : k < r := by omega
              have hrn : r < n := by omega
              have hrn2 : (r : Int) < (n : Int) := by omega
              have hk2 : (k : Int) < (n : Int) := by omega
              have k0 : (0 : Int) ≤ (k : Int) := by omega
              have r0 : (0 : Int) ≤ (r : Int) := by omega
              rw [← hr] at HCN
              have HRR := Lib.hid hr
              have HRI := Lib.hid hrI
              clear hr hrI htt hdec hkk ht
              go_wp2
              go_loopw [7, 8] (fun _ _ wr3 => ∃ (f : Nat) (Q : List (List Int)), (atM Q r k).natAbs ≤ f ∧ Hid (eucM f k r Q = eucM (atM P r k).natAbs k r P) ∧ Hid (HI n k Q) ∧ Hid (MO wr3 w.heap.size b off n Q) ∧ Hid (Below w.heap.size w wr3)) (fun _ _ wr3 => rdM wr3 b off r k)
              case atStart => exact ⟨_, P, Nat.le_refl _, Lib.hid rfl, HCB, hmr2, hbe2⟩
              case round =>
                obtain ⟨f, Q, hf, heu, hq, hmr3, hbe3⟩ := hrel
                clear hmr2 hbe2 HCB
                obtain ⟨V, hrw⟩ := hmr3.out
                obtain ⟨bj, oj, cj, hVk, ckO, -, hbk1, ISk, cellk⟩ := MO.row hrw hq.out.sq hlt
                obtain ⟨bq, oq, cq, hVr, crO, -, hbr1, ISk2, cellr⟩ := MO.row hrw hq.out.sq hrn
                have crk := cellr k hlt
                have ckk := cellk k hlt
                have HRD := Lib.hid (rdM_of crO crk)
                by_cases e0 : atM Q r k = 0
                · have hQ : eucM f k r Q = Q := by cases f with
                    | zero => rfl
                    | succ f => unfold eucM; rw [if_pos e0]
                  have HEND := Lib.hid (show colS k (t + 1) N = Q by rw [HCN.out, ← heu.out, hQ])
                  rw [e0] at crk
                  clear hQ heu hf HRD cellk cellr ISk ISk2
                  go_wp2
                  go_roundw
                  case rel =>
                    have hrr := HRR.out
                    exact ⟨t + 1, by omega, by have := HRI.out; go_num, by rw [HEND.out]; exact hmr3, hbe3⟩
                  case measure => have hrr := HRR.out; simp [intOf]; omega
                · have HEU := Lib.hid (show ∃ f', (atM (stepQ k r (qE k r Q) Q) r k).natAbs ≤ f' ∧ eucM f' k r (stepQ k r (qE k r Q) Q) = eucM (atM P r k).natAbs k r P from by
                    cases f with
                    | zero => omega
                    | succ f =>
                      refine ⟨f, ?_, ?_⟩
                      · rw [stepQ_at hq.out.sq hlt hrn (by omega) _ r hlt, if_pos rfl]
                        unfold qE
                        rw [euc_rem e0 (hq.out.inr r k)]
                        have := tmod_natAbs (atM Q k k) (atM Q r k) e0
                        omega
                      · rw [← heu.out]
                        show _ = (if atM Q r k = 0 then Q else _)
                        rw [if_neg e0])
                  have HLT := Lib.hid (show (atM (stepQ k r (qE k r Q) Q) r k).natAbs < (atM Q r k).natAbs from by
                    rw [stepQ_at hq.out.sq hlt hrn (by omega) _ r hlt, if_pos rfl]
                    unfold qE
                    rw [euc_rem e0 (hq.out.inr r k)]
                    exact tmod_natAbs (atM Q k k) (atM Q r k) e0)
                  have HQ' := Lib.hid (hq.out.step h3 hkr hrn (qE k r Q))
                  have hqv : IntKind.i64.wrap ((atM Q k k).tdiv (atM Q r k)) = qE k r Q := by rw [wrap_64]; rfl
                  have hyb : (atM Q r k != 0) = true := by simpa using e0
                  have hyb2 : (atM Q r k == 0) = false := by rw [beq_eq_false_iff_ne]; exact e0
                  have HMR := Lib.hid (show ∀ m, MO (wr.drewN m) w.heap.size b off n Q from fun m => hmr3.out.keep (below_draws _ _ m))
                  have HBR := Lib.hid (show ∀ m, Below w.heap.size w (wr.drewN m) from fun m => Below.trans hbe3.out (below_draws _ _ m))
                  have HSTP := Lib.hid (show ∀ i, i < n → (if i = r then subW (Q.getD k []) (Q.getD r []) (qE k r Q) else if i = k then Q.getD r [] else Q.getD i []) = (stepQ k r (qE k r Q) Q).getD i [] from fun i hi => by
                    unfold stepQ
                    rw [getD_setR (by rw [List.length_set, hq.out.sq.len]; exact hrn), getD_setR (by rw [hq.out.sq.len]; exact hlt)])
                  have HLQ := Lib.hid (show (Q.getD k []).length = n ∧ (Q.getD r []).length = n from ⟨hq.out.sq.row k hlt, hq.out.sq.row r hrn⟩)
                  have HATK := Lib.hid (show ∀ W V', RowsO W w.heap.size b off n V' (fun i => Q.getD i []) → ∃ bk ok ck, V' k = .slice (some ⟨bk, ok, none⟩) n ck ∧ W.cell? ⟨b, off + k, none⟩ = some (.slice (some ⟨bk, ok, none⟩) n ck) ∧ IS W w.heap.size W.heap.size (.slice (some ⟨bk, ok, none⟩) n ck) (Q.getD k []) from fun W V' hw => by
                    obtain ⟨b1, o1, c1, e1, e2, -, -, e3, -⟩ := MO.row hw hq.out.sq hlt
                    exact ⟨b1, o1, c1, e1, e2, e3⟩)
                  have HATR := Lib.hid (show ∀ W V', RowsO W w.heap.size b off n V' (fun i => Q.getD i []) → ∃ bk ok ck, V' r = .slice (some ⟨bk, ok, none⟩) n ck ∧ W.cell? ⟨b, off + r, none⟩ = some (.slice (some ⟨bk, ok, none⟩) n ck) ∧ IS W w.heap.size W.heap.size (.slice (some ⟨bk, ok, none⟩) n ck) (Q.getD r []) from fun W V' hw => by
                    obtain ⟨b1, o1, c1, e1, e2, -, -, e3, -⟩ := MO.row hw hq.out.sq hrn
                    exact ⟨b1, o1, c1, e1, e2, e3⟩)
                  clear cellk cellr ISk ISk2 heu hf hrw hVk hVr hmr3 hbe3
                  generalize atM Q k k = x at *
                  generalize atM Q r k = y at *
                  generalize hqq : qE k r Q = q at *
                  clear hqq
                  go_wp2
                  go_quiet (fail)
                  obtain ⟨V2, hrw2⟩ := HMR.out nq
                  have HB2 := Lib.hid (HBR.out nq)
                  clear ckO crO ckk crk HMR HBR hbk1 hbr1 hyb hyb2
                  generalize wr.drewN nq = w2 at *
                  obtain ⟨bk, ok, ck, hVk, ckO, ISk⟩ := HATK.out w2 V2 hrw2
                  obtain ⟨br, orr, cr, hVr, crO, ISk2⟩ := HATR.out w2 V2 hrw2
                  have HRW := Lib.hid hrw2
                  have hbl : b < w2.heap.size := hrw2.outer.lt
                  have SC := l2ScaleW_any (Q.getD r []) (.slice (some ⟨br, orr, none⟩) n cr) q w2.heap.size w2.drew (ISk2.read.keep (below_draws w2.heap.size w2 1) (Nat.le_refl _)) (Nat.le_refl _) (by rw [HLQ.out.2]; omega)
                  have x0 : w2.drew.cell? ⟨b, off + k, none⟩ = some (.slice (some ⟨bk, ok, none⟩) n ck) := ckO
                  have x1 : w2.drew.cell? ⟨b, off + r, none⟩ = some (.slice (some ⟨br, orr, none⟩) n cr) := crO
                  have HISK := Lib.hid ISk
                  have HISR := Lib.hid ISk2
                  clear hrw2 hVk ISk ISk2
                  go_wp2_with fail
                  go_region_held3 (fun (w' : World) => w'.cell? ⟨b, off + k, none⟩ = some (.slice (some ⟨bk, ok, none⟩) n ck) ∧ w'.cell? ⟨b, off + r, none⟩ = some (.slice (some ⟨br, orr, none⟩) n cr)) (first | exact ⟨x0, x1⟩ | exact ⟨d5k, d5r⟩ | exact ⟨d4k, d4r⟩ | go_keep)
                    (first
                      | (go_at_call 124; (with_reducible refine (l2LessW_any (Q.getD k []) ((Q.getD r []).map (fun x => wrap64 (x * q))) (.slice (some ⟨bk, ok, none⟩) n ck) _ w4.heap.size w4 ((HISK.out.read.keep c4' (Nat.le_refl _)).upto c4'.size) k4.read (Nat.le_refl _) (by rw [HLQ.out.1]; omega) (by rw [List.length_map, HLQ.out.1, HLQ.out.2]; exact Nat.le_refl _)).mono ?_); rintro e w5 ⟨u5, rfl, k5, c5⟩; rw [subW_mul] at k5; obtain ⟨a5, e5, hu5, -⟩ := id k5; rw [subW_len _ (by rw [HLQ.out.1, HLQ.out.2]), HLQ.out.1] at hu5; subst hu5; have d5k := (c5.cell (p := ⟨b, off + k, none⟩) (Nat.lt_of_lt_of_le hbl c4'.size)).trans d4k; have d5r := (c5.cell (p := ⟨b, off + r, none⟩) (Nat.lt_of_lt_of_le hbl c4'.size)).trans d4r)
                      | (go_at_call 69; (with_reducible refine SC.mono ?_); rintro e w4 ⟨u4, rfl, k4, c4⟩; obtain ⟨a4, e4, hu4, -⟩ := id k4; rw [List.length_map, HLQ.out.2] at hu4; subst hu4; have c4' : Below w2.heap.size w2 w4 := (below_draws w2.heap.size w2 1).trans c4; have d4k := (c4'.cell (p := ⟨b, off + k, none⟩) hbl).trans ckO; have d4r := (c4'.cell (p := ⟨b, off + r, none⟩) hbl).trans crO))
                  have C5 := below_then c4' c4'.size c5
                  have R5 := HRW.out.keep C5
                  have hr5 := R5.row r hrn
                  rw [hVr] at hr5
                  have S1 := R5.set hlt hr5
                  have hv5 : IS (w5.setCell ⟨b, off + k, none⟩ (.slice (some ⟨br, orr, none⟩) n cr)) w.heap.size (w5.setCell ⟨b, off + k, none⟩ (.slice (some ⟨br, orr, none⟩) n cr)).heap.size (.slice a5 n e5) (subW (Q.getD k []) (Q.getD r []) q) := by
                    have hg : w5.grownBy (w5.setCell ⟨b, off + k, none⟩ (.slice (some ⟨br, orr, none⟩) n cr)) (some b) := ⟨rfl, rfl, rfl, by simp, fun i hi hne' => by
                      rw [Below.heap_setCell _ _ _ _ (by intro e; apply hne'; rw [e])]⟩
                    refine ((k5.grown_type hg fun g hg => ?_).mono (Nat.le_trans (by have := HB2.out.size; omega) c4'.size) (by simp))
                    injection hg with hg
                    subst hg
                    obtain ⟨cs, e, -⟩ := R5.outer
                    exact ⟨cs, _, _, e, by decide⟩
                  have S2 := S1.set hrn hv5
                  have R6 := Lib.hid (show MO _ _ _ _ _ (stepQ k r q Q) from ⟨_, S2.congr fun i hi => HSTP.out i hi⟩)
                  have fzk := R5.outer.frozen (off + k)
                  have fzr := R5.outer.frozen (off + r)
                  have B5 := Lib.hid (Below.trans HB2.out (C5.mono HB2.out.size))
                  clear S1 S2 hv5 R5 hr5 k4 k5 c4 c4' c5 C5 d4k d4r SC x0 x1 HRW HISK HISR HATK HATR HSTP hVr ckO crO
                  go_wp2
                  obtain ⟨f', hf', heu'⟩ := HEU.out
                  have HEU' := Lib.hid heu'
                  clear heu'
                  go_roundw
                  case rel => exact ⟨f', stepQ k r q Q, hf', HEU', HQ', R6, Lib.hid ((B5.out.setCell (show w.heap.size ≤ b from hlo) _).setCell (show w.heap.size ≤ b from hlo) _)⟩
                  case measure =>
                    obtain ⟨V6, r6⟩ := R6.out
                    obtain ⟨b6, o6, c6, -, d6, -, -, -, e6⟩ := MO.row r6 HQ'.out.sq hrn
                    rw [rdM_of d6 (e6 k hlt), HRD.out]
                    exact HLT.out
            · have hte : t = n - 1 - k := by omega
              have HCE2 : Hid (HI n (k + 1) (colS k t N)) := by rw [hte]; exact HCE
              have HEQ2 : Hid (herS n (k + 1) M = redS k k (negS k (colS k t N))) := by rw [hte]; exact HEQ
              clear HCE HEQ HCA
              generalize colS k t N = C at *
              have HNH := Lib.hid (negS_hi HCE2.out h3 hlt)
              obtain ⟨V, hrw⟩ := hmr2.out
              obtain ⟨bk, ok, ck, hVk, ckO, hbk0, hbk1, ISk, cellk⟩ := MO.row hrw HCE2.out.sq hlt
              have ckk := cellk k hlt
              have k0 : (0 : Int) ≤ (k : Int) := by omega
              have hk2 : (k : Int) < (n : Int) := by omega
              have htI : ¬ (k : Int) + 1 + t < (n : Int) := by omega
              clear hte hdec hkk
              by_cases hneg : atM C k k < 0
              · have HNE := Lib.hid (negS_yes hneg)
                have hrl := HCE2.out.sq.row k hlt
                have SC := l2ScaleW_any (C.getD k []) (.slice (some ⟨bk, ok, none⟩) n ck) (-1) wr.heap.size wr ISk.read (Nat.le_refl _) (by rw [hrl]; omega)
                have HRW := Lib.hid hrw
                have hbl : b < wr.heap.size := hrw.outer.lt
                have HRL := Lib.hid hrl
                clear hrw ISk cellk hrl hVk
                generalize atM C k k = x at *
                go_wp2_with fail
                with_reducible refine SC.mono ?_
                rintro e w4 ⟨u4, rfl, k4, c4⟩
                obtain ⟨a4, e4, hu4, -⟩ := id k4
                rw [List.length_map, HRL.out] at hu4
                subst hu4
                have R5 := HRW.out.keep c4
                have fzk := R5.outer.frozen (off + k)
                have d4 := (c4.cell (p := ⟨b, off + k, none⟩) hbl).trans ckO
                have S1 := R5.set hlt (k4.mono hbe2.out.size (Nat.le_refl _))
                have R6 := Lib.hid (show MO _ _ _ _ _ (negS k C) from ⟨_, S1.congr fun i hi => by
                  rw [HNE.out, getD_setR (by rw [HCE2.out.sq.len]; exact hlt)]; rfl⟩)
                have B5 := Lib.hid ((below_then hbe2.out hbe2.out.size c4).setCell (show w.heap.size ≤ b from hlo) (.slice a4 n e4) (p := ⟨b, off + k, none⟩))
                clear S1 R5 k4 c4 SC hmr2 hbe2 HRW HNE HCE2 ckO ckk
                generalize negS k C = C2 at *
                go_wp2
                go_loopw [9] (fun j wr4 => ∃ (s : Nat), s ≤ k ∧ j = .int .i64 s ∧ Hid (MO wr4 w.heap.size b off n (redS k s C2)) ∧ Hid (Below w.heap.size w wr4)) (fun j _ => k - (intOf j).toNat)
                case atStart => exact ⟨0, by omega, rfl, R6, B5⟩
                case round =>
                  obtain ⟨s, hs, rfl, hmr4, hbe4⟩ := hrel
                  by_cases hst : s < k
                  · have HRS := Lib.hid (redS_hi HNH.out h3 hlt s hs)
                    have HRE := Lib.hid (show redS k (s + 1) C2 = subR s k (flW (atM (redS k s C2) s k) (atM (redS k s C2) k k)) (redS k s C2) from rfl)
                    generalize redS k s C2 = D at *
                    have hdz : ¬ atM D k k = 0 := diag_nz HRS.out.sq h3 hlt HRS.out.tri HRS.out.nz
                    obtain ⟨V4, hrw4⟩ := hmr4.out
                    have hsn : s < n := by omega
                    obtain ⟨bk, ok, ck, hVk4, ckO, -, hbk4, ISk, cellk⟩ := MO.row hrw4 HRS.out.sq hlt
                    obtain ⟨bs, os, cs, hVs, csO, -, hbs4, ISs, cells⟩ := MO.row hrw4 HRS.out.sq hsn
                    have ckk := cellk k hlt
                    have csk := cells k hlt
                    have DW : Calls Try.prog 149 #[.int .i64 (atM D s k), .int .i64 (atM D k k)] wr.drew fun e w' => e = .returned (.int .i64 (flW (atM D s k) (atM D k k))) ∧ w' = wr.drew := (l3FloorW_any (atM D s k) (atM D k k) wr.drew hdz).mono fun e w' h => ⟨h.1, h.2.symm⟩
                    have HRW4 := Lib.hid hrw4
                    have HLQ := Lib.hid (show (D.getD k []).length = n ∧ (D.getD s []).length = n from ⟨HRS.out.sq.row k hlt, HRS.out.sq.row s hsn⟩)
                    have hbl : b < wr.heap.size := hrw4.outer.lt
                    have HISK := Lib.hid ISk
                    have HISS := Lib.hid ISs
                    clear ISk ISs cellk cells hVk4 hVs hrw4
                    generalize atM D k k = y at *
                    generalize atM D s k = x at *
                    generalize hqq : flW x y = q at *
                    clear hqq
                    have SC := l2ScaleW_any (D.getD k []) (.slice (some ⟨bk, ok, none⟩) n ck) q wr.heap.size wr.drew (HISK.out.read.keep (below_draws wr.heap.size wr 1) (Nat.le_refl _)) (Nat.le_refl _) (by rw [HLQ.out.1]; omega)
                    have s0 : (0 : Int) ≤ (s : Int) := by omega
                    have s1 : (s : Int) < (n : Int) := by omega
                    have s2 : (s : Int) < (k : Int) := by omega
                    have x0 : wr.drew.cell? ⟨b, off + k, none⟩ = some (.slice (some ⟨bk, ok, none⟩) n ck) := ckO
                    have x1 : wr.drew.cell? ⟨b, off + s, none⟩ = some (.slice (some ⟨bs, os, none⟩) n cs) := csO
                    have x2 : wr.drew.cell? ⟨bk, ok + k, none⟩ = some (.int .i64 y) := ckk
                    have x3 : wr.drew.cell? ⟨bs, os + k, none⟩ = some (.int .i64 x) := csk
                    go_wp2_with fail
                    refine wp_region_last (S := fun (w' : World) => (w'.cell? ⟨b, off + k, none⟩ = some (.slice (some ⟨bk, ok, none⟩) n ck) ∧ w'.cell? ⟨b, off + s, none⟩ = some (.slice (some ⟨bs, os, none⟩) n cs)) ∧ w'.cell? ⟨bk, ok + k, none⟩ = some (.int .i64 y) ∧ w'.cell? ⟨bs, os + k, none⟩ = some (.int .i64 x)) 28 _ (by kernel_rfl) rfl rfl (by kernel_rfl) ?_
                    simp only [List.take_succ_cons, List.take_zero]
                    have hHeld : (fun (w' : World) => (w'.cell? ⟨b, off + k, none⟩ = some (.slice (some ⟨bk, ok, none⟩) n ck) ∧ w'.cell? ⟨b, off + s, none⟩ = some (.slice (some ⟨bs, os, none⟩) n cs)) ∧ w'.cell? ⟨bk, ok + k, none⟩ = some (.int .i64 y) ∧ w'.cell? ⟨bs, os + k, none⟩ = some (.int .i64 x)) _ := ⟨⟨x0, x1⟩, x2, x3⟩
                    refine wpAnyH_take (i := 0) (oi := _) (v := ?_) rfl (by kernel_rfl) (by kernel_rfl) (by kernel_rfl) (fun _ _ _ h => h) (Or.inl ⟨by rfl, (by (intro w hSw); (try dsimp only at hSw); go_simp; (try with_reducible rfl))⟩) (by assumption) ?_
                    try simp only [Act.put, List.setIfInBounds_toArray, List.set_cons_zero, List.set_cons_succ]
                    refine wpAnyH_take (i := 1) (oi := _) (v := ?_) rfl (by kernel_rfl) (by kernel_rfl) (by kernel_rfl) (fun _ _ _ h => h) (Or.inl ⟨by rfl, (by (intro w hSw); (try dsimp only at hSw); go_simp; (try with_reducible rfl))⟩) (by assumption) ?_
                    try simp only [Act.put, List.setIfInBounds_toArray, List.set_cons_zero, List.set_cons_succ]
                    refine wpAnyH_take (i := 2) (oi := _) (v := ?_) rfl (by kernel_rfl) (by kernel_rfl) (by kernel_rfl) (fun _ _ _ h => h) (Or.inl ⟨by rfl, (by (intro w hSw); (try dsimp only at hSw); go_simp; (try with_reducible rfl))⟩) (by assumption) ?_
                    try simp only [Act.put, List.setIfInBounds_toArray, List.set_cons_zero, List.set_cons_succ]
                    refine wpAnyH_take (i := 3) (oi := _) (v := ?_) rfl (by kernel_rfl) (by kernel_rfl) (by kernel_rfl) (fun _ _ _ h => h) (Or.inl ⟨by rfl, (by (intro w hSw); (try dsimp only at hSw); go_simp; (try with_reducible rfl))⟩) (by assumption) ?_
                    try simp only [Act.put, List.setIfInBounds_toArray, List.set_cons_zero, List.set_cons_succ]
                    refine wpAnyH_take (i := 4) (oi := _) (v := ?_) rfl (by kernel_rfl) (by kernel_rfl) (by kernel_rfl) (fun _ _ _ h => h) (Or.inl ⟨by rfl, (by (intro w hSw); (try dsimp only at hSw); go_simp; (try with_reducible rfl))⟩) (by assumption) ?_
                    try simp only [Act.put, List.setIfInBounds_toArray, List.set_cons_zero, List.set_cons_succ]
                    refine wpAnyH_take (i := 5) (oi := _) (v := ?_) rfl (by kernel_rfl) (by kernel_rfl) (by kernel_rfl) (fun _ _ _ h => h) (Or.inl ⟨by rfl, (by (intro w hSw); (try dsimp only at hSw); go_simp; (try with_reducible rfl))⟩) (by assumption) ?_
                    try simp only [Act.put, List.setIfInBounds_toArray, List.set_cons_zero, List.set_cons_succ]
                    refine wpAnyH_take (i := 6) (oi := _) (v := ?_) rfl (by kernel_rfl) (by kernel_rfl) (by kernel_rfl) (fun _ _ _ h => h) (Or.inl ⟨by rfl, (by (intro w hSw); (try dsimp only at hSw); go_simp; (try with_reducible rfl))⟩) (by assumption) ?_
                    try simp only [Act.put, List.setIfInBounds_toArray, List.set_cons_zero, List.set_cons_succ]
                    refine wpAnyH_take (i := 7) (oi := _) (v := ?_) rfl (by kernel_rfl) (by kernel_rfl) (by kernel_rfl) (fun _ _ _ h => h) (Or.inl ⟨by rfl, (by (intro w hSw); (try dsimp only at hSw); go_simp; (try with_reducible rfl))⟩) (by assumption) ?_
                    try simp only [Act.put, List.setIfInBounds_toArray, List.set_cons_zero, List.set_cons_succ]
                    refine wpAnyH_take (i := 8) (oi := _) (v := ?_) rfl (by kernel_rfl) (by kernel_rfl) (by kernel_rfl) (fun _ _ _ h => h) (Or.inl ⟨by rfl, (by (intro w hSw); (try dsimp only at hSw); go_simp; (try with_reducible rfl))⟩) (by assumption) ?_
                    try simp only [Act.put, List.setIfInBounds_toArray, List.set_cons_zero, List.set_cons_succ]
                    refine wpAnyH_take (i := 9) (oi := _) (v := ?_) rfl (by kernel_rfl) (by kernel_rfl) (by kernel_rfl) (fun _ _ _ h => h) (Or.inl ⟨by rfl, (by (intro w hSw); (try dsimp only at hSw); go_simp; (try with_reducible rfl))⟩) (by assumption) ?_
                    try simp only [Act.put, List.setIfInBounds_toArray, List.set_cons_zero, List.set_cons_succ]
                    refine wpAnyH_take (i := 10) (oi := _) (v := ?_) rfl (by kernel_rfl) (by kernel_rfl) (by kernel_rfl) (fun _ _ _ h => h) (Or.inl ⟨by rfl, (by (intro w hSw); (try dsimp only at hSw); go_simp; (try with_reducible rfl))⟩) (by assumption) ?_
                    try simp only [Act.put, List.setIfInBounds_toArray, List.set_cons_zero, List.set_cons_succ]
                    refine wpAnyH_take (i := 11) (oi := _) (v := ?_) rfl (by kernel_rfl) (by kernel_rfl) (by kernel_rfl) (fun _ _ _ h => h) (Or.inl ⟨by rfl, (by (intro w hSw); (try dsimp only at hSw); go_simp; (try with_reducible rfl))⟩) (by assumption) ?_
                    try simp only [Act.put, List.setIfInBounds_toArray, List.set_cons_zero, List.set_cons_succ]
                    refine wpAnyH_take (i := 12) (oi := _) (v := ?_) rfl (by kernel_rfl) (by kernel_rfl) (by kernel_rfl) (fun _ _ _ h => h) (Or.inl ⟨by rfl, (by (intro w hSw); (try dsimp only at hSw); go_simp; (try with_reducible rfl))⟩) (by assumption) ?_
                    try simp only [Act.put, List.setIfInBounds_toArray, List.set_cons_zero, List.set_cons_succ]
                    refine wpAnyH_take (i := 13) (oi := _) (v := ?_) rfl (by kernel_rfl) (by kernel_rfl) (by kernel_rfl) (fun _ _ _ h => h) (Or.inl ⟨by rfl, (by (intro w hSw); (try dsimp only at hSw); go_simp; (try with_reducible rfl))⟩) (by assumption) ?_
                    try simp only [Act.put, List.setIfInBounds_toArray, List.set_cons_zero, List.set_cons_succ]
                    refine wpAnyH_take (i := 14) (oi := _) (v := ?_) rfl (by kernel_rfl) (by kernel_rfl) (by kernel_rfl) (fun _ _ _ h => h) (Or.inl ⟨by rfl, (by (intro w hSw); (try dsimp only at hSw); go_simp; (try with_reducible rfl))⟩) (by assumption) ?_
                    try simp only [Act.put, List.setIfInBounds_toArray, List.set_cons_zero, List.set_cons_succ]
                    refine wpAnyH_take (i := 15) (oi := _) (v := ?_) rfl (by kernel_rfl) (by kernel_rfl) (by kernel_rfl) (fun _ _ _ h => h) (Or.inl ⟨by rfl, (by (intro w hSw); (try dsimp only at hSw); go_simp; (try with_reducible rfl))⟩) (by assumption) ?_
                    try simp only [Act.put, List.setIfInBounds_toArray, List.set_cons_zero, List.set_cons_succ]
                    refine wpAnyH_take (i := 16) (oi := _) (v := ?_) rfl (by kernel_rfl) (by kernel_rfl) (by kernel_rfl) (fun _ _ _ h => h) (Or.inl ⟨by rfl, (by (intro w hSw); (try dsimp only at hSw); go_simp; (try with_reducible rfl))⟩) (by assumption) ?_
                    try simp only [Act.put, List.setIfInBounds_toArray, List.set_cons_zero, List.set_cons_succ]
                    refine wpAnyH_take (i := 17) (oi := _) (v := ?_) rfl (by kernel_rfl) (by kernel_rfl) (by kernel_rfl) (fun _ _ _ h => h) (Or.inl ⟨by rfl, (by (intro w hSw); (try dsimp only at hSw); go_simp; (try with_reducible rfl))⟩) (by assumption) ?_
                    try simp only [Act.put, List.setIfInBounds_toArray, List.set_cons_zero, List.set_cons_succ]
                    refine wpAnyH_take (i := 18) (oi := _) (v := ?_) rfl (by kernel_rfl) (by kernel_rfl) (by kernel_rfl) (fun _ _ _ h => h) (Or.inl ⟨by rfl, (by (intro w hSw); (try dsimp only at hSw); go_simp; (try with_reducible rfl))⟩) (by assumption) ?_
                    try simp only [Act.put, List.setIfInBounds_toArray, List.set_cons_zero, List.set_cons_succ]
                    refine wpAnyH_take (i := 19) (oi := _) (v := ?_) rfl (by kernel_rfl) (by kernel_rfl) (by kernel_rfl) (fun _ _ _ h => h) (Or.inl ⟨by rfl, (by (intro w hSw); (try dsimp only at hSw); go_simp; (try with_reducible rfl))⟩) (by assumption) ?_
                    try simp only [Act.put, List.setIfInBounds_toArray, List.set_cons_zero, List.set_cons_succ]
                    refine wpAnyH_take (i := 20) (oi := _) (v := ?_) rfl (by kernel_rfl) (by kernel_rfl) (by kernel_rfl) (fun _ _ _ h => h) (Or.inl ⟨by rfl, (by (intro w hSw); (try dsimp only at hSw); go_simp; (try with_reducible rfl))⟩) (by assumption) ?_
                    try simp only [Act.put, List.setIfInBounds_toArray, List.set_cons_zero, List.set_cons_succ]
                    refine wpAnyH_take (i := 21) (oi := _) (v := ?_) rfl (by kernel_rfl) (by kernel_rfl) (by kernel_rfl) (fun _ _ _ h => h) (Or.inl ⟨by rfl, (by (intro w hSw); (try dsimp only at hSw); go_simp; (try with_reducible rfl))⟩) (by assumption) ?_
                    try simp only [Act.put, List.setIfInBounds_toArray, List.set_cons_zero, List.set_cons_succ]
                    refine wpAnyH_take (i := 22) (oi := _) (v := ?_) rfl (by kernel_rfl) (by kernel_rfl) (by kernel_rfl) (fun _ _ _ h => h) (Or.inl ⟨by rfl, (by (intro w hSw); (try dsimp only at hSw); go_simp; (try with_reducible rfl))⟩) (by assumption) ?_
                    try simp only [Act.put, List.setIfInBounds_toArray, List.set_cons_zero, List.set_cons_succ]
                    refine wpAnyH_take (i := 23) (oi := _) (v := ?_) rfl (by kernel_rfl) (by kernel_rfl) (by kernel_rfl) (fun _ _ _ h => h) (Or.inl ⟨by rfl, (by (intro w hSw); (try dsimp only at hSw); go_simp; (try with_reducible rfl))⟩) (by assumption) ?_
                    try simp only [Act.put, List.setIfInBounds_toArray, List.set_cons_zero, List.set_cons_succ]
                    refine wpAnyH_ready (rs := [24]) (by kernel_rfl) (by simp) ?_
                    refine AllReadyH.cons (o := _) rfl (fun K hK => ?_) AllReadyH.nil
                    go_simp
                    refine DW.mono ?_
                    rintro e w3 ⟨rfl, rfl⟩
                    refine hK.out _ _ (by exact hHeld) (fun hHeld => ?_)
                    clear hK K
                    try simp only [Act.put, List.setIfInBounds_toArray, List.set_cons_zero, List.set_cons_succ]
                    refine wpAnyH_ready (rs := [25]) (by kernel_rfl) (by simp) ?_
                    refine AllReadyH.cons (o := _) rfl (fun K hK => ?_) AllReadyH.nil
                    go_simp
                    refine SC.mono ?_
                    rintro e w4 ⟨u4, rfl, k4, c4⟩
                    obtain ⟨a4, e4, hu4, -⟩ := id k4
                    rw [List.length_map, HLQ.out.1] at hu4
                    subst hu4
                    have c4' : Below wr.heap.size wr w4 := (below_draws wr.heap.size wr 1).trans c4
                    have d4 := And.intro (And.intro ((c4'.cell (p := ⟨b, off + k, none⟩) hbl).trans ckO) ((c4'.cell (p := ⟨b, off + s, none⟩) hbl).trans csO)) (And.intro ((c4'.cell (p := ⟨bk, ok + k, none⟩) hbk4).trans ckk) ((c4'.cell (p := ⟨bs, os + k, none⟩) hbs4).trans csk))
                    refine hK.out _ _ (by exact d4) (fun hHeld => ?_)
                    clear hK K
                    try simp only [Act.put, List.setIfInBounds_toArray, List.set_cons_zero, List.set_cons_succ]
                    refine wpAnyH_ready (rs := [26]) (by kernel_rfl) (by simp) ?_
                    refine AllReadyH.cons (o := _) rfl (fun K hK => ?_) AllReadyH.nil
                    go_simp
                    refine (l2LessW_any (D.getD s []) ((D.getD k []).map (fun x => wrap64 (x * q))) (.slice (some ⟨bs, os, none⟩) n cs) _ w4.heap.size w4 ((HISS.out.read.keep c4' (Nat.le_refl _)).upto c4'.size) k4.read (Nat.le_refl _) (by rw [HLQ.out.2]; omega) (by rw [List.length_map, HLQ.out.1, HLQ.out.2]; exact Nat.le_refl _)).mono ?_
                    rintro e w5 ⟨u5, rfl, k5, c5⟩
                    rw [subW_mul] at k5
                    obtain ⟨a5, e5, hu5, -⟩ := id k5
                    rw [subW_len _ (by rw [HLQ.out.1, HLQ.out.2]), HLQ.out.2] at hu5
                    subst hu5
                    have d5 := And.intro (And.intro ((c5.cell (p := ⟨b, off + k, none⟩) (Nat.lt_of_lt_of_le hbl c4'.size)).trans d4.1.1) ((c5.cell (p := ⟨b, off + s, none⟩) (Nat.lt_of_lt_of_le hbl c4'.size)).trans d4.1.2)) (And.intro ((c5.cell (p := ⟨bk, ok + k, none⟩) (Nat.lt_of_lt_of_le hbk4 c4'.size)).trans d4.2.1) ((c5.cell (p := ⟨bs, os + k, none⟩) (Nat.lt_of_lt_of_le hbs4 c4'.size)).trans d4.2.2))
                    refine hK.out _ _ (by exact d5) (fun hHeld => ?_)
                    clear hK K
                    try simp only [Act.put, List.setIfInBounds_toArray, List.set_cons_zero, List.set_cons_succ]
                    refine wpAnyH_take (i := 27) (oi := _) (v := ?_) rfl (by kernel_rfl) (by kernel_rfl) (by kernel_rfl) (fun _ _ _ h => h) (Or.inl ⟨by rfl, (by (intro w hSw); (try dsimp only at hSw); go_simp; (try with_reducible rfl))⟩) (by assumption) ?_
                    try simp only [Act.put, List.setIfInBounds_toArray, List.set_cons_zero, List.set_cons_succ]
                    refine wpAnyH_done (by kernel_rfl) ?_ _
                    have C5 := below_then c4' c4'.size c5
                    have R5 := HRW4.out.keep C5
                    have fzs := R5.outer.frozen (off + s)
                    have S1 := R5.set hsn (k5.mono (Nat.le_trans hbe4.out.size c4'.size) (Nat.le_refl _))
                    have R7 := Lib.hid (show MO _ _ _ _ _ (redS k (s + 1) C2) from ⟨_, S1.congr fun i hi => by
                      rw [HRE.out]
                      unfold subR
                      rw [getD_setR (by rw [HRS.out.sq.len]; exact hsn)]⟩)
                    have B7 := Lib.hid ((Below.trans hbe4.out (C5.mono hbe4.out.size)).setCell (show w.heap.size ≤ b from hlo) (.slice a5 n e5) (p := ⟨b, off + s, none⟩))
                    clear S1 R5 k4 k5 c4 c4' c5 C5 SC DW HRW4 HISK HISS x0 x1 x2 x3 d4 HRS HRE ckO csO ckk csk hmr4 hbe4 R6 B5
                    unfold lastQ
                    go_simp
                    go_wp2
                    go_roundw
                    case rel => exact ⟨s + 1, by omega, by go_num, R7, B7⟩
                    case measure => simp [intOf]; omega
                  · obtain rfl : s = k := by omega
                    rw [← HEQ2.out] at hmr4
                    clear R6 B5
                    go_wp2
                    go_roundw
                    case rel => exact ⟨s + 1, by omega, by go_num, hmr4, hbe4⟩
                    case measure => simp [intOf]; omega
              · have HNE := Lib.hid (negS_no hneg)
                rw [HNE.out] at HNH HEQ2
                clear HNE hrw ISk cellk hVk HCE2
                obtain ⟨C2, hC2⟩ : ∃ C2, C2 = C := ⟨_, rfl⟩
                subst hC2
                have R6 := hmr2
                have B5 := hbe2
                clear hmr2 hbe2
                generalize atM C2 k k = x at *
                go_wp2
                go_loopw [9] (fun j wr4 => ∃ (s : Nat), s ≤ k ∧ j = .int .i64 s ∧ Hid (MO wr4 w.heap.size b off n (redS k s C2)) ∧ Hid (Below w.heap.size w wr4)) (fun j _ => k - (intOf j).toNat)
                case atStart => exact ⟨0, by omega, rfl, R6, B5⟩
                case round =>
                  obtain ⟨s, hs, rfl, hmr4, hbe4⟩ := hrel
                  by_cases hst : s < k
                  · have HRS := Lib.hid (redS_hi HNH.out h3 hlt s hs)
                    have HRE := Lib.hid (show redS k (s + 1) C2 = subR s k (flW (atM (redS k s C2) s k) (atM (redS k s C2) k k)) (redS k s C2) from rfl)
                    generalize redS k s C2 = D at *
                    have hdz : ¬ atM D k k = 0 := diag_nz HRS.out.sq h3 hlt HRS.out.tri HRS.out.nz
                    obtain ⟨V4, hrw4⟩ := hmr4.out
                    have hsn : s < n := by omega
                    obtain ⟨bk, ok, ck, hVk4, ckO, -, hbk4, ISk, cellk⟩ := MO.row hrw4 HRS.out.sq hlt
                    obtain ⟨bs, os, cs, hVs, csO, -, hbs4, ISs, cells⟩ := MO.row hrw4 HRS.out.sq hsn
                    have ckk := cellk k hlt
                    have csk := cells k hlt
                    have DW : Calls Try.prog 149 #[.int .i64 (atM D s k), .int .i64 (atM D k k)] wr.drew fun e w' => e = .returned (.int .i64 (flW (atM D s k) (atM D k k))) ∧ w' = wr.drew := (l3FloorW_any (atM D s k) (atM D k k) wr.drew hdz).mono fun e w' h => ⟨h.1, h.2.symm⟩
                    have HRW4 := Lib.hid hrw4
                    have HLQ := Lib.hid (show (D.getD k []).length = n ∧ (D.getD s []).length = n from ⟨HRS.out.sq.row k hlt, HRS.out.sq.row s hsn⟩)
                    have hbl : b < wr.heap.size := hrw4.outer.lt
                    have HISK := Lib.hid ISk
                    have HISS := Lib.hid ISs
                    clear ISk ISs cellk cells hVk4 hVs hrw4
                    generalize atM D k k = y at *
                    generalize atM D s k = x at *
                    generalize hqq : flW x y = q at *
                    clear hqq
                    have SC := l2ScaleW_any (D.getD k []) (.slice (some ⟨bk, ok, none⟩) n ck) q wr.heap.size wr.drew (HISK.out.read.keep (below_draws wr.heap.size wr 1) (Nat.le_refl _)) (Nat.le_refl _) (by rw [HLQ.out.1]; omega)
                    have s0 : (0 : Int) ≤ (s : Int) := by omega
                    have s1 : (s : Int) < (n : Int) := by omega
                    have s2 : (s : Int) < (k : Int) := by omega
                    have x0 : wr.drew.cell? ⟨b, off + k, none⟩ = some (.slice (some ⟨bk, ok, none⟩) n ck) := ckO
                    have x1 : wr.drew.cell? ⟨b, off + s, none⟩ = some (.slice (some ⟨bs, os, none⟩) n cs) := csO
                    have x2 : wr.drew.cell? ⟨bk, ok + k, none⟩ = some (.int .i64 y) := ckk
                    have x3 : wr.drew.cell? ⟨bs, os + k, none⟩ = some (.int .i64 x) := csk
                    go_wp2_with fail
                    refine wp_region_last (S := fun (w' : World) => (w'.cell? ⟨b, off + k, none⟩ = some (.slice (some ⟨bk, ok, none⟩) n ck) ∧ w'.cell? ⟨b, off + s, none⟩ = some (.slice (some ⟨bs, os, none⟩) n cs)) ∧ w'.cell? ⟨bk, ok + k, none⟩ = some (.int .i64 y) ∧ w'.cell? ⟨bs, os + k, none⟩ = some (.int .i64 x)) 28 _ (by kernel_rfl) rfl rfl (by kernel_rfl) ?_
                    simp only [List.take_succ_cons, List.take_zero]
                    have hHeld : (fun (w' : World) => (w'.cell? ⟨b, off + k, none⟩ = some (.slice (some ⟨bk, ok, none⟩) n ck) ∧ w'.cell? ⟨b, off + s, none⟩ = some (.slice (some ⟨bs, os, none⟩) n cs)) ∧ w'.cell? ⟨bk, ok + k, none⟩ = some (.int .i64 y) ∧ w'.cell? ⟨bs, os + k, none⟩ = some (.int .i64 x)) _ := ⟨⟨x0, x1⟩, x2, x3⟩
                    refine wpAnyH_take (i := 0) (oi := _) (v := ?_) rfl (by kernel_rfl) (by kernel_rfl) (by kernel_rfl) (fun _ _ _ h => h) (Or.inl ⟨by rfl, (by (intro w hSw); (try dsimp only at hSw); go_simp; (try with_reducible rfl))⟩) (by assumption) ?_
                    try simp only [Act.put, List.setIfInBounds_toArray, List.set_cons_zero, List.set_cons_succ]
                    refine wpAnyH_take (i := 1) (oi := _) (v := ?_) rfl (by kernel_rfl) (by kernel_rfl) (by kernel_rfl) (fun _ _ _ h => h) (Or.inl ⟨by rfl, (by (intro w hSw); (try dsimp only at hSw); go_simp; (try with_reducible rfl))⟩) (by assumption) ?_
                    try simp only [Act.put, List.setIfInBounds_toArray, List.set_cons_zero, List.set_cons_succ]
                    refine wpAnyH_take (i := 2) (oi := _) (v := ?_) rfl (by kernel_rfl) (by kernel_rfl) (by kernel_rfl) (fun _ _ _ h => h) (Or.inl ⟨by rfl, (by (intro w hSw); (try dsimp only at hSw); go_simp; (try with_reducible rfl))⟩) (by assumption) ?_
                    try simp only [Act.put, List.setIfInBounds_toArray, List.set_cons_zero, List.set_cons_succ]
                    refine wpAnyH_take (i := 3) (oi := _) (v := ?_) rfl (by kernel_rfl) (by kernel_rfl) (by kernel_rfl) (fun _ _ _ h => h) (Or.inl ⟨by rfl, (by (intro w hSw); (try dsimp only at hSw); go_simp; (try with_reducible rfl))⟩) (by assumption) ?_
                    try simp only [Act.put, List.setIfInBounds_toArray, List.set_cons_zero, List.set_cons_succ]
                    refine wpAnyH_take (i := 4) (oi := _) (v := ?_) rfl (by kernel_rfl) (by kernel_rfl) (by kernel_rfl) (fun _ _ _ h => h) (Or.inl ⟨by rfl, (by (intro w hSw); (try dsimp only at hSw); go_simp; (try with_reducible rfl))⟩) (by assumption) ?_
                    try simp only [Act.put, List.setIfInBounds_toArray, List.set_cons_zero, List.set_cons_succ]
                    refine wpAnyH_take (i := 5) (oi := _) (v := ?_) rfl (by kernel_rfl) (by kernel_rfl) (by kernel_rfl) (fun _ _ _ h => h) (Or.inl ⟨by rfl, (by (intro w hSw); (try dsimp only at hSw); go_simp; (try with_reducible rfl))⟩) (by assumption) ?_
                    try simp only [Act.put, List.setIfInBounds_toArray, List.set_cons_zero, List.set_cons_succ]
                    refine wpAnyH_take (i := 6) (oi := _) (v := ?_) rfl (by kernel_rfl) (by kernel_rfl) (by kernel_rfl) (fun _ _ _ h => h) (Or.inl ⟨by rfl, (by (intro w hSw); (try dsimp only at hSw); go_simp; (try with_reducible rfl))⟩) (by assumption) ?_
                    try simp only [Act.put, List.setIfInBounds_toArray, List.set_cons_zero, List.set_cons_succ]
                    refine wpAnyH_take (i := 7) (oi := _) (v := ?_) rfl (by kernel_rfl) (by kernel_rfl) (by kernel_rfl) (fun _ _ _ h => h) (Or.inl ⟨by rfl, (by (intro w hSw); (try dsimp only at hSw); go_simp; (try with_reducible rfl))⟩) (by assumption) ?_
                    try simp only [Act.put, List.setIfInBounds_toArray, List.set_cons_zero, List.set_cons_succ]
                    refine wpAnyH_take (i := 8) (oi := _) (v := ?_) rfl (by kernel_rfl) (by kernel_rfl) (by kernel_rfl) (fun _ _ _ h => h) (Or.inl ⟨by rfl, (by (intro w hSw); (try dsimp only at hSw); go_simp; (try with_reducible rfl))⟩) (by assumption) ?_
                    try simp only [Act.put, List.setIfInBounds_toArray, List.set_cons_zero, List.set_cons_succ]
                    refine wpAnyH_take (i := 9) (oi := _) (v := ?_) rfl (by kernel_rfl) (by kernel_rfl) (by kernel_rfl) (fun _ _ _ h => h) (Or.inl ⟨by rfl, (by (intro w hSw); (try dsimp only at hSw); go_simp; (try with_reducible rfl))⟩) (by assumption) ?_
                    try simp only [Act.put, List.setIfInBounds_toArray, List.set_cons_zero, List.set_cons_succ]
                    refine wpAnyH_take (i := 10) (oi := _) (v := ?_) rfl (by kernel_rfl) (by kernel_rfl) (by kernel_rfl) (fun _ _ _ h => h) (Or.inl ⟨by rfl, (by (intro w hSw); (try dsimp only at hSw); go_simp; (try with_reducible rfl))⟩) (by assumption) ?_
                    try simp only [Act.put, List.setIfInBounds_toArray, List.set_cons_zero, List.set_cons_succ]
                    refine wpAnyH_take (i := 11) (oi := _) (v := ?_) rfl (by kernel_rfl) (by kernel_rfl) (by kernel_rfl) (fun _ _ _ h => h) (Or.inl ⟨by rfl, (by (intro w hSw); (try dsimp only at hSw); go_simp; (try with_reducible rfl))⟩) (by assumption) ?_
                    try simp only [Act.put, List.setIfInBounds_toArray, List.set_cons_zero, List.set_cons_succ]
                    refine wpAnyH_take (i := 12) (oi := _) (v := ?_) rfl (by kernel_rfl) (by kernel_rfl) (by kernel_rfl) (fun _ _ _ h => h) (Or.inl ⟨by rfl, (by (intro w hSw); (try dsimp only at hSw); go_simp; (try with_reducible rfl))⟩) (by assumption) ?_
                    try simp only [Act.put, List.setIfInBounds_toArray, List.set_cons_zero, List.set_cons_succ]
                    refine wpAnyH_take (i := 13) (oi := _) (v := ?_) rfl (by kernel_rfl) (by kernel_rfl) (by kernel_rfl) (fun _ _ _ h => h) (Or.inl ⟨by rfl, (by (intro w hSw); (try dsimp only at hSw); go_simp; (try with_reducible rfl))⟩) (by assumption) ?_
                    try simp only [Act.put, List.setIfInBounds_toArray, List.set_cons_zero, List.set_cons_succ]
                    refine wpAnyH_take (i := 14) (oi := _) (v := ?_) rfl (by kernel_rfl) (by kernel_rfl) (by kernel_rfl) (fun _ _ _ h => h) (Or.inl ⟨by rfl, (by (intro w hSw); (try dsimp only at hSw); go_simp; (try with_reducible rfl))⟩) (by assumption) ?_
                    try simp only [Act.put, List.setIfInBounds_toArray, List.set_cons_zero, List.set_cons_succ]
                    refine wpAnyH_take (i := 15) (oi := _) (v := ?_) rfl (by kernel_rfl) (by kernel_rfl) (by kernel_rfl) (fun _ _ _ h => h) (Or.inl ⟨by rfl, (by (intro w hSw); (try dsimp only at hSw); go_simp; (try with_reducible rfl))⟩) (by assumption) ?_
                    try simp only [Act.put, List.setIfInBounds_toArray, List.set_cons_zero, List.set_cons_succ]
                    refine wpAnyH_take (i := 16) (oi := _) (v := ?_) rfl (by kernel_rfl) (by kernel_rfl) (by kernel_rfl) (fun _ _ _ h => h) (Or.inl ⟨by rfl, (by (intro w hSw); (try dsimp only at hSw); go_simp; (try with_reducible rfl))⟩) (by assumption) ?_
                    try simp only [Act.put, List.setIfInBounds_toArray, List.set_cons_zero, List.set_cons_succ]
                    refine wpAnyH_take (i := 17) (oi := _) (v := ?_) rfl (by kernel_rfl) (by kernel_rfl) (by kernel_rfl) (fun _ _ _ h => h) (Or.inl ⟨by rfl, (by (intro w hSw); (try dsimp only at hSw); go_simp; (try with_reducible rfl))⟩) (by assumption) ?_
                    try simp only [Act.put, List.setIfInBounds_toArray, List.set_cons_zero, List.set_cons_succ]
                    refine wpAnyH_take (i := 18) (oi := _) (v := ?_) rfl (by kernel_rfl) (by kernel_rfl) (by kernel_rfl) (fun _ _ _ h => h) (Or.inl ⟨by rfl, (by (intro w hSw); (try dsimp only at hSw); go_simp; (try with_reducible rfl))⟩) (by assumption) ?_
                    try simp only [Act.put, List.setIfInBounds_toArray, List.set_cons_zero, List.set_cons_succ]
                    refine wpAnyH_take (i := 19) (oi := _) (v := ?_) rfl (by kernel_rfl) (by kernel_rfl) (by kernel_rfl) (fun _ _ _ h => h) (Or.inl ⟨by rfl, (by (intro w hSw); (try dsimp only at hSw); go_simp; (try with_reducible rfl))⟩) (by assumption) ?_
                    try simp only [Act.put, List.setIfInBounds_toArray, List.set_cons_zero, List.set_cons_succ]
                    refine wpAnyH_take (i := 20) (oi := _) (v := ?_) rfl (by kernel_rfl) (by kernel_rfl) (by kernel_rfl) (fun _ _ _ h => h) (Or.inl ⟨by rfl, (by (intro w hSw); (try dsimp only at hSw); go_simp; (try with_reducible rfl))⟩) (by assumption) ?_
                    try simp only [Act.put, List.setIfInBounds_toArray, List.set_cons_zero, List.set_cons_succ]
                    refine wpAnyH_take (i := 21) (oi := _) (v := ?_) rfl (by kernel_rfl) (by kernel_rfl) (by kernel_rfl) (fun _ _ _ h => h) (Or.inl ⟨by rfl, (by (intro w hSw); (try dsimp only at hSw); go_simp; (try with_reducible rfl))⟩) (by assumption) ?_
                    try simp only [Act.put, List.setIfInBounds_toArray, List.set_cons_zero, List.set_cons_succ]
                    refine wpAnyH_take (i := 22) (oi := _) (v := ?_) rfl (by kernel_rfl) (by kernel_rfl) (by kernel_rfl) (fun _ _ _ h => h) (Or.inl ⟨by rfl, (by (intro w hSw); (try dsimp only at hSw); go_simp; (try with_reducible rfl))⟩) (by assumption) ?_
                    try simp only [Act.put, List.setIfInBounds_toArray, List.set_cons_zero, List.set_cons_succ]
                    refine wpAnyH_take (i := 23) (oi := _) (v := ?_) rfl (by kernel_rfl) (by kernel_rfl) (by kernel_rfl) (fun _ _ _ h => h) (Or.inl ⟨by rfl, (by (intro w hSw); (try dsimp only at hSw); go_simp; (try with_reducible rfl))⟩) (by assumption) ?_
                    try simp only [Act.put, List.setIfInBounds_toArray, List.set_cons_zero, List.set_cons_succ]
                    refine wpAnyH_ready (rs := [24]) (by kernel_rfl) (by simp) ?_
                    refine AllReadyH.cons (o := _) rfl (fun K hK => ?_) AllReadyH.nil
                    go_simp
                    refine DW.mono ?_
                    rintro e w3 ⟨rfl, rfl⟩
                    refine hK.out _ _ (by exact hHeld) (fun hHeld => ?_)
                    clear hK K
                    try simp only [Act.put, List.setIfInBounds_toArray, List.set_cons_zero, List.set_cons_succ]
                    refine wpAnyH_ready (rs := [25]) (by kernel_rfl) (by simp) ?_
                    refine AllReadyH.cons (o := _) rfl (fun K hK => ?_) AllReadyH.nil
                    go_simp
                    refine SC.mono ?_
                    rintro e w4 ⟨u4, rfl, k4, c4⟩
                    obtain ⟨a4, e4, hu4, -⟩ := id k4
                    rw [List.length_map, HLQ.out.1] at hu4
                    subst hu4
                    have c4' : Below wr.heap.size wr w4 := (below_draws wr.heap.size wr 1).trans c4
                    have d4 := And.intro (And.intro ((c4'.cell (p := ⟨b, off + k, none⟩) hbl).trans ckO) ((c4'.cell (p := ⟨b, off + s, none⟩) hbl).trans csO)) (And.intro ((c4'.cell (p := ⟨bk, ok + k, none⟩) hbk4).trans ckk) ((c4'.cell (p := ⟨bs, os + k, none⟩) hbs4).trans csk))
                    refine hK.out _ _ (by exact d4) (fun hHeld => ?_)
                    clear hK K
                    try simp only [Act.put, List.setIfInBounds_toArray, List.set_cons_zero, List.set_cons_succ]
                    refine wpAnyH_ready (rs := [26]) (by kernel_rfl) (by simp) ?_
                    refine AllReadyH.cons (o := _) rfl (fun K hK => ?_) AllReadyH.nil
                    go_simp
                    refine (l2LessW_any (D.getD s []) ((D.getD k []).map (fun x => wrap64 (x * q))) (.slice (some ⟨bs, os, none⟩) n cs) _ w4.heap.size w4 ((HISS.out.read.keep c4' (Nat.le_refl _)).upto c4'.size) k4.read (Nat.le_refl _) (by rw [HLQ.out.2]; omega) (by rw [List.length_map, HLQ.out.1, HLQ.out.2]; exact Nat.le_refl _)).mono ?_
                    rintro e w5 ⟨u5, rfl, k5, c5⟩
                    rw [subW_mul] at k5
                    obtain ⟨a5, e5, hu5, -⟩ := id k5
                    rw [subW_len _ (by rw [HLQ.out.1, HLQ.out.2]), HLQ.out.2] at hu5
                    subst hu5
                    have d5 := And.intro (And.intro ((c5.cell (p := ⟨b, off + k, none⟩) (Nat.lt_of_lt_of_le hbl c4'.size)).trans d4.1.1) ((c5.cell (p := ⟨b, off + s, none⟩) (Nat.lt_of_lt_of_le hbl c4'.size)).trans d4.1.2)) (And.intro ((c5.cell (p := ⟨bk, ok + k, none⟩) (Nat.lt_of_lt_of_le hbk4 c4'.size)).trans d4.2.1) ((c5.cell (p := ⟨bs, os + k, none⟩) (Nat.lt_of_lt_of_le hbs4 c4'.size)).trans d4.2.2))
                    refine hK.out _ _ (by exact d5) (fun hHeld => ?_)
                    clear hK K
                    try simp only [Act.put, List.setIfInBounds_toArray, List.set_cons_zero, List.set_cons_succ]
                    refine wpAnyH_take (i := 27) (oi := _) (v := ?_) rfl (by kernel_rfl) (by kernel_rfl) (by kernel_rfl) (fun _ _ _ h => h) (Or.inl ⟨by rfl, (by (intro w hSw); (try dsimp only at hSw); go_simp; (try with_reducible rfl))⟩) (by assumption) ?_
                    try simp only [Act.put, List.setIfInBounds_toArray, List.set_cons_zero, List.set_cons_succ]
                    refine wpAnyH_done (by kernel_rfl) ?_ _
                    have C5 := below_then c4' c4'.size c5
                    have R5 := HRW4.out.keep C5
                    have fzs := R5.outer.frozen (off + s)
                    have S1 := R5.set hsn (k5.mono (Nat.le_trans hbe4.out.size c4'.size) (Nat.le_refl _))
                    have R7 := Lib.hid (show MO _ _ _ _ _ (redS k (s + 1) C2) from ⟨_, S1.congr fun i hi => by
                      rw [HRE.out]
                      unfold subR
                      rw [getD_setR (by rw [HRS.out.sq.len]; exact hsn)]⟩)
                    have B7 := Lib.hid ((Below.trans hbe4.out (C5.mono hbe4.out.size)).setCell (show w.heap.size ≤ b from hlo) (.slice a5 n e5) (p := ⟨b, off + s, none⟩))
                    clear S1 R5 k4 k5 c4 c4' c5 C5 SC DW HRW4 HISK HISS x0 x1 x2 x3 d4 HRS HRE ckO csO ckk csk hmr4 hbe4 R6 B5
                    unfold lastQ
                    go_simp
                    go_wp2
                    go_roundw
                    case rel => exact ⟨s + 1, by omega, by go_num, R7, B7⟩
                    case measure => simp [intOf]; omega
                  · obtain rfl : s = k := by omega
                    rw [← HEQ2.out] at hmr4
                    clear R6 B5
                    go_wp2
                    go_roundw
                    case rel => exact ⟨s + 1, by omega, by go_num, hmr4, hbe4⟩
                    case measure => simp [intOf]; omega
        · obtain rfl : k = n := by omega
          have HLE := Lib.hid ((HH.out k (Nat.le_refl _)).sq.len)
          have hbl : b < wr.heap.size := by obtain ⟨V, hrw⟩ := hmr.out; exact hrw.outer.lt
          go_wp2
          go_ret
          exact ⟨_, rfl, hmr.out.read HLE.out hnc hcm hbl, hbe.out⟩
end Go.Proofs.Ytehhoplenloocaa

/- Hermite's form is exact: no number wraps, the rows tell the same lattice, and the determinant stays up to its sign. Plain law. -/
namespace Go.Proofs.Ytehhoplenloocaa
open Go.RowKit
set_option linter.unusedVariables false
set_option linter.unusedSimpArgs false

/-- a whole combination of the (at most three) rows -/
def InL (M : List (List Int)) (z : Nat → Int) : Prop := ∃ a b c : Int, ∀ j, z j = a * atM M 0 j + b * atM M 1 j + c * atM M 2 j
theorem InL.congr {M : List (List Int)} {x y : Nat → Int} (h : InL M x) (e : ∀ j, x j = y j) : InL M y := by
  obtain ⟨a, b, c, h⟩ := h; exact ⟨a, b, c, fun j => by rw [← e j]; exact h j⟩
theorem InL.add {M : List (List Int)} {x y : Nat → Int} (h : InL M x) (k : InL M y) : InL M (fun j => x j + y j) := by
  obtain ⟨a, b, c, h⟩ := h
  obtain ⟨a', b', c', k⟩ := k
  exact ⟨a + a', b + b', c + c', fun j => by dsimp only; rw [h j, k j]; grind⟩
theorem InL.smul {M : List (List Int)} {x : Nat → Int} (q : Int) (h : InL M x) : InL M (fun j => q * x j) := by
  obtain ⟨a, b, c, h⟩ := h
  exact ⟨q * a, q * b, q * c, fun j => by dsimp only; rw [h j]; grind⟩
theorem InL.row (M : List (List Int)) {i : Nat} (hi : i < 3) : InL M (fun j => atM M i j) := by
  rcases (show i = 0 ∨ i = 1 ∨ i = 2 by omega) with rfl | rfl | rfl
  · exact ⟨1, 0, 0, fun j => by simp⟩
  · exact ⟨0, 1, 0, fun j => by simp⟩
  · exact ⟨0, 0, 1, fun j => by simp⟩
theorem InL.sub {M N : List (List Int)} {z : Nat → Int} (h : ∀ i, i < 3 → InL N (fun j => atM M i j)) (hz : InL M z) : InL N z := by
  obtain ⟨a, b, c, hz⟩ := hz
  exact ((((h 0 (by omega)).smul a).add ((h 1 (by omega)).smul b)).add ((h 2 (by omega)).smul c)).congr fun j => (hz j).symm
theorem InL.iff {M N : List (List Int)} (h : ∀ i, i < 3 → InL N (fun j => atM M i j)) (k : ∀ i, i < 3 → InL M (fun j => atM N i j)) (z : Nat → Int) : InL M z ↔ InL N z := ⟨InL.sub h, InL.sub k⟩

theorem Sq.out {n : Nat} {M : List (List Int)} (h : Sq n M) {i j : Nat} (hj : n ≤ j) : atM M i j = 0 := by
  unfold atM
  by_cases hi : i < n
  · rw [List.getD_eq_getElem?_getD, List.getElem?_eq_none (by rw [h.row i hi]; exact hj)]; rfl
  · rw [show M.getD i [] = [] by rw [List.getD_eq_getElem?_getD, List.getElem?_eq_none (by rw [h.len]; omega)]; rfl]; rfl
theorem Sq.out2 {n : Nat} {M : List (List Int)} (h : Sq n M) {i j : Nat} (hi : n ≤ i) : atM M i j = 0 := by
  unfold atM
  rw [show M.getD i [] = [] by rw [List.getD_eq_getElem?_getD, List.getElem?_eq_none (by rw [h.len]; omega)]; rfl]; rfl
theorem dN_at1 {M : List (List Int)} (h : Sq 1 M) : dN M = atM M 0 0 := by obtain ⟨a, rfl⟩ := h.one; rfl
theorem dN_at2 {M : List (List Int)} (h : Sq 2 M) : dN M = atM M 0 0 * atM M 1 1 - atM M 0 1 * atM M 1 0 := by obtain ⟨a, b, c, d, rfl⟩ := h.two; rfl
theorem dN_at3 {M : List (List Int)} (h : Sq 3 M) : dN M = atM M 0 0 * (atM M 1 1 * atM M 2 2 - atM M 1 2 * atM M 2 1) - atM M 0 1 * (atM M 1 0 * atM M 2 2 - atM M 1 2 * atM M 2 0) + atM M 0 2 * (atM M 1 0 * atM M 2 1 - atM M 1 1 * atM M 2 0) := by
  obtain ⟨a, b, c, d, e, f, g, i, j, rfl⟩ := h.three; rfl

/-- what a step of Euclid does, without the wrap -/
structure StepE (k r : Nat) (q : Int) (M N : List (List Int)) : Prop where
  ek : ∀ j, atM N k j = atM M r j
  er : ∀ j, atM N r j = atM M k j - atM M r j * q
  eo : ∀ i, i ≠ k → i ≠ r → ∀ j, atM N i j = atM M i j
theorem StepE.inl {k r : Nat} {q : Int} {M N : List (List Int)} (h : StepE k r q M N) (hk : k < 3) (hr : r < 3) (z : Nat → Int) : InL N z ↔ InL M z := by
  refine InL.iff (fun i hi => ?_) (fun i hi => ?_) z
  · by_cases e1 : i = r
    · subst e1
      exact ((InL.row M hk).add ((InL.row M hr).smul (-q))).congr fun j => by rw [h.er j]; grind
    · by_cases e2 : i = k
      · subst e2
        exact (InL.row M hr).congr fun j => (h.ek j).symm
      · exact (InL.row M hi).congr fun j => (h.eo i e2 e1 j).symm
  · by_cases e1 : i = r
    · subst e1
      exact (InL.row N hk).congr fun j => h.ek j
    · by_cases e2 : i = k
      · subst e2
        exact ((InL.row N hr).add ((InL.row N hk).smul q)).congr fun j => by rw [h.er j, h.ek j]; grind
      · exact (InL.row N hi).congr fun j => h.eo i e2 e1 j
theorem StepE.det {n k r : Nat} {q : Int} {M N : List (List Int)} (h : StepE k r q M N) (hm : Sq n M) (hn : Sq n N) (h3 : n ≤ 3) (hk : k < r) (hr : r < n) : dN N = -dN M := by
  rcases (show n = 1 ∨ n = 2 ∨ n = 3 by omega) with rfl | rfl | rfl
  · omega
  · obtain rfl : k = 0 := by omega
    obtain rfl : r = 1 := by omega
    rw [dN_at2 hm, dN_at2 hn, h.ek, h.ek, h.er, h.er]; grind
  · rw [dN_at3 hm, dN_at3 hn]
    rcases (show (k = 0 ∧ r = 1) ∨ (k = 0 ∧ r = 2) ∨ (k = 1 ∧ r = 2) by omega) with ⟨rfl, rfl⟩ | ⟨rfl, rfl⟩ | ⟨rfl, rfl⟩
    · rw [h.ek, h.ek, h.ek, h.er, h.er, h.er, h.eo 2 (by omega) (by omega), h.eo 2 (by omega) (by omega), h.eo 2 (by omega) (by omega)]; grind
    · rw [h.ek, h.ek, h.ek, h.er, h.er, h.er, h.eo 1 (by omega) (by omega), h.eo 1 (by omega) (by omega), h.eo 1 (by omega) (by omega)]; grind
    · rw [h.ek, h.ek, h.ek, h.er, h.er, h.er, h.eo 0 (by omega) (by omega), h.eo 0 (by omega) (by omega), h.eo 0 (by omega) (by omega)]; grind

theorem tdiv_small {x y B : Int} (hx : -B ≤ x ∧ x ≤ B) (hB : B ≤ 1000000000) : wrap64 (x.tdiv y) = x.tdiv y := by
  have h : (x.tdiv y).natAbs ≤ x.natAbs := by rw [Int.natAbs_tdiv]; exact Nat.div_le_self _ _
  exact wrap_id (by omega)
theorem num_step {x y z u B : Int} (hB : B ≤ 1000000000) (h0 : ¬ y = 0) (hx : -B ≤ x ∧ x ≤ B) (hz : -B ≤ z ∧ z ≤ B) (hu : -B ≤ u ∧ u ≤ B) (hd : -B ≤ z * y - u * x ∧ z * y - u * x ≤ B) :
    wrap64 (z - wrap64 (u * wrap64 (x.tdiv y))) = z - u * x.tdiv y ∧ -B ≤ z - u * x.tdiv y ∧ z - u * x.tdiv y ≤ B := by
  rw [tdiv_small hx hB]
  have e : x.tmod y = x - y * x.tdiv y := by have := Int.mul_tdiv_add_tmod x y; omega
  have hm := tmod_natAbs x y h0
  generalize x.tdiv y = q at *
  have key : y * (z - u * q) = (z * y - u * x) + u * x.tmod y := by rw [e]; grind
  have key2 : y.natAbs * (z - u * q).natAbs ≤ y.natAbs * B.toNat := by
    rw [← Int.natAbs_mul, key]
    refine Nat.le_trans (Int.natAbs_add_le _ _) ?_
    rw [Int.natAbs_mul]
    have h1 : u.natAbs * (x.tmod y).natAbs ≤ B.toNat * (y.natAbs - 1) := Nat.mul_le_mul (by omega) (by omega)
    have h2 : B.toNat * (y.natAbs - 1) + B.toNat = y.natAbs * B.toNat := by
      have : y.natAbs = (y.natAbs - 1) + 1 := by omega
      rw [this, Nat.add_mul, Nat.one_mul, Nat.add_sub_cancel, Nat.mul_comm]
    omega
  have key3 := Nat.le_of_mul_le_mul_left key2 (by omega)
  have b : -B ≤ z - u * q ∧ z - u * q ≤ B := by omega
  have c : wrap64 (u * q) = u * q := wrap_id (by omega)
  rw [c]
  exact ⟨wrap_id (by omega), b⟩
/-- two rows within bounds, whose determinants with the column k are within bounds too -/
structure PR (k r : Nat) (M : List (List Int)) (B : Int) : Prop where
  pk : ∀ j, -B ≤ atM M k j ∧ atM M k j ≤ B
  pr : ∀ j, -B ≤ atM M r j ∧ atM M r j ≤ B
  pd : ∀ j, -B ≤ atM M k j * atM M r k - atM M r j * atM M k k ∧ atM M k j * atM M r k - atM M r j * atM M k k ≤ B
theorem stepE {n k r : Nat} {M : List (List Int)} {B : Int} (hs : Sq n M) (hk : k < n) (hr : r < n) (hkr : k ≠ r) (hp : PR k r M B) (hB : B ≤ 1000000000) (h0 : ¬ atM M r k = 0) :
    StepE k r ((atM M k k).tdiv (atM M r k)) M (stepQ k r (qE k r M) M) ∧ PR k r (stepQ k r (qE k r M) M) B := by
  have hN := stepQ_sq hs hk hr (qE k r M)
  have hS : StepE k r ((atM M k k).tdiv (atM M r k)) M (stepQ k r (qE k r M) M) := by
    refine ⟨fun j => ?_, fun j => ?_, fun i hik hir j => ?_⟩
    · by_cases hj : j < n
      · rw [stepQ_at hs hk hr hkr _ _ hj, if_neg hkr, if_pos rfl]
      · rw [hs.out (by omega), hN.out (by omega)]
    · by_cases hj : j < n
      · rw [stepQ_at hs hk hr hkr _ _ hj, if_pos rfl]
        exact (num_step hB h0 (hp.pk k) (hp.pk j) (hp.pr j) (hp.pd j)).1
      · rw [hs.out (by omega), hs.out (by omega), hN.out (by omega)]; simp
    · by_cases hj : j < n
      · rw [stepQ_at hs hk hr hkr _ _ hj, if_neg hir, if_neg hik]
      · rw [hs.out (by omega), hN.out (by omega)]
  refine ⟨hS, ⟨fun j => ?_, fun j => ?_, fun j => ?_⟩⟩
  · rw [hS.ek]; exact hp.pr j
  · rw [hS.er]; exact (num_step hB h0 (hp.pk k) (hp.pk j) (hp.pr j) (hp.pd j)).2
  · rw [hS.ek, hS.er, hS.er, hS.ek]
    have := hp.pd j
    generalize (atM M k k).tdiv (atM M r k) = q
    have e : atM M r j * (atM M k k - atM M r k * q) - (atM M k j - atM M r j * q) * atM M r k = -(atM M k j * atM M r k - atM M r j * atM M k k) := by grind
    rw [e]; omega
/-- what stays -/
structure EX (n : Nat) (M0 M : List (List Int)) : Prop where
  sq : Sq n M
  inl : ∀ z, InL M z ↔ InL M0 z
  dt : dN M = dN M0 ∨ dN M = -dN M0
theorem EX.refl {n : Nat} {M : List (List Int)} (h : Sq n M) : EX n M M := ⟨h, fun _ => Iff.rfl, .inl rfl⟩
theorem EX.trans {n : Nat} {A B C : List (List Int)} (h : EX n A B) (k : EX n B C) : EX n A C :=
  ⟨k.sq, fun z => (k.inl z).trans (h.inl z), by rcases h.dt with e | e <;> rcases k.dt with e2 | e2 <;> rw [e2, e] <;> simp⟩
theorem EX.euc {n k r : Nat} {B : Int} (h3 : n ≤ 3) (hk : k < r) (hr : r < n) (hB : B ≤ 1000000000) : ∀ f (M : List (List Int)), Sq n M → PR k r M B → EX n M (eucM f k r M) ∧ PR k r (eucM f k r M) B ∧ ∀ i, i ≠ k → i ≠ r → ∀ j, atM (eucM f k r M) i j = atM M i j
  | 0, M, hs, hp => ⟨EX.refl hs, hp, fun _ _ _ _ => rfl⟩
  | f + 1, M, hs, hp => by
    unfold eucM
    split
    · exact ⟨EX.refl hs, hp, fun _ _ _ _ => rfl⟩
    · rename_i h0
      obtain ⟨h1, h2⟩ := stepE hs (by omega) hr (by omega) hp hB h0
      have hN := stepQ_sq hs (show k < n by omega) hr (qE k r M)
      obtain ⟨g1, g2, g3⟩ := EX.euc h3 hk hr hB f _ hN h2
      exact ⟨EX.trans ⟨hN, h1.inl (by omega) (by omega), .inr (h1.det hs hN h3 hk hr)⟩ g1, g2, fun i e1 e2 j => by rw [g3 i e1 e2 j, h1.eo i e1 e2 j]⟩
theorem EX.neg {n k : Nat} {M : List (List Int)} (h3 : n ≤ 3) (hk : k < n) (hs : Sq n M) (hb : ∀ j, -1000000000000000 ≤ atM M k j ∧ atM M k j ≤ 1000000000000000) :
    EX n M (negS k M) ∧ (∀ i, i ≠ k → ∀ j, atM (negS k M) i j = atM M i j) ∧ (∀ j, atM (negS k M) k j = atM M k j ∨ atM (negS k M) k j = -atM M k j) ∧ 0 ≤ atM (negS k M) k k := by
  unfold negS
  split
  · rename_i hl
    have hlen : k < M.length := by rw [hs.len]; exact hk
    have hne : ∀ i j, atM (M.set k (neW (M.getD k []))) i j = if i = k then -atM M k j else atM M i j := fun i j => by
      rw [atM_set hlen]
      split
      · have := hb j
        unfold neW
        unfold atM at this ⊢
        generalize M.getD k [] = row at *
        rw [List.getD_eq_getElem?_getD] at this
        rw [List.getD_eq_getElem?_getD, List.getD_eq_getElem?_getD, List.getElem?_map]
        cases e : row[j]? with
        | none => rfl
        | some x =>
          rw [e] at this
          show wrap64 (x * -1) = -x
          have h2 : -1000000000000000 ≤ x ∧ x ≤ 1000000000000000 := this
          rw [wrap_id (by omega)]; omega
      · rfl
    have hN : Sq n (M.set k (neW (M.getD k []))) := hs.set hk (by rw [neW_len]; exact hs.row k hk)
    generalize hNN : M.set k (neW (M.getD k [])) = N at *
    refine ⟨⟨hN, fun z => InL.iff (fun i hi => ?_) (fun i hi => ?_) z, .inr ?_⟩, fun i e j => by rw [hne, if_neg e], fun j => .inr (by rw [hne, if_pos rfl]), by rw [hne, if_pos rfl]; omega⟩
    · by_cases e : i = k
      · subst e; exact ((InL.row M hi).smul (-1)).congr fun j => by rw [hne, if_pos rfl]; omega
      · exact (InL.row M hi).congr fun j => by rw [hne, if_neg e]
    · by_cases e : i = k
      · subst e; exact ((InL.row N hi).smul (-1)).congr fun j => by rw [hne, if_pos rfl]; omega
      · exact (InL.row N hi).congr fun j => by rw [hne, if_neg e]
    · rcases (show n = 1 ∨ n = 2 ∨ n = 3 by omega) with rfl | rfl | rfl
      · obtain rfl : k = 0 := by omega
        rw [dN_at1 hs, dN_at1 hN, hne]; simp
      · rw [dN_at2 hs, dN_at2 hN]
        simp only [hne]
        rcases (show k = 0 ∨ k = 1 by omega) with rfl | rfl <;> simp <;> grind
      · rw [dN_at3 hs, dN_at3 hN]
        simp only [hne]
        rcases (show k = 0 ∨ k = 1 ∨ k = 2 by omega) with rfl | rfl | rfl <;> simp <;> grind
  · exact ⟨EX.refl hs, fun _ _ _ => rfl, fun _ => .inl rfl, by omega⟩
theorem mul_bdH {a b M N : Int} (ha : -M ≤ a ∧ a ≤ M) (hb : -N ≤ b ∧ b ≤ N) : -(M * N) ≤ a * b ∧ a * b ≤ M * N := by
  have h1 : a.natAbs * b.natAbs ≤ M.natAbs * N.natAbs := Nat.mul_le_mul (by omega) (by omega)
  rw [← Int.natAbs_mul, ← Int.natAbs_mul] at h1
  have : 0 ≤ M * N := Int.mul_nonneg (by omega) (by omega)
  omega
theorem flW_at {x d : Int} (hd : 0 < d) (hx : -1000000000000000 ≤ x ∧ x ≤ 1000000000000000) : 0 ≤ x - d * flW x d ∧ x - d * flW x d < d ∧ -(x.natAbs + 1 : Int) ≤ flW x d ∧ flW x d ≤ x.natAbs + 1 := by
  have e := Int.mul_tdiv_add_tmod x d
  have hm := tmod_natAbs x d (by omega)
  have ht : (x.tdiv d).natAbs ≤ x.natAbs := by rw [Int.natAbs_tdiv]; exact Nat.div_le_self _ _
  have hs : 0 ≤ x → 0 ≤ x.tmod d := fun h => Int.tmod_nonneg _ h
  unfold flW
  rw [show wrap64 (x.tdiv d) = x.tdiv d from wrap_id (by omega), show wrap64 (x.tdiv d - 1) = x.tdiv d - 1 from wrap_id (by omega)]
  split
  · rw [Int.mul_sub, Int.mul_one]; omega
  · omega
/-- what a reduction of row s by row k does, without the wrap -/
theorem red1E {n k s : Nat} {M : List (List Int)} (h3 : n ≤ 3) (hs : Sq n M) (hsk : s < k) (hk : k < n) (hd : 0 < atM M k k) (hdb : atM M k k ≤ 100000000000000) (hb : ∀ j, -100000000000000 ≤ atM M s j ∧ atM M s j ≤ 100000000000000)
    (hp : ∀ j, j ≠ k → -100000000000000 ≤ atM M k j * flW (atM M s k) (atM M k k) ∧ atM M k j * flW (atM M s k) (atM M k k) ≤ 100000000000000) :
    EX n M (subR s k (flW (atM M s k) (atM M k k)) M) ∧ (∀ j, atM (subR s k (flW (atM M s k) (atM M k k)) M) s j = atM M s j - atM M k j * flW (atM M s k) (atM M k k)) ∧ (∀ i, i ≠ s → ∀ j, atM (subR s k (flW (atM M s k) (atM M k k)) M) i j = atM M i j) ∧ 0 ≤ atM (subR s k (flW (atM M s k) (atM M k k)) M) s k ∧ atM (subR s k (flW (atM M s k) (atM M k k)) M) s k < atM M k k := by
  have hf := flW_at hd (x := atM M s k) (by have := hb k; omega)
  have hN := subR_sq hs (show s < n by omega) hk (flW (atM M s k) (atM M k k))
  have hat : ∀ i j, atM (subR s k (flW (atM M s k) (atM M k k)) M) i j = if i = s then atM M s j - atM M k j * flW (atM M s k) (atM M k k) else atM M i j := fun i j => by
    by_cases hj : j < n
    · rw [subR_at hs (by omega) hk _ _ hj]
      by_cases e : i = s
      · rw [if_pos e, if_pos e]
        have h1 : -200000000000000 ≤ atM M k j * flW (atM M s k) (atM M k k) ∧ atM M k j * flW (atM M s k) (atM M k k) ≤ 200000000000000 := by
          by_cases ej : j = k
          · subst ej; have := hb j; omega
          · have := hp j ej; omega
        have h2 := hb j
        rw [show wrap64 (atM M k j * flW (atM M s k) (atM M k k)) = atM M k j * flW (atM M s k) (atM M k k) from wrap_id (by omega)]
        exact wrap_id (by omega)
      · rw [if_neg e, if_neg e]
    · have e1 := hs.out (i := s) (j := j) (by omega)
      have e2 := hs.out (i := k) (j := j) (by omega)
      have e3 := hs.out (i := i) (j := j) (by omega)
      rw [hN.out (by omega), e1, e2, e3]; simp
  generalize hNN : subR s k (flW (atM M s k) (atM M k k)) M = N at *
  generalize hq : flW (atM M s k) (atM M k k) = q at *
  refine ⟨⟨hN, fun z => InL.iff (fun i hi => ?_) (fun i hi => ?_) z, .inl ?_⟩, fun j => by rw [hat, if_pos rfl], fun i e j => by rw [hat, if_neg e], by rw [hat, if_pos rfl]; omega, by rw [hat, if_pos rfl]; omega⟩
  · by_cases e : i = s
    · subst e; exact ((InL.row M hi).add ((InL.row M (show k < 3 by omega)).smul (-q))).congr fun j => by rw [hat, if_pos rfl]; grind
    · exact (InL.row M hi).congr fun j => by rw [hat, if_neg e]
  · by_cases e : i = s
    · subst e; exact ((InL.row N hi).add ((InL.row N (show k < 3 by omega)).smul q)).congr fun j => by rw [hat, hat, if_pos rfl, if_neg (by omega)]; grind
    · exact (InL.row N hi).congr fun j => by rw [hat, if_neg e]
  · rcases (show n = 1 ∨ n = 2 ∨ n = 3 by omega) with rfl | rfl | rfl
    · omega
    · rw [dN_at2 hs, dN_at2 hN]
      simp only [hat]
      obtain rfl : s = 0 := by omega
      obtain rfl : k = 1 := by omega
      simp; grind
    · rw [dN_at3 hs, dN_at3 hN]
      simp only [hat]
      rcases (show (s = 0 ∧ k = 1) ∨ (s = 0 ∧ k = 2) ∨ (s = 1 ∧ k = 2) by omega) with ⟨rfl, rfl⟩ | ⟨rfl, rfl⟩ | ⟨rfl, rfl⟩ <;> simp <;> grind
theorem redE {n k : Nat} {M : List (List Int)} (h3 : n ≤ 3) (hs : Sq n M) (hk : k < n) (hd : 0 < atM M k k) (hdb : atM M k k ≤ 100000000000000) (hb : ∀ i, i < k → ∀ j, -100000000000000 ≤ atM M i j ∧ atM M i j ≤ 100000000000000)
    (hp : ∀ i, i < k → ∀ j, j ≠ k → -100000000000000 ≤ atM M k j * flW (atM M i k) (atM M k k) ∧ atM M k j * flW (atM M i k) (atM M k k) ≤ 100000000000000) :
    ∀ t, t ≤ k → EX n M (redS k t M) ∧ (∀ i, t ≤ i → ∀ j, atM (redS k t M) i j = atM M i j) ∧ ∀ i, i < t → (∀ j, atM (redS k t M) i j = atM M i j - atM M k j * flW (atM M i k) (atM M k k)) ∧ 0 ≤ atM (redS k t M) i k ∧ atM (redS k t M) i k < atM M k k
  | 0, _ => ⟨EX.refl hs, fun _ _ _ => rfl, fun i hi => by omega⟩
  | t + 1, ht => by
    obtain ⟨g1, g2, g3⟩ := redE h3 hs hk hd hdb hb hp t (by omega)
    have ek : ∀ j, atM (redS k t M) k j = atM M k j := g2 k (by omega)
    have et : ∀ j, atM (redS k t M) t j = atM M t j := g2 t (by omega)
    unfold redS
    have r := red1E (n := n) (k := k) (s := t) (M := redS k t M) h3 g1.sq (by omega) hk (by rw [ek]; exact hd) (by rw [ek]; exact hdb) (fun j => by rw [et]; exact hb t (by omega) j) (fun j hj => by rw [ek, ek, et]; exact hp t (by omega) j hj)
    obtain ⟨r1, r2, r3, r4, r5⟩ := r
    refine ⟨g1.trans r1, fun i hi j => by rw [r3 i (by omega), g2 i (by omega)], fun i hi => ?_⟩
    by_cases e : i = t
    · subst e
      refine ⟨fun j => by rw [r2, ek, ek, et, et], r4, by rw [← ek k]; exact r5⟩
    · obtain ⟨q1, q2, q3⟩ := g3 i (by omega)
      exact ⟨fun j => by rw [r3 i e]; exact q1 j, by rw [r3 i e]; exact q2, by rw [r3 i e]; exact q3⟩
/-- Hermite's form -/
structure HX (n : Nat) (H : List (List Int)) : Prop where
  sq : Sq n H
  tri : ∀ i j, j < i → atM H i j = 0
  pos : ∀ i, i < n → 0 < atM H i i
  red : ∀ i j, i < j → j < n → 0 ≤ atM H i j ∧ atM H i j < atM H j j
theorem Tri.all {n : Nat} {M : List (List Int)} (hs : Sq n M) (h : Tri n n M) (i j : Nat) (hj : j < i) : atM M i j = 0 := by
  by_cases hi : i < n
  · exact h j (by omega) i hj hi
  · exact hs.out2 (by omega)
theorem PR.of {n k r : Nat} {M : List (List Int)} {A B C : Int} (hk : ∀ j, -A ≤ atM M k j ∧ atM M k j ≤ A) (hr : ∀ j, -C ≤ atM M r j ∧ atM M r j ≤ C) (h : A * C + C * A ≤ B) (hA : A ≤ B) (hC : C ≤ B) : PR k r M B := by
  refine ⟨fun j => ?_, fun j => ?_, fun j => ?_⟩
  · have := hk j; omega
  · have := hr j; omega
  · have h1 := mul_bdH (hk j) (hr k)
    have h2 := mul_bdH (hr j) (hk k)
    omega
theorem her1 {M : List (List Int)} (hI : HI 1 0 M) (hb : ∀ i j, -100 ≤ atM M i j ∧ atM M i j ≤ 100) : HX 1 (herS 1 1 M) ∧ EX 1 M (herS 1 1 M) := by
  have hz := colS_end hI (by omega) (show 0 < 1 by omega)
  change HI 1 1 M at hz
  have n1 := EX.neg (k := 0) (by omega) (by omega) hI.sq (fun j => by have := hb 0 j; omega)
  have hz2 := negS_hi hz (by omega) (show 0 < 1 by omega)
  have nz := diag_nz hz2.sq (by omega) (show 0 < 1 by omega) hz2.tri hz2.nz
  change HX 1 (negS 0 M) ∧ EX 1 M (negS 0 M)
  obtain ⟨e1, -, -, e4⟩ := n1
  refine ⟨⟨e1.sq, fun i j hj => e1.sq.out2 (by omega), fun i hi => ?_, fun i j h1 h2 => ?_⟩, e1⟩
  · obtain rfl : i = 0 := by omega
    omega
  · omega
theorem her2 {M : List (List Int)} (hI : HI 2 0 M) (hb : ∀ i j, -100 ≤ atM M i j ∧ atM M i j ≤ 100) : HX 2 (herS 2 2 M) ∧ EX 2 M (herS 2 2 M) := by
  have hz := colS_end hI (by omega) (show 0 < 2 by omega)
  obtain ⟨f, hf⟩ : ∃ f, f = (atM M 1 0).natAbs := ⟨_, rfl⟩
  have a1 := EX.euc (n := 2) (k := 0) (r := 1) (B := 20000) (by omega) (by omega) (by omega) (by omega) f M hI.sq (PR.of (n := 2) (A := 100) (C := 100) (hb 0) (hb 1) (by omega) (by omega) (by omega))
  have ea : colS 0 (2 - 1 - 0) M = eucM f 0 1 M := by subst hf; rfl
  rw [ea] at hz
  have eh : herS 2 2 M = redS 1 1 (negS 1 (negS 0 (eucM f 0 1 M))) := by subst hf; rfl
  rw [eh]
  obtain ⟨xa, pa, -⟩ := a1
  generalize eucM f 0 1 M = A at *
  have b1 := EX.neg (k := 0) (by omega) (show 0 < 2 by omega) xa.sq (fun j => by have := pa.pk j; omega)
  have hzb := negS_hi hz (by omega) (show 0 < 2 by omega)
  have nzb := diag_nz hzb.sq (by omega) (show 0 < 2 by omega) hzb.tri hzb.nz
  generalize negS 0 A = B at *
  obtain ⟨xb, ob, kb, sb⟩ := b1
  have hzc := colS_end hzb (by omega) (show 1 < 2 by omega)
  change HI 2 2 B at hzc
  have d1 := EX.neg (k := 1) (by omega) (show 1 < 2 by omega) xb.sq (fun j => by rw [ob 1 (by omega)]; have := pa.pr j; omega)
  have hzd := negS_hi hzc (by omega) (show 1 < 2 by omega)
  have nzd := diag_nz hzd.sq (by omega) (show 1 < 2 by omega) hzd.tri hzd.nz
  generalize negS 1 B = D at *
  obtain ⟨xd, od, kd, sd⟩ := d1
  have b0 : ∀ j, -20000 ≤ atM D 0 j ∧ atM D 0 j ≤ 20000 := fun j => by
    rw [od 0 (by omega)]
    have := pa.pk j
    rcases kb j with e | e <;> rw [e] <;> omega
  have b11 : atM D 1 1 ≤ 20000 := by
    have := pa.pr 1
    rcases kd 1 with e | e <;> rw [e, ob 1 (by omega)] <;> omega
  have hz1 : ∀ j, j ≠ 1 → atM D 1 j = 0 := fun j hj => by
    rcases (show j = 0 ∨ 2 ≤ j by omega) with rfl | h
    · exact hzd.tri 0 (by omega) 1 (by omega) (by omega)
    · exact xd.sq.out h
  obtain ⟨r1, r2, r3⟩ := redE (n := 2) (k := 1) (by omega) xd.sq (by omega) (by omega) (by omega) (fun i hi j => (show i = 0 by omega) ▸ (show -100000000000000 ≤ atM D 0 j ∧ atM D 0 j ≤ 100000000000000 from ⟨Int.le_trans (by omega) (b0 j).1, Int.le_trans (b0 j).2 (by omega)⟩)) (fun i hi j hj => by rw [hz1 j hj]; omega) 1 (by omega)
  generalize redS 1 1 D = E at *
  have e0 := r3 0 (by omega)
  refine ⟨⟨r1.sq, fun i j hj => ?_, fun i hi => ?_, fun i j h1 h2 => ?_⟩, ((xa.trans xb).trans xd).trans r1⟩
  · rcases (show i = 1 ∨ 2 ≤ i by omega) with rfl | h
    · rw [r2 1 (by omega)]; exact hz1 j (by omega)
    · exact r1.sq.out2 h
  · rcases (show i = 0 ∨ i = 1 by omega) with rfl | rfl
    · rw [e0.1 0, hz1 0 (by omega), od 0 (by omega)]; omega
    · rw [r2 1 (by omega)]; omega
  · obtain rfl : i = 0 := by omega
    obtain rfl : j = 1 := by omega
    rw [r2 1 (by omega)]; exact e0.2
theorem dN_bd3 {M : List (List Int)} (hs : Sq 3 M) (hb : ∀ i j, -100 ≤ atM M i j ∧ atM M i j ≤ 100) : -6000000 ≤ dN M ∧ dN M ≤ 6000000 := by
  rw [dN_at3 hs]
  have m : ∀ a b c d, -10000 ≤ atM M a b * atM M c d ∧ atM M a b * atM M c d ≤ 10000 := fun a b c d => by have := mul_bdH (hb a b) (hb c d); omega
  have t : ∀ a b c d e f g h i j, -2000000 ≤ atM M a b * (atM M c d * atM M e f - atM M g h * atM M i j) ∧ atM M a b * (atM M c d * atM M e f - atM M g h * atM M i j) ≤ 2000000 := fun a b c d e f g h i j => by
    have h1 := m c d e f
    have h2 := m g h i j
    have := mul_bdH (N := 20000) (hb a b) (b := atM M c d * atM M e f - atM M g h * atM M i j) (by omega)
    omega
  have t1 := t 0 0 1 1 2 2 1 2 2 1
  have t2 := t 0 1 1 0 2 2 1 2 2 0
  have t3 := t 0 2 1 0 2 1 1 1 2 0
  omega
theorem her3 {M : List (List Int)} (hI : HI 3 0 M) (hb : ∀ i j, -100 ≤ atM M i j ∧ atM M i j ≤ 100) : HX 3 (herS 3 3 M) ∧ EX 3 M (herS 3 3 M) := by
  have hz := colS_end hI (by omega) (show 0 < 3 by omega)
  have hdb := dN_bd3 hI.sq hb
  obtain ⟨f, hf⟩ : ∃ f, f = (atM M 1 0).natAbs := ⟨_, rfl⟩
  have a1 := EX.euc (n := 3) (k := 0) (r := 1) (B := 20000) (by omega) (by omega) (by omega) (by omega) f M hI.sq (PR.of (n := 3) (A := 100) (C := 100) (hb 0) (hb 1) (by omega) (by omega) (by omega))
  obtain ⟨g, hg⟩ : ∃ g, g = (atM (eucM f 0 1 M) 2 0).natAbs := ⟨_, rfl⟩
  have ea : colS 0 (3 - 1 - 0) M = eucM g 0 2 (eucM f 0 1 M) := by subst hg; subst hf; rfl
  rw [ea] at hz
  obtain ⟨h, hh⟩ : ∃ h, h = (atM (negS 0 (eucM g 0 2 (eucM f 0 1 M))) 2 1).natAbs := ⟨_, rfl⟩
  have eh : herS 3 3 M = redS 2 2 (negS 2 (redS 1 1 (negS 1 (eucM h 1 2 (negS 0 (eucM g 0 2 (eucM f 0 1 M))))))) := by subst hh; subst hg; subst hf; rfl
  rw [eh]
  clear ea eh hg
  obtain ⟨xa, pa, oa⟩ := a1
  have hb2 := fun j => hb 2 j
  have b1 : ∀ j, -20000 ≤ atM (eucM f 0 1 M) 1 j ∧ atM (eucM f 0 1 M) 1 j ≤ 20000 := pa.pr
  have a2 := EX.euc (n := 3) (k := 0) (r := 2) (B := 4000000) (by omega) (by omega) (by omega) (by omega) g _ xa.sq (PR.of (n := 3) (A := 20000) (C := 100) pa.pk (fun j => by rw [oa 2 (by omega) (by omega)]; exact hb2 j) (by omega) (by omega) (by omega))
  generalize eucM f 0 1 M = A at *
  obtain ⟨xa2, pa2, oa2⟩ := a2
  have b1' : ∀ j, -20000 ≤ atM (eucM g 0 2 A) 1 j ∧ atM (eucM g 0 2 A) 1 j ≤ 20000 := fun j => by rw [oa2 1 (by omega) (by omega)]; exact b1 j
  generalize eucM g 0 2 A = A2 at *
  have b1 := EX.neg (k := 0) (by omega) (show 0 < 3 by omega) xa2.sq (fun j => by have := pa2.pk j; omega)
  have hzb := negS_hi hz (by omega) (show 0 < 3 by omega)
  have nzb := diag_nz hzb.sq (by omega) (show 0 < 3 by omega) hzb.tri hzb.nz
  generalize negS 0 A2 = B at *
  obtain ⟨xb, ob, kb, sb⟩ := b1
  have hzc := colS_end hzb (by omega) (show 1 < 3 by omega)
  have ec : colS 1 (3 - 1 - 1) B = eucM h 1 2 B := by subst hh; rfl
  rw [ec] at hzc
  clear ec hh
  have B0 : ∀ j, -4000000 ≤ atM B 0 j ∧ atM B 0 j ≤ 4000000 := fun j => by
    have := pa2.pk j
    rcases kb j with e | e <;> rw [e] <;> omega
  have B1 : ∀ j, -20000 ≤ atM B 1 j ∧ atM B 1 j ≤ 20000 := fun j => by rw [ob 1 (by omega)]; exact b1' j
  have B2 : ∀ j, -4000000 ≤ atM B 2 j ∧ atM B 2 j ≤ 4000000 := fun j => by rw [ob 2 (by omega)]; exact pa2.pr j
  have z1 : atM B 1 0 = 0 := hzb.tri 0 (by omega) 1 (by omega) (by omega)
  have z2 : atM B 2 0 = 0 := hzb.tri 0 (by omega) 2 (by omega) (by omega)
  have XB : EX 3 M B := (xa.trans xa2).trans xb
  have hdB : -6000000 ≤ dN B ∧ dN B ≤ 6000000 := by rcases XB.dt with e | e <;> rw [e] <;> omega
  have hmin : -6000000 ≤ atM B 1 1 * atM B 2 2 - atM B 1 2 * atM B 2 1 ∧ atM B 1 1 * atM B 2 2 - atM B 1 2 * atM B 2 1 ≤ 6000000 := by
    rw [dN_at3 xb.sq, z1, z2] at hdB
    simp only [Int.zero_mul, Int.mul_zero, Int.sub_zero, Int.add_zero] at hdB
    generalize atM B 1 1 * atM B 2 2 - atM B 1 2 * atM B 2 1 = t at *
    have h1 : t.natAbs ≤ (atM B 0 0 * t).natAbs := by
      rw [Int.natAbs_mul]
      exact Nat.le_mul_of_pos_left _ (by omega)
    omega
  have pc : PR 1 2 B 6000000 := ⟨fun j => by have := B1 j; omega, fun j => by have := B2 j; omega, fun j => by
    rcases (show j = 0 ∨ j = 1 ∨ j = 2 ∨ 3 ≤ j by omega) with rfl | rfl | rfl | h
    · rw [z1, z2]; omega
    · rw [Int.mul_comm]; omega
    · rw [Int.mul_comm (atM B 2 2)]; omega
    · rw [xb.sq.out h, xb.sq.out h]; omega⟩
  have c1 := EX.euc (n := 3) (k := 1) (r := 2) (B := 6000000) (by omega) (by omega) (by omega) (by omega) h B xb.sq pc
  obtain ⟨xc, pcc, oc⟩ := c1
  generalize eucM h 1 2 B = C at *
  have d1 := EX.neg (k := 1) (by omega) (show 1 < 3 by omega) xc.sq (fun j => by have := pcc.pk j; omega)
  have hzd := negS_hi hzc (by omega) (show 1 < 3 by omega)
  have nzd := diag_nz hzd.sq (by omega) (show 1 < 3 by omega) hzd.tri hzd.nz
  generalize negS 1 C = D at *
  obtain ⟨xd, od, kd, sd⟩ := d1
  have D0 : ∀ j, -4000000 ≤ atM D 0 j ∧ atM D 0 j ≤ 4000000 := fun j => by rw [od 0 (by omega), oc 0 (by omega) (by omega)]; exact B0 j
  have D00 : 0 < atM D 0 0 := by rw [od 0 (by omega), oc 0 (by omega) (by omega)]; omega
  have D1 : ∀ j, -6000000 ≤ atM D 1 j ∧ atM D 1 j ≤ 6000000 := fun j => by
    have := pcc.pk j
    rcases kd j with e | e <;> rw [e] <;> omega
  have D2 : ∀ j, -6000000 ≤ atM D 2 j ∧ atM D 2 j ≤ 6000000 := fun j => by rw [od 2 (by omega)]; exact pcc.pr j
  have D11 : 0 < atM D 1 1 := by omega
  have D10 : atM D 1 0 = 0 := hzd.tri 0 (by omega) 1 (by omega) (by omega)
  have fl0 := flW_at D11 (x := atM D 0 1) (by have := D0 1; omega)
  have pE : ∀ j, -60000000000000 ≤ atM D 1 j * flW (atM D 0 1) (atM D 1 1) ∧ atM D 1 j * flW (atM D 0 1) (atM D 1 1) ≤ 60000000000000 := fun j => by
    have := mul_bdH (D1 j) (N := 4000001) (b := flW (atM D 0 1) (atM D 1 1)) (by have := D0 1; omega)
    omega
  obtain ⟨r1, r2, r3⟩ := redE (n := 3) (k := 1) (by omega) xd.sq (by omega) D11 (by have := D1 1; omega) (fun i hi j => (show i = 0 by omega) ▸ (show -100000000000000 ≤ atM D 0 j ∧ atM D 0 j ≤ 100000000000000 from ⟨Int.le_trans (by omega) (D0 j).1, Int.le_trans (D0 j).2 (by omega)⟩)) (fun i hi j hj => (show i = 0 by omega) ▸ (show -100000000000000 ≤ atM D 1 j * flW (atM D 0 1) (atM D 1 1) ∧ atM D 1 j * flW (atM D 0 1) (atM D 1 1) ≤ 100000000000000 from ⟨Int.le_trans (by omega) (pE j).1, Int.le_trans (pE j).2 (by omega)⟩)) 1 (by omega)
  have hze := redS_hi hzd (by omega) (show 1 < 3 by omega) 1 (by omega)
  generalize redS 1 1 D = E at *
  have E0 : ∀ j, -80000000000000 ≤ atM E 0 j ∧ atM E 0 j ≤ 80000000000000 := fun j => by
    rw [(r3 0 (by omega)).1 j]
    have := pE j
    have := D0 j
    omega
  have E1 : ∀ j, -6000000 ≤ atM E 1 j ∧ atM E 1 j ≤ 6000000 := fun j => by rw [r2 1 (by omega)]; exact D1 j
  have E2 : ∀ j, -6000000 ≤ atM E 2 j ∧ atM E 2 j ≤ 6000000 := fun j => by rw [r2 2 (by omega)]; exact D2 j
  have E00 : 0 < atM E 0 0 := by rw [(r3 0 (by omega)).1 0, D10]; omega
  have E01 := (r3 0 (by omega)).2
  have E11 : 0 < atM E 1 1 := by rw [r2 1 (by omega)]; exact D11
  have E10 : atM E 1 0 = 0 := by rw [r2 1 (by omega)]; exact D10
  rw [← r2 1 (by omega)] at E01
  have hzf := colS_end hze (by omega) (show 2 < 3 by omega)
  change HI 3 3 E at hzf
  have f1 := EX.neg (k := 2) (by omega) (show 2 < 3 by omega) r1.sq (fun j => by have := E2 j; omega)
  have hzg := negS_hi hzf (by omega) (show 2 < 3 by omega)
  have nzg := diag_nz hzg.sq (by omega) (show 2 < 3 by omega) hzg.tri hzg.nz
  generalize negS 2 E = F at *
  obtain ⟨xf, of, kf, sf⟩ := f1
  have F22 : 0 < atM F 2 2 := by omega
  have hz2 : ∀ j, j ≠ 2 → atM F 2 j = 0 := fun j hj => by
    rcases (show j = 0 ∨ j = 1 ∨ 3 ≤ j by omega) with rfl | rfl | h
    · exact hzg.tri 0 (by omega) 2 (by omega) (by omega)
    · exact hzg.tri 1 (by omega) 2 (by omega) (by omega)
    · exact xf.sq.out h
  obtain ⟨s1, s2, s3⟩ := redE (n := 3) (k := 2) (by omega) xf.sq (by omega) F22 (by have := E2 2; rcases kf 2 with e | e <;> rw [e] <;> omega) (fun i hi j => by
      rw [of i (by omega)]
      rcases (show i = 0 ∨ i = 1 by omega) with rfl | rfl
      · have := E0 j; omega
      · have := E1 j; omega) (fun i hi j hj => by rw [hz2 j hj]; omega) 2 (by omega)
  generalize redS 2 2 F = G at *
  have G0 := s3 0 (by omega)
  have G1 := s3 1 (by omega)
  have g2 := s2 2 (by omega)
  have q0 : ∀ j, j ≠ 2 → atM G 0 j = atM E 0 j := fun j hj => by rw [G0.1 j, hz2 j hj, of 0 (by omega)]; omega
  have q1 : ∀ j, j ≠ 2 → atM G 1 j = atM E 1 j := fun j hj => by rw [G1.1 j, hz2 j hj, of 1 (by omega)]; omega
  refine ⟨⟨s1.sq, fun i j hj => ?_, fun i hi => ?_, fun i j h1 h2 => ?_⟩, (((XB.trans xc).trans xd).trans r1).trans (xf.trans s1)⟩
  · rcases (show i = 1 ∨ i = 2 ∨ 3 ≤ i by omega) with rfl | rfl | h
    · obtain rfl : j = 0 := by omega
      rw [q1 0 (by omega)]; exact E10
    · rw [g2]; exact hz2 j (by omega)
    · exact s1.sq.out2 h
  · rcases (show i = 0 ∨ i = 1 ∨ i = 2 by omega) with rfl | rfl | rfl
    · rw [q0 0 (by omega)]; exact E00
    · rw [q1 1 (by omega)]; exact E11
    · rw [g2]; exact F22
  · rcases (show (i = 0 ∧ j = 1) ∨ (i = 0 ∧ j = 2) ∨ (i = 1 ∧ j = 2) by omega) with ⟨rfl, rfl⟩ | ⟨rfl, rfl⟩ | ⟨rfl, rfl⟩
    · rw [q0 1 (by omega), q1 1 (by omega)]; exact E01
    · rw [g2]; exact G0.2
    · rw [g2]; exact G1.2
theorem matB_at {M : List (List Int)} (h : matB M = true) (i j : Nat) : -100 ≤ atM M i j ∧ atM M i j ≤ 100 := by
  have hs := sqB_sq (matB_sq h)
  by_cases hi : i < M.length
  · by_cases hj : j < M.length
    · have := matB_row h hi
      exact allIn_at this.2 j (by rw [this.1]; exact hj)
    · rw [hs.out (by omega)]; omega
  · rw [hs.out2 (by omega)]; omega
theorem her_all {M : List (List Int)} (hm : matB M = true) (hd : ¬ detO M = 0) : HX M.length (herM M) ∧ EX M.length M (herM M) := by
  have hI := hi_start hm hd
  have hl := matB_len hm
  have hb := matB_at hm
  unfold herM
  rcases (show M.length = 1 ∨ M.length = 2 ∨ M.length = 3 by omega) with e | e | e <;> rw [e] at hI ⊢
  · exact her1 hI hb
  · exact her2 hI hb
  · exact her3 hI hb
end Go.Proofs.Ytehhoplenloocaa
