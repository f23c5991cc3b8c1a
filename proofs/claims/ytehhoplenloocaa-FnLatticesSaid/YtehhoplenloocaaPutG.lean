/- Putting a row into an ordered list of rows of any one length. -/
import Derived.Test.YtehhoplenloocaaPut
import Derived.Test.YtehhoplenloocaaCmpG
namespace Go.Proofs.Ytehhoplenloocaa
open Go.RowKit
set_option linter.unusedVariables false
set_option linter.unusedSimpArgs false

/-- what l2Put gives -/
def PutG (ls : List (List Int)) (r : List Int) (ls' : List (List Int)) : Prop :=
  (ls' = ls ∧ ∃ k, k < ls.length ∧ ls.getD k [] = r) ∨ ∃ k, k ≤ ls.length ∧ ls' = ls.take k ++ r :: ls.drop k ∧ (∀ j, k ≤ j → j < ls.length → ltB r (ls.getD j []) = true) ∧ (0 < k → ¬ ltB r (ls.getD (k - 1) []) = true ∧ ls.getD (k - 1) [] ≠ r)
theorem step_append_at' {P : Program} {w : World} {ops : Array Oper} {o : Oper} {a : Act} {K : Act → World → Prop} {Q : Exit → Act → World → Prop} {E : Prop} (hgd : o.guard = none) (s x : Operand) (t : TypeId)
    (ho : o.op = .call { callee := .builtin .append, args := #[s, x], argTypes := #[t, t] })
    (base : Nat) (e : TypeId) (i : TypeInfo) (z : Value) (size bytes : Nat) (ht : P.underlying t = some (.slice e)) (hi : P.info? e = some i) (hz : i.zero = some z)
    (hsize : i.size = size) (hby : i.bytes = bytes) (hzs : z.cells.size = size) (hsz : 0 < size)
    (v : Value) (n : Nat) (xs : List Value) (hs : a.eval s = v) (hown : w.ownsRow base e size v n xs)
    (ad : Addr) (m c : Nat) (news : List Value) (hx : a.eval x = .slice (some ad) m c) (hl : news.length = m * size) (hnews : ∀ j u, news[j]? = some u → w.cell? (ad.add j) = some u) (h1 : ∀ u ∈ news, u.oneCell' = true)
    (h63 : n + m ≤ maxLen) (hbytes : (n + m) * bytes ≤ 140737488355328) (hbase : base ≤ w.heap.size)
    (h : ∀ v' w', w'.ownsRow base e size v' (n + m) (xs ++ news) → w.grownBy w' v.ownBlock → (v' = .slice none 0 0 ↔ v = .slice none 0 0 ∧ m = 0) → (v'.ownBlock = v.ownBlock ∨ v'.ownBlock = some w.heap.size) → K (a.put o.dst v') w') :
    if Region.wanted o (yielded ops a.tmps) = true then Oper.wp P o a w K Q else E := by
  have hw : Region.wanted o (yielded ops a.tmps) = true := by simp [Region.wanted, hgd]
  rw [if_pos hw]
  obtain ⟨v', w', hr, h2, h3, h4, h5⟩ := run_append_own_at (P := P) w base t o.type e i z size bytes ht hi hz hsize hby hzs hsz v n xs hown ad m c news hl hnews h1 h63 hbytes hbase
  unfold Oper.wp execOp
  simp only [ho, resolve, invoke, builtin, Sem.run_bind, Sem.run_pure, Result.andThen_ok, List.map_toArray, List.map_cons, List.map_nil, hs, hx, hr]
  exact h v' w' h2 h3 h4 h5
theorem put_at {w w3 w5 : World} {v v7 : Value} {o : Obj} {g5 : Nat} {ob : Option Nat} (b3 : Below w.heap.size w w3) (hg5 : (w3.alloc o).grownBy w5 ob) (hat : v.ownBlock = some g5 ∨ g5 = w3.heap.size + 1) (hat7 : v7.ownBlock = some g5 ∨ v7.ownBlock = some w5.heap.size) :
    ∀ g', v7.ownBlock = some g' → v.ownBlock = some g' ∨ w.heap.size ≤ g' := fun g' h => by
  have z3 := b3.size
  have hs : (w3.alloc o).heap.size = w3.heap.size + 1 := World.size_alloc _ _
  have z5 := hg5.size
  rcases hat7 with e | e
  · rw [e] at h
    injection h with h
    subst h
    rcases hat with e2 | e2
    · exact .inl e2
    · exact .inr (by omega)
  · rw [e] at h
    injection h with h
    exact .inr (by omega)
theorem put_grown {w w3 w5 w7 : World} {v v5 : Value} {o : Obj} {g5 : Nat} (b3 : Below w.heap.size w w3) (hg5 : (w3.alloc o).grownBy w5 v.ownBlock) (hg7 : w5.grownBy w7 v5.ownBlock) (h5 : v5.ownBlock = some g5) (hat : v.ownBlock = some g5 ∨ g5 = w3.heap.size + 1) : w.grownBy w7 v.ownBlock := by
  have hs : (w3.alloc o).heap.size = w3.heap.size + 1 := World.size_alloc _ _
  have z3 := b3.size
  have z5 := hg5.size
  refine ⟨hg7.os.trans (hg5.os.trans b3.os), hg7.tape.trans (hg5.tape.trans b3.tape), hg7.output.trans (hg5.output.trans b3.output), Nat.le_trans z3 (by have := hg7.size; omega), fun k hk hne => ?_⟩
  rw [hg7.block k (by omega) (by
    rw [h5]
    rcases hat with e | e
    · rw [← e]; exact hne
    · intro e2; injection e2 with e2; omega)]
  rw [hg5.block k (by omega) hne, Below.heap_alloc _ _ _ (by omega)]
  exact b3.block k hk
set_option maxRecDepth 100000 in
set_option maxHeartbeats 8000000 in
theorem l2PutG_any (m : Nat) (ls : List (List Int)) (r : List Int) (v vr : Value) (vs : List Value) (B hb : Nat) (w : World) (ho : OwnQ w B v vs ls) (hr : ISr w hb vr r) (hhb : hb ≤ w.heap.size) (hr2 : r.length = m) (hm : m ≤ 1000) (hl2 : ∀ i, i < ls.length → (ls.getD i []).length = m) (hl : ls.length ≤ 1000) :
    Calls Try.prog 101 #[v, vr] w fun e w' => ∃ u vs' ls', e = .returned u ∧ OwnQ w' B u vs' ls' ∧ PutG ls r ls' ∧ Below B w w' ∧ w.grownBy w' v.ownBlock ∧ ∀ g', u.ownBlock = some g' → v.ownBlock = some g' ∨ w.heap.size ≤ g' := by
  obtain ⟨i0, hi0, hz0, hz1, hz2⟩ := info_parts info_ints
  have HI0 := Lib.hid hi0; clear hi0
  have HZ0 := Lib.hid hz0; clear hz0
  have HZ1 := Lib.hid hz1; clear hz1
  have HZ2 := Lib.hid hz2; clear hz2
  have HO := Lib.hid ho
  have HVL := Lib.hid ho.len
  obtain ⟨hown, ⟨g, cap, rfl⟩, hrow⟩ := id ho
  have hlt := World.ownsRow.lt hown g rfl
  have hcap : ls.length ≤ cap ∧ cap ≤ maxLen := by
    rcases hown.2 with ⟨e, -⟩ | ⟨g', cap', cur, e, hb', hg, hn, hc, hs, ht⟩
    · simp at e
    · injection e with e1 e2 e3
      subst e3
      exact ⟨hn, hc⟩
  unfold maxLen at hcap
  have HC := Lib.hid (fun i (hi : i < ls.length) => own_cells hown hi)
  have HD := Lib.hid (fun k => own_drop (k := k) hown)
  have HT := Lib.hid (fun k (hk : k ≤ ls.length) => own_take hown hk)
  have HROW := Lib.hid hrow
  have HL2 := Lib.hid hl2
  have HR := Lib.hid hr
  have HONE0 := Lib.hid (show ∀ u ∈ vs, u.oneCell' = true from fun u hu => by
    obtain ⟨i, hi, rfl⟩ := List.getElem_of_mem hu
    obtain ⟨a, c, e, -⟩ := hrow i (by rw [← HVL.out]; exact hi)
    rw [List.getD_eq_getElem?_getD, List.getElem?_eq_getElem hi] at e
    simp at e
    rw [e]; rfl)
  clear hrow hl2 ho hown
  obtain ⟨ar, cr, hvr, -⟩ := id hr
  rw [hr2] at hvr
  subst hvr
  have HR2 := Lib.hid hr2
  clear hr hr2
  obtain ⟨n, hn⟩ : ∃ n, n = ls.length := ⟨_, rfl⟩
  rw [← hn] at hl hcap HC HT HROW HL2 ⊢
  have HN := Lib.hid hn
  clear hn
  go_enter Try.func101, Try.ntmps101
  go_wp2
  go_loopw [5] (fun i wr => ∃ (d k : Nat), k ≤ n ∧ i = .int .i64 k ∧ Hid (wr = w.drewN d) ∧ Hid (∀ j, k ≤ j → j < n → ltB r (ls.getD j []) = true)) (fun i _ => (intOf i).toNat)
  case atStart => exact ⟨0, n, Nat.le_refl _, by go_num, Lib.hid rfl, Lib.hid (fun j h1 h2 => by omega)⟩
  case round =>
    obtain ⟨d, k, hk, rfl, HW, HB⟩ := hrel
    have HKT := Lib.hid (HT.out k hk)
    by_cases hk0 : k = 0
    case' pos =>
      have HEX := Lib.hid (show 0 < k → ¬ ltB r (ls.getD (k - 1) []) = true ∧ ls.getD (k - 1) [] ≠ r from fun h => by omega)
      have hkf : decide (0 < k) = false := by rw [decide_eq_false_iff_not]; omega
      clear hk0
      obtain ⟨w1, hw1⟩ : ∃ w1, w1 = wr := ⟨_, rfl⟩
      subst hw1
      have HW1 := HW
      clear HW
      have HBW := Lib.hid (show Below w.heap.size w w1 from by rw [HW1.out]; exact below_draws _ _ _)
      have HS1 := Lib.hid (show w1.heap.size = w.heap.size by rw [HW1.out]; rfl)
      have HVD := Lib.hid (show (vs.drop (k)).length = n - (k) by rw [List.length_drop, HVL.out, HN.out])
      have HONE := Lib.hid (show ∀ u ∈ vs.drop (k), u.oneCell' = true from fun u hu => HONE0.out u (List.mem_of_mem_drop hu))
      by_cases hck : cap = k
      case pos =>
        have hnk : n = k := by omega
        have HV0 := Lib.hid (show (vs.drop (k)).length = 0 * 1 by rw [HVD.out]; omega)
        have HNW := Lib.hid (show ∀ (ad : Addr) (W : World), ∀ jj u, (vs.drop (k))[jj]? = some u → W.cell? (ad.add jj) = some u from fun _ _ jj u h => by
          rw [List.drop_of_length_le (by rw [HVL.out, ← HN.out]; omega)] at h; simp at h)
        clear hnk
        go_wp2_with (at_builtin; refine wpList_append_own _ rfl _ _ 24 rfl w1.heap.size 30 i0 (.slice none 0 0) 1 24 Try.underlying24 HI0.out HZ0.out HZ1.out HZ2.out rfl (by decide) _ 0 [] rfl (World.ownsRow_lit w1 #[] 0 (Nat.le_refl _) (by simp [maxLen]) rfl) _ _ _ (vs.drop (k)) rfl (HVD.out.trans (Nat.mul_one _).symm) (by first | exact HNW.out | exact HNW.out _ _) HONE.out (by unfold maxLen; omega) (by omega) (by simp) ?_)
        intro v6 w2 ho2 hg2 hn2
        obtain ⟨g2, cap2, rfl, hg2l, hg2u⟩ := own_form ho2 (fun e => by first | exact hn2 e | (have := hn2.1 e; simp at this))
        have c2 := (below1 w1 (.cells #[] 30)).grown hg2 (by simp) (fun k hk => by simp [Value.ownBlock] at hk; omega)
        have HB2 := Lib.hid (below_then HBW.out HBW.out.size c2)
        have hs2 := HB2.out.size
        have HO2 := Lib.hid (HO.out.kept HB2.out)
        have HC2 := Lib.hid (fun j u h => World.ownsRow.cells ho2 (g := g2) rfl j u h)
        have hne : some g2 ≠ some g := fun e => by injection e with e; have := HS1.out; omega
        have HRW := Lib.hid (fun W (B : Below w2.heap.size w2 W) => (HR.out.keep HB2.out hhb).keep B (by omega))
        clear c2 ho2 hg2 hn2 HNW
        have q1 : (0 : Int) ≤ (k : Int) := by omega
        have q2 : (k : Int) ≤ (cap : Int) := by omega
        have q3 : ((k : Int)).toNat = k := by omega
        subst cap
        go_wp2_with fail
        have A1 : ISr (w2.drew.alloc (.cells #[] 3)) hb (.slice ar m cr) r := HRW.out _ (Below.trans (below_draws _ w2 1) (below1 w2.drew _))
        have A2 : OwnI (w2.drew.alloc (.cells #[] 3)) w2.heap.size (.slice (some ⟨w2.heap.size, 0, none⟩) 0 0) [] := OwnI.lit0 w2.drew w2.heap.size (Nat.le_refl _)
        go_region_held3 (fun _ => True) (trivial) (first
          | (refine step_append_at' (by rfl) _ _ _ (by with_reducible rfl) B 30 i0 _ 1 24 Try.underlying24 HI0.out HZ0.out HZ1.out HZ2.out rfl (by omega) (.slice (some ⟨g5, 0, none⟩) (k + 1) cap5) (k + 1) (vs.take (k) ++ [.slice au nu cu]) (by rfl) ho5 ⟨g2, 0, none⟩ 0 _ (vs.drop (k)) (by rfl) HV0.out CELLS5 HONE.out (by unfold maxLen; omega) (by omega) (by omega) ?_; intro v7 w7 ho7 hg7 hn7 hat7)
          | (refine step_append_lies _ (by rfl) _ _ _ (by with_reducible rfl) B 30 i0 _ 1 24 Try.underlying24 HI0.out HZ0.out HZ1.out HZ2.out rfl (by omega) (.slice (some ⟨g, 0, none⟩) (k) (k)) (k) (vs.take (k)) (by rfl) (by first | exact OWN3.alloc _ | exact (OWN3.alloc _).drew) ⟨w3.heap.size, 0, none⟩ 1 1 [.slice au nu cu] (by rfl) (by rfl) (World.news_of_block (cs := #[.slice au nu cu]) (t := 30) (fr := (0, 0)) (heap_alloc_new w3 _)) (by simp [Value.oneCell']) (by omega) (by unfold maxLen; omega) (by omega) (by simp; omega) (w3.heap.size + 1) (by simp) ?_; intro g5 cap5 w5 ho5 hg5 hat5 hlt5; have hz5 : w3.heap.size + 1 ≤ w5.heap.size := (by have hq := hg5.size; simp at hq; omega); have CELLS5 : ∀ i u, (vs.drop (k))[i]? = some u → w5.cell? ((⟨g2, 0, none⟩ : Addr).add i) = some u := fun i u h => hg5.cell (((below1 w3 (.cells #[.slice au nu cu] 30)).cell (p := (⟨g2, 0, none⟩ : Addr).add i) (by rw [addr_add0]; exact Nat.lt_of_lt_of_le hg2u hs3)).trans (CELLS3 i u h)) (by rw [addr_add0]; exact hne))
          | (refine step_append_I (by rfl) _ _ (by with_reducible rfl) (by rfl) (by rfl) A2 A1 (by have := HR2.out; simp; omega) (by simp) ?_; intro au nu cu w3 hnu ko3 hg3; have B3 := undrew1 (Below.grown (below1 w2.drew (.cells #[] 3)) hg3 (by simp) (fun k hk => (World.ownsRow.lt A2 k hk).1)); have hs3 := B3.size; have OWN3 := own_take (k := k) (HO2.out.kept B3).1 (by rw [← HN.out]; omega); have CELLS3 : ∀ i u, (vs.drop (k))[i]? = some u → w3.cell? ((⟨g2, 0, none⟩ : Addr).add i) = some u := fun i u h => (B3.cell (p := (⟨g2, 0, none⟩ : Addr).add i) (by rw [addr_add0]; exact hg2u)).trans (HC2.out i u h)))
        have PF := put_fin HO.out.rows (by omega) (below_then HB2.out hs2 B3) ko3.is (Nat.le_refl _) OWN3 hg5 ho5 hg7 ho7 HV0.out (by rw [HVL.out, ← HN.out]; omega) (fun e => by have := hn7.1 e; simp at this)
        have PG := Lib.hid (put_grown (below_then HB2.out hs2 B3) hg5 hg7 rfl hat5)
        have PA := Lib.hid (put_at (below_then HB2.out hs2 B3) hg5 hat5 hat7)
        have PF1 := Lib.hid PF.1
        have PF2 := Lib.hid PF.2
        have PT := Lib.hid (show PutG ls r (ls.take (k) ++ r :: ls.drop (k)) from .inr ⟨k, by rw [← HN.out]; omega, rfl, fun i h1 h2 => HB.out i h1 (by rw [HN.out]; exact h2), HEX.out⟩)
        clear PF ho7 hg7 hn7 ho5 hg5 hat5 hlt5 OWN3 CELLS3 CELLS5 B3 ko3 hg3 hnu A1 A2
        go_wp2
        go_ret
        exact ⟨_, _, _, rfl, PF1.out, PT.out, PF2.out, PG.out, PA.out⟩
      case neg =>
        have HNW := Lib.hid (show ∀ jj u, (vs.drop (k))[jj]? = some u → (w1.alloc (.cells #[] 30)).cell? ((⟨g, k, none⟩ : Addr).add jj) = some u from fun jj u h => by
          have h0 := HD.out (k) jj u h
          rw [addr_add0] at h0 ⊢
          exact ((HBW.out.trans ((below1 w1 (.cells #[] 30)).mono (by rw [HS1.out]; exact Nat.le_refl _))).cell (p := ⟨g, k + jj, none⟩) hlt.2).trans h0)
        go_wp2_with (at_builtin; refine wpList_append_own _ rfl _ _ 24 rfl w1.heap.size 30 i0 (.slice none 0 0) 1 24 Try.underlying24 HI0.out HZ0.out HZ1.out HZ2.out rfl (by decide) _ 0 [] rfl (World.ownsRow_lit w1 #[] 0 (Nat.le_refl _) (by simp [maxLen]) rfl) _ _ _ (vs.drop (k)) rfl (HVD.out.trans (Nat.mul_one _).symm) (by first | exact HNW.out | exact HNW.out _ _) HONE.out (by unfold maxLen; omega) (by omega) (by simp) ?_)
        intro v6 w2 ho2 hg2 hn2
        obtain ⟨g2, cap2, rfl, hg2l, hg2u⟩ := own_form ho2 (fun e => by first | exact hn2 e | (have := hn2.1 e; simp at this))
        have c2 := (below1 w1 (.cells #[] 30)).grown hg2 (by simp) (fun k hk => by simp [Value.ownBlock] at hk; omega)
        have HB2 := Lib.hid (below_then HBW.out HBW.out.size c2)
        have hs2 := HB2.out.size
        have HO2 := Lib.hid (HO.out.kept HB2.out)
        have HC2 := Lib.hid (fun j u h => World.ownsRow.cells ho2 (g := g2) rfl j u h)
        have hne : some g2 ≠ some g := fun e => by injection e with e; have := HS1.out; omega
        have HRW := Lib.hid (fun W (B : Below w2.heap.size w2 W) => (HR.out.keep HB2.out hhb).keep B (by omega))
        clear c2 ho2 hg2 hn2 HNW
        have q1 : (0 : Int) ≤ (k : Int) := by omega
        have q2 : (k : Int) ≤ (cap : Int) := by omega
        have q3 : ((k : Int)).toNat = k := by omega
        clear hck
        go_wp2_with fail
        have A1 : ISr (w2.drew.alloc (.cells #[] 3)) hb (.slice ar m cr) r := HRW.out _ (Below.trans (below_draws _ w2 1) (below1 w2.drew _))
        have A2 : OwnI (w2.drew.alloc (.cells #[] 3)) w2.heap.size (.slice (some ⟨w2.heap.size, 0, none⟩) 0 0) [] := OwnI.lit0 w2.drew w2.heap.size (Nat.le_refl _)
        go_region_held3 (fun _ => True) (trivial) (first
          | (refine step_append_at' (by rfl) _ _ _ (by with_reducible rfl) B 30 i0 _ 1 24 Try.underlying24 HI0.out HZ0.out HZ1.out HZ2.out rfl (by omega) (.slice (some ⟨g5, 0, none⟩) (k + 1) cap5) (k + 1) (vs.take (k) ++ [.slice au nu cu]) (by rfl) ho5 ⟨g2, 0, none⟩ _ _ (vs.drop (k)) (by rfl) (HVD.out.trans (Nat.mul_one _).symm) CELLS5 HONE.out (by unfold maxLen; omega) (by omega) (by omega) ?_; intro v7 w7 ho7 hg7 hn7 hat7)
          | (refine step_append_lies _ (by rfl) _ _ _ (by with_reducible rfl) B 30 i0 _ 1 24 Try.underlying24 HI0.out HZ0.out HZ1.out HZ2.out rfl (by omega) (.slice (some ⟨g, 0, none⟩) (k) (cap)) (k) (vs.take (k)) (by rfl) (by first | exact OWN3.alloc _ | exact (OWN3.alloc _).drew) ⟨w3.heap.size, 0, none⟩ 1 1 [.slice au nu cu] (by rfl) (by rfl) (World.news_of_block (cs := #[.slice au nu cu]) (t := 30) (fr := (0, 0)) (heap_alloc_new w3 _)) (by simp [Value.oneCell']) (by omega) (by unfold maxLen; omega) (by omega) (by simp; omega) (w3.heap.size + 1) (by simp) ?_; intro g5 cap5 w5 ho5 hg5 hat5 hlt5; have hz5 : w3.heap.size + 1 ≤ w5.heap.size := (by have hq := hg5.size; simp at hq; omega); have CELLS5 : ∀ i u, (vs.drop (k))[i]? = some u → w5.cell? ((⟨g2, 0, none⟩ : Addr).add i) = some u := fun i u h => hg5.cell (((below1 w3 (.cells #[.slice au nu cu] 30)).cell (p := (⟨g2, 0, none⟩ : Addr).add i) (by rw [addr_add0]; exact Nat.lt_of_lt_of_le hg2u hs3)).trans (CELLS3 i u h)) (by rw [addr_add0]; exact hne))
          | (refine step_append_I (by rfl) _ _ (by with_reducible rfl) (by rfl) (by rfl) A2 A1 (by have := HR2.out; simp; omega) (by simp) ?_; intro au nu cu w3 hnu ko3 hg3; have B3 := undrew1 (Below.grown (below1 w2.drew (.cells #[] 3)) hg3 (by simp) (fun k hk => (World.ownsRow.lt A2 k hk).1)); have hs3 := B3.size; have OWN3 := own_take (k := k) (HO2.out.kept B3).1 (by rw [← HN.out]; omega); have CELLS3 : ∀ i u, (vs.drop (k))[i]? = some u → w3.cell? ((⟨g2, 0, none⟩ : Addr).add i) = some u := fun i u h => (B3.cell (p := (⟨g2, 0, none⟩ : Addr).add i) (by rw [addr_add0]; exact hg2u)).trans (HC2.out i u h)))
        have PF := put_fin HO.out.rows (by omega) (below_then HB2.out hs2 B3) ko3.is (Nat.le_refl _) OWN3 hg5 ho5 hg7 ho7 HVD.out (by rw [HVL.out, ← HN.out]; omega) (fun e => by have := hn7.1 e; simp at this)
        have PG := Lib.hid (put_grown (below_then HB2.out hs2 B3) hg5 hg7 rfl hat5)
        have PA := Lib.hid (put_at (below_then HB2.out hs2 B3) hg5 hat5 hat7)
        have PF1 := Lib.hid PF.1
        have PF2 := Lib.hid PF.2
        have PT := Lib.hid (show PutG ls r (ls.take (k) ++ r :: ls.drop (k)) from .inr ⟨k, by rw [← HN.out]; omega, rfl, fun i h1 h2 => HB.out i h1 (by rw [HN.out]; exact h2), HEX.out⟩)
        clear PF ho7 hg7 hn7 ho5 hg5 hat5 hlt5 OWN3 CELLS3 CELLS5 B3 ko3 hg3 hnu A1 A2
        go_wp2
        go_ret
        exact ⟨_, _, _, rfl, PF1.out, PT.out, PF2.out, PG.out, PA.out⟩
    case' neg =>
      obtain ⟨j, rfl⟩ : ∃ j, k = j + 1 := ⟨k - 1, by omega⟩
      have hc : wr.cell? ⟨g, j, none⟩ = some (vs.getD j (.slice none 0 0)) := by rw [HW.out]; exact HC.out j (by omega)
      have hrj := (HROW.out j (by omega)).read
      have Q1 := l2BeforeG_any r (ls.getD j []) (.slice ar m cr) _ hb w.heap.size wr (by rw [HW.out]; exact HR.out) (by rw [HW.out]; exact hrj) HR2.out (HL2.out j (by omega)) hm
      have Q2 := fun d => l2Same_any (ls.getD j []) r _ (.slice ar m cr) w.heap.size hb (wr.drewN d) (by rw [HW.out]; exact hrj) (by rw [HW.out]; exact HR.out)
      obtain ⟨aj, cj, hvj, -⟩ := id hrj
      rw [HL2.out j (by omega)] at hvj
      rw [hvj] at hc Q1 Q2
      have HCD := Lib.hid (fun d => (show (wr.drewN d).cell? _ = _ from hc))
      by_cases hlt' : ltB r (ls.getD j []) = true
      case pos =>
        rw [hlt'] at Q1
        have HB' := Lib.hid (show ∀ i, j ≤ i → i < n → ltB r (ls.getD i []) = true from fun i h1 h2 => by
          by_cases e : i = j
          · rw [e]; exact hlt'
          · exact HB.out i (by omega) h2)
        clear hlt' hvj hrj Q2
        go_wp2_with (go_at_call 151; (with_reducible refine Q1.mono ?_); rintro e w' ⟨rfl, d1, rfl⟩)
        go_roundw
        case rel => exact ⟨d + d1, j, by omega, by go_num, Lib.hid (by rw [HW.out, World.drewN_drewN]), HB'⟩
        case measure => simp [intOf]
      rw [Bool.eq_false_iff.2 hlt'] at Q1
      by_cases he : ls.getD j [] = r
      case pos =>
        rw [decide_eq_true he] at Q2
        have HP := Lib.hid (show PutG ls r ls from .inl ⟨rfl, j, by rw [← HN.out]; omega, he⟩)
        clear hlt' hvj hrj he
        go_wp2_with (first | (go_at_call 151; (with_reducible refine Q1.mono ?_); rintro e w' ⟨rfl, d1, rfl⟩; have hc1 := HCD.out d1) | (go_at_call 104; (with_reducible refine (Q2 _).mono ?_); rintro e w' ⟨rfl, d2, rfl⟩))
        go_ret
        exact ⟨_, vs, ls, rfl, by rw [HW.out, HN.out]; exact HO.out, HP.out, by rw [HW.out]; simp only [World.drewN_drewN]; exact below_draws _ _ _, by rw [HW.out]; simp only [World.drewN_drewN]; exact ⟨rfl, rfl, rfl, Nat.le_refl _, fun _ _ _ => rfl⟩, fun g' h => .inl h⟩
      rw [decide_eq_false he] at Q2
      have HEX := Lib.hid (show 0 < j + 1 → ¬ ltB r (ls.getD (j + 1 - 1) []) = true ∧ ls.getD (j + 1 - 1) [] ≠ r from fun h => ⟨hlt', he⟩)
      clear hlt' hvj hrj he hk0
      go_wp2_with (go_at_call 151; (with_reducible refine Q1.mono ?_); rintro e w' ⟨rfl, d1, rfl⟩; have hc1 := HCD.out d1)
      refine (Q2 _).mono ?_
      rintro e w1 ⟨rfl, d2, hw1⟩
      have HW1 := Lib.hid (show w1 = w.drewN (d + d1 + d2) by rw [hw1, HW.out]; simp only [World.drewN_drewN])
      clear hw1 Q1 Q2 hc HCD hc1 HW
      have HBW := Lib.hid (show Below w.heap.size w w1 from by rw [HW1.out]; exact below_draws _ _ _)
      have HS1 := Lib.hid (show w1.heap.size = w.heap.size by rw [HW1.out]; rfl)
      have HVD := Lib.hid (show (vs.drop (j + 1)).length = n - (j + 1) by rw [List.length_drop, HVL.out, HN.out])
      have HONE := Lib.hid (show ∀ u ∈ vs.drop (j + 1), u.oneCell' = true from fun u hu => HONE0.out u (List.mem_of_mem_drop hu))
      by_cases hck : cap = j + 1
      case pos =>
        have hnk : n = j + 1 := by omega
        have HV0 := Lib.hid (show (vs.drop (j + 1)).length = 0 * 1 by rw [HVD.out]; omega)
        have HNW := Lib.hid (show ∀ (ad : Addr) (W : World), ∀ jj u, (vs.drop (j + 1))[jj]? = some u → W.cell? (ad.add jj) = some u from fun _ _ jj u h => by
          rw [List.drop_of_length_le (by rw [HVL.out, ← HN.out]; omega)] at h; simp at h)
        clear hnk
        go_wp2_with (at_builtin; refine wpList_append_own _ rfl _ _ 24 rfl w1.heap.size 30 i0 (.slice none 0 0) 1 24 Try.underlying24 HI0.out HZ0.out HZ1.out HZ2.out rfl (by decide) _ 0 [] rfl (World.ownsRow_lit w1 #[] 0 (Nat.le_refl _) (by simp [maxLen]) rfl) _ _ _ (vs.drop (j + 1)) rfl (HVD.out.trans (Nat.mul_one _).symm) (by first | exact HNW.out | exact HNW.out _ _) HONE.out (by unfold maxLen; omega) (by omega) (by simp) ?_)
        intro v6 w2 ho2 hg2 hn2
        obtain ⟨g2, cap2, rfl, hg2l, hg2u⟩ := own_form ho2 (fun e => by first | exact hn2 e | (have := hn2.1 e; simp at this))
        have c2 := (below1 w1 (.cells #[] 30)).grown hg2 (by simp) (fun k hk => by simp [Value.ownBlock] at hk; omega)
        have HB2 := Lib.hid (below_then HBW.out HBW.out.size c2)
        have hs2 := HB2.out.size
        have HO2 := Lib.hid (HO.out.kept HB2.out)
        have HC2 := Lib.hid (fun j u h => World.ownsRow.cells ho2 (g := g2) rfl j u h)
        have hne : some g2 ≠ some g := fun e => by injection e with e; have := HS1.out; omega
        have HRW := Lib.hid (fun W (B : Below w2.heap.size w2 W) => (HR.out.keep HB2.out hhb).keep B (by omega))
        clear c2 ho2 hg2 hn2 HNW
        have q1 : (0 : Int) ≤ (j : Int) + 1 := by omega
        have q2 : (j : Int) + 1 ≤ (cap : Int) := by omega
        have q3 : ((j : Int) + 1).toNat = j + 1 := by omega
        subst cap
        go_wp2_with fail
        have A1 : ISr (w2.drew.alloc (.cells #[] 3)) hb (.slice ar m cr) r := HRW.out _ (Below.trans (below_draws _ w2 1) (below1 w2.drew _))
        have A2 : OwnI (w2.drew.alloc (.cells #[] 3)) w2.heap.size (.slice (some ⟨w2.heap.size, 0, none⟩) 0 0) [] := OwnI.lit0 w2.drew w2.heap.size (Nat.le_refl _)
        go_region_held3 (fun _ => True) (trivial) (first
          | (refine step_append_at' (by rfl) _ _ _ (by with_reducible rfl) B 30 i0 _ 1 24 Try.underlying24 HI0.out HZ0.out HZ1.out HZ2.out rfl (by omega) (.slice (some ⟨g5, 0, none⟩) (j + 1 + 1) cap5) (j + 1 + 1) (vs.take (j + 1) ++ [.slice au nu cu]) (by rfl) ho5 ⟨g2, 0, none⟩ 0 _ (vs.drop (j + 1)) (by rfl) HV0.out CELLS5 HONE.out (by unfold maxLen; omega) (by omega) (by omega) ?_; intro v7 w7 ho7 hg7 hn7 hat7)
          | (refine step_append_lies _ (by rfl) _ _ _ (by with_reducible rfl) B 30 i0 _ 1 24 Try.underlying24 HI0.out HZ0.out HZ1.out HZ2.out rfl (by omega) (.slice (some ⟨g, 0, none⟩) (j + 1) (j + 1)) (j + 1) (vs.take (j + 1)) (by rfl) (by first | exact OWN3.alloc _ | exact (OWN3.alloc _).drew) ⟨w3.heap.size, 0, none⟩ 1 1 [.slice au nu cu] (by rfl) (by rfl) (World.news_of_block (cs := #[.slice au nu cu]) (t := 30) (fr := (0, 0)) (heap_alloc_new w3 _)) (by simp [Value.oneCell']) (by omega) (by unfold maxLen; omega) (by omega) (by simp; omega) (w3.heap.size + 1) (by simp) ?_; intro g5 cap5 w5 ho5 hg5 hat5 hlt5; have hz5 : w3.heap.size + 1 ≤ w5.heap.size := (by have hq := hg5.size; simp at hq; omega); have CELLS5 : ∀ i u, (vs.drop (j + 1))[i]? = some u → w5.cell? ((⟨g2, 0, none⟩ : Addr).add i) = some u := fun i u h => hg5.cell (((below1 w3 (.cells #[.slice au nu cu] 30)).cell (p := (⟨g2, 0, none⟩ : Addr).add i) (by rw [addr_add0]; exact Nat.lt_of_lt_of_le hg2u hs3)).trans (CELLS3 i u h)) (by rw [addr_add0]; exact hne))
          | (refine step_append_I (by rfl) _ _ (by with_reducible rfl) (by rfl) (by rfl) A2 A1 (by have := HR2.out; simp; omega) (by simp) ?_; intro au nu cu w3 hnu ko3 hg3; have B3 := undrew1 (Below.grown (below1 w2.drew (.cells #[] 3)) hg3 (by simp) (fun k hk => (World.ownsRow.lt A2 k hk).1)); have hs3 := B3.size; have OWN3 := own_take (k := j + 1) (HO2.out.kept B3).1 (by rw [← HN.out]; omega); have CELLS3 : ∀ i u, (vs.drop (j + 1))[i]? = some u → w3.cell? ((⟨g2, 0, none⟩ : Addr).add i) = some u := fun i u h => (B3.cell (p := (⟨g2, 0, none⟩ : Addr).add i) (by rw [addr_add0]; exact hg2u)).trans (HC2.out i u h)))
        have PF := put_fin HO.out.rows (by omega) (below_then HB2.out hs2 B3) ko3.is (Nat.le_refl _) OWN3 hg5 ho5 hg7 ho7 HV0.out (by rw [HVL.out, ← HN.out]; omega) (fun e => by have := hn7.1 e; simp at this)
        have PG := Lib.hid (put_grown (below_then HB2.out hs2 B3) hg5 hg7 rfl hat5)
        have PA := Lib.hid (put_at (below_then HB2.out hs2 B3) hg5 hat5 hat7)
        have PF1 := Lib.hid PF.1
        have PF2 := Lib.hid PF.2
        have PT := Lib.hid (show PutG ls r (ls.take (j + 1) ++ r :: ls.drop (j + 1)) from .inr ⟨j + 1, by rw [← HN.out]; omega, rfl, fun i h1 h2 => HB.out i h1 (by rw [HN.out]; exact h2), HEX.out⟩)
        clear PF ho7 hg7 hn7 ho5 hg5 hat5 hlt5 OWN3 CELLS3 CELLS5 B3 ko3 hg3 hnu A1 A2
        go_wp2
        go_ret
        exact ⟨_, _, _, rfl, PF1.out, PT.out, PF2.out, PG.out, PA.out⟩
      case neg =>
        have HNW := Lib.hid (show ∀ jj u, (vs.drop (j + 1))[jj]? = some u → (w1.alloc (.cells #[] 30)).cell? ((⟨g, j + 1, none⟩ : Addr).add jj) = some u from fun jj u h => by
          have h0 := HD.out (j + 1) jj u h
          rw [addr_add0] at h0 ⊢
          exact ((HBW.out.trans ((below1 w1 (.cells #[] 30)).mono (by rw [HS1.out]; exact Nat.le_refl _))).cell (p := ⟨g, j + 1 + jj, none⟩) hlt.2).trans h0)
        go_wp2_with (at_builtin; refine wpList_append_own _ rfl _ _ 24 rfl w1.heap.size 30 i0 (.slice none 0 0) 1 24 Try.underlying24 HI0.out HZ0.out HZ1.out HZ2.out rfl (by decide) _ 0 [] rfl (World.ownsRow_lit w1 #[] 0 (Nat.le_refl _) (by simp [maxLen]) rfl) _ _ _ (vs.drop (j + 1)) rfl (HVD.out.trans (Nat.mul_one _).symm) (by first | exact HNW.out | exact HNW.out _ _) HONE.out (by unfold maxLen; omega) (by omega) (by simp) ?_)
        intro v6 w2 ho2 hg2 hn2
        obtain ⟨g2, cap2, rfl, hg2l, hg2u⟩ := own_form ho2 (fun e => by first | exact hn2 e | (have := hn2.1 e; simp at this))
        have c2 := (below1 w1 (.cells #[] 30)).grown hg2 (by simp) (fun k hk => by simp [Value.ownBlock] at hk; omega)
        have HB2 := Lib.hid (below_then HBW.out HBW.out.size c2)
        have hs2 := HB2.out.size
        have HO2 := Lib.hid (HO.out.kept HB2.out)
        have HC2 := Lib.hid (fun j u h => World.ownsRow.cells ho2 (g := g2) rfl j u h)
        have hne : some g2 ≠ some g := fun e => by injection e with e; have := HS1.out; omega
        have HRW := Lib.hid (fun W (B : Below w2.heap.size w2 W) => (HR.out.keep HB2.out hhb).keep B (by omega))
        clear c2 ho2 hg2 hn2 HNW
        have q1 : (0 : Int) ≤ (j : Int) + 1 := by omega
        have q2 : (j : Int) + 1 ≤ (cap : Int) := by omega
        have q3 : ((j : Int) + 1).toNat = j + 1 := by omega
        clear hck
        go_wp2_with fail
        have A1 : ISr (w2.drew.alloc (.cells #[] 3)) hb (.slice ar m cr) r := HRW.out _ (Below.trans (below_draws _ w2 1) (below1 w2.drew _))
        have A2 : OwnI (w2.drew.alloc (.cells #[] 3)) w2.heap.size (.slice (some ⟨w2.heap.size, 0, none⟩) 0 0) [] := OwnI.lit0 w2.drew w2.heap.size (Nat.le_refl _)
        go_region_held3 (fun _ => True) (trivial) (first
          | (refine step_append_at' (by rfl) _ _ _ (by with_reducible rfl) B 30 i0 _ 1 24 Try.underlying24 HI0.out HZ0.out HZ1.out HZ2.out rfl (by omega) (.slice (some ⟨g5, 0, none⟩) (j + 1 + 1) cap5) (j + 1 + 1) (vs.take (j + 1) ++ [.slice au nu cu]) (by rfl) ho5 ⟨g2, 0, none⟩ _ _ (vs.drop (j + 1)) (by rfl) (HVD.out.trans (Nat.mul_one _).symm) CELLS5 HONE.out (by unfold maxLen; omega) (by omega) (by omega) ?_; intro v7 w7 ho7 hg7 hn7 hat7)
          | (refine step_append_lies _ (by rfl) _ _ _ (by with_reducible rfl) B 30 i0 _ 1 24 Try.underlying24 HI0.out HZ0.out HZ1.out HZ2.out rfl (by omega) (.slice (some ⟨g, 0, none⟩) (j + 1) (cap)) (j + 1) (vs.take (j + 1)) (by rfl) (by first | exact OWN3.alloc _ | exact (OWN3.alloc _).drew) ⟨w3.heap.size, 0, none⟩ 1 1 [.slice au nu cu] (by rfl) (by rfl) (World.news_of_block (cs := #[.slice au nu cu]) (t := 30) (fr := (0, 0)) (heap_alloc_new w3 _)) (by simp [Value.oneCell']) (by omega) (by unfold maxLen; omega) (by omega) (by simp; omega) (w3.heap.size + 1) (by simp) ?_; intro g5 cap5 w5 ho5 hg5 hat5 hlt5; have hz5 : w3.heap.size + 1 ≤ w5.heap.size := (by have hq := hg5.size; simp at hq; omega); have CELLS5 : ∀ i u, (vs.drop (j + 1))[i]? = some u → w5.cell? ((⟨g2, 0, none⟩ : Addr).add i) = some u := fun i u h => hg5.cell (((below1 w3 (.cells #[.slice au nu cu] 30)).cell (p := (⟨g2, 0, none⟩ : Addr).add i) (by rw [addr_add0]; exact Nat.lt_of_lt_of_le hg2u hs3)).trans (CELLS3 i u h)) (by rw [addr_add0]; exact hne))
          | (refine step_append_I (by rfl) _ _ (by with_reducible rfl) (by rfl) (by rfl) A2 A1 (by have := HR2.out; simp; omega) (by simp) ?_; intro au nu cu w3 hnu ko3 hg3; have B3 := undrew1 (Below.grown (below1 w2.drew (.cells #[] 3)) hg3 (by simp) (fun k hk => (World.ownsRow.lt A2 k hk).1)); have hs3 := B3.size; have OWN3 := own_take (k := j + 1) (HO2.out.kept B3).1 (by rw [← HN.out]; omega); have CELLS3 : ∀ i u, (vs.drop (j + 1))[i]? = some u → w3.cell? ((⟨g2, 0, none⟩ : Addr).add i) = some u := fun i u h => (B3.cell (p := (⟨g2, 0, none⟩ : Addr).add i) (by rw [addr_add0]; exact hg2u)).trans (HC2.out i u h)))
        have PF := put_fin HO.out.rows (by omega) (below_then HB2.out hs2 B3) ko3.is (Nat.le_refl _) OWN3 hg5 ho5 hg7 ho7 HVD.out (by rw [HVL.out, ← HN.out]; omega) (fun e => by have := hn7.1 e; simp at this)
        have PG := Lib.hid (put_grown (below_then HB2.out hs2 B3) hg5 hg7 rfl hat5)
        have PA := Lib.hid (put_at (below_then HB2.out hs2 B3) hg5 hat5 hat7)
        have PF1 := Lib.hid PF.1
        have PF2 := Lib.hid PF.2
        have PT := Lib.hid (show PutG ls r (ls.take (j + 1) ++ r :: ls.drop (j + 1)) from .inr ⟨j + 1, by rw [← HN.out]; omega, rfl, fun i h1 h2 => HB.out i h1 (by rw [HN.out]; exact h2), HEX.out⟩)
        clear PF ho7 hg7 hn7 ho5 hg5 hat5 hlt5 OWN3 CELLS3 CELLS5 B3 ko3 hg3 hnu A1 A2
        go_wp2
        go_ret
        exact ⟨_, _, _, rfl, PF1.out, PT.out, PF2.out, PG.out, PA.out⟩
end Go.Proofs.Ytehhoplenloocaa
