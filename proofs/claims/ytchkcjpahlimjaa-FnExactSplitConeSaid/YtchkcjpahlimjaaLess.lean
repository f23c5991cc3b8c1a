/- A multiple of a row is taken from another one, in place. -/
import Derived.Test.YtchkcjpahlimjaaMkS
import Derived.Test.YtchkcjpahlimjaaVec
namespace Go.Proofs.Ytchkcjpahlimjaa
open Go.RowKit
set_option linter.unusedVariables false
set_option linter.unusedSimpArgs false

def lessF (l l2 : List Int) (q : Int) (j : Nat) : Nat → Value := fun i => if i < j then .int .i64 (l.getD i 0 - q * l2.getD i 0) else .int .i64 (l.getD i 0)
def lessL (l l2 : List Int) (q : Int) : List Int := (List.range l.length).map fun i => l.getD i 0 - q * l2.getD i 0
theorem lessL_len (l l2 : List Int) (q : Int) : (lessL l l2 q).length = l.length := by simp [lessL]
theorem lessL_getD (l l2 : List Int) (q : Int) (i : Nat) (h : i < l.length) : (lessL l l2 q).getD i 0 = l.getD i 0 - q * l2.getD i 0 := by
  rw [List.getD_eq_getElem?_getD]; simp [lessL, h]

set_option maxRecDepth 100000 in
set_option maxHeartbeats 4000000 in
theorem less_any (l l2 : List Int) (v vb : Value) (lo hi hb : Nat) (q : Int) (w : World) (h : IS w lo hi v l) (hby : ∀ w', w.grownBy w' (blkOf v) → ISr w' hb vb l2) (hll : l.length ≤ l2.length)
    (hbd : ∀ k, k < l.length → (-9223372036854775808 ≤ q * l2.getD k 0 ∧ q * l2.getD k 0 ≤ 9223372036854775807) ∧ (-9223372036854775808 ≤ l.getD k 0 - q * l2.getD k 0 ∧ l.getD k 0 - q * l2.getD k 0 ≤ 9223372036854775807)) :
    Calls Try.prog 62 #[v, .int .i64 q, vb] w fun e w' => (∃ r, e = .returned r) ∧ IS w' lo hi v (lessL l l2 q) ∧ w.grownBy w' (blkOf v) := by
  rcases h.cases with ⟨rfl, a, cap, rfl⟩ | ⟨hpos, hlen, b, off, cap, rfl, hc1, hc2, hb1, hb2, hcell⟩
  · go_enter Try.func62, Try.ntmps62
    go_wp2
    refine wp_loop_rounds 1 ?_
    rw [rounds_succ]
    go_wp2
    refine ⟨rfl, _, results_none rfl _ _ _, ?_⟩
    exact ⟨⟨_, rfl⟩, h, World.grownBy.refl _ _⟩
  · rw [blkOf_some _ _ _ _ hpos] at hby ⊢
    have hcs0 : BK w b off l.length 3 (lessF l l2 q 0) := hcell.congr fun i hi => by simp [lessF]
    have hres : ∀ w', BK w' b off l.length 3 (lessF l l2 q l.length) → IS w' lo hi (.slice (some ⟨b, off, none⟩) l.length cap) (lessL l l2 q) := by
      intro w' hcs
      refine ⟨_, _, by rw [lessL_len], by rw [lessL_len]; exact hc1, hc2, fun _ => ⟨b, off, rfl, hb1, hb2, ?_⟩⟩
      rw [lessL_len]
      exact hcs.congr fun i hi => by rw [lessL_getD _ _ _ _ hi]; simp [lessF, hi]
    clear hcell h
    have HRES := Lib.hid hres; clear hres
    have HBY := Lib.hid hby; clear hby
    have HBD := Lib.hid hbd; clear hbd
    obtain ⟨a2, cp2, rfl, -⟩ := id (HBY.out w (World.grownBy.refl _ _))
    obtain ⟨m, hm⟩ : ∃ m, m = l2.length := ⟨_, rfl⟩
    rw [← hm] at hll HBY ⊢
    have HM := Lib.hid hm
    obtain ⟨n, hn⟩ : ∃ n, n = l.length := ⟨_, rfl⟩
    rw [← hn] at hlen hpos hcs0 HRES HBD hll ⊢
    clear hn hc1 hc2 hm
    have H0 := Lib.hid hcs0; clear hcs0
    go_enter Try.func62, Try.ntmps62
    go_wp2
    go_loopw [6, 9] (fun _ i wr => ∃ j : Nat, j ≤ n ∧ i = .int .i64 j ∧ Hid (BK wr b off n 3 (lessF l l2 q j)) ∧ Hid (w.grownBy wr (some b))) (fun _ i _ => n - (intOf i).toNat)
    case atStart => exact ⟨0, by omega, rfl, H0, World.grownBy.refl _ _⟩
    case round =>
      obtain ⟨j, hj, rfl, hcs, hgr⟩ := hrel
      by_cases hlt : j < n
      · have hc := hcs.out.cell hlt
        have hf := hcs.out.frozen (off + j)
        obtain ⟨x1, x2⟩ := HBD.out j hlt
        rcases (HBY.out wr hgr.out).cases with ⟨e, -⟩ | ⟨-, -, b2, o2, c2, hv2, -, hcc⟩
        · have := HM.out; rw [e] at this; simp at this; omega
        have hd := hcc j (by rw [← HM.out]; omega)
        injection hv2 with e1 e2 e3
        have e1' := wr64 _ x1
        have e2' := wr64 _ x2
        have hset := hcs.out.set hlt (.int .i64 (l.getD j 0 - q * l2.getD j 0))
        have hset2 : BK (wr.setCell ⟨b, off + j, none⟩ (.int .i64 (l.getD j 0 - q * l2.getD j 0))) b off n 3 (lessF l l2 q (j + 1)) := hset.congr fun i _ => by
          unfold lessF
          by_cases e : i = j
          · subst e; simp
          · rw [if_neg e]
            by_cases e2 : i < j
            · rw [if_pos e2, if_pos (by omega)]
            · rw [if_neg e2, if_neg (by omega)]
        have HS := Lib.hid hset2; clear hset hset2
        have hg2 : w.grownBy (wr.setCell ⟨b, off + j, none⟩ (.int .i64 (l.getD j 0 - q * l2.getD j 0))) (some b) := by
          have g := hgr.out
          refine ⟨g.os, g.tape, g.output, by simpa using g.size, fun i hi hne => ?_⟩
          rw [Below.heap_setCell _ _ _ _ (by intro e; apply hne; rw [e])]
          exact g.block i hi hne
        have HG := Lib.hid hg2; clear hg2
        rw [show lessF l l2 q j j = .int .i64 (l.getD j 0) by unfold lessF; rw [if_neg (Nat.lt_irrefl _)]] at hc
        generalize l.getD j 0 = y at *
        generalize l2.getD j 0 = z at *
        subst e1
        clear hcc e2 e3
        go_wp2
        go_region
        go_wp2
        go_roundw
        case rel => exact ⟨j + 1, by omega, by go_num, HS, Lib.hid ⟨HG.out.os, HG.out.tape, HG.out.output, HG.out.size, HG.out.block⟩⟩
        case measure => simp [intOf]; omega
      · obtain rfl : j = n := by omega
        go_wp2
        refine ⟨rfl, _, results_none rfl _ _ _, ?_⟩
        exact ⟨⟨_, rfl⟩, HRES.out _ hcs.out, hgr.out⟩
end Go.Proofs.Ytchkcjpahlimjaa
