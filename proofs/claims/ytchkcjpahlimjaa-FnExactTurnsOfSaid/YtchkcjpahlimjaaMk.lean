/- Marking the cells of a slice with numbers that go up, and asking for the marks. -/
import Derived.Test.YtchkcjpahlimjaaIS2
namespace Go.Proofs.Ytchkcjpahlimjaa
open Go.RowKit
set_option linter.unusedVariables false
set_option linter.unusedSimpArgs false

/-- the block of a slice that holds something -/
def blkOf : Value → Option Nat
  | .slice (some a) (_ + 1) _ => some a.block
  | _ => none
theorem blkOf_some (b off n cap : Nat) (h : 0 < n) : blkOf (.slice (some ⟨b, off, none⟩) n cap) = some b := by
  cases n with
  | zero => omega
  | succ n => rfl
theorem IS.blk {w : World} {lo hi : Nat} {v : Value} {l : List Int} (h : IS w lo hi v l) : blkOf v = none ∨ ∃ b, blkOf v = some b ∧ lo ≤ b ∧ b < hi ∧ ∃ cs, w.heap[b]? = some (.cells cs 3 (0, 0)) := by
  rcases h.cases with ⟨rfl, a, cap, rfl⟩ | ⟨hpos, hlen, b, off, cap, rfl, g1, g2, h1, h2, h3⟩
  · left; cases a <;> rfl
  · right; obtain ⟨cs, hcs, _⟩ := h3; exact ⟨b, blkOf_some _ _ _ _ hpos, h1, h2, cs, hcs⟩
theorem IS.grown {w w' : World} {lo hi : Nat} {v : Value} {l : List Int} {ob : Option Nat} (h : IS w lo hi v l) (hg : w.grownBy w' ob) (hne : blkOf v = none ∨ blkOf v ≠ ob) : IS w' lo hi v l := by
  rcases h.cases with ⟨rfl, a, cap, rfl⟩ | ⟨hpos, hlen, b, off, cap, rfl, g1, g2, h1, h2, h3⟩
  · exact h.imp fun _ ⟨_, hv, g1, g2, _⟩ => ⟨_, hv, g1, g2, fun hn => absurd rfl hn⟩
  · rw [blkOf_some _ _ _ _ hpos] at hne
    exact IS.of_BK (h3.of_block (hg.block b h3.lt (by rcases hne with h | h <;> simp_all))) g1 g2 h1 h2
/-- .. where the row that is written is one of another type -/
theorem IS.grown_type {w w' : World} {lo hi : Nat} {v : Value} {l : List Int} {ob : Option Nat} (h : IS w lo hi v l) (hg : w.grownBy w' ob) (hne : ∀ g, ob = some g → ∃ c e fr, w.heap[g]? = some (.cells c e fr) ∧ e ≠ 3) : IS w' lo hi v l := by
  refine h.grown hg ?_
  rcases h.blk with hb | ⟨b, hb, _, _, cs, hcs⟩
  · exact .inl hb
  · right
    rw [hb]
    intro e
    obtain ⟨c, t, fr, h1, h2⟩ := hne b e.symm
    rw [hcs] at h1
    injection h1 with h1; injection h1 with _ h1 _
    exact h2 h1.symm

/-- n numbers from k on -/
def markL (n : Nat) (k : Int) : List Int := (List.range n).map fun (i : Nat) => k + (i : Int)
theorem markL_len (n : Nat) (k : Int) : (markL n k).length = n := by simp [markL]
theorem markL_getD (n : Nat) (k : Int) (i : Nat) (h : i < n) : (markL n k).getD i 0 = k + i := by
  rw [List.getD_eq_getElem?_getD]; simp [markL, h]
def markF (l : List Int) (k : Int) (j : Nat) : Nat → Value := fun i => if i < j then .int .i64 (k + i) else .int .i64 (l.getD i 0)

set_option maxHeartbeats 1000000 in
theorem markIntS_any (l : List Int) (v : Value) (lo hi : Nat) (k : Int) (w : World) (h : IS w lo hi v l) (hk : 0 ≤ k) (hk' : k + l.length ≤ 4611686018427387904) :
    Calls Try.prog 26 #[v, .int .i64 k] w fun e w' => e = .returned (.int .i64 (k + l.length)) ∧ IS w' lo hi v (markL l.length k) ∧ w.grownBy w' (blkOf v) := by
  rcases h.cases with ⟨rfl, a, cap, rfl⟩ | ⟨hpos, hlen, b, off, cap, rfl, hc1, hc2, hb1, hb2, hcell⟩
  · go_enter Try.func26, Try.ntmps26
    go_wp2
    refine wp_loop_rounds 1 ?_
    rw [rounds_succ]
    go_wp2
    go_ret
    exact ⟨ret_int (by simp), h, World.grownBy.refl _ _⟩
  · rw [blkOf_some _ _ _ _ hpos]
    have hcs0 : BK w b off l.length 3 (markF l k 0) := hcell.congr fun i hi => by simp [markF]
    have hres : ∀ w', BK w' b off l.length 3 (markF l k l.length) → IS w' lo hi (.slice (some ⟨b, off, none⟩) l.length cap) (markL l.length k) := by
      intro w' hcs
      refine ⟨_, _, by rw [markL_len], by rw [markL_len]; exact hc1, hc2, fun _ => ⟨b, off, rfl, hb1, hb2, ?_⟩⟩
      rw [markL_len]
      exact hcs.congr fun i hi => by rw [markL_getD _ _ _ hi]; simp [markF, hi]
    clear hcell h
    have HRES := Lib.hid hres; clear hres
    obtain ⟨n, hn⟩ : ∃ n, n = l.length := ⟨_, rfl⟩
    rw [← hn] at hlen hpos hk' hcs0 HRES ⊢
    clear hn hc1 hc2
    have H0 := Lib.hid hcs0; clear hcs0
    go_enter Try.func26, Try.ntmps26
    go_wp2
    go_loopw [1, 5] (fun m i wr => ∃ j : Nat, j ≤ n ∧ i = .int .i64 j ∧ m = .int .i64 (k + j) ∧ Hid (BK wr b off n 3 (markF l k j)) ∧ Hid (w.grownBy wr (some b))) (fun _ i _ => n - (intOf i).toNat)
    case atStart => exact ⟨0, by omega, rfl, by simp, H0, World.grownBy.refl _ _⟩
    case round =>
      obtain ⟨j, hj, rfl, rfl, hcs, hgr⟩ := hrel
      by_cases hlt : j < n
      · have hc := hcs.out.cell hlt
        have hf := hcs.out.frozen (off + j)
        have hset := hcs.out.set hlt (.int .i64 (k + j))
        have hset2 : BK (wr.setCell ⟨b, off + j, none⟩ (.int .i64 (k + j))) b off n 3 (markF l k (j + 1)) := hset.congr fun i _ => by
          unfold markF
          by_cases e : i = j
          · subst e; simp
          · rw [if_neg e]
            by_cases e2 : i < j
            · rw [if_pos e2, if_pos (by omega)]
            · rw [if_neg e2, if_neg (by omega)]
        have HS := Lib.hid hset2; clear hset hset2
        have hg2 : w.grownBy (wr.setCell ⟨b, off + j, none⟩ (.int .i64 (k + j))) (some b) := by
          have g := hgr.out
          refine ⟨g.os, g.tape, g.output, by simpa using g.size, fun i hi hne => ?_⟩
          rw [Below.heap_setCell _ _ _ _ (by intro e; apply hne; rw [e])]
          exact g.block i hi hne
        have HG := Lib.hid hg2; clear hg2
        generalize markF l k j j = y at *
        go_wp2
        go_roundw
        case rel => exact ⟨j + 1, by omega, by go_num, by go_num, HS, HG⟩
        case measure => simp [intOf]; omega
      · obtain rfl : j = n := by omega
        go_wp2
        go_ret
        exact ⟨rfl, HRES.out _ hcs.out, hgr.out⟩

set_option maxHeartbeats 1000000 in
theorem heldIntS_any (n : Nat) (v : Value) (hi : Nat) (k : Int) (w : World) (h : ISr w hi v (markL n k)) (hk : 0 ≤ k) (hk' : k + n ≤ 4611686018427387904) :
    Calls Try.prog 27 #[v, .int .i64 k] w fun e w' => e = .returned (.int .i64 (k + n)) ∧ w = w' := by
  rcases h.cases with ⟨h0, a, cap, rfl⟩ | ⟨hpos, hlen, b, off, cap, rfl, hb, hcell⟩
  · have : n = 0 := by have := congrArg List.length h0; rw [markL_len] at this; exact this
    subst this
    clear h h0
    go_enter Try.func27, Try.ntmps27
    go_wp2
    refine wp_loop_rounds 1 ?_
    rw [rounds_succ]
    go_wp2
    go_ret
    exact ⟨ret_int (by simp), rfl⟩
  · rw [markL_len] at hpos hlen hcell ⊢
    clear h
    have HC := Lib.hid hcell; clear hcell
    go_enter Try.func27, Try.ntmps27
    go_wp2
    go_loop [1, 5] (fun m i => ∃ j : Nat, j ≤ n ∧ i = .int .i64 j ∧ m = .int .i64 (k + j)) (fun _ i => n - (intOf i).toNat)
    case atStart => exact ⟨0, by omega, rfl, by simp⟩
    case round =>
      obtain ⟨j, hj, rfl, rfl⟩ := hrel
      by_cases hlt : j < n
      · have hc := HC.out j hlt
        rw [markL_getD _ _ _ hlt] at hc
        have hne : ((k + (j : Int)) != (k + (j : Int))) = false := by simp
        go_wp2
        go_round
        case rel => exact ⟨j + 1, by omega, by go_num, by go_num⟩
        case measure => simp [intOf]; omega
      · obtain rfl : j = n := by omega
        go_wp2
        go_ret
        exact ⟨rfl, rfl⟩
end Go.Proofs.Ytchkcjpahlimjaa
