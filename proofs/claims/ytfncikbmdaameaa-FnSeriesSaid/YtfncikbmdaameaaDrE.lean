/- The draws of the statement on tetrahedra. -/
import Derived.Test.YtfncikbmdaameaaDrB
namespace Go.Proofs.Ytfncikbmdaameaa
open Go.RowKit
set_option linter.unusedVariables false
set_option linter.unusedSimpArgs false

theorem ISS.cur {w w' : World} {lo p : Nat} {v : Value} {ls : List (List Int)} (h : ISS w lo w.heap.size v ls) (hg : w.grownBy w' (some p)) (hp : p < lo) : ISS w' lo w'.heap.size v ls :=
  (h.of_blocks fun b h1 h2 h3 => hg.block b h3 (by intro e; injection e with e; omega)).mono (Nat.le_refl _) hg.size
theorem ISS.upb {w w' : World} {lo : Nat} {v : Value} {ls : List (List Int)} (h : ISS w lo w.heap.size v ls) (hb : Below w.heap.size w w') : ISS w' lo w'.heap.size v ls := (h.of_blocks fun b _ _ h3 => hb.block b h3).mono (Nat.le_refl _) hb.size
def ISu (w : World) (lo : Nat) (v : Value) (l : List Int) : Prop := IS w lo w.heap.size v l
theorem ISu.cur {w w' : World} {lo p : Nat} {v : Value} {l : List Int} (h : ISu w lo v l) (hg : w.grownBy w' (some p)) (hp : p < lo) : ISu w' lo v l := (IS.cur h hg (.inl hp)).mono (Nat.le_refl _) hg.size
theorem ISu.upb {w w' : World} {lo : Nat} {v : Value} {l : List Int} (h : ISu w lo v l) (hb : Below w.heap.size w w') : ISu w' lo v l := (IS.of_blocks h fun b _ _ h3 => hb.block b h3).mono (Nat.le_refl _) hb.size
set_option maxRecDepth 100000 in
set_option maxHeartbeats 8000000 in
theorem DrawTetraTop_any (v : Value) (l : List Int) (hb : Nat) (w : World) (h : ISb w hb v l) (hhb : hb ≤ w.heap.size) :
    Calls Try.prog 79 #[v] w fun e w' => (∃ u ls, e = .returned u ∧ ISS w' w.heap.size w'.heap.size u ls ∧ ls.length ≤ 4) ∧ Below w.heap.size w w' := by
  have N0 := l1New_any v l hb w h hhb
  unfold curP at N0
  go_enter Try.func79, Try.ntmps79
  go_wp2_with fail
  refine N0.mono ?_
  rintro e w0 ⟨rfl, hc, hbel, hsz⟩
  have HC0 := Lib.hid hc
  have HG0 := Lib.hid (World.grownBy.refl w0 (some w.heap.size))
  have HB := Lib.hid hbel
  have HZ := Lib.hid hsz
  clear hc hbel hsz N0 h
  go_wp2_with fail
  have hq_u := HC0.out.lt
  have BB := l13Bent_any w.heap.size hb w0 HC0.out
  unfold curP at BB
  refine BB.mono ?_
  clear BB
  rintro e w1 ⟨u, ls, rfl, ho_u, hl_u, hc, hg⟩
  have HO_u := Lib.hid ho_u
  clear ho_u
  have HC1 := Lib.hid hc
  have HG1 := Lib.hid (grown_trans HG0.out hg)
  clear hc hg HC0 HG0
  obtain ⟨a, cp, rfl, -⟩ := id HO_u.out
  go_wp2
  go_ret
  exact ⟨⟨_, ls, rfl, HO_u.out.mono (by have := HZ.out; omega) (Nat.le_refl _), hl_u⟩, Below.trans HB.out (grown_below HG1.out (by have := HZ.out; omega) (Nat.le_refl _))⟩
set_option maxRecDepth 100000 in
set_option maxHeartbeats 8000000 in
theorem DrawTetraCount_any (v : Value) (l : List Int) (hb : Nat) (w : World) (h : ISb w hb v l) (hhb : hb ≤ w.heap.size) :
    Calls Try.prog 82 #[v] w fun e w' => (∃ u ls, ∃ n : Int, e = .returned (.tuple #[u, .int .i64 n]) ∧ ISS w' w.heap.size w'.heap.size u ls ∧ ls.length ≤ 4) ∧ Below w.heap.size w w' := by
  have N0 := l1New_any v l hb w h hhb
  unfold curP at N0
  go_enter Try.func82, Try.ntmps82
  go_wp2_with fail
  refine N0.mono ?_
  rintro e w0 ⟨rfl, hc, hbel, hsz⟩
  have HC0 := Lib.hid hc
  have HG0 := Lib.hid (World.grownBy.refl w0 (some w.heap.size))
  have HB := Lib.hid hbel
  have HZ := Lib.hid hsz
  clear hc hbel hsz N0 h
  go_wp2_with fail
  have hq_u := HC0.out.lt
  have BB := l13Bent_any w.heap.size hb w0 HC0.out
  unfold curP at BB
  refine BB.mono ?_
  clear BB
  rintro e w1 ⟨u, ls, rfl, ho_u, hl_u, hc, hg⟩
  have HO_u := Lib.hid ho_u
  clear ho_u
  have HC1 := Lib.hid hc
  have HG1 := Lib.hid (grown_trans HG0.out hg)
  clear hc hg HC0 HG0
  obtain ⟨a, cp, rfl, -⟩ := id HO_u.out
  go_wp2_with fail
  have BB := pick_lit w.heap.size hb [0, 1, 2, 1, 2, 3, 5, -1] w1 HC1.out (by simp) (by simp)
  unfold curP at BB
  refine BB.mono ?_
  clear BB
  rintro e w2 ⟨n, rfl, hn, hc, hg⟩
  simp only [List.mem_cons, List.not_mem_nil, or_false] at hn
  have ho := HO_u.out.cur hg hq_u
  clear HO_u
  have HO_u := Lib.hid ho
  clear ho
  have HC2 := Lib.hid hc
  have HG2 := Lib.hid (grown_trans HG1.out hg)
  clear hc hg HC1 HG1
  go_wp2
  go_returns
  exact ⟨⟨_, ls, _, rfl, HO_u.out.mono (by have := HZ.out; omega) (Nat.le_refl _), hl_u⟩, Below.trans HB.out (grown_below HG2.out (by have := HZ.out; omega) (Nat.le_refl _))⟩
set_option maxRecDepth 100000 in
set_option maxHeartbeats 8000000 in
theorem DrawTetraHas_any (v : Value) (l : List Int) (hb : Nat) (w : World) (h : ISb w hb v l) (hhb : hb ≤ w.heap.size) :
    Calls Try.prog 81 #[v] w fun e w' => (∃ u ls x l, ∃ n : Int, e = .returned (.tuple #[u, x, .int .i64 n]) ∧ ISS w' w.heap.size w'.heap.size u ls ∧ ls.length ≤ 4 ∧ IS w' w.heap.size w'.heap.size x l ∧ l.length = 3) ∧ Below w.heap.size w w' := by
  have N0 := l1New_any v l hb w h hhb
  unfold curP at N0
  go_enter Try.func81, Try.ntmps81
  go_wp2_with fail
  refine N0.mono ?_
  rintro e w0 ⟨rfl, hc, hbel, hsz⟩
  have HC0 := Lib.hid hc
  have HG0 := Lib.hid (World.grownBy.refl w0 (some w.heap.size))
  have HB := Lib.hid hbel
  have HZ := Lib.hid hsz
  clear hc hbel hsz N0 h
  go_wp2_with fail
  have hq_u := HC0.out.lt
  have BB := l13Bent_any w.heap.size hb w0 HC0.out
  unfold curP at BB
  refine BB.mono ?_
  clear BB
  rintro e w1 ⟨u, ls, rfl, ho_u, hl_u, hc, hg⟩
  have HO_u := Lib.hid ho_u
  clear ho_u
  have HC1 := Lib.hid hc
  have HG1 := Lib.hid (grown_trans HG0.out hg)
  clear hc hg HC0 HG0
  obtain ⟨a, cp, rfl, -⟩ := id HO_u.out
  go_wp2_with fail
  have BB := l1Below_any w.heap.size hb 7 w1 HC1.out (by omega) (by omega)
  unfold curP at BB
  refine BB.mono ?_
  clear BB
  rintro e w2 ⟨x1, rfl, hx10, hx11, hc, hg⟩
  have ho := HO_u.out.cur hg hq_u
  clear HO_u
  have HO_u := Lib.hid ho
  clear ho
  have HC2 := Lib.hid hc
  have HG2 := Lib.hid (grown_trans HG1.out hg)
  clear hc hg HC1 HG1
  go_wp2_with fail
  have BB := l1Below_any w.heap.size hb 7 w2 HC2.out (by omega) (by omega)
  unfold curP at BB
  refine BB.mono ?_
  clear BB
  rintro e w3 ⟨x2, rfl, hx20, hx21, hc, hg⟩
  have ho := HO_u.out.cur hg hq_u
  clear HO_u
  have HO_u := Lib.hid ho
  clear ho
  have HC3 := Lib.hid hc
  have HG3 := Lib.hid (grown_trans HG2.out hg)
  clear hc hg HC2 HG2
  go_wp2_with fail
  have BB := l1Below_any w.heap.size hb 7 w3 HC3.out (by omega) (by omega)
  unfold curP at BB
  refine BB.mono ?_
  clear BB
  rintro e w4 ⟨x3, rfl, hx30, hx31, hc, hg⟩
  have ho := HO_u.out.cur hg hq_u
  clear HO_u
  have HO_u := Lib.hid ho
  clear ho
  have HC4 := Lib.hid hc
  have HG4 := Lib.hid (grown_trans HG3.out hg)
  clear hc hg HC3 HG3
  have hq_xx := HC4.out.lt
  have HO_xx := Lib.hid (show ISu _ _ _ _ from (IS.lit3 w4 w4.heap.size (Nat.le_refl _) x1 x2 x3).mono (Nat.le_refl _) (show _ ≤ (w4.alloc (.cells #[.int .i64 x1, .int .i64 x2, .int .i64 x3] 3)).heap.size by rw [World.size_alloc]; exact Nat.le_refl _))
  have ho := HO_u.out.upb (below1 w4 (.cells #[.int .i64 x1, .int .i64 x2, .int .i64 x3] 3))
  clear HO_u
  have HO_u := Lib.hid ho
  clear ho
  have HC5 := Lib.hid (HC4.out.below (below1 w4 (.cells #[.int .i64 x1, .int .i64 x2, .int .i64 x3] 3)) hq_xx)
  have HG5 := Lib.hid (grown_alloc HG4.out (.cells #[.int .i64 x1, .int .i64 x2, .int .i64 x3] 3))
  clear HC4 HG4
  go_wp2_with fail
  have BB := pick_lit w.heap.size hb [1, 2, 1, 3, 0, 5] (w4.alloc (.cells #[.int .i64 x1, .int .i64 x2, .int .i64 x3] 3)) HC5.out (by simp) (by simp)
  rw [World.size_alloc] at BB
  unfold curP at BB
  refine BB.mono ?_
  clear BB
  rintro e w6 ⟨n, rfl, hn, hc, hg⟩
  simp only [List.mem_cons, List.not_mem_nil, or_false] at hn
  have ho := HO_u.out.cur hg hq_u
  clear HO_u
  have HO_u := Lib.hid ho
  clear ho
  have ho := HO_xx.out.cur hg hq_xx
  clear HO_xx
  have HO_xx := Lib.hid ho
  clear ho
  have HC6 := Lib.hid hc
  have HG6 := Lib.hid (grown_trans HG5.out hg)
  clear hc hg HC5 HG5
  go_wp2
  go_returns
  exact ⟨⟨_, ls, _, [x1, x2, x3], _, rfl, HO_u.out.mono (by have := HZ.out; omega) (Nat.le_refl _), hl_u, IS.mono HO_xx.out (by have := HZ.out; omega) (Nat.le_refl _), rfl⟩, Below.trans HB.out (grown_below HG6.out (by have := HZ.out; omega) (Nat.le_refl _))⟩

end Go.Proofs.Ytfncikbmdaameaa
