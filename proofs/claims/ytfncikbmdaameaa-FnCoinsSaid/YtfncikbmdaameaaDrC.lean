/- The draws of the statement on coins. -/
import Derived.Test.YtfncikbmdaameaaDrL
namespace Go.Proofs.Ytfncikbmdaameaa
open Go.RowKit
set_option linter.unusedVariables false
set_option linter.unusedSimpArgs false

set_option maxRecDepth 100000 in
set_option maxHeartbeats 8000000 in
theorem DrawCountWays_any (v : Value) (l : List Int) (hb : Nat) (w : World) (h : ISb w hb v l) (hhb : hb ≤ w.heap.size) :
    Calls Try.prog 46 #[v] w fun e w' => (∃ u l n, e = .returned (.tuple #[u, .int .i64 n]) ∧ IS w' w.heap.size w'.heap.size u l ∧ l.length ≤ 4) ∧ Below w.heap.size w w' := by
  have N0 := l1New_any v l hb w h hhb
  unfold curP at N0
  go_enter Try.func46, Try.ntmps46
  go_wp2_with fail
  refine N0.mono ?_
  rintro e w0 ⟨rfl, hc, hbel, hsz⟩
  have HC0 := Lib.hid hc
  have HG0 := Lib.hid (World.grownBy.refl w0 (some w.heap.size))
  have HB := Lib.hid hbel
  have HZ := Lib.hid hsz
  clear hc hbel hsz N0 h
  go_wp2_with fail
  have hq_u := HC0.out.lt
  have BB := l15Draw_any w.heap.size hb w0 HC0.out
  unfold curP at BB
  refine BB.mono ?_
  clear BB
  rintro e w1 ⟨u, l5, rfl, ho_u, hl_u, hc, hg⟩
  have HO_u := Lib.hid ho_u
  clear ho_u
  have HC1 := Lib.hid hc
  have HG1 := Lib.hid (grown_trans HG0.out hg)
  clear hc hg HC0 HG0
  obtain ⟨a, cp, rfl⟩ := HO_u.out.form
  go_wp2_with fail
  have BB := l1Below_any w.heap.size hb 40 w1 HC1.out (by omega) (by omega)
  unfold curP at BB
  refine BB.mono ?_
  clear BB
  rintro e w2 ⟨x1, rfl, hx10, hx11, hc, hg⟩
  have ho := HO_u.out.cur hg hq_u
  clear HO_u
  have HO_u := Lib.hid ho
  clear ho
  have HC2 := Lib.hid hc
  have HG2 := Lib.hid (grown_trans HG1.out hg)
  clear hc hg HC1 HG1
  go_wp2_with fail
  have BB := l1Below_any w.heap.size hb 100 w2 HC2.out (by omega) (by omega)
  unfold curP at BB
  refine BB.mono ?_
  clear BB
  rintro e w3 ⟨x2, rfl, hx20, hx21, hc, hg⟩
  have ho := HO_u.out.cur hg hq_u
  clear HO_u
  have HO_u := Lib.hid ho
  clear ho
  have HC3 := Lib.hid hc
  have HG3 := Lib.hid (grown_trans HG2.out hg)
  clear hc hg HC2 HG2
  go_wp2_with fail
  have BB := pick_lit w.heap.size hb [x1, x2, 500, 501, -1, 0] w3 HC3.out (by simp) (by simp)
  unfold curP at BB
  refine BB.mono ?_
  clear BB
  rintro e w4 ⟨n, rfl, hn, hc, hg⟩
  simp only [List.mem_cons, List.not_mem_nil, or_false] at hn
  have ho := HO_u.out.cur hg hq_u
  clear HO_u
  have HO_u := Lib.hid ho
  clear ho
  have HC4 := Lib.hid hc
  have HG4 := Lib.hid (grown_trans HG3.out hg)
  clear hc hg HC3 HG3
  go_wp2
  go_returns
  exact ⟨⟨_, l5, _, rfl, HO_u.out.is.mono (by have := HZ.out; omega) (Nat.le_refl _), hl_u⟩, Below.trans HB.out (grown_below HG4.out (by have := HZ.out; omega) (Nat.le_refl _))⟩
set_option maxRecDepth 100000 in
set_option maxHeartbeats 8000000 in
theorem DrawGreatestGap_any (v : Value) (l : List Int) (hb : Nat) (w : World) (h : ISb w hb v l) (hhb : hb ≤ w.heap.size) :
    Calls Try.prog 49 #[v] w fun e w' => (∃ u l, e = .returned u ∧ IS w' w.heap.size w'.heap.size u l ∧ l.length ≤ 4) ∧ Below w.heap.size w w' := by
  have N0 := l1New_any v l hb w h hhb
  unfold curP at N0
  go_enter Try.func49, Try.ntmps49
  go_wp2_with fail
  refine N0.mono ?_
  rintro e w0 ⟨rfl, hc, hbel, hsz⟩
  have HC0 := Lib.hid hc
  have HG0 := Lib.hid (World.grownBy.refl w0 (some w.heap.size))
  have HB := Lib.hid hbel
  have HZ := Lib.hid hsz
  clear hc hbel hsz N0 h
  go_wp2_with fail
  have hq_u := HC0.out.lt
  have BB := l15Draw_any w.heap.size hb w0 HC0.out
  unfold curP at BB
  refine BB.mono ?_
  clear BB
  rintro e w1 ⟨u, l5, rfl, ho_u, hl_u, hc, hg⟩
  have HO_u := Lib.hid ho_u
  clear ho_u
  have HC1 := Lib.hid hc
  have HG1 := Lib.hid (grown_trans HG0.out hg)
  clear hc hg HC0 HG0
  obtain ⟨a, cp, rfl⟩ := HO_u.out.form
  go_wp2
  go_ret
  exact ⟨⟨_, l5, rfl, HO_u.out.is.mono (by have := HZ.out; omega) (Nat.le_refl _), hl_u⟩, Below.trans HB.out (grown_below HG1.out (by have := HZ.out; omega) (Nat.le_refl _))⟩
set_option maxRecDepth 100000 in
set_option maxHeartbeats 8000000 in
theorem DrawTwoCoins_any (v : Value) (l : List Int) (hb : Nat) (w : World) (h : ISb w hb v l) (hhb : hb ≤ w.heap.size) :
    Calls Try.prog 51 #[v] w fun e w' => (∃ a b n : Int, e = .returned (.tuple #[.int .i64 a, .int .i64 b, .int .i64 n])) ∧ Below w.heap.size w w' := by
  have N0 := l1New_any v l hb w h hhb
  unfold curP at N0
  go_enter Try.func51, Try.ntmps51
  go_wp2_with fail
  refine N0.mono ?_
  rintro e w0 ⟨rfl, hc, hbel, hsz⟩
  have HC0 := Lib.hid hc
  have HG0 := Lib.hid (World.grownBy.refl w0 (some w.heap.size))
  have HB := Lib.hid hbel
  have HZ := Lib.hid hsz
  clear hc hbel hsz N0 h
  go_wp2_with fail
  have BB := l1Below_any w.heap.size hb 12 w0 HC0.out (by omega) (by omega)
  unfold curP at BB
  refine BB.mono ?_
  clear BB
  rintro e w1 ⟨x1, rfl, hx10, hx11, hc, hg⟩
  have HC1 := Lib.hid hc
  have HG1 := Lib.hid (grown_trans HG0.out hg)
  clear hc hg HC0 HG0
  go_wp2_with fail
  have BB := l1Below_any w.heap.size hb 12 w1 HC1.out (by omega) (by omega)
  unfold curP at BB
  refine BB.mono ?_
  clear BB
  rintro e w2 ⟨x2, rfl, hx20, hx21, hc, hg⟩
  have HC2 := Lib.hid hc
  have HG2 := Lib.hid (grown_trans HG1.out hg)
  clear hc hg HC1 HG1
  go_wp2_with fail
  have BB := l1Once_any w.heap.size hb 14 w2 HC2.out (by omega) (by omega)
  unfold curP at BB
  refine BB.mono ?_
  clear BB
  rintro e w3 ⟨b3, rfl, hc, hg⟩
  have HC3 := Lib.hid hc
  have HG3 := Lib.hid (grown_trans HG2.out hg)
  clear hc hg HC2 HG2
  cases b3
  · skip
    go_wp2_with fail
    have BB := l1Below_any w.heap.size hb 150 w3 HC3.out (by omega) (by omega)
    unfold curP at BB
    refine BB.mono ?_
    clear BB
    rintro e w4 ⟨x3, rfl, hx30, hx31, hc, hg⟩
    have HC4 := Lib.hid hc
    have HG4 := Lib.hid (grown_trans HG3.out hg)
    clear hc hg HC3 HG3
    go_wp2_with fail
    have BB := l1Below_any w.heap.size hb 60 w4 HC4.out (by omega) (by omega)
    unfold curP at BB
    refine BB.mono ?_
    clear BB
    rintro e w5 ⟨x4, rfl, hx40, hx41, hc, hg⟩
    have HC5 := Lib.hid hc
    have HG5 := Lib.hid (grown_trans HG4.out hg)
    clear hc hg HC4 HG4
    go_wp2_with fail
    have BB := pick_lit w.heap.size hb [x3, x4, 500, 501, -1, 0] w5 HC5.out (by simp) (by simp)
    unfold curP at BB
    refine BB.mono ?_
    clear BB
    rintro e w6 ⟨n, rfl, hn, hc, hg⟩
    simp only [List.mem_cons, List.not_mem_nil, or_false] at hn
    have HC6 := Lib.hid hc
    have HG6 := Lib.hid (grown_trans HG5.out hg)
    clear hc hg HC5 HG5
    go_wp2
    go_returns
    exact ⟨⟨_, _, _, rfl⟩, Below.trans HB.out (grown_below HG6.out (by have := HZ.out; omega) (Nat.le_refl _))⟩
  · skip
    go_wp2_with fail
    have BB := pick_lit w.heap.size hb [0, 31, 30] w3 HC3.out (by simp) (by simp)
    unfold curP at BB
    refine BB.mono ?_
    clear BB
    rintro e w4 ⟨a, rfl, ha, hc, hg⟩
    simp only [List.mem_cons, List.not_mem_nil, or_false] at ha
    have HC4 := Lib.hid hc
    have HG4 := Lib.hid (grown_trans HG3.out hg)
    clear hc hg HC3 HG3
    go_wp2_with fail
    have BB := l1Below_any w.heap.size hb 150 w4 HC4.out (by omega) (by omega)
    unfold curP at BB
    refine BB.mono ?_
    clear BB
    rintro e w5 ⟨x3, rfl, hx30, hx31, hc, hg⟩
    have HC5 := Lib.hid hc
    have HG5 := Lib.hid (grown_trans HG4.out hg)
    clear hc hg HC4 HG4
    go_wp2_with fail
    have BB := l1Below_any w.heap.size hb 60 w5 HC5.out (by omega) (by omega)
    unfold curP at BB
    refine BB.mono ?_
    clear BB
    rintro e w6 ⟨x4, rfl, hx40, hx41, hc, hg⟩
    have HC6 := Lib.hid hc
    have HG6 := Lib.hid (grown_trans HG5.out hg)
    clear hc hg HC5 HG5
    go_wp2_with fail
    have BB := pick_lit w.heap.size hb [x3, x4, 500, 501, -1, 0] w6 HC6.out (by simp) (by simp)
    unfold curP at BB
    refine BB.mono ?_
    clear BB
    rintro e w7 ⟨n, rfl, hn, hc, hg⟩
    simp only [List.mem_cons, List.not_mem_nil, or_false] at hn
    have HC7 := Lib.hid hc
    have HG7 := Lib.hid (grown_trans HG6.out hg)
    clear hc hg HC6 HG6
    go_wp2
    go_returns
    exact ⟨⟨_, _, _, rfl⟩, Below.trans HB.out (grown_below HG7.out (by have := HZ.out; omega) (Nat.le_refl _))⟩
end Go.Proofs.Ytfncikbmdaameaa
