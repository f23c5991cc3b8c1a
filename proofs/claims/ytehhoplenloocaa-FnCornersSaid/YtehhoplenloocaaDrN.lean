/- Terms and series that are drawn: the draws of the statements. -/
import Derived.Test.YtehhoplenloocaaDrM
import Derived.Test.YtehhoplenloocaaAppT
namespace Go.Proofs.Ytehhoplenloocaa
open Go.RowKit
set_option linter.unusedVariables false
set_option linter.unusedSimpArgs false

theorem TB.three {w : World} {n m : Nat} {s : Int} {x y : Value} (h : TB w n s x y) (hm : m ≠ n) (a b c : Value) : TB (((w.setCell ⟨m, 0, none⟩ a).setCell ⟨m, 1, none⟩ b).setCell ⟨m, 2, none⟩ c) n s x y := ((h.other hm a).other hm b).other hm c
theorem TB.all {w : World} {n : Nat} {s : Int} {x y : Value} (h : TB w n s x y) (s' : Int) (x' y' : Value) : TB (((w.setCell ⟨n, 0, none⟩ (.int .i64 s')).setCell ⟨n, 1, none⟩ x').setCell ⟨n, 2, none⟩ y') n s' x' y' := ((h.set0 s').set1 x').set2 y'
theorem IS.set3 {w : World} {lo hi n : Nat} {v : Value} {l : List Int} (h : IS w lo hi v l) (hn : n < lo ∨ hi ≤ n) (a b c : Value) : IS (((w.setCell ⟨n, 0, Option.none⟩ a).setCell ⟨n, 1, Option.none⟩ b).setCell ⟨n, 2, Option.none⟩ c) lo hi v l := ((h.setO hn a).setO hn b).setO hn c
theorem ISS.set3 {w : World} {lo hi n : Nat} {v : Value} {l : List (List Int)} (h : ISS w lo hi v l) (hn : n < lo ∨ hi ≤ n) (a b c : Value) : ISS (((w.setCell ⟨n, 0, Option.none⟩ a).setCell ⟨n, 1, Option.none⟩ b).setCell ⟨n, 2, Option.none⟩ c) lo hi v l := by
  have k : ∀ (w : World) (i : Nat) (x : Value), ISS w lo hi v l → ISS (w.setCell ⟨n, i, Option.none⟩ x) lo hi v l := fun w i x h => h.of_blocks fun b h1 h2 _ => Below.heap_setCell _ _ _ _ (by intro e; have e : b = n := e; omega)
  exact k _ 2 c (k _ 1 b (k _ 0 a h))
theorem ISS.curP {w w' : World} {lo hi p : Nat} {v : Value} {ls : List (List Int)} (h : ISS w lo hi v ls) (hg : w.grownBy w' (some p)) (hp : p < lo) : ISS w' lo hi v ls :=
  h.of_blocks fun b h1 h2 h3 => hg.block b h3 (by intro e; injection e with e; omega)
theorem rows3_at {G : List (List Int)} (h : rows3 G) {i : Nat} (hi : i < G.length) : ∃ a b, G.getD i [] = [a, b] ∧ (-3 ≤ a ∧ a ≤ 3) ∧ (-3 ≤ b ∧ b ≤ 3) := by
  obtain ⟨l, hb⟩ := h.2 i hi
  obtain ⟨a, b, e⟩ := len2k l
  have b0 := allIn_at hb 0 (by omega)
  have b1 := allIn_at hb 1 (by omega)
  rw [e] at b0 b1
  exact ⟨a, b, e, b0, b1⟩

theorem OwnTp.cur {w w' : World} {B m p : Nat} {v : Value} {ts : List TermL} {V2 V3 : Nat → Value} (h : OwnTp w B v ts V2 V3 m) (hg : w.grownBy w' (some p)) (hp : p < B) : OwnTp w' B v ts V2 V3 m := by
  obtain ⟨P, q, r, h1, h2, h3, h4, h5⟩ := h
  refine ⟨P, q, r, ?_, h2, Nat.le_trans h3 hg.size, fun i hi => ⟨(h4 i hi).1, (h4 i hi).2.1, (h4 i hi).2.2.of_blocks fun b b1 b2 b3 => hg.block b b3 (by intro e; injection e with e; have := (h4 i hi).1.1; omega)⟩, h5⟩
  refine World.ownsRow.kept h1 (row := some p) hg ?_
  right
  intro e
  have := (World.ownsRow.lt h1 p e).1
  omega
theorem TS.curP {w w' : World} {lo hi p : Nat} {v : Value} {ts : List TermL} (h : TS w lo hi v ts) (hg : w.grownBy w' (some p)) (hp : p < lo) : TS w' lo hi v ts :=
  h.of_blocks fun b h1 h2 h3 => hg.block b h3 (by intro e; injection e with e; omega)
theorem TS.lit1 {w : World} {p q r : Nat} {s : Int} {u1 u2 : Value} {U : List Int} {G : List (List Int)} (h1 : IS w p q u1 U) (h2 : ISS w q r u2 G) (hpq : p ≤ q) (hqr : q ≤ r) (hs : -9223372036854775808 ≤ s ∧ s ≤ 9223372036854775807) (hr : r ≤ w.heap.size) :
    TS (w.alloc (.cells #[.int .i64 s, u1, u2] 50)) p (w.heap.size + 1) (.slice (some ⟨w.heap.size, 0, none⟩) 1 1) [(s, U, G)] := by
  have cA := below1 w (.cells #[.int .i64 s, u1, u2] 50)
  refine ⟨_, 1, rfl, by simp, by simp [maxLen], fun _ => ⟨w.heap.size, 0, fun _ => u1, fun _ => u2, fun _ => p, fun _ => q, fun _ => r, rfl, by omega, by omega, ⟨_, heap_alloc_new w _, fun i hi => ?_⟩, fun i hi => ?_, fun i j hij hj => ?_⟩⟩
  · have hi : i < 3 := hi
    rcases (show i = 0 ∨ i = 1 ∨ i = 2 by omega) with rfl | rfl | rfl <;> rfl
  · have hi : i < 1 := hi
    obtain rfl : i = 0 := by omega
    exact ⟨⟨Nat.le_refl _, by show r ≤ w.heap.size + 1; omega⟩, .inr hr, hpq, hqr, hs, h1.keep cA (by omega), h2.keep cA hr⟩
  · have hj : j < 1 := hj
    omega
set_option maxRecDepth 100000 in
set_option maxHeartbeats 8000000 in
theorem DrawSeriesAt_any (v : Value) (l : List Int) (hb : Nat) (w : World) (h : ISb w hb v l) (hhb : hb ≤ w.heap.size) :
    Calls Try.prog 118 #[v] w fun e w' => (∃ u u3 ts X, e = .returned (.tuple #[u, u3]) ∧ TSr w' w'.heap.size u ts ∧ ISr w' w'.heap.size u3 X) ∧ Below w.heap.size w w' := by
  have N0 := l1New_any v l hb w h hhb
  unfold curP at N0
  go_enter Try.func118, Try.ntmps118
  go_wp2_with fail
  refine N0.mono ?_
  rintro e w0 ⟨rfl, hc, hbel, hsz⟩
  have hz0 : w.heap.size < w0.heap.size := by omega
  have HB := Lib.hid hbel
  have DD := l9Draw_any w.heap.size hb w0 hc
  unfold curP at DD
  clear hbel hsz N0 h
  go_wp2_with fail
  refine DD.mono ?_
  clear DD
  rintro e w1 ⟨u1, u2, U, V, rfl, i1, i2, hc1, hg1⟩
  obtain ⟨a1, c1, rfl⟩ := i1.form
  obtain ⟨a2, c2, rfl⟩ := i2.form
  have HG1 := Lib.hid hg1
  have LD := l2DrawI_any w.heap.size hb 2 3 w1 hc1 (by omega) (by omega)
  unfold curP at LD
  have z01 := hg1.size
  clear hc hg1
  go_wp2_with fail
  refine LD.mono ?_
  clear LD
  rintro e w2 ⟨u3, S, rfl, ho3, hl3, ha3, hc2, hg2⟩
  have I2 := Lib.hid (i1.cur hg2 hz0)
  have J2 := Lib.hid (i2.cur hg2 hz0)
  have K2 := Lib.hid (show ISu w2 w1.heap.size u3 S from ho3.is)
  obtain ⟨a3, c3, rfl⟩ := K2.out.form
  have HG2 := Lib.hid (grown_trans HG1.out hg2)
  have HC2 := Lib.hid hc2
  have z12 := hg2.size
  have SO := specSeriesOfCone_own U V S _ _ _ _ w2 I2.out.read J2.out.read K2.out.read (Nat.le_refl _)
  have hts := (serC_tot U V S).2
  generalize (serC U V S).2 = ok at *
  generalize (serC U V S).1 = ts at *
  clear ho3 hl3 ha3 hc2 hg2 hc1 i1 i2 HG1
  go_wp2_with fail
  refine SO.mono ?_
  clear SO
  rintro e w3 ⟨u4, rfl, ⟨V2, V3, m, hown⟩, d3⟩
  have HC3 := Lib.hid (HC2.out.below d3 HC2.out.lt)
  have HG3 := Lib.hid (grown_then HG2.out (d3.mono (by omega)))
  have O3 := Lib.hid hown
  obtain ⟨a4, c4, rfl⟩ := hown.form
  have z23 := d3.size
  clear hown d3 HC2 HG2 I2 J2 K2
  have BB := l1Once_any w.heap.size hb 4 w3 HC3.out (by omega) (by omega)
  unfold curP at BB
  go_wp2_with fail
  refine BB.mono ?_
  clear BB
  rintro e w4 ⟨b4, rfl, hc4, hg4⟩
  have O4 := Lib.hid (O3.out.cur hg4 (by omega))
  have HC4 := Lib.hid hc4
  have HG4 := Lib.hid (grown_trans HG3.out hg4)
  have z34 := hg4.size
  clear hc4 hg4 O3 HC3 HG3
  cases b4
  · have LD := l2DrawI_any w.heap.size hb 2 8 w4 HC4.out (by omega) (by omega)
    unfold curP at LD
    go_wp2_with fail
    refine LD.mono ?_
    clear LD
    rintro e w7 ⟨u7, X, rfl, ho7, hl7, ha7, hc7, hg7⟩
    have TT := Lib.hid ((O4.out.is.curP hg7 (by omega)).read.upto hg7.size)
    have K7 := Lib.hid (show ISr w7 w7.heap.size u7 X from ho7.is.read)
    obtain ⟨a7, c7, rfl, -⟩ := id K7.out
    have HF := Lib.hid (HB.out.trans (grown_below (grown_trans HG4.out hg7) (by omega) (Nat.le_refl _)))
    clear ho7 hl7 ha7 hc7 hg7
    go_wp2
    go_returns
    exact ⟨⟨_, _, ts, X, rfl, TT.out, K7.out⟩, HF.out⟩
  · have DD := l10Term_any w.heap.size hb w4 HC4.out
    unfold curP at DD
    go_wp2_with fail
    refine DD.mono ?_
    clear DD
    rintro e w5 ⟨s, u5, u6, U5, G5, rfl, hs, -, ⟨m5, hm51, hm52, i5, i6⟩, hc5, hg5⟩
    obtain ⟨a5, c5, rfl, -⟩ := id i5
    obtain ⟨a6, c6, rfl, -⟩ := id i6
    have O5 := Lib.hid (O4.out.cur hg5 (by omega))
    have HG5 := Lib.hid (grown_trans HG4.out hg5)
    have SRC := Lib.hid (TS.lit1 i5 i6 hm51 hm52 (by omega) (Nat.le_refl _) (s := s))
    have cA := below1 w5 (.cells #[.int .i64 s, .slice a5 U5.length c5, .slice a6 G5.length c6] 50)
    have z45 := hg5.size
    have hm4 := O4.out.le
    have O6 := Lib.hid (O5.out.keep (cA.mono (by omega)))
    have HC6 := Lib.hid (hc5.below cA hc5.lt)
    have HG6 := Lib.hid (grown_then HG5.out (cA.mono (by omega)))
    have hz6 : (w5.alloc (.cells #[.int .i64 s, .slice a5 U5.length c5, .slice a6 G5.length c6] 50)).heap.size = w5.heap.size + 1 := by simp
    have HZ6 := Lib.hid hz6
    clear i5 i6 hc5 hg5 O4 HC4 HG4 O5 HG5 cA hz6
    go_wp2_with (at_builtin; refine wpList_append_T rfl _ _ rfl rfl rfl O6.out SRC.out (by omega) (by omega) (by rw [HZ6.out]; exact Nat.le_refl _) (by simp; omega) (by rw [HZ6.out]; omega) ?_)
    intro a7 c7 w7 V2' V3' ho7 hg7
    have B7 : Below w2.heap.size (w5.alloc (.cells #[.int .i64 s, .slice a5 U5.length c5, .slice a6 G5.length c6] 50)) w7 := (Below.refl w2.heap.size _).grown hg7 (by rw [HZ6.out]; omega) (fun k hk => (O6.out.blk k hk).1)
    have HC7 := Lib.hid (HC6.out.below B7 (by omega))
    have HG7 := Lib.hid (grown_then HG6.out (B7.mono (by omega)))
    have z67 := B7.size
    have O7 := Lib.hid ho7
    have hz57 : w5.heap.size ≤ w7.heap.size := by rw [HZ6.out] at z67; omega
    clear B7 hg7 ho7 O6 SRC HC6 HG6 z67
    obtain ⟨tt, htt⟩ : ∃ tt, ts ++ [(s, U5, G5)] = tt := ⟨_, rfl⟩
    try rw [htt]
    rw [htt] at O7
    clear htt
    have LD := l2DrawI_any w.heap.size hb 2 8 w7 HC7.out (by omega) (by omega)
    unfold curP at LD
    go_wp2_with fail
    refine LD.mono ?_
    clear LD
    rintro e w8 ⟨u8, X, rfl, ho8, hl8, ha8, hc8, hg8⟩
    have TT := Lib.hid ((O7.out.is.curP hg8 (by omega)).read.upto hg8.size)
    have K8 := Lib.hid (show ISr w8 w8.heap.size u8 X from ho8.is.read)
    obtain ⟨a8, c8, rfl, -⟩ := id K8.out
    have HF := Lib.hid (HB.out.trans (grown_below (grown_trans HG7.out hg8) (by omega) (Nat.le_refl _)))
    clear ho8 hl8 ha8 hc8 hg8
    go_wp2
    go_returns
    exact ⟨⟨_, _, _, X, rfl, TT.out, K8.out⟩, HF.out⟩
end Go.Proofs.Ytehhoplenloocaa
