/- B3: texts in one: OpenT TermL TermE TermT Term TermS HitM Hit HitS TermA TermB Pow Pts PtsS TvM Tv TvS. -/
import Derived.Test.YtfncikbmdaameaaB2
import Derived.Test.YtfncikbmdaameaaB1
import Derived.Deep.RegionHeld3
import Derived.Deep.RegionWith
/- What comes in: terms. -/
namespace Go.Proofs.Ytfncikbmdaameaa
open Go.ChangeShapes Go.WideShapes Go.ChangeAt Go.RowKit Go.Joins
set_option linter.unusedVariables false
set_option linter.unusedSimpArgs false

/-- a term that may be read -/
def TermR (w : World) (hi : Nat) (v : Value) (x : Int × List Int × List (List Int)) : Prop := ∃ v2 v3, v = .agg #[.int .i64 x.1, v2, v3] ∧ (-9223372036854775808 ≤ x.1 ∧ x.1 ≤ 9223372036854775807) ∧ ISr w hi v2 x.2.1 ∧ ISSr w hi v3 x.2.2

set_option maxRecDepth 100000 in
theorem openTerm {H : Type} {enc : TypeId × Value → H} {W : World} {base : Nat} {v : Value} {d : DataW H} {p : List MemPlace}
    (hv : Value.okWide Try.prog W .any base 101 v) (h : DataW.Trod enc Try.prog W 0 (fun _ => true) true 101 v d p) : ∃ x, TermR W W.heap.size v x := by
  obtain ⟨c0, c1, c2, y0, y1, y2, m, rfl, -, -, hy0, hy1, hy2⟩ := open_agg3 Try.underlying101 (by kernel_rfl) (by kernel_rfl) hv h
  obtain ⟨n, e0, rfl, wn⟩ := DataW.trod_int Try.underlying3 hy0
  obtain ⟨l1, j1⟩ := openIntsCell hy1
  obtain ⟨l2, j2⟩ := openIntssCells hy2
  simp at e0
  subst e0
  exact ⟨(n, l1, l2), c1, c2, rfl, bounds_i64 wn, j1, j2⟩
end Go.Proofs.Ytfncikbmdaameaa

/- Terms as the laws measure and compare them. -/
namespace Go.Proofs.Ytfncikbmdaameaa
open Go.RowKit
set_option linter.unusedVariables false
set_option linter.unusedSimpArgs false

/-- a box of three cells that may be written -/
structure Box3 (w : World) (n : Nat) (x y z : Value) : Prop where
  lt : n < w.heap.size
  c0 : w.cell? ⟨n, 0, none⟩ = some x
  c1 : w.cell? ⟨n, 1, none⟩ = some y
  c2 : w.cell? ⟨n, 2, none⟩ = some z
  f0 : w.frozen? ⟨n, 0, none⟩ = false
  f1 : w.frozen? ⟨n, 1, none⟩ = false
  f2 : w.frozen? ⟨n, 2, none⟩ = false
theorem box3_new (w : World) (x y z : Value) (t : TypeId) : Box3 (w.alloc (.cells #[x, y, z] t)) w.heap.size x y z :=
  ⟨by simp, by rw [World.cell?_alloc_at _ _ _ _ rfl]; rfl, by rw [World.cell?_alloc_at _ _ _ _ rfl]; rfl, by rw [World.cell?_alloc_at _ _ _ _ rfl]; rfl, World.frozen?_alloc_at _ _ _ _ rfl, World.frozen?_alloc_at _ _ _ _ rfl, World.frozen?_alloc_at _ _ _ _ rfl⟩
theorem Box3.keep {w w1 : World} {n : Nat} {x y z : Value} (h : Box3 w n x y z) (hb : Below w.heap.size w w1) : Box3 w1 n x y z :=
  ⟨Nat.lt_of_lt_of_le h.lt hb.size, (hb.cell h.lt).trans h.c0, (hb.cell h.lt).trans h.c1, (hb.cell h.lt).trans h.c2, (hb.frozen h.lt).trans h.f0, (hb.frozen h.lt).trans h.f1, (hb.frozen h.lt).trans h.f2⟩
theorem Box3.other {w : World} {n : Nat} {x y z : Value} (h : Box3 w n x y z) {a : Addr} (ha : a.block ≠ n) (u : Value) : Box3 (w.setCell a u) n x y z := by
  have e : ∀ k, (⟨n, k, none⟩ : Addr) ≠ a := fun k e => ha (by rw [← e])
  exact ⟨by simpa using h.lt, by rw [World.cell?_setCell_other _ _ _ _ (by first | exact e 0 | exact (e 0).symm)]; exact h.c0, by rw [World.cell?_setCell_other _ _ _ _ (by first | exact e 1 | exact (e 1).symm)]; exact h.c1, by rw [World.cell?_setCell_other _ _ _ _ (by first | exact e 2 | exact (e 2).symm)]; exact h.c2, by rw [World.frozen?_setCell]; exact h.f0, by rw [World.frozen?_setCell]; exact h.f1, by rw [World.frozen?_setCell]; exact h.f2⟩

set_option maxHeartbeats 1000000 in
theorem szTerm_any (s : Value) (U : List Int) (G : List (List Int)) (v1 v2 : Value) (hb : Nat) (w : World) (i1 : ISr w hb v1 U) (i2 : ISSr w hb v2 G) (hhb : hb ≤ w.heap.size) :
    Calls Try.prog 111 #[.agg #[s, v1, v2], .int .i64 1048576] w fun e w' => e = .returned (.int .i64 (szTot (U.length + totS G))) ∧ Below w.heap.size w w' := by
  have B0 := below1 w (.cells #[s, v1, v2] 101)
  have j1 := i1.keep B0 hhb
  have j2 := i2.keep B0 hhb
  have bx := box3_new w s v1 v2 101
  have x0 := bx.c0
  have x1 := bx.c1
  have x2 := bx.c2
  have S1 := szIntS_any U v1 1048576 hb _ j1 (by omega) (by omega)
  by_cases hc : 1048576 < U.length
  · have e1 : szL U.length 1048576 = -1 := by unfold szL; rw [if_pos (by omega)]
    rw [e1] at S1
    have e2 : szTot (U.length + totS G) = -1 := by unfold szTot; rw [if_neg (by omega)]
    rw [e2]
    clear e1 e2
    go_enter Try.func111, Try.ntmps111
    go_wp2_with (go_at_call 173; (with_reducible refine S1.mono ?_); rintro e w' ⟨rfl, rfl⟩)
    go_ret
    exact ⟨rfl, B0⟩
  · have e1 : szL U.length 1048576 = 1048576 - (U.length : Int) := by unfold szL; rw [if_neg (by omega)]
    rw [e1] at S1
    clear e1
    have S2 := szIntSS_any G v2 (1048576 - (U.length : Int)) hb _ j2 (by omega) (by omega)
    have hu : (0 : Int) ≤ 1048576 - (U.length : Int) := by omega
    by_cases h2 : U.length + totS G ≤ 1048576
    · have e2 : szL (totS G) (1048576 - (U.length : Int)) = 1048576 - (U.length : Int) - totS G := by unfold szL; rw [if_neg (by omega)]
      have e3 : szTot (U.length + totS G) = 1048576 - (U.length : Int) - totS G := by unfold szTot; rw [if_pos h2]; omega
      rw [e2] at S2
      rw [e3]
      have hr : 0 ≤ 1048576 - (U.length : Int) - totS G := by omega
      clear e2 e3
      generalize 1048576 - (U.length : Int) - totS G = r at *
      generalize hm : 1048576 - (U.length : Int) = m at *
      clear hm hc h2
      go_enter Try.func111, Try.ntmps111
      go_wp2_with (first | (go_at_call 173; (with_reducible refine S1.mono ?_); rintro e w' ⟨rfl, rfl⟩) | (go_at_call 174; (with_reducible refine S2.mono ?_); rintro e w' ⟨rfl, rfl⟩))
      go_ret
      exact ⟨rfl, B0⟩
    · have e2 : szL (totS G) (1048576 - (U.length : Int)) = -1 := by unfold szL; rw [if_pos (by omega)]
      have e3 : szTot (U.length + totS G) = -1 := by unfold szTot; rw [if_neg h2]
      rw [e2] at S2
      rw [e3]
      clear e2 e3
      generalize hm : 1048576 - (U.length : Int) = m at *
      clear hm hc h2
      go_enter Try.func111, Try.ntmps111
      go_wp2_with (first | (go_at_call 173; (with_reducible refine S1.mono ?_); rintro e w' ⟨rfl, rfl⟩) | (go_at_call 174; (with_reducible refine S2.mono ?_); rintro e w' ⟨rfl, rfl⟩))
      go_ret
      exact ⟨rfl, B0⟩
end Go.Proofs.Ytfncikbmdaameaa

/- Terms as the laws compare them. -/
namespace Go.Proofs.Ytfncikbmdaameaa
open Go.RowKit
set_option linter.unusedVariables false
set_option linter.unusedSimpArgs false

set_option maxHeartbeats 1000000 in
theorem eqTerm_any (s : Int) (U : List Int) (G : List (List Int)) (v1 v2 u1 u2 : Value) (h1 h2 : Nat) (w : World) (i1 : ISr w h1 v1 U) (i2 : ISSr w h1 v2 G) (j1 : ISr w h2 u1 U) (j2 : ISSr w h2 u2 G) (hb1 : h1 ≤ w.heap.size) (hb2 : h2 ≤ w.heap.size) :
    Calls Try.prog 114 #[.agg #[.int .i64 s, v1, v2], .agg #[.int .i64 s, u1, u2]] w fun e w' => e = .returned (.bool true) ∧ Below w.heap.size w w' := by
  have B0 := below2 w (.cells #[.int .i64 s, v1, v2] 92) (.cells #[.int .i64 s, u1, u2] 92)
  have bx := (box3_new w (.int .i64 s) v1 v2 92).keep (below1 _ (.cells #[.int .i64 s, u1, u2] 92))
  have by' := box3_new (w.alloc (.cells #[.int .i64 s, v1, v2] 92)) (.int .i64 s) u1 u2 92
  have x0 := bx.c0
  have x1 := bx.c1
  have x2 := bx.c2
  have y0 := by'.c0
  have y1 := by'.c1
  have y2 := by'.c2
  simp only [World.size_alloc] at y0 y1 y2
  have E1 := fun n => eqIntS_any U U v1 u1 h1 h2 _ ((i1.keep B0 hb1).draws n) ((j1.keep B0 hb2).draws n)
  have E2 := fun n => eqIntSS_any G G v2 u2 h1 h2 _ ((i2.keep B0 hb1).draws n) ((j2.keep B0 hb2).draws n)
  have t1 : decide (U = U) = true := by simp
  have t2 : decide (G = G) = true := by simp
  simp only [t1] at E1
  simp only [t2] at E2
  clear t1 t2
  have hss : (s != s) = false := by simp
  go_enter Try.func114, Try.ntmps114
  go_wp2_with fail
  refine (E1 0).mono ?_
  rintro e w' ⟨rfl, d1, rfl⟩
  go_wp2_with fail
  refine (E2 d1).mono ?_
  rintro e w' ⟨rfl, d2, rfl⟩
  go_wp2
  go_ret
  exact ⟨rfl, B0.trans (below_draws _ _ _)⟩
end Go.Proofs.Ytfncikbmdaameaa

/- Terms as the laws copy them. -/
namespace Go.Proofs.Ytfncikbmdaameaa
open Go.RowKit
set_option linter.unusedVariables false
set_option linter.unusedSimpArgs false

theorem ISS.setOther {w : World} {lo hi : Nat} {v : Value} {l : List (List Int)} (h : ISS w lo hi v l) {a : Addr} (ha : a.block < lo ∨ hi ≤ a.block) (u : Value) : ISS (w.setCell a u) lo hi v l :=
  h.of_blocks fun b h1 h2 h3 => Below.heap_setCell w a u b (by omega)
set_option maxHeartbeats 2000000 in
theorem toTerm_any (s : Int) (U : List Int) (G : List (List Int)) (v1 v2 : Value) (hb : Nat) (w : World) (i1 : ISr w hb v1 U) (i2 : ISSr w hb v2 G) (hhb : hb ≤ w.heap.size) (hl1 : U.length ≤ 1048576) (hl2 : G.length ≤ 1048576) (hl3 : ∀ i, i < G.length → (G.getD i []).length ≤ 1048576) :
    Calls Try.prog 113 #[.agg #[.int .i64 s, v1, v2]] w fun e w' => ∃ u1 u2, e = .returned (.agg #[.int .i64 s, u1, u2]) ∧ IS w' (w.heap.size + 3) (w.heap.size + 4) u1 U ∧ ISS w' (w.heap.size + 4) (w.heap.size + 5 + G.length) u2 G ∧ Below w.heap.size w w' ∧ w'.heap.size = w.heap.size + 5 + G.length := by
  have HT := fun w' (h' : ISr w' hb v1 U) (hh : hb ≤ w'.heap.size) => toIntS_any U v1 hb w' h' hh hl1
  have HT2 := fun w' (h' : ISSr w' hb v2 G) (hh : hb ≤ w'.heap.size) => toIntSS_any G v2 hb w' h' hh hl2 hl3
  have I1 := Lib.hid i1
  have I2 := Lib.hid i2
  clear i1 i2
  go_enter Try.func113, Try.ntmps113
  go_wp2_with fail
  have B0 := below3 w (.cells #[.int .i64 s, v1, v2] 101) (.cells #[.int .i64 0, .slice none 0 0, .slice none 0 0] 92) (.cells #[.int .i64 s, .slice none 0 0, .slice none 0 0] 92)
  refine (HT _ (I1.out.keep B0 hhb) (by simp; omega)).mono ?_
  rintro e w1 ⟨u1, rfl, k1, b1, s1⟩
  obtain ⟨c1, f1⟩ := bcell b1
  have J2 := Lib.hid ((I2.out.keep B0 hhb).keep b1 (by simp; omega))
  have B1 := Lib.hid (below_then B0 (by simp; omega) b1)
  have S1 := s1
  simp only [World.size_alloc] at S1
  have hz : w.heap.size + 1 + 1 < w1.heap.size := by omega
  have HS1 := Lib.hid S1
  obtain ⟨a1, cp1, rfl, -⟩ := id k1
  have K1 := Lib.hid k1
  clear s1 S1 k1 HT I1 I2 B0
  clear b1
  go_wp2_with fail
  have J3 := J2.out.keep ((Below.refl w.heap.size w1).setCell (p := ⟨w.heap.size + 1 + 1, 1, none⟩) (by show w.heap.size ≤ w.heap.size + 1 + 1; omega) (.slice a1 U.length cp1)) hhb
  refine (HT2 _ J3 (by simp; omega)).mono ?_
  rintro e w2 ⟨u2, rfl, k2, b2, s2⟩
  obtain ⟨c2, f2⟩ := bcell b2
  have B2 := Lib.hid (below_then (B1.out.setCell (p := ⟨w.heap.size + 1 + 1, 1, none⟩) (by show w.heap.size ≤ w.heap.size + 1 + 1; omega) (.slice a1 U.length cp1)) (by simp; omega) b2)
  have S2 := s2
  simp only [World.size_setCell] at S2
  have hz1 : w.heap.size + 1 < w1.heap.size := by omega
  have hz3 : w.heap.size + 1 < w2.heap.size := by omega
  have hz2 : w.heap.size + 1 + 1 < w2.heap.size := by omega
  have HS2 := Lib.hid S2
  have K1' := Lib.hid ((K1.out.setOther (a := ⟨w.heap.size + 1 + 1, 1, none⟩) (.inl (by show w.heap.size + 1 + 1 < _; simp)) (.slice a1 U.length cp1)).keep b2 (by simp [HS1.out]))
  obtain ⟨a2, cp2, rfl, -⟩ := id k2
  have K2 := Lib.hid k2
  clear b2 s2 S2 k2 J3 J2 HT2 K1 B1
  go_wp2_with fail
  have HS2' := HS2.out
  have HS1' := HS1.out
  refine bodyPost_ret (v := .agg #[.int .i64 s, .slice a1 U.length cp1, .slice a2 G.length cp2]) (by simp [results, Try.results113, go_sem, c1, c2, hz, hz1, hz2, hz3]) rfl ⟨_, _, rfl, ?_, ?_, ?_, ?_⟩
  · have k := K1'.out.mono (lo' := w.heap.size + 3) (hi' := w.heap.size + 4) (by simp) (by simp)
    refine ((((k.setOther (.inl ?_) _).setOther (.inl ?_) _).setOther (.inl ?_) _).setOther (.inl ?_) _)
    all_goals (dsimp only; omega)
  · have k := K2.out.mono (lo' := w.heap.size + 4) (hi' := w.heap.size + 5 + G.length) (by simp; omega) (by simp; omega)
    refine ((((k.setOther (.inl ?_) _).setOther (.inl ?_) _).setOther (.inl ?_) _).setOther (.inl ?_) _)
    all_goals (dsimp only; omega)
  · refine ((((B2.out.setCell ?_ _).setCell ?_ _).setCell ?_ _).setCell ?_ _)
    all_goals (dsimp only; omega)
  · simp; omega
end Go.Proofs.Ytfncikbmdaameaa

/- Terms: IsTerm, the plain law and the walks. -/
namespace Go.Proofs.Ytfncikbmdaameaa
open Go.RowKit
set_option linter.unusedVariables false
set_option linter.unusedSimpArgs false

def magI (a : Int) : Int := if a = -9223372036854775808 then a else max a (-a)
theorem magI_one (a : Int) : magI a = 1 ↔ (a = 1 ∨ a = -1) := by unfold magI; split <;> omega
set_option maxHeartbeats 400000 in
theorem magnitude_w (a : Int) (w : World) (ha : -9223372036854775808 ≤ a) (ha' : a ≤ 9223372036854775807) :
    Calls Try.prog 160 #[.int .i64 a] w fun e w' => e = .returned (.int .i64 (magI a)) ∧ w = w' := by
  by_cases h : a = -9223372036854775808
  · subst h
    go_enter Try.func160, Try.ntmps160
    go_wp2
    all_goals go_ret
    all_goals exact ⟨ret_int (by first | (unfold wrap64 magI; omega) | (unfold magI; omega)), rfl⟩
  · have := magnitude_any a w (by omega) ha'
    unfold magI; rw [if_neg h]; exact this

def genB (g : List Int) : Bool := ptB g 30 && decide (gcdL g ≠ 0)
def termB (s : Int) (U : List Int) (G : List (List Int)) : Bool :=
  decide (s = 1 ∨ s = -1) && ptB U 1000 && decide (G.length ≤ 2) && G.all genB && decide (G.length = 2 → crossI (G.getD 0 []) (G.getD 1 []) ≠ 0)
theorem all_getD {G : List (List Int)} {p : List Int → Bool} (h : ∀ k, k < G.length → p (G.getD k []) = true) : G.all p = true := by
  rw [List.all_eq_true]
  intro x hx
  obtain ⟨i, hi, rfl⟩ := List.mem_iff_getElem.1 hx
  have := h i hi
  rwa [List.getD_eq_getElem?_getD, List.getElem?_eq_getElem hi] at this
theorem all_getD_no {G : List (List Int)} {p : List Int → Bool} {k : Nat} (hk : k < G.length) (h : p (G.getD k []) = false) : G.all p = false := by
  rw [List.all_eq_false]
  refine ⟨G.getD k [], ?_, by rw [h]; simp⟩
  rw [List.getD_eq_getElem?_getD, List.getElem?_eq_getElem hk]; exact List.getElem_mem hk
theorem termB_no {s : Int} {U : List Int} {G : List (List Int)} {k : Nat} (hk : k < G.length) (h : genB (G.getD k []) = false) : termB s U G = false := by
  unfold termB; rw [all_getD_no hk h]; simp
theorem termB_all {s : Int} {U : List Int} {G : List (List Int)} (h1 : s = 1 ∨ s = -1) (h2 : ptB U 1000 = true) (h3 : G.length ≤ 2) (h : ∀ k, k < G.length → genB (G.getD k []) = true) : termB s U G = decide (G.length = 2 → crossI (G.getD 0 []) (G.getD 1 []) ≠ 0) := by
  unfold termB; rw [all_getD h, h2, decide_eq_true h1, decide_eq_true h3]; simp
theorem ptB_bd {g : List Int} {m : Int} (h : ptB g m = true) (hm : m ≤ 1000000000) : g.length = 2 ∧ allIn g (-1000000000) 1000000000 = true ∧ (∀ k, k < g.length → -1000000000 ≤ g.getD k 0 ∧ g.getD k 0 ≤ 1000000000) := by
  obtain ⟨h1, h2⟩ := ptB_len h
  have h3 := allIn_mono (c := -1000000000) (d := 1000000000) h2 (by omega) (by omega)
  exact ⟨h1, h3, allIn_at h3⟩

set_option maxHeartbeats 2000000 in
theorem implIsTerm_any (s : Int) (U : List Int) (G : List (List Int)) (v1 v2 : Value) (hb : Nat) (w : World) (hs : -9223372036854775808 ≤ s ∧ s ≤ 9223372036854775807) (i1 : ISr w hb v1 U) (i2 : ISSr w hb v2 G) (hhb : hb ≤ w.heap.size) :
    Calls Try.prog 105 #[.agg #[.int .i64 s, v1, v2]] w fun e w' => e = .returned (.bool (termB s U G)) ∧ Below w.heap.size w w' := by
  have B0 := below1 w (.cells #[.int .i64 s, v1, v2] 92)
  have M := fun w => magnitude_w s w hs.1 hs.2
  by_cases h1 : s = 1 ∨ s = -1
  case neg =>
    have hr : termB s U G = false := by simp [termB, h1]
    have hm : (magI s != 1) = true := by rw [bne_iff_ne]; intro h; exact h1 ((magI_one s).1 h)
    rw [hr]
    clear hr h1
    generalize magI s = m at *
    go_enter Try.func105, Try.ntmps105
    go_wp2_with (go_at_call 160; (with_reducible refine (M _).mono ?_); rintro e w' ⟨rfl, rfl⟩)
    go_ret
    exact ⟨rfl, B0⟩
  have hm : (magI s != 1) = false := by rw [bne_eq_false_iff_eq]; exact (magI_one s).2 h1
  generalize magI s = m at *
  have P := isPoint_any U v1 1000 hb _ (i1.keep B0 hhb) (by omega) (by omega)
  cases h2 : ptB U 1000
  · have hr : termB s U G = false := by simp [termB, h2]
    rw [hr]
    rw [h2] at P
    clear hr h1 h2
    go_enter Try.func105, Try.ntmps105
    go_wp2_with (first | (go_at_call 160; (with_reducible refine (M _).mono ?_); rintro e w' ⟨rfl, rfl⟩) | (go_at_call 152; (with_reducible refine P.mono ?_); rintro e w' ⟨rfl, rfl⟩))
    go_ret
    exact ⟨rfl, B0⟩
  rw [h2] at P
  have HSE := Lib.hid h1
  have HP := Lib.hid h2
  clear h1 h2
  by_cases h3 : G.length ≤ 2
  case neg =>
    have hr : termB s U G = false := by simp [termB, h3]
    rw [hr]
    obtain ⟨a, cap, rfl, -⟩ := i2
    clear hr
    have h3' : 2 < G.length := by omega
    clear h3
    generalize G.length = n at *
    go_enter Try.func105, Try.ntmps105
    go_wp2_with (first | (go_at_call 160; (with_reducible refine (M _).mono ?_); rintro e w' ⟨rfl, rfl⟩) | (go_at_call 152; (with_reducible refine P.mono ?_); rintro e w' ⟨rfl, rfl⟩))
    go_ret
    exact ⟨rfl, B0⟩
  have bx := box3_new w (.int .i64 s) v1 v2 92
  have HI2 := Lib.hid i2
  rcases i2.cases with ⟨rfl, a, cap, rfl⟩ | ⟨hpos, hlen, b, off, cap, V0, rfl, hbb, hcell⟩
  · have hr : termB s U [] = true := by rw [termB_all HSE.out HP.out (by simp) (fun k hk => absurd hk (Nat.not_lt_zero _))]; simp
    rw [hr]
    clear hr
    have x2 := bx.c2
    go_enter Try.func105, Try.ntmps105
    go_wp2_with (first | (go_at_call 160; (with_reducible refine (M _).mono ?_); rintro e w' ⟨rfl, rfl⟩) | (go_at_call 152; (with_reducible refine P.mono ?_); rintro e w' ⟨rfl, rfl⟩))
    refine wp_loop_rounds 1 ?_
    rw [rounds_succ]
    go_wp2
    go_quiet (fail)
    go_wp2
    go_ret
    exact ⟨rfl, B0.trans (below_draws _ _ _)⟩
  obtain ⟨n, hn⟩ : ∃ n, n = G.length := ⟨_, rfl⟩
  have BX := Lib.hid bx
  clear bx i2
  rw [← hn] at hlen hpos h3 P BX ⊢
  have HN := Lib.hid hn; clear hn
  have HC := Lib.hid hcell; clear hcell
  rw [← HN.out] at B0 HI2
  have HB0 := Lib.hid B0
  have x2 := BX.out.c2
  clear B0 i1
  go_enter Try.func105, Try.ntmps105
  go_wp2_with (first | (go_at_call 160; (with_reducible refine (M _).mono ?_); rintro e w' ⟨rfl, rfl⟩) | (go_at_call 152; (with_reducible refine P.mono ?_); rintro e w' ⟨rfl, rfl⟩))
  clear M P x2
  generalize w.alloc (.cells #[.int .i64 s, v1, .slice (some ⟨b, off, none⟩) n cap] 92) = w1 at *
  go_loopw [4, 24] (fun g i wr => ∃ (d k : Nat), k ≤ n ∧ i = .int .i64 k ∧ Hid (wr = w1.drewN d) ∧ Hid (∀ j, j < k → genB (G.getD j []) = true)) (fun _ i _ => n - (intOf i).toNat)
  case atStart => exact ⟨0, 0, by omega, rfl, Lib.hid rfl, fun j hj => absurd hj (Nat.not_lt_zero _)⟩
  case round =>
    obtain ⟨d, k, hk, rfl, HW, hall⟩ := hrel
    have HBW := Lib.hid (show Below w.heap.size w wr by rw [HW.out]; exact HB0.out.trans (below_draws _ _ _))
    by_cases hlt : k < n
    · have hkl : k < G.length := by rw [← HN.out]; exact hlt
      have hck := (HBW.out.cell (p := ⟨b, off + k, none⟩) (Nat.lt_of_lt_of_le hbb hhb)).trans (HC.out k hkl).1
      have hrow := (HC.out k hkl).2.keep HBW.out hhb
      have Q := isPoint_any _ _ 30 hb wr hrow (by omega) (by omega)
      cases g1 : ptB (G.getD k []) 30
      · have HR := Lib.hid (termB_no (s := s) (U := U) hkl (by simp only [genB, g1]; rfl))
        rw [g1] at Q
        clear g1 hkl hrow
        generalize V0 k = xk at *
        go_wp2_with (go_at_call 152; (with_reducible refine Q.mono ?_); rintro e w' ⟨rfl, rfl⟩)
        go_ret
        exact ⟨ret_bool HR.out.symm, HBW.out⟩
      · rw [g1] at Q
        have bd := ptB_bd g1 (by omega)
        have A := gcdAll_any _ _ hb wr hrow 1000000000 (by omega) bd.2.2
        by_cases g2 : gcdL (G.getD k []) = 0
        · have HR := Lib.hid (termB_no (s := s) (U := U) hkl (by simp only [genB, g2]; simp))
          have hz : (gcdL (G.getD k []) == 0) = true := by simpa using g2
          clear g1 g2 bd hkl hrow
          generalize gcdL (G.getD k []) = gg at *
          generalize V0 k = xk at *
          go_wp2_with (first | (go_at_call 152; (with_reducible refine Q.mono ?_); rintro e w' ⟨rfl, rfl⟩) | (go_at_call 136; (with_reducible refine A.mono ?_); rintro e w' ⟨rfl, d2, rfl⟩))
          go_ret
          exact ⟨ret_bool HR.out.symm, HBW.out.trans (below_draws _ _ _)⟩
        · have hz : (gcdL (G.getD k []) == 0) = false := by simpa using g2
          have HALL := Lib.hid (fun j (hj : j < k + 1) => show genB (G.getD j []) = true by
            by_cases e : j = k
            · subst e; simp only [genB, g1, Bool.true_and]; exact decide_eq_true g2
            · exact hall.out j (by omega))
          clear g1 g2 bd hkl hrow
          generalize gcdL (G.getD k []) = gg at *
          generalize V0 k = xk at *
          go_wp2_with (first | (go_at_call 152; (with_reducible refine Q.mono ?_); rintro e w' ⟨rfl, rfl⟩) | (go_at_call 136; (with_reducible refine A.mono ?_); rintro e w' ⟨rfl, d2, rfl⟩))
          go_roundw
          case rel => exact ⟨d + d2, k + 1, by omega, by go_num, Lib.hid (by rw [HW.out, World.drewN_drewN]), HALL⟩
          case measure => simp [intOf]; omega
    · obtain rfl : k = n := by omega
      have BXW := Lib.hid (BX.out.keep (show Below w1.heap.size w1 wr by rw [HW.out]; exact below_draws _ _ _))
      have x2 := BXW.out.c2
      have HFIN := Lib.hid (termB_all HSE.out HP.out (by rw [← HN.out]; exact h3) (fun j hj => hall.out j (by rw [HN.out]; exact hj)))
      by_cases h2 : k = 2
      · subst h2
        have c0 := (HBW.out.cell (p := ⟨b, off, none⟩) (Nat.lt_of_lt_of_le hbb hhb)).trans (HC.out 0 (by rw [← HN.out]; omega)).1
        have c1 := (HBW.out.cell (p := ⟨b, off + 1, none⟩) (Nat.lt_of_lt_of_le hbb hhb)).trans (HC.out 1 (by rw [← HN.out]; omega)).1
        have r0 := (HC.out 0 (by rw [← HN.out]; omega)).2.keep HBW.out hhb
        have r1 := (HC.out 1 (by rw [← HN.out]; omega)).2.keep HBW.out hhb
        have p0 := hall.out 0 (by omega)
        have p1 := hall.out 1 (by omega)
        simp only [genB, Bool.and_eq_true] at p0 p1
        have b0 := ptB_bd p0.1 (by omega)
        have b1 := ptB_bd p1.1 (by omega)
        have X := fun n => cross_any _ _ _ _ hb hb (wr.drewN n) (r0.draws n) (r1.draws n) b0.1 b1.1 b0.2.1 b1.2.1
        have HRR := Lib.hid (show termB s U G = (crossI (G.getD 0 []) (G.getD 1 []) != 0) by rw [HFIN.out, ← HN.out, Bool.eq_iff_iff]; simp)
        clear p0 p1 b0 b1 r0 r1
        generalize crossI (G.getD 0 []) (G.getD 1 []) = cc at *
        generalize V0 0 = x0 at *
        generalize V0 1 = x1 at *
        go_wp2
        go_quiet ((go_at_call 141; exact Calls.quiet_of (X _)))
        go_wp2
        go_ret
        exact ⟨ret_bool HRR.out.symm, HBW.out.trans (below_draws _ _ _)⟩
      · have hk1 : k = 1 := by omega
        subst hk1
        have HRR := Lib.hid (show termB s U G = true by rw [HFIN.out, ← HN.out]; simp)
        go_wp2
        go_quiet (fail)
        go_wp2
        go_ret
        exact ⟨ret_bool HRR.out.symm, HBW.out.trans (below_draws _ _ _)⟩
end Go.Proofs.Ytfncikbmdaameaa

/- Terms: IsTerm of the model. -/
namespace Go.Proofs.Ytfncikbmdaameaa
open Go.RowKit
set_option linter.unusedVariables false
set_option linter.unusedSimpArgs false

theorem vec_pt (U : List Int) : (vecB U && decide (U.length = 2)) = ptB U 1000 := by
  unfold vecB ptB
  by_cases h : U.length = 2
  · rw [h, decide_eq_true rfl]; simp [inB]
  · rw [decide_eq_false h]; simp

theorem vec_pt30 {g : List Int} (h : g.length = 2) : ptB g 30 = allIn g (-30) 30 := by unfold ptB; rw [decide_eq_true h]; rfl
set_option maxHeartbeats 2000000 in
theorem specIsTerm_any (s : Int) (U : List Int) (G : List (List Int)) (v1 v2 : Value) (hb : Nat) (w : World) (hs : -9223372036854775808 ≤ s ∧ s ≤ 9223372036854775807) (i1 : ISr w hb v1 U) (i2 : ISSr w hb v2 G) (hhb : hb ≤ w.heap.size) :
    Calls Try.prog 106 #[.agg #[.int .i64 s, v1, v2]] w fun e w' => e = .returned (.bool (termB s U G)) ∧ Below w.heap.size w w' := by
  have B0 := below1 w (.cells #[.int .i64 s, v1, v2] 92)
  have bx := box3_new w (.int .i64 s) v1 v2 92
  obtain ⟨n, hn⟩ : ∃ n, n = G.length := ⟨_, rfl⟩
  obtain ⟨au, cu, hvu, -, hcu, -⟩ := id i1
  obtain ⟨a, cap, hv2, hc2, hcm, hcell⟩ := id i2
  unfold maxLen at hcm hcu
  subst hvu
  subst hv2
  rw [← hn] at B0 bx hc2 ⊢
  have hlen : n ≤ 9223372036854775807 := by omega
  have HN := Lib.hid hn
  have HC := Lib.hid hcell
  have HI1 := Lib.hid i1
  have HB0 := Lib.hid B0
  have BX := Lib.hid bx
  clear hn hcell i1 i2 B0 bx hcm hcu hc2
  go_enter Try.func106, Try.ntmps106
  go_wp2
  generalize w.alloc (.cells #[.int .i64 s, .slice au U.length cu, .slice a n cap] 92) = w1 at *
  go_loopw [3] (fun i wr => ∃ (d k : Nat), k ≤ n ∧ i = .int .i64 k ∧ Hid (wr = w1.drewN d) ∧ Hid (∀ j, j < k → genB (G.getD j []) = true)) (fun i _ => n - (intOf i).toNat)
  case atStart => exact ⟨0, 0, by omega, rfl, Lib.hid rfl, fun j hj => absurd hj (Nat.not_lt_zero _)⟩
  case round =>
    obtain ⟨d, k, hk, rfl, HW, hall⟩ := hrel
    have HBW := Lib.hid (show Below w.heap.size w wr by rw [HW.out]; exact HB0.out.trans (below_draws _ _ _))
    have BXW := Lib.hid (BX.out.keep (show Below w1.heap.size w1 wr by rw [HW.out]; exact below_draws _ _ _))
    have x2 := BXW.out.c2
    by_cases hlt : k < n
    · have hkl : k < G.length := by rw [← HN.out]; exact hlt
      obtain ⟨b, off, V, rfl, hbb, hcc⟩ := HC.out (by intro e; rw [e] at hkl; exact absurd hkl (Nat.not_lt_zero _))
      have hck := (HBW.out.cell (p := ⟨b, off + k, none⟩) (Nat.lt_of_lt_of_le hbb hhb)).trans (hcc k hkl).1
      have hrow := (hcc k hkl).2.keep HBW.out hhb
      have Q := l2Small_any _ _ 30 hb wr hrow (by omega) (by omega)
      have hgp := fun (h2 : (G.getD k []).length = 2) => vec_pt30 h2
      have hno := termB_no (s := s) (U := U) hkl
      obtain ⟨ar, cr, hvr, -⟩ := id hrow
      clear hcc hkl
      generalize hgg : G.getD k [] = g at *
      generalize V k = xk at *
      by_cases h2 : g.length = 2
      case neg =>
        have HR := Lib.hid (hno (by simp [genB, ptB, h2]))
        have hne : ((g.length : Int) != 2) = true := by rw [bne_iff_ne]; omega
        clear hno h2 hgp hrow Q hgg
        subst hvr
        generalize g.length = m at *
        go_wp2
        go_ret
        exact ⟨ret_bool HR.out.symm, HBW.out⟩
      have hgp := hgp h2
      rw [h2] at hvr
      cases h3 : allIn g (-30) 30
      · have HR := Lib.hid (hno (by simp [genB, hgp, h3]))
        rw [h3] at Q
        clear hno h2 hgp hrow hgg h3
        subst hvr
        go_wp2_with (go_at_call 147; (with_reducible refine Q.mono ?_); rintro e w' ⟨rfl, d2, rfl⟩)
        go_ret
        exact ⟨ret_bool HR.out.symm, HBW.out.trans (below_draws _ _ _)⟩
      · have bd := ptB_bd (hgp.trans h3) (by omega)
        have A := fun d2 => l2All_any _ _ hb (wr.drewN d2) (hrow.draws d2) 1000000000 (by omega) bd.2.2
        rw [h3] at Q
        by_cases h4 : gcdL g = 0
        · have HR := Lib.hid (hno (by simp only [genB, h4]; simp))
          have hz : (gcdL g == 0) = true := by simpa using h4
          clear hno h2 hgp hrow hgg h3 h4 bd
          subst hvr
          generalize gcdL g = gg at *
          go_wp2_with (first | (go_at_call 147; (with_reducible refine Q.mono ?_); rintro e w' ⟨rfl, d2, rfl⟩) | (go_at_call 133; (with_reducible refine (A _).mono ?_); rintro e w' ⟨rfl, rfl⟩))
          go_ret
          exact ⟨ret_bool HR.out.symm, HBW.out.trans (below_draws _ _ _)⟩
        · have hz : (gcdL g == 0) = false := by simpa using h4
          have HALL := Lib.hid (fun j (hj : j < k + 1) => show genB (G.getD j []) = true by
            by_cases e : j = k
            · subst e; rw [hgg]; simp only [genB, hgp, h3, Bool.true_and]; exact decide_eq_true h4
            · exact hall.out j (by omega))
          clear hno h2 hgp hrow hgg h3 h4 bd
          subst hvr
          generalize gcdL g = gg at *
          go_wp2_with (first | (go_at_call 147; (with_reducible refine Q.mono ?_); rintro e w' ⟨rfl, d2, rfl⟩) | (go_at_call 133; (with_reducible refine (A _).mono ?_); rintro e w' ⟨rfl, rfl⟩))
          go_roundw
          case rel => exact ⟨d + d2, k + 1, by omega, by go_num, Lib.hid (by rw [HW.out, World.drewN_drewN]), HALL⟩
          case measure => simp [intOf]; omega
    · obtain rfl : k = n := by omega
      have x0 := BXW.out.c0
      have x1 := BXW.out.c1
      have HG := Lib.hid (all_getD (p := genB) (fun j hj => hall.out j (by rw [HN.out]; exact hj)))
      have HI := Lib.hid (HI1.out.keep HBW.out hhb)
      have IV := fun d2 => specIsVector_any U (.slice au U.length cu) hb (wr.drewN d2) (HI.out.draws d2)
      by_cases h2 : k = 2
      · subst h2
        obtain ⟨b, off, V, rfl, hbb, hcc⟩ := HC.out (by intro e; have := HN.out; rw [e] at this; cases this)
        have c0 := (HBW.out.cell (p := ⟨b, off, none⟩) (Nat.lt_of_lt_of_le hbb hhb)).trans (hcc 0 (by rw [← HN.out]; omega)).1
        have c1 := (HBW.out.cell (p := ⟨b, off + 1, none⟩) (Nat.lt_of_lt_of_le hbb hhb)).trans (hcc 1 (by rw [← HN.out]; omega)).1
        have r0 := (hcc 0 (by rw [← HN.out]; omega)).2.keep HBW.out hhb
        have r1 := (hcc 1 (by rw [← HN.out]; omega)).2.keep HBW.out hhb
        have p0 := hall.out 0 (by omega)
        have p1 := hall.out 1 (by omega)
        simp only [genB, Bool.and_eq_true] at p0 p1
        have b0 := ptB_bd p0.1 (by omega)
        have b1 := ptB_bd p1.1 (by omega)
        have X := fun n => l7Cross_any _ _ _ _ hb hb (wr.drewN n) (r0.draws n) (r1.draws n) b0.1 b1.1 b0.2.1 b1.2.1
        have HRR := Lib.hid (show termB s U G = (decide (s = 1 ∨ s = -1) && (vecB U && decide (U.length = 2)) && (crossI (G.getD 0 []) (G.getD 1 []) != 0)) by
          unfold termB; rw [HG.out, ← HN.out, vec_pt, Bool.eq_iff_iff]; simp)
        clear p0 p1 b0 b1 r0 r1 hcc
        generalize crossI (G.getD 0 []) (G.getD 1 []) = cc at *
        generalize V 0 = y0 at *
        generalize V 1 = y1 at *
        by_cases hc : cc = 0
        · subst hc
          go_wp2
          go_quiet ((go_at_call 148; exact Calls.quiet_of (X _)))
          go_wp2
          go_ret
          exact ⟨ret_bool (by rw [HRR.out]; simp), HBW.out.trans (below_draws _ _ _)⟩
        · have hz : (cc == 0) = false := by simpa using hc
          have hc' : (cc != 0) = true := by simpa using hc
          rw [hc'] at HRR
          clear hc hc'
          generalize vecB U = vu at *
          generalize U.length = lu at *
          go_wp2
          go_quiet ((go_at_call 148; exact Calls.quiet_of (X _)))
          go_wp2_with (go_at_call 132; (with_reducible refine (IV _).mono ?_); rintro e w' ⟨rfl, d2, rfl⟩)
          all_goals go_ret
          all_goals refine ⟨ret_bool ?_, HBW.out.trans (below_draws _ _ _)⟩
          all_goals rw [HRR.out]
          all_goals clear HRR X IV HC
          all_goals first | (simp [*]; done) | (simp [*]; omega)
      · have HRR := Lib.hid (show termB s U G = (decide (s = 1 ∨ s = -1) && (vecB U && decide (U.length = 2)) && decide (k ≤ 2)) by
          unfold termB; rw [HG.out, ← HN.out, vec_pt, Bool.eq_iff_iff]; simp [h2])
        have h2' : ((k : Int) == 2) = false := by rw [beq_eq_false_iff_ne]; omega
        clear HC h2
        generalize vecB U = vu at *
        generalize U.length = lu at *
        go_wp2
        go_quiet (fail)
        go_wp2_with (go_at_call 132; (with_reducible refine (IV _).mono ?_); rintro e w' ⟨rfl, d2, rfl⟩)
        all_goals go_ret
        all_goals refine ⟨ret_bool ?_, HBW.out.trans (below_draws _ _ _)⟩
        all_goals rw [HRR.out]
        all_goals clear HRR IV
        all_goals first | (simp [*]; done) | (rw [Bool.eq_iff_iff]; simp [*]; omega)
end Go.Proofs.Ytfncikbmdaameaa

/- Sums of generators: the plain law. No program in sight. -/
namespace Go.Proofs.Ytfncikbmdaameaa
set_option linter.unusedVariables false
set_option linter.unusedSimpArgs false

def hit1 (g x : List Int) : Bool :=
  let i := if g.getD 0 0 = 0 then 1 else 0
  decide (0 ≤ (x.getD i 0).tdiv (g.getD i 0)) && decide (g.map (· * (x.getD i 0).tdiv (g.getD i 0)) = x)
def hit2 (d a b : Int) : Bool := decide (a.tmod d = 0) && decide (b.tmod d = 0) && decide (0 ≤ a.tdiv d) && decide (0 ≤ b.tdiv d)
def hitsB (G : List (List Int)) (x : List Int) : Bool :=
  if G.length = 0 then decide (x.getD 0 0 = 0) && decide (x.getD 1 0 = 0)
  else if G.length = 1 then hit1 (G.getD 0 []) x
  else hit2 (crossI (G.getD 0 []) (G.getD 1 [])) (crossI x (G.getD 1 [])) (crossI (G.getD 0 []) x)

theorem gcdL_two {x : List Int} (h : x.length = 2) : gcdL x = (Int.gcd (x.getD 0 0) (x.getD 1 0) : Int) := by
  rw [two_list h]
  show gcdI (gcdI 0 _) _ = _
  unfold gcdI
  simp [Int.gcd]
theorem gcdL_zero {x : List Int} (h : x.length = 2) : gcdL x = 0 ↔ (x.getD 0 0 = 0 ∧ x.getD 1 0 = 0) := by
  rw [gcdL_two h]
  constructor
  · intro e
    have : Int.gcd (x.getD 0 0) (x.getD 1 0) = 0 := by omega
    exact Int.gcd_eq_zero_iff.1 this
  · rintro ⟨h1, h2⟩; rw [h1, h2]; rfl

theorem bezN (a b : Nat) : ∃ u v : Int, u * a + v * b = (Nat.gcd a b : Int) := by
  induction a, b using Nat.gcd.induction with
  | H0 n => exact ⟨0, 1, by simp⟩
  | H1 m n hm ih =>
    obtain ⟨u, v, h⟩ := ih
    refine ⟨v - u * ((n / m : Nat) : Int), u, ?_⟩
    rw [Nat.gcd_rec m n, ← h]
    have e : (n : Int) = (m : Int) * ((n / m : Nat) : Int) + ((n % m : Nat) : Int) := by
      have := Nat.div_add_mod n m
      rw [← Int.natCast_mul, ← Int.natCast_add, this]
    generalize ((n / m : Nat) : Int) = d at *
    generalize ((n % m : Nat) : Int) = r at *
    rw [e]; grind
theorem bez (p q : Int) : ∃ u v : Int, u * p + v * q = (Int.gcd p q : Int) := by
  obtain ⟨u, v, h⟩ := bezN p.natAbs q.natAbs
  rcases Int.natAbs_eq p with hp | hp <;> rcases Int.natAbs_eq q with hq | hq
  · exact ⟨u, v, by rw [← hp, ← hq] at h; exact h⟩
  · exact ⟨u, -v, by rw [← hp] at h; rw [show (q.natAbs : Int) = -q by omega] at h; rw [← Int.neg_mul_comm] at h; exact h⟩
  · exact ⟨-u, v, by rw [← hq] at h; rw [show (p.natAbs : Int) = -p by omega] at h; rw [← Int.neg_mul_comm] at h; exact h⟩
  · exact ⟨-u, -v, by rw [show (q.natAbs : Int) = -q by omega, show (p.natAbs : Int) = -p by omega] at h; rw [← Int.neg_mul_comm, ← Int.neg_mul_comm] at h; exact h⟩
theorem sq_nonneg (a : Int) : 0 ≤ a * a := by
  rcases Int.le_total 0 a with h | h
  · exact Int.mul_nonneg h h
  · exact Int.mul_nonneg_of_nonpos_of_nonpos h h
theorem sq_pos {a : Int} (h : a ≠ 0) : 0 < a * a := by
  rcases Int.lt_or_gt_of_ne h with g | g
  · exact Int.mul_pos_of_neg_of_neg g g
  · exact Int.mul_pos g g
/-- a multiple of a vector, by cross and dot -/
theorem multiple_iff (p q x y : Int) (h : p ≠ 0 ∨ q ≠ 0) :
    (∃ n : Int, 0 ≤ n ∧ x = p * n ∧ y = q * n) ↔ (p * y - q * x = 0 ∧ 0 ≤ p * x + q * y ∧ (Int.gcd p q : Int) ∣ (Int.gcd x y : Int)) := by
  have hpos : 0 < p * p + q * q := by
    have h1 := sq_nonneg p
    have h2 := sq_nonneg q
    rcases h with h | h
    · have := sq_pos h; omega
    · have := sq_pos h; omega
  constructor
  · rintro ⟨n, hn, rfl, rfl⟩
    refine ⟨by grind, ?_, ?_⟩
    · have : p * (p * n) + q * (q * n) = (p * p + q * q) * n := by grind
      rw [this]; exact Int.mul_nonneg (by omega) hn
    · exact Int.dvd_coe_gcd (Int.dvd_mul_of_dvd_left (Int.gcd_dvd_left ..)) (Int.dvd_mul_of_dvd_left (Int.gcd_dvd_right ..))
  · rintro ⟨hc, hd, hg⟩
    obtain ⟨u, v, hb⟩ := bez p q
    have hh : (Int.gcd p q : Int) ≠ 0 := by
      intro e
      have : Int.gcd p q = 0 := by omega
      have := Int.gcd_eq_zero_iff.1 this
      omega
    obtain ⟨x', hx⟩ := Int.dvd_trans hg (Int.gcd_dvd_left x y)
    obtain ⟨y', hy⟩ := Int.dvd_trans hg (Int.gcd_dvd_right x y)
    generalize (Int.gcd p q : Int) = d at *
    have e1 : p * (u * x' + v * y') = x := by
      have : d * (p * (u * x' + v * y')) = d * x := by grind
      exact Int.eq_of_mul_eq_mul_left hh this
    have e2 : q * (u * x' + v * y') = y := by
      have : d * (q * (u * x' + v * y')) = d * y := by grind
      exact Int.eq_of_mul_eq_mul_left hh this
    refine ⟨u * x' + v * y', ?_, e1.symm, e2.symm⟩
    generalize u * x' + v * y' = n at *
    rcases Int.le_total 0 n with g | g
    · exact g
    · have : (p * p + q * q) * n = p * x + q * y := by rw [← e1, ← e2]; grind
      by_cases hn : n = 0
      · omega
      · have := Int.mul_neg_of_pos_of_neg hpos (show n < 0 by omega); omega

theorem hit1_def (g x : List Int) : (g.getD 0 0 = 0 → hit1 g x = (decide (0 ≤ (x.getD 1 0).tdiv (g.getD 1 0)) && decide (g.map (· * (x.getD 1 0).tdiv (g.getD 1 0)) = x))) ∧
    (g.getD 0 0 ≠ 0 → hit1 g x = (decide (0 ≤ (x.getD 0 0).tdiv (g.getD 0 0)) && decide (g.map (· * (x.getD 0 0).tdiv (g.getD 0 0)) = x))) := by
  unfold hit1
  constructor
  · intro h; rw [if_pos h]
  · intro h; rw [if_neg h]
theorem hit1_iff {g x : List Int} (hg : g.length = 2) (hx : x.length = 2) (h : g.getD 0 0 ≠ 0 ∨ g.getD 1 0 ≠ 0) :
    hit1 g x = true ↔ ∃ n : Int, 0 ≤ n ∧ x.getD 0 0 = g.getD 0 0 * n ∧ x.getD 1 0 = g.getD 1 0 * n := by
  unfold hit1
  rw [two_list hg, two_list hx]
  generalize g.getD 0 0 = p at *
  generalize g.getD 1 0 = q at *
  generalize x.getD 0 0 = a at *
  generalize x.getD 1 0 = b at *
  by_cases hp : p = 0
  · subst hp
    have hq : q ≠ 0 := by omega
    simp
    constructor
    · rintro ⟨h1, h2, h3⟩; exact ⟨_, h1, h2.symm, h3.symm⟩
    · rintro ⟨n, hn, rfl, rfl⟩
      rw [Int.mul_tdiv_cancel_left _ hq]; exact ⟨hn, rfl, rfl⟩
  · simp [hp]
    constructor
    · rintro ⟨h1, h2, h3⟩; exact ⟨_, h1, h2.symm, h3.symm⟩
    · rintro ⟨n, hn, rfl, rfl⟩
      rw [Int.mul_tdiv_cancel_left _ hp]; exact ⟨hn, rfl, rfl⟩
/-- the program's test for one generator -/
theorem hit1_prog {g x : List Int} (hg : g.length = 2) (hx : x.length = 2) (h : gcdL g ≠ 0) :
    hit1 g x = (decide (crossI g x = 0) && decide (0 ≤ dotI g x) && decide ((gcdL x).tmod (gcdL g) = 0)) := by
  have h0 : g.getD 0 0 ≠ 0 ∨ g.getD 1 0 ≠ 0 := by
    rcases Classical.em (g.getD 0 0 = 0) with e | e
    · right; intro e2; exact h ((gcdL_zero hg).2 ⟨e, e2⟩)
    · exact .inl e
  rw [Bool.eq_iff_iff, hit1_iff hg hx h0, multiple_iff _ _ _ _ h0]
  rw [gcdL_two hg, gcdL_two hx]
  have hdot : dotI g x = g.getD 0 0 * x.getD 0 0 + g.getD 1 0 * x.getD 1 0 := by
    unfold dotI; rw [hg]; simp only [dotK]; omega
  rw [hdot]
  have hcr : crossI g x = g.getD 0 0 * x.getD 1 0 - g.getD 1 0 * x.getD 0 0 := rfl
  rw [hcr]
  generalize g.getD 0 0 * x.getD 1 0 - g.getD 1 0 * x.getD 0 0 = A
  generalize g.getD 0 0 * x.getD 0 0 + g.getD 1 0 * x.getD 1 0 = B
  simp [and_assoc, Int.dvd_iff_tmod_eq_zero]
end Go.Proofs.Ytfncikbmdaameaa

/- Sums of generators: the walks. -/
namespace Go.Proofs.Ytfncikbmdaameaa
open Go.RowKit
set_option linter.unusedVariables false
set_option linter.unusedSimpArgs false

/-- the generators of a right term -/
structure GensOk (G : List (List Int)) : Prop where
  len : G.length ≤ 2
  gen : ∀ k, k < G.length → genB (G.getD k []) = true
  two : G.length = 2 → crossI (G.getD 0 []) (G.getD 1 []) ≠ 0
theorem GensOk.at {G : List (List Int)} (h : GensOk G) {k : Nat} (hk : k < G.length) : (G.getD k []).length = 2 ∧ allIn (G.getD k []) (-30) 30 = true ∧ allIn (G.getD k []) (-1000000000) 1000000000 = true ∧ gcdL (G.getD k []) ≠ 0 := by
  have := h.gen k hk
  simp only [genB, Bool.and_eq_true, decide_eq_true_eq] at this
  have b := ptB_bd this.1 (by omega)
  exact ⟨b.1, (ptB_len this.1).2, b.2.1, this.2⟩
theorem gens_of_term {s : Int} {U : List Int} {G : List (List Int)} (h : termB s U G = true) : GensOk G ∧ ptB U 1000 = true ∧ (s = 1 ∨ s = -1) := by
  unfold termB at h
  simp only [Bool.and_eq_true, decide_eq_true_eq] at h
  obtain ⟨⟨⟨⟨h1, h2⟩, h3⟩, h4⟩, h5⟩ := h
  refine ⟨⟨h3, fun k hk => ?_, h5⟩, h2, h1⟩
  rw [List.all_eq_true] at h4
  rw [List.getD_eq_getElem?_getD, List.getElem?_eq_getElem hk]
  exact h4 _ (List.getElem_mem hk)
theorem tdiv_bd (a d : Int) (hd : d ≠ 0) (M : Int) (h1 : -M ≤ a) (h2 : a ≤ M) : -M ≤ a.tdiv d ∧ a.tdiv d ≤ M := by
  have : (a.tdiv d).natAbs ≤ a.natAbs := by rw [Int.natAbs_tdiv]; exact Nat.div_le_self _ _
  omega
theorem cross_small {a b : List Int} (la : a.length = 2) (lb : b.length = 2) (ha : allIn a (-1000000) 1000000 = true) (hb : allIn b (-1000000) 1000000 = true) : -2000000000000 ≤ crossI a b ∧ crossI a b ≤ 2000000000000 := by
  have p0 := allIn_at ha 0 (by omega)
  have p1 := allIn_at ha 1 (by omega)
  have q0 := allIn_at hb 0 (by omega)
  have q1 := allIn_at hb 1 (by omega)
  have key : ∀ {x y : Int}, -1000000 ≤ x → x ≤ 1000000 → -1000000 ≤ y → y ≤ 1000000 → -1000000000000 ≤ x * y ∧ x * y ≤ 1000000000000 := by
    intro x y h1 h2 h3 h4
    rcases Int.le_total 0 y with h | h
    · have := mul_bd2 (a := x) (b := y) (M := 1000000) (N := 1000000) h1 h2 h h4 (by omega); omega
    · have := mul_bd2 (a := x) (b := -y) (M := 1000000) (N := 1000000) h1 h2 (by omega) (by omega) (by omega)
      rw [Int.mul_neg] at this; omega
  have h1 := key p0.1 p0.2 q1.1 q1.2
  have h2 := key p1.1 p1.2 q0.1 q0.2
  unfold crossI; omega

set_option maxHeartbeats 2000000 in
theorem isSum_any (G : List (List Int)) (x : List Int) (vg vx : Value) (hb : Nat) (w : World) (ig : ISSr w hb vg G) (ix : ISr w hb vx x) (hG : GensOk G) (lx : x.length = 2) (bx : allIn x (-1000000) 1000000 = true) :
    Calls Try.prog 169 #[vg, vx] w fun e w' => e = .returned (.bool (hitsB G x)) ∧ ∃ d, w' = w.drewN d := by
  have bx9 := allIn_mono (c := -1000000000) (d := 1000000000) bx (by omega) (by omega)
  have GX := fun d => gcdAll_any x vx hb (w.drewN d) (ix.draws d) 1000000000 (by omega) (allIn_at bx9)
  obtain ⟨ag, cg, rfl, -, -, hcell⟩ := id ig
  by_cases h0 : G.length = 0
  · have hr : hitsB G x = decide (gcdL x = 0) := by
      unfold hitsB; rw [if_pos h0, Bool.eq_iff_iff, decide_eq_true_eq, gcdL_zero lx]; simp
    rw [hr, h0]
    have GX0 := gcdAll_any x vx hb w ix 1000000000 (by omega) (allIn_at bx9)
    clear hcell hr h0 GX
    generalize gcdL x = gg at *
    go_enter Try.func169, Try.ntmps169
    go_wp2_with (go_at_call 136; (with_reducible refine GX0.mono ?_); rintro e w' ⟨rfl, d, rfl⟩)
    all_goals go_ret
    all_goals exact ⟨ret_bool (by first | rfl | (simp; done)), _, rfl⟩
  obtain ⟨b, off, V, rfl, hbb, hcc⟩ := hcell (by intro e; rw [e] at h0; exact h0 rfl)
  by_cases h1 : G.length = 1
  · obtain ⟨l0, s0, b0, g0⟩ := hG.at (k := 0) (by omega)
    have hr : hitsB G x = hit1 (G.getD 0 []) x := by unfold hitsB; rw [if_neg h0, if_pos h1]
    rw [hr, hit1_prog l0 lx g0, h1]
    have c0 := (hcc 0 (by omega)).1
    have r0 := (hcc 0 (by omega)).2
    rw [Nat.add_zero] at c0
    have X0 := cross_any _ _ _ _ hb hb w r0 ix l0 lx b0 bx9
    have D := fun d => dot_any _ _ _ _ hb hb (w.drewN d) (r0.draws d) (ix.draws d) (by omega) (by omega) b0 bx9
    have GG := fun d => gcdAll_any _ _ hb (w.drewN d) (r0.draws d) 1000000000 (by omega) (allIn_at b0)
    have gn : 1 ≤ gcdL (G.getD 0 []) := by rw [gcdL_two l0] at g0 ⊢; omega
    have gx : 0 ≤ gcdL x := by rw [gcdL_two lx]; omega
    have hmod : (gcdL x).tmod (gcdL (G.getD 0 [])) = gcdL x % gcdL (G.getD 0 []) := Int.tmod_eq_emod_of_nonneg gx
    rw [hmod]
    clear hmod hr h0 h1 hcc hcell l0 s0 b0 r0 g0
    generalize gcdL (G.getD 0 []) = g at *
    generalize gcdL x = gg at *
    generalize crossI (G.getD 0 []) x = cr at *
    generalize dotI (G.getD 0 []) x = dt at *
    generalize V 0 = v0 at *
    have hg0 : (g == 0) = false := by rw [beq_eq_false_iff_ne]; omega
    go_enter Try.func169, Try.ntmps169
    go_wp2_with (first | (go_at_call 141; (with_reducible refine X0.mono ?_); rintro e w' ⟨rfl, d, rfl⟩) | (go_at_call 186; (with_reducible refine (D _).mono ?_); rintro e w' ⟨rfl, d2, rfl⟩) | (go_at_call 136; (with_reducible refine (GX _).mono ?_); rintro e w' ⟨rfl, d3, rfl⟩) | (go_at_call 136; (with_reducible refine (GG _).mono ?_); rintro e w' ⟨rfl, d4, rfl⟩))
    all_goals go_ret
    all_goals refine ⟨ret_bool ?_, _, rfl⟩
    all_goals first | (simp [*]; done) | (rw [Bool.eq_iff_iff]; simp [*]; done) | (rw [Bool.eq_iff_iff]; simp [*]; omega)
  · have h2 : G.length = 2 := by have := hG.len; omega
    obtain ⟨l0, s0, b0, g0⟩ := hG.at (k := 0) (by omega)
    obtain ⟨l1, s1, b1, g1⟩ := hG.at (k := 1) (by omega)
    have hd := hG.two h2
    have hr : hitsB G x = hit2 (crossI (G.getD 0 []) (G.getD 1 [])) (crossI x (G.getD 1 [])) (crossI (G.getD 0 []) x) := by unfold hitsB; rw [if_neg h0, if_neg h1]
    rw [hr, h2]
    have c0 := (hcc 0 (by omega)).1
    have r0 := (hcc 0 (by omega)).2
    have c1 := (hcc 1 (by omega)).1
    have r1 := (hcc 1 (by omega)).2
    rw [Nat.add_zero] at c0
    have X1 := fun d => cross_any _ _ _ _ hb hb (w.drewN d) (r0.draws d) (r1.draws d) l0 l1 b0 b1
    have X2 := fun d => cross_any _ _ _ _ hb hb (w.drewN d) (ix.draws d) (r1.draws d) lx l1 bx9 b1
    have X3 := fun d => cross_any _ _ _ _ hb hb (w.drewN d) (r0.draws d) (ix.draws d) l0 lx b0 bx9
    have q2 := cross_small lx l1 bx (allIn_mono s1 (by omega) (by omega))
    have q3 := cross_small l0 lx (allIn_mono s0 (by omega) (by omega)) bx
    clear hr h0 h1 hcc hcell l0 s0 b0 r0 g0 l1 s1 b1 r1 g1 GX hG lx bx bx9 h2 ix ig
    generalize crossI (G.getD 0 []) (G.getD 1 []) = d at *
    generalize crossI x (G.getD 1 []) = a at *
    generalize crossI (G.getD 0 []) x = bb at *
    generalize V 0 = v0 at *
    generalize V 1 = v1 at *
    have t2 := tdiv_bd a d hd 2000000000000 q2.1 q2.2
    have t3 := tdiv_bd bb d hd 2000000000000 q3.1 q3.2
    have hd0 : (d == 0) = false := by simpa using hd
    unfold hit2
    clear q2 q3
    go_enter Try.func169, Try.ntmps169
    go_wp2
    go_quiet ((go_at_call 141; with_reducible exact Calls.quiet_of (X1 _)))
    have X2' := fun n => X2 (nq + n)
    have X3' := fun n => X3 (nq + n)
    simp only [← World.drewN_drewN] at X2' X3'
    clear X1 X2 X3
    have HW := Lib.hid (show ∃ d, w.drewN nq = w.drewN d from ⟨_, rfl⟩)
    have c0' : (w.drewN nq).cell? ⟨b, off, none⟩ = some v0 := c0
    have c1' : (w.drewN nq).cell? ⟨b, off + 1, none⟩ = some v1 := c1
    clear c0 c1
    generalize w.drewN nq = w2 at *
    go_wp2
    go_quiet (first | (go_at_call 141; with_reducible exact Calls.quiet_of (X2' _)) | (go_at_call 141; with_reducible exact Calls.quiet_of (X3' _)))
    clear X2' X3'
    have HW2 := Lib.hid (show ∃ d, w2.drewN nq = w.drewN d by obtain ⟨d, e⟩ := HW.out; exact ⟨_, by rw [e, World.drewN_drewN]⟩)
    clear HW
    go_wp2
    all_goals go_ret
    all_goals refine ⟨ret_bool ?_, HW2.out⟩
    all_goals first | (simp [*]; done) | (rw [Bool.eq_iff_iff]; simp [*]; done) | (rw [Bool.eq_iff_iff]; simp [*]; omega)
end Go.Proofs.Ytfncikbmdaameaa

/- Sums of generators: the model's walk. -/
namespace Go.Proofs.Ytfncikbmdaameaa
open Go.RowKit
set_option linter.unusedVariables false
set_option linter.unusedSimpArgs false

set_option maxHeartbeats 2000000 in
theorem l10Hits_any (G : List (List Int)) (x : List Int) (vg vx : Value) (hb : Nat) (w : World) (ig : ISSr w hb vg G) (ix : ISr w hb vx x) (hhb : hb ≤ w.heap.size) (hG : GensOk G) (lx : x.length = 2) (bx : allIn x (-1000000) 1000000 = true) :
    Calls Try.prog 171 #[vg, vx] w fun e w' => e = .returned (.bool (hitsB G x)) ∧ Below w.heap.size w w' := by
  have bx9 := allIn_mono (c := -1000000000) (d := 1000000000) bx (by omega) (by omega)
  obtain ⟨ag, cg, rfl, -, -, hcell⟩ := id ig
  by_cases h0 : G.length = 0
  · have hr : hitsB G x = (decide (x.getD 0 0 = 0) && decide (x.getD 1 0 = 0)) := by unfold hitsB; rw [if_pos h0]
    rw [hr, h0]
    obtain ⟨b1, o1, c1, rfl, -, x0, x1⟩ := ix.two lx
    clear hr hcell ig ix bx bx9 lx h0 hG
    generalize x.getD 0 0 = p at *
    generalize x.getD 1 0 = q at *
    go_enter Try.func171, Try.ntmps171
    go_wp2
    all_goals go_ret
    all_goals refine ⟨ret_bool ?_, Below.refl _ _⟩
    all_goals first | (simp [*]; done) | (rw [Bool.eq_iff_iff]; simp [*]; done) | (rw [Bool.eq_iff_iff]; simp [*]; omega)
  obtain ⟨b, off, V, rfl, hbb, hcc⟩ := hcell (by intro e; rw [e] at h0; exact h0 rfl)
  by_cases h1 : G.length = 1
  · obtain ⟨l0, s0, b0, g0⟩ := hG.at (k := 0) (by omega)
    have hr : hitsB G x = hit1 (G.getD 0 []) x := by unfold hitsB; rw [if_neg h0, if_pos h1]
    rw [hr, h1]
    have c0 := (hcc 0 (by omega)).1
    have r0 := (hcc 0 (by omega)).2
    rw [Nat.add_zero] at c0
    have gz : ¬ ((G.getD 0 []).getD 0 0 = 0 ∧ (G.getD 0 []).getD 1 0 = 0) := fun e => g0 ((gcdL_zero l0).2 e)
    clear hr h0 h1 hcc hcell g0 hG ig b0
    generalize hg : G.getD 0 [] = g at *
    generalize V 0 = v0 at *
    obtain ⟨b1, o1, k1, hv0, -, y0, y1⟩ := r0.two l0
    obtain ⟨b2, o2, k2, hvx, -, x0, x1⟩ := ix.two lx
    have p0 := allIn_at s0 0 (by omega)
    have p1 := allIn_at s0 1 (by omega)
    have q0 := allIn_at bx 0 (by omega)
    have q1 := allIn_at bx 1 (by omega)
    have SC : ∀ n, -1000000 ≤ n → n ≤ 1000000 → ∀ d, _ := fun (n : Int) hn hn' d => l2Scale_any g v0 n hb (w.drewN d) (r0.draws d) hhb (by omega) (fun k hk => by
      have := allIn_at s0 k hk
      have := mul_bd6 (a := g.getD k 0) (b := n) (by omega) (by omega) hn hn'; omega)
    have hit := hit1_def g x
    have IX := Lib.hid ix
    have R0 := Lib.hid r0
    clear ix r0
    obtain ⟨i, gi, xi, hi1, hbit, hgi, hy, hx, hxb, hform⟩ : ∃ (i : Nat) (gi xi : Int), i ≤ 1 ∧ bitI (g.getD 0 0 == 0) = (i : Int) ∧ gi ≠ 0 ∧ w.cell? ⟨b1, o1 + i, none⟩ = some (.int .i64 gi) ∧ w.cell? ⟨b2, o2 + i, none⟩ = some (.int .i64 xi) ∧ (-1000000 ≤ xi ∧ xi ≤ 1000000) ∧ hit1 g x = (decide (0 ≤ xi.tdiv gi) && decide (g.map (· * xi.tdiv gi) = x)) := by
      by_cases hp : g.getD 0 0 = 0
      · exact ⟨1, g.getD 1 0, x.getD 1 0, by omega, by rw [hp]; rfl, fun e => gz ⟨hp, e⟩, y1, x1, q1, hit.1 hp⟩
      · refine ⟨0, g.getD 0 0, x.getD 0 0, by omega, ?_, hp, y0, x0, q0, hit.2 hp⟩
        rw [show (g.getD 0 0 == 0) = false by simpa using hp]; rfl
    have tb := tdiv_bd xi gi hgi 1000000 hxb.1 hxb.2
    have SC := SC _ tb.1 tb.2
    rw [hform]
    have BT := fun w => l1Bit_any (g.getD 0 0 == 0) w
    simp only [hbit] at BT
    have hgz : (gi == 0) = false := by simpa using hgi
    have j1 : (0 : Int) ≤ (i : Int) := by omega
    have j2 : (i : Int) < 2 := by omega
    clear hform hit gz p0 q0 p1 q1 hbit y1 x1 x0 hxb
    generalize hm : g.map (· * xi.tdiv gi) = gm at *
    clear hm
    generalize g.getD 0 0 = p at *
    subst hv0
    subst hvx
    have HSC := Lib.hid SC; clear SC
    go_enter Try.func171, Try.ntmps171
    go_wp2_with (go_at_call 112; (with_reducible refine (BT _).mono ?_); rintro e w' ⟨rfl, rfl⟩)
    go_quiet (fail)
    clear BT y0 hy hx c0
    have HW := Lib.hid (show ∃ d, w.drewN nq = w.drewN d from ⟨_, rfl⟩)
    have HS := Lib.hid (HSC.out nq)
    have HX := Lib.hid (IX.out.draws nq)
    have HB := Lib.hid (below_draws w.heap.size w nq)
    have hsz : w.heap.size ≤ (w.drewN nq).heap.size := Nat.le_refl _
    clear HSC
    generalize w.drewN nq = w2 at *
    generalize hn : xi.tdiv gi = n at *
    have HN := Lib.hid hn; clear hn
    by_cases hneg : 0 ≤ n
    · go_wp2_with fail
      refine HS.out.mono ?_
      rintro e w3 ⟨u, rfl, ku, c3⟩
      have E := l2Same_any gm x u (.slice (some ⟨b2, o2, none⟩) 2 k2) _ hb w3 ku.read (HX.out.keep c3 (Nat.le_trans hhb hsz))
      have HB3 := Lib.hid (below_then HB.out hsz c3)
      clear ku c3 HS HX
      go_wp2_with (go_at_call 187; (with_reducible refine E.mono ?_); rintro e w' ⟨rfl, d, rfl⟩)
      go_ret
      exact ⟨ret_bool (by rw [HN.out]; simp [hneg]), HB3.out.trans (below_draws _ _ _)⟩
    · go_wp2
      go_ret
      exact ⟨ret_bool (by rw [HN.out, decide_eq_false (show ¬ 0 ≤ n by omega)]; rfl), HB.out⟩
  · have h2 : G.length = 2 := by have := hG.len; omega
    obtain ⟨l0, s0, b0, g0⟩ := hG.at (k := 0) (by omega)
    obtain ⟨l1, s1, b1, g1⟩ := hG.at (k := 1) (by omega)
    have hd := hG.two h2
    have hr : hitsB G x = hit2 (crossI (G.getD 0 []) (G.getD 1 [])) (crossI x (G.getD 1 [])) (crossI (G.getD 0 []) x) := by unfold hitsB; rw [if_neg h0, if_neg h1]
    rw [hr, h2]
    have c0 := (hcc 0 (by omega)).1
    have r0 := (hcc 0 (by omega)).2
    have c1 := (hcc 1 (by omega)).1
    have r1 := (hcc 1 (by omega)).2
    rw [Nat.add_zero] at c0
    have X1 := fun d => l7Cross_any _ _ _ _ hb hb (w.drewN d) (r0.draws d) (r1.draws d) l0 l1 b0 b1
    have X2 := fun d => l7Cross_any _ _ _ _ hb hb (w.drewN d) (ix.draws d) (r1.draws d) lx l1 bx9 b1
    have X3 := fun d => l7Cross_any _ _ _ _ hb hb (w.drewN d) (r0.draws d) (ix.draws d) l0 lx b0 bx9
    have q2 := cross_small lx l1 bx (allIn_mono s1 (by omega) (by omega))
    have q3 := cross_small l0 lx (allIn_mono s0 (by omega) (by omega)) bx
    clear hr h0 h1 hcc hcell l0 s0 b0 r0 g0 l1 s1 b1 r1 g1 hG lx bx bx9 h2 ix ig
    generalize crossI (G.getD 0 []) (G.getD 1 []) = d at *
    generalize crossI x (G.getD 1 []) = a at *
    generalize crossI (G.getD 0 []) x = bb at *
    generalize V 0 = v0 at *
    generalize V 1 = v1 at *
    have t2 := tdiv_bd a d hd 2000000000000 q2.1 q2.2
    have t3 := tdiv_bd bb d hd 2000000000000 q3.1 q3.2
    have hd0 : (d == 0) = false := by simpa using hd
    unfold hit2
    clear q2 q3
    go_enter Try.func171, Try.ntmps171
    go_wp2
    go_quiet ((go_at_call 148; with_reducible exact Calls.quiet_of (X1 _)))
    clear X1
    go_wp2_with fail
    refine (X2 nq).mono ?_
    rintro e w' ⟨rfl, d2, hw2⟩
    rw [World.drewN_drewN] at hw2
    subst hw2
    go_wp2_with fail
    refine (X3 (nq + d2)).mono ?_
    rintro e w' ⟨rfl, d3, hw3⟩
    rw [World.drewN_drewN] at hw3
    subst hw3
    clear X2 X3
    go_wp2
    all_goals go_ret
    all_goals refine ⟨ret_bool ?_, below_draws _ _ _⟩
    all_goals first | (simp [*]; done) | (rw [Bool.eq_iff_iff]; simp [*]; done) | (rw [Bool.eq_iff_iff]; simp [*]; omega)
end Go.Proofs.Ytfncikbmdaameaa

/- TermAt: the walks. -/
namespace Go.Proofs.Ytfncikbmdaameaa
open Go.RowKit
set_option linter.unusedVariables false
set_option linter.unusedSimpArgs false

def termAt (s : Int) (U : List Int) (G : List (List Int)) (x : List Int) : Int :=
  if termB s U G && vecB x && decide (x.length = 2) && hitsB G (minusI x U) then s else 0
theorem vecB_bd {x : List Int} (h : vecB x = true) : allIn x (-1000) 1000 = true := by
  unfold vecB at h; simp only [Bool.and_eq_true] at h; exact h.2
theorem allIn_two {x y m : Int} (hx : -m ≤ x ∧ x ≤ m) (hy : -m ≤ y ∧ y ≤ m) : allIn [x, y] (-m) m = true := by
  simp [allIn, inB]; omega
theorem minusI_bd {x U : List Int} (lx : x.length = 2) (lU : U.length = 2) (hx : allIn x (-1000) 1000 = true) (hU : allIn U (-1000) 1000 = true) : allIn (minusI x U) (-1000000) 1000000 = true := by
  have a0 := allIn_at hx 0 (by omega)
  have a1 := allIn_at hx 1 (by omega)
  have b0 := allIn_at hU 0 (by omega)
  have b1 := allIn_at hU 1 (by omega)
  exact allIn_two (by omega) (by omega)

set_option maxHeartbeats 4000000 in
theorem implTermAt_any (s : Int) (U : List Int) (G : List (List Int)) (x : List Int) (v1 v2 vx : Value) (hb : Nat) (w : World) (hs : -9223372036854775808 ≤ s ∧ s ≤ 9223372036854775807) (i1 : ISr w hb v1 U) (i2 : ISSr w hb v2 G) (ix : ISr w hb vx x) (hhb : hb ≤ w.heap.size) :
    Calls Try.prog 101 #[.agg #[.int .i64 s, v1, v2], vx] w fun e w' => e = .returned (.int .i64 (termAt s U G x)) ∧ Below w.heap.size w w' := by
  have b1 := below1 w (.cells #[.int .i64 s, v1, v2] 92)
  have bx := box3_new w (.int .i64 s) v1 v2 92
  have P1 := fun W (B : Below w.heap.size w W) => implIsTerm_any s U G v1 v2 hb W hs (i1.keep B hhb) (i2.keep B hhb) (Nat.le_trans hhb B.size)
  have P2 := fun W (B : Below w.heap.size w W) => toBelow (implIsVector_any x vx hb W (ix.keep B hhb))
  obtain ⟨ax, cx, hvx, -⟩ := id ix
  cases ht : termB s U G
  · have hr : termAt s U G x = 0 := by unfold termAt; rw [ht]; rfl
    simp only [ht] at P1
    rw [hr]
    have HB := Lib.hid b1
    have BX := Lib.hid bx
    clear b1 bx hr ht i1 i2 ix P2 hvx
    go_enter Try.func101, Try.ntmps101
    go_wp2_with fail
    generalize w.alloc (.cells #[.int .i64 s, v1, v2] 92) = w1 at *
    refine wp_region_class (fun w' => Below w.heap.size w w' ∧ Box3 w' w.heap.size (.int .i64 s) v1 v2) (by kernel_rfl) (by kernel_rfl) ⟨HB.out.trans (below_draws _ w1 1), BX.out.keep (below_draws _ w1 1)⟩ (fun hne => ?_)
    generalize hC : (fun w' => Below w.heap.size w w' ∧ Box3 w' w.heap.size (.int .i64 s) v1 v2) = C at *
    have q0 : ∀ x : InC C, x.w.cell? ⟨w.heap.size, 0, none⟩ = some (.int .i64 s) := by subst hC; exact fun x => x.h.2.c0
    have q1 : ∀ x : InC C, x.w.cell? ⟨w.heap.size, 1, none⟩ = some v1 := by subst hC; exact fun x => x.h.2.c1
    have q2 : ∀ x : InC C, x.w.cell? ⟨w.heap.size, 2, none⟩ = some v2 := by subst hC; exact fun x => x.h.2.c2
    have R0 : ∀ x : InC C, Calls Try.prog 105 #[.agg #[.int .i64 s, v1, v2]] x.w fun e w' => e = .returned (.bool false) ∧ ∃ m : InC C, w' = m.w := by
      subst hC; exact fun x => Calls.inC ((P1 _ x.h.1).mono fun e w' ⟨he, c⟩ => ⟨he, below_then x.h.1 x.h.1.size c, x.h.2.keep c⟩)
    have HCC := Lib.hid hC
    clear hC P1
    repeat (go_big_quiet_step ((go_at_call 105; exact R0 _)))
    refine wpQuiet_nil ?_
    rintro _ ⟨x, rfl⟩
    have HBx := Lib.hid (show Below w.heap.size w x.w by have := HCC.out; subst this; exact x.h.1)
    generalize x.w = w2 at *
    go_wp2
    go_ret
    exact ⟨rfl, HBx.out⟩
  obtain ⟨hG, hU, hse⟩ := gens_of_term ht
  simp only [ht] at P1
  cases hv : vecB x
  · have hr : termAt s U G x = 0 := by unfold termAt; rw [ht, hv]; rfl
    simp only [hv] at P2
    rw [hr]
    have HB := Lib.hid b1
    have BX := Lib.hid bx
    clear b1 bx hr ht i1 i2 ix hvx hG hU hse hv
    go_enter Try.func101, Try.ntmps101
    go_wp2_with fail
    generalize w.alloc (.cells #[.int .i64 s, v1, v2] 92) = w1 at *
    refine wp_region_class (fun w' => Below w.heap.size w w' ∧ Box3 w' w.heap.size (.int .i64 s) v1 v2) (by kernel_rfl) (by kernel_rfl) ⟨HB.out.trans (below_draws _ w1 1), BX.out.keep (below_draws _ w1 1)⟩ (fun hne => ?_)
    generalize hC : (fun w' => Below w.heap.size w w' ∧ Box3 w' w.heap.size (.int .i64 s) v1 v2) = C at *
    have q0 : ∀ x : InC C, x.w.cell? ⟨w.heap.size, 0, none⟩ = some (.int .i64 s) := by subst hC; exact fun x => x.h.2.c0
    have q1 : ∀ x : InC C, x.w.cell? ⟨w.heap.size, 1, none⟩ = some v1 := by subst hC; exact fun x => x.h.2.c1
    have q2 : ∀ x : InC C, x.w.cell? ⟨w.heap.size, 2, none⟩ = some v2 := by subst hC; exact fun x => x.h.2.c2
    have R0 : ∀ x : InC C, Calls Try.prog 105 #[.agg #[.int .i64 s, v1, v2]] x.w fun e w' => e = .returned (.bool true) ∧ ∃ m : InC C, w' = m.w := by
      subst hC; exact fun x => Calls.inC ((P1 _ x.h.1).mono fun e w' ⟨he, c⟩ => ⟨he, below_then x.h.1 x.h.1.size c, x.h.2.keep c⟩)
    have R1 : ∀ x : InC C, Calls Try.prog 151 #[vx] x.w fun e w' => e = .returned (.bool false) ∧ ∃ m : InC C, w' = m.w := by
      subst hC; exact fun x => Calls.inC ((P2 _ x.h.1).mono fun e w' ⟨he, c⟩ => ⟨he, below_then x.h.1 x.h.1.size c, x.h.2.keep c⟩)
    have HCC := Lib.hid hC
    clear hC P1 P2
    repeat (go_big_quiet_step (first | (go_at_call 105; exact R0 _) | (go_at_call 151; exact R1 _)))
    refine wpQuiet_nil ?_
    rintro _ ⟨x, rfl⟩
    have HBx := Lib.hid (show Below w.heap.size w x.w by have := HCC.out; subst this; exact x.h.1)
    generalize x.w = w2 at *
    go_wp2
    go_ret
    exact ⟨rfl, HBx.out⟩
  simp only [hv] at P2
  by_cases lx : x.length = 2
  case neg =>
    have hr : termAt s U G x = 0 := by unfold termAt; rw [decide_eq_false lx]; simp
    have hne' : ((x.length : Int) != 2) = true := by rw [bne_iff_ne]; omega
    rw [hr]
    subst hvx
    clear lx
    have HP2 := Lib.hid P2
    clear P2
    generalize hn : x.length = n at *
    have P2 := HP2.out
    clear HP2
    have HB := Lib.hid b1
    have BX := Lib.hid bx
    clear b1 bx hr ht i1 i2 ix hG hU hse hv
    go_enter Try.func101, Try.ntmps101
    go_wp2_with fail
    generalize w.alloc (.cells #[.int .i64 s, v1, v2] 92) = w1 at *
    refine wp_region_class (fun w' => Below w.heap.size w w' ∧ Box3 w' w.heap.size (.int .i64 s) v1 v2) (by kernel_rfl) (by kernel_rfl) ⟨HB.out.trans (below_draws _ w1 1), BX.out.keep (below_draws _ w1 1)⟩ (fun hne => ?_)
    generalize hC : (fun w' => Below w.heap.size w w' ∧ Box3 w' w.heap.size (.int .i64 s) v1 v2) = C at *
    have q0 : ∀ x : InC C, x.w.cell? ⟨w.heap.size, 0, none⟩ = some (.int .i64 s) := by subst hC; exact fun x => x.h.2.c0
    have q1 : ∀ x : InC C, x.w.cell? ⟨w.heap.size, 1, none⟩ = some v1 := by subst hC; exact fun x => x.h.2.c1
    have q2 : ∀ x : InC C, x.w.cell? ⟨w.heap.size, 2, none⟩ = some v2 := by subst hC; exact fun x => x.h.2.c2
    have R0 : ∀ x : InC C, Calls Try.prog 105 #[.agg #[.int .i64 s, v1, v2]] x.w fun e w' => e = .returned (.bool true) ∧ ∃ m : InC C, w' = m.w := by
      subst hC; exact fun x => Calls.inC ((P1 _ x.h.1).mono fun e w' ⟨he, c⟩ => ⟨he, below_then x.h.1 x.h.1.size c, x.h.2.keep c⟩)
    have R1 : ∀ x : InC C, Calls Try.prog 151 #[.slice ax n cx] x.w fun e w' => e = .returned (.bool true) ∧ ∃ m : InC C, w' = m.w := by
      subst hC; exact fun x => Calls.inC ((P2 _ x.h.1).mono fun e w' ⟨he, c⟩ => ⟨he, below_then x.h.1 x.h.1.size c, x.h.2.keep c⟩)
    have HCC := Lib.hid hC
    clear hC P1 P2
    repeat (go_big_quiet_step (first | (go_at_call 105; exact R0 _) | (go_at_call 151; exact R1 _)))
    refine wpQuiet_nil ?_
    rintro _ ⟨x, rfl⟩
    have HBx := Lib.hid (show Below w.heap.size w x.w by have := HCC.out; subst this; exact x.h.1)
    generalize x.w = w2 at *
    go_wp2
    go_ret
    exact ⟨rfl, HBx.out⟩
  have lU := ptB_len hU
  have hx := vecB_bd hv
  have a0 := allIn_at hx 0 (by omega)
  have a1 := allIn_at hx 1 (by omega)
  have u0 := allIn_at lU.2 0 (by omega)
  have u1 := allIn_at lU.2 1 (by omega)
  have P3 := fun W (B : Below w.heap.size w W) => minus_any x U vx v1 hb W (ix.keep B hhb) (i1.keep B hhb) (Nat.le_trans hhb B.size) lx lU.1 (by omega) (by omega)
  have P4 := fun W vm (B : Below w.heap.size w W) (hm : ISr W W.heap.size vm (minusI x U)) => toBelow (isSum_any G (minusI x U) v2 vm W.heap.size W ((i2.keep B hhb).upto (Nat.le_trans hhb B.size)) hm hG rfl (minusI_bd lx lU.1 hx lU.2))
  have HB := Lib.hid b1
  have BX := Lib.hid bx
  rw [lx] at hvx
  subst hvx
  have HT := Lib.hid ht
  have HV := Lib.hid hv
  cases hh : hitsB G (minusI x U)
  all_goals
    have HR := Lib.hid (show termAt s U G x = _ by unfold termAt; rw [HT.out, HV.out, decide_eq_true lx, hh])
    simp only [hh] at P4
    clear a0 a1 u0 u1 lU hx i1 i2 ix hG hU hse hh b1 bx lx ht hv
    go_enter Try.func101, Try.ntmps101
    go_wp2_with fail
    generalize w.alloc (.cells #[.int .i64 s, v1, v2] 92) = w1 at *
    have Bd : Below w.heap.size w w1.drew := HB.out.trans (below_draws _ w1 1)
    have BXd : Box3 w1.drew w.heap.size (.int .i64 s) v1 v2 := BX.out.keep (below_draws _ w1 1)
    have q0 := BXd.c0
    have q1 := BXd.c1
    have q2 := BXd.c2
    go_region_held3 (fun w' => w'.cell? ⟨w.heap.size, 0, none⟩ = some (.int .i64 s) ∧ w'.cell? ⟨w.heap.size, 1, none⟩ = some v1 ∧ w'.cell? ⟨w.heap.size, 2, none⟩ = some v2) (first | exact ⟨q0, q1, q2⟩ | exact ⟨t0, t1, t2⟩ | exact ⟨r0, r1, r2⟩ | exact ⟨z0, z1, z2⟩ | exact ⟨y0, y1, y2⟩) (first | (go_at_call 105; (with_reducible refine (P1 _ Bd).mono ?_); rintro e w2 ⟨rfl, c2⟩; have B2 := below_then Bd Bd.size c2; have X2 := BXd.keep c2; have t0 := X2.c0; have t1 := X2.c1; have t2 := X2.c2) | (go_at_call 151; (with_reducible refine (P2 _ B2).mono ?_); rintro e w3 ⟨rfl, c3⟩; have B3 := below_then B2 B2.size c3; have X3 := X2.keep c3; have r0 := X3.c0; have r1 := X3.c1; have r2 := X3.c2) | (go_at_call 170; (with_reducible refine (P3 _ B3).mono ?_); rintro e w4 ⟨vm, rfl, km, c4⟩; have KM := Lib.hid km.read; have B4 := below_then B3 B3.size c4; have X4 := X3.keep c4; have z0 := X4.c0; have z1 := X4.c1; have z2 := X4.c2) | (go_at_call 169; (with_reducible refine (P4 _ _ B4 KM.out).mono ?_); rintro e w5 ⟨rfl, c5⟩; have B5 := below_then B4 B4.size c5; have X5 := X4.keep c5; have y0 := X5.c0; have y1 := X5.c1; have y2 := X5.c2))
    clear q0 q1 q2 t0 t1 t2 r0 r1 r2 z0 z1 z2
    go_wp2
    go_ret
    exact ⟨ret_int HR.out.symm, B5⟩
end Go.Proofs.Ytfncikbmdaameaa

/- TermAt of the model: the walk. -/
namespace Go.Proofs.Ytfncikbmdaameaa
open Go.RowKit
set_option linter.unusedVariables false
set_option linter.unusedSimpArgs false

set_option maxHeartbeats 4000000 in
theorem specTermAt_any (s : Int) (U : List Int) (G : List (List Int)) (x : List Int) (v1 v2 vx : Value) (hb : Nat) (w : World) (hs : -9223372036854775808 ≤ s ∧ s ≤ 9223372036854775807) (i1 : ISr w hb v1 U) (i2 : ISSr w hb v2 G) (ix : ISr w hb vx x) (hhb : hb ≤ w.heap.size) :
    Calls Try.prog 102 #[.agg #[.int .i64 s, v1, v2], vx] w fun e w' => e = .returned (.int .i64 (termAt s U G x)) ∧ Below w.heap.size w w' := by
  have b1 := below1 w (.cells #[.int .i64 s, v1, v2] 92)
  have bx := box3_new w (.int .i64 s) v1 v2 92
  have P1 := fun W (B : Below w.heap.size w W) => specIsTerm_any s U G v1 v2 hb W hs (i1.keep B hhb) (i2.keep B hhb) (Nat.le_trans hhb B.size)
  have P2 := fun W (B : Below w.heap.size w W) => toBelow (specIsVector_any x vx hb W (ix.keep B hhb))
  obtain ⟨ax, cx, hvx, -⟩ := id ix
  have HB := Lib.hid b1
  have BX := Lib.hid bx
  cases ht : termB s U G
  · have hr : termAt s U G x = 0 := by unfold termAt; rw [ht]; rfl
    simp only [ht] at P1
    rw [hr]
    clear hr ht i1 i2 ix P2 hvx bx b1
    go_enter Try.func102, Try.ntmps102
    go_wp2_with (go_at_call 106; (with_reducible refine (P1 _ HB.out).mono ?_); rintro e w2 ⟨rfl, c2⟩)
    go_ret
    exact ⟨rfl, below_then HB.out HB.out.size c2⟩
  obtain ⟨hG, hU, hse⟩ := gens_of_term ht
  simp only [ht] at P1
  cases hv : vecB x
  · have hr : termAt s U G x = 0 := by unfold termAt; rw [ht, hv]; rfl
    simp only [hv] at P2
    rw [hr]
    clear hr ht i1 i2 ix hvx bx b1 hG hU hse hv
    go_enter Try.func102, Try.ntmps102
    go_wp2_with (first | (go_at_call 106; (with_reducible refine (P1 _ HB.out).mono ?_); rintro e w2 ⟨rfl, c2⟩; have B2 := below_then HB.out HB.out.size c2) | (go_at_call 132; (with_reducible refine (P2 _ B2).mono ?_); rintro e w3 ⟨rfl, c3⟩))
    go_ret
    exact ⟨rfl, below_then B2 B2.size c3⟩
  simp only [hv] at P2
  by_cases lx : x.length = 2
  case neg =>
    have hr : termAt s U G x = 0 := by unfold termAt; rw [decide_eq_false lx]; simp
    have hne' : ((x.length : Int) != 2) = true := by rw [bne_iff_ne]; omega
    rw [hr]
    subst hvx
    clear hr ht i1 i2 ix bx b1 hG hU hse hv lx
    generalize x.length = n at *
    go_enter Try.func102, Try.ntmps102
    go_wp2_with (first | (go_at_call 106; (with_reducible refine (P1 _ HB.out).mono ?_); rintro e w2 ⟨rfl, c2⟩; have B2 := below_then HB.out HB.out.size c2) | (go_at_call 132; (with_reducible refine (P2 _ B2).mono ?_); rintro e w3 ⟨rfl, c3⟩))
    go_ret
    exact ⟨rfl, below_then B2 B2.size c3⟩
  have lU := ptB_len hU
  have hx := vecB_bd hv
  have P3 := fun W (B : Below w.heap.size w W) => l2Less_any x U vx v1 hb W (ix.keep B hhb) (i1.keep B hhb) (Nat.le_trans hhb B.size) (by omega) (by rw [lx, lU.1]; exact Nat.le_refl _) (fun k hk => by
    have h1 := allIn_at hx k hk
    have h2 := allIn_at lU.2 k (by rw [lU.1, ← lx]; exact hk)
    omega)
  have hz := minusI_zip lx lU.1
  have P4 := fun W vm (B : Below w.heap.size w W) (hm : ISr W W.heap.size vm (minusI x U)) => l10Hits_any G (minusI x U) v2 vm W.heap.size W ((i2.keep B hhb).upto (Nat.le_trans hhb B.size)) hm (Nat.le_refl _) hG rfl (minusI_bd lx lU.1 hx lU.2)
  rw [lx] at hvx
  subst hvx
  have HT := Lib.hid ht
  have HV := Lib.hid hv
  have HZ := Lib.hid hz
  cases hh : hitsB G (minusI x U)
  all_goals
    have HR := Lib.hid (show termAt s U G x = _ by unfold termAt; rw [HT.out, HV.out, decide_eq_true lx, hh])
    simp only [hh] at P4
    clear lU hx i1 i2 ix hG hU hse hh b1 bx lx ht hv hz
    go_enter Try.func102, Try.ntmps102
    go_wp2_with (first | (go_at_call 106; (with_reducible refine (P1 _ HB.out).mono ?_); rintro e w2 ⟨rfl, c2⟩; have B2 := below_then HB.out HB.out.size c2; have X2 := BX.out.keep c2) | (go_at_call 132; (with_reducible refine (P2 _ B2).mono ?_); rintro e w3 ⟨rfl, c3⟩; have B3 := below_then B2 B2.size c3; have X3 := X2.keep c3))
    have Bd : Below w.heap.size w w3.drew := B3.trans (below_draws _ w3 1)
    have BXd : Box3 w3.drew w.heap.size (.int .i64 s) v1 v2 := X3.keep (below_draws _ w3 1)
    have q1 := BXd.c1
    have q2 := BXd.c2
    clear P1 P2 c2 c3 B2 B3 X2 X3 HB BX
    go_region_held3 (fun w' => w'.cell? ⟨w.heap.size, 1, none⟩ = some v1 ∧ w'.cell? ⟨w.heap.size, 2, none⟩ = some v2) (first | exact ⟨q1, q2⟩ | exact ⟨z1, z2⟩ | exact ⟨y1, y2⟩) (first | (go_at_call 145; (with_reducible refine (P3 _ Bd).mono ?_); rintro e w4 ⟨vm, rfl, km, c4⟩; have KM := Lib.hid km.read; have B4 := below_then Bd Bd.size c4; have X4 := BXd.keep c4; have z1 := X4.c1; have z2 := X4.c2) | (go_at_call 171; (with_reducible refine (P4 _ _ B4 (HZ.out ▸ KM.out)).mono ?_); rintro e w5 ⟨rfl, c5⟩; have B5 := below_then B4 B4.size c5; have X5 := X4.keep c5; have y1 := X5.c1; have y2 := X5.c2))
    have y0 := X5.c0
    clear q1 q2 z1 z2
    go_wp2
    go_ret
    exact ⟨ret_int HR.out.symm, B5⟩
end Go.Proofs.Ytfncikbmdaameaa

/- Powers modulo 10007: Fermat's theorem by calculation, exponents modulo 10006. No program in sight. -/
namespace Go.Proofs.Ytfncikbmdaameaa

/-- a power of a whole number, modulo 10007 -/
def pmN (a n : Nat) : Nat := a ^ n % 10007
def chkP : Nat → Bool
  | 0 => true
  | n + 1 => Nat.beq (pmN (n + 1) 10006) 1 && chkP n
theorem chkP_all : chkP 10006 = true := by decide +kernel
theorem chkP_at (N : Nat) (hN : chkP N = true) (a : Nat) (h : 1 ≤ a) (h' : a ≤ N) : pmN a 10006 = 1 := by
  generalize he : 10006 = E at *
  induction N with
  | zero => omega
  | succ N ih =>
    unfold chkP at hN
    rw [he] at hN
    rw [Bool.and_eq_true] at hN
    by_cases e : a = N + 1
    · rw [e]; exact Nat.eq_of_beq_eq_true hN.1
    · exact ih hN.2 (by omega)
theorem fermatN (a : Nat) (h : 1 ≤ a) (h' : a ≤ 10006) : pmN a 10006 = 1 := chkP_at 10006 chkP_all a h h'
theorem pmN_add (a i j : Nat) : pmN a (i + j) = pmN a i * pmN a j % 10007 := by
  unfold pmN; rw [Nat.pow_add, Nat.mul_mod]
theorem pmN_mul (a i j : Nat) : pmN a (i * j) = pmN (pmN a i) j := by
  unfold pmN; rw [Nat.pow_mul, Nat.pow_mod]
theorem pmN_lt (a n : Nat) : pmN a n < 10007 := Nat.mod_lt _ (by omega)
theorem pmN_mod (a n : Nat) : pmN (a % 10007) n = pmN a n := by
  unfold pmN; rw [← Nat.pow_mod]
theorem pmN_period (a k r : Nat) (h : 1 ≤ a) (h' : a ≤ 10006) : pmN a (10006 * k + r) = pmN a r := by
  rw [pmN_add, pmN_mul]
  rw [fermatN a h h']
  have e : pmN 1 k = 1 := by unfold pmN; simp
  rw [e, Nat.one_mul]; exact Nat.mod_eq_of_lt (pmN_lt a r)
theorem pmN_cong (a i j : Nat) (h : 1 ≤ a) (h' : a ≤ 10006) (hij : i % 10006 = j % 10006) : pmN a i = pmN a j := by
  have e1 : i = 10006 * (i / 10006) + i % 10006 := by omega
  have e2 : j = 10006 * (j / 10006) + j % 10006 := by omega
  rw [e1, e2, pmN_period _ _ _ h h', pmN_period _ _ _ h h', hij]
theorem pmN_sq (a n : Nat) : pmN (a * a % 10007) n = pmN a (2 * n) := by
  rw [pmN_mod, pmN_mul]; show pmN (a * a) n = _
  have : pmN a 2 = a * a % 10007 := by unfold pmN; rw [Nat.pow_succ, Nat.pow_one]
  rw [this, pmN_mod]

/-- the power modulo 10007 of a number from 1 to 10006 with a whole exponent of either sign -/
def powP (a n : Int) : Int := if inB a 1 10006 && inB n (-1000000) 1000000 then (pmN a.toNat (n % 10006).toNat : Int) else 0
theorem powP_pos (a n : Int) (ha : 1 ≤ a) (ha' : a ≤ 10006) (hn : 0 ≤ n) : pmN a.toNat n.toNat = pmN a.toNat (n % 10006).toNat :=
  pmN_cong _ _ _ (by omega) (by omega) (by omega)
theorem powP_neg (a n : Int) (ha : 1 ≤ a) (ha' : a ≤ 10006) (hn : n < 0) : pmN (pmN a.toNat 10005) (-n).toNat = pmN a.toNat (n % 10006).toNat := by
  rw [← pmN_mul]
  refine pmN_cong _ _ _ (by omega) (by omega) ?_
  obtain ⟨m, rfl⟩ : ∃ m : Nat, n = -((m : Int) + 1) := ⟨(-n).toNat - 1, by omega⟩
  have e : (-(-((m : Int) + 1))).toNat = m + 1 := by omega
  rw [e]
  omega

theorem pm_odd (o x k : Nat) (hk : k % 2 = 1) : o * x % 10007 * pmN (x * x % 10007) (k / 2) % 10007 = o * pmN x k % 10007 := by
  have e : k = 1 + 2 * (k / 2) := by omega
  have h : pmN x k = pmN x 1 * pmN x (2 * (k / 2)) % 10007 := by
    rw [← pmN_add]; exact congrArg (pmN x) e
  rw [pmN_sq, h, Nat.mul_mod (o * x % 10007), Nat.mod_mod, ← Nat.mul_mod, Nat.mul_mod o, Nat.mod_mod, ← Nat.mul_mod]
  have h1 : pmN x 1 = x % 10007 := by unfold pmN; rw [Nat.pow_one]
  rw [h1, ← Nat.mul_assoc]
  rw [Nat.mul_mod (o * x), Nat.mul_mod (o * (x % 10007))]
  rw [Nat.mul_mod o x, Nat.mul_mod o (x % 10007), Nat.mod_mod]
theorem pm_even (o x k : Nat) (hk : k % 2 = 0) : o * pmN (x * x % 10007) (k / 2) % 10007 = o * pmN x k % 10007 := by
  have e : 2 * (k / 2) = k := by omega
  rw [pmN_sq, e]
end Go.Proofs.Ytfncikbmdaameaa

/- PointsValue: the plain law and the walks. -/
namespace Go.Proofs.Ytfncikbmdaameaa
open Go.RowKit
set_option linter.unusedVariables false
set_option linter.unusedSimpArgs false

def goodR (X : List Int) : Bool := vecB X && decide (X.length = 2)
def monI (X : List Int) (s u : Int) : Int := powP s (X.getD 0 0) * powP u (X.getD 1 0)
def accP (ls : List (List Int)) (s u : Int) : Nat → Int
  | 0 => 0
  | k + 1 => (accP ls s u k + monI (ls.getD k []) s u) % 10007
def ptsV (ls : List (List Int)) (s u : Int) : Int × Bool :=
  if inB s 1 10006 && inB u 1 10006 && ls.all goodR then (accP ls s u ls.length, true) else (0, false)
theorem ret_pts {p : Int × Bool} {a : Int} {b : Bool} (h : p = (a, b)) : Ending.returned (.tuple #[.int .i64 a, .bool b]) = Ending.returned (.tuple #[.int .i64 p.1, .bool p.2]) := by rw [h]
theorem powP_bd (a n : Int) : 0 ≤ powP a n ∧ powP a n < 10007 := by
  unfold powP
  split
  · unfold pmN
    have := Nat.mod_lt (a.toNat ^ (n % 10006).toNat) (show 0 < 10007 by omega)
    omega
  · omega
theorem monI_bd (X : List Int) (s u : Int) : 0 ≤ monI X s u ∧ monI X s u ≤ 100140049 := by
  have h1 := powP_bd s (X.getD 0 0)
  have h2 := powP_bd u (X.getD 1 0)
  unfold monI
  have := mul_bd2 (a := powP s (X.getD 0 0)) (b := powP u (X.getD 1 0)) (M := 10007) (N := 10007) (by omega) (by omega) h2.1 (by omega) (by omega)
  exact ⟨Int.mul_nonneg h1.1 h2.1, by omega⟩
theorem goodR_of {X : List Int} (h : goodR X = true) : X.length = 2 ∧ allIn X (-1000) 1000 = true := by
  simp only [goodR, vecB, Bool.and_eq_true, decide_eq_true_eq] at h
  exact ⟨h.2, h.1.2⟩
theorem ptsV_bad {ls : List (List Int)} {s u : Int} {k : Nat} (hk : k < ls.length) (h : goodR (ls.getD k []) = false) : ptsV ls s u = (0, false) := by
  unfold ptsV
  rw [if_neg]
  intro hc
  simp only [Bool.and_eq_true, List.all_eq_true] at hc
  have := hc.2 (ls.getD k []) (by rw [List.getD_eq_getElem?_getD, List.getElem?_eq_getElem hk]; exact List.getElem_mem hk)
  rw [h] at this; cases this
theorem ptsV_good {ls : List (List Int)} {s u : Int} (hs : inB s 1 10006 = true) (hu : inB u 1 10006 = true) (h : ∀ j, j < ls.length → goodR (ls.getD j []) = true) : ptsV ls s u = (accP ls s u ls.length, true) := by
  unfold ptsV
  rw [if_pos]
  simp only [Bool.and_eq_true, List.all_eq_true]
  refine ⟨⟨hs, hu⟩, fun x hx => ?_⟩
  obtain ⟨i, hi, rfl⟩ := List.mem_iff_getElem.1 hx
  have := h i hi
  rwa [List.getD_eq_getElem?_getD, List.getElem?_eq_getElem hi] at this

end Go.Proofs.Ytfncikbmdaameaa

/- PointsValue of the model: the walks. -/
namespace Go.Proofs.Ytfncikbmdaameaa
open Go.RowKit
set_option linter.unusedVariables false
set_option linter.unusedSimpArgs false

end Go.Proofs.Ytfncikbmdaameaa

/- Values of terms: the plain law. -/
namespace Go.Proofs.Ytfncikbmdaameaa
open Go.RowKit
set_option linter.unusedVariables false
set_option linter.unusedSimpArgs false

def tv0 (s : Int) (U : List Int) (a b : Int) : Int := if s < 0 then (10007 - monI U a b % 10007) % 10007 else monI U a b % 10007
def facI (g : List Int) (a b : Int) : Int := (10008 - monI g a b % 10007) % 10007
def tvK (s : Int) (U : List Int) (G : List (List Int)) (a b : Int) : Nat → Int
  | 0 => tv0 s U a b
  | k + 1 => tvK s U G a b k * powP (facI (G.getD k []) a b) (-1) % 10007
def termV (s : Int) (U : List Int) (G : List (List Int)) (a b : Int) : Int × Bool :=
  if termB s U G && inB a 1 10006 && inB b 1 10006 && G.all (fun g => decide (facI g a b ≠ 0)) then (tvK s U G a b G.length, true) else (0, false)
theorem facI_bd (g : List Int) (a b : Int) : 0 ≤ facI g a b ∧ facI g a b < 10007 := by unfold facI; omega
theorem tvK_bd (s : Int) (U : List Int) (G : List (List Int)) (a b : Int) : ∀ k, 0 ≤ tvK s U G a b k ∧ tvK s U G a b k < 10007
  | 0 => by rw [tvK]; unfold tv0; split <;> omega
  | k + 1 => by rw [tvK]; omega
theorem termV_no1 {s : Int} {U : List Int} {G : List (List Int)} {a b : Int} (h : termB s U G = false) : termV s U G a b = (0, false) := by unfold termV; rw [h]; rfl
theorem termV_no2 {s : Int} {U : List Int} {G : List (List Int)} {a b : Int} (h : inB a 1 10006 = false) : termV s U G a b = (0, false) := by unfold termV; rw [h, Bool.and_false]; rfl
theorem termV_no3 {s : Int} {U : List Int} {G : List (List Int)} {a b : Int} (h : inB b 1 10006 = false) : termV s U G a b = (0, false) := by unfold termV; rw [h, Bool.and_false]; rfl
theorem termV_no4 {s : Int} {U : List Int} {G : List (List Int)} {a b : Int} {k : Nat} (hk : k < G.length) (h : facI (G.getD k []) a b = 0) : termV s U G a b = (0, false) := by
  unfold termV; rw [all_getD_no (p := fun g => decide (facI g a b ≠ 0)) hk (by simp only [h]; simp), Bool.and_false]; rfl
theorem termV_yes {s : Int} {U : List Int} {G : List (List Int)} {a b : Int} (h1 : termB s U G = true) (h2 : inB a 1 10006 = true) (h3 : inB b 1 10006 = true) (h : ∀ k, k < G.length → facI (G.getD k []) a b ≠ 0) : termV s U G a b = (tvK s U G a b G.length, true) := by
  unfold termV
  rw [h1, h2, h3, all_getD (p := fun g => decide (facI g a b ≠ 0)) (fun k hk => by simp only [decide_eq_true_eq]; exact h k hk)]; rfl
/-- the program's first value -/
theorem tv0_prog {s : Int} (hs : s = 1 ∨ s = -1) (U : List Int) (a b : Int) :
    (((s + 10007).tmod 10007 * powP a (U.getD 0 0)).tmod 10007 * powP b (U.getD 1 0)).tmod 10007 = tv0 s U a b := by
  have h1 := powP_bd a (U.getD 0 0)
  have h2 := powP_bd b (U.getD 1 0)
  unfold tv0 monI
  generalize powP a (U.getD 0 0) = p at *
  generalize powP b (U.getD 1 0) = q at *
  rcases hs with rfl | rfl
  · have e1 : ((1 : Int) + 10007).tmod 10007 = 1 := by decide
    rw [e1, Int.one_mul, Int.tmod_eq_emod_of_nonneg h1.1, Int.emod_eq_of_lt h1.1 h1.2, Int.tmod_eq_emod_of_nonneg (Int.mul_nonneg h1.1 h2.1)]
    simp
  · have e1 : ((-1 : Int) + 10007).tmod 10007 = 10006 := by decide
    rw [e1, Int.tmod_eq_emod_of_nonneg (by omega : 0 ≤ 10006 * p)]
    have hm : 0 ≤ 10006 * p % 10007 := by omega
    rw [Int.tmod_eq_emod_of_nonneg (Int.mul_nonneg hm h2.1), if_pos (by omega)]
    have hk : 10006 * p % 10007 = 10006 * p - 10007 * (10006 * p / 10007) := by omega
    rw [hk]
    generalize 10006 * p / 10007 = k
    have e : (10006 * p - 10007 * k) * q = 10006 * (p * q) - 10007 * (k * q) := by grind
    rw [e]
    generalize p * q = r
    generalize k * q = z
    omega
end Go.Proofs.Ytfncikbmdaameaa

/- TermValue: the program's walk. -/
namespace Go.Proofs.Ytfncikbmdaameaa
open Go.RowKit
set_option linter.unusedVariables false
set_option linter.unusedSimpArgs false

theorem mul_lt7 {p q : Int} (h1 : 0 ≤ p ∧ p < 10007) (h2 : 0 ≤ q ∧ q < 10007) : 0 ≤ p * q ∧ p * q ≤ 100140049 := by
  have := mul_bd2 (a := p) (b := q) (M := 10007) (N := 10007) (by omega) (by omega) h2.1 (by omega) (by omega)
  exact ⟨Int.mul_nonneg h1.1 h2.1, by omega⟩
theorem tm7 {x : Int} (h : 0 ≤ x) : 0 ≤ x.tmod 10007 ∧ x.tmod 10007 < 10007 := by
  rw [Int.tmod_eq_emod_of_nonneg h]; omega
/-- the factor as the program reckons it -/
theorem facI_prog (g : List Int) (a b : Int) : (1 - (powP a (g.getD 0 0) * powP b (g.getD 1 0)).tmod 10007 + 10007).tmod 10007 = facI g a b := by
  have := monI_bd g a b
  unfold facI
  rw [show monI g a b = powP a (g.getD 0 0) * powP b (g.getD 1 0) from rfl] at *
  generalize powP a (g.getD 0 0) * powP b (g.getD 1 0) = m at *
  rw [Int.tmod_eq_emod_of_nonneg this.1, Int.tmod_eq_emod_of_nonneg (by omega)]; omega

end Go.Proofs.Ytfncikbmdaameaa

/- TermValue: the model's walk. -/
namespace Go.Proofs.Ytfncikbmdaameaa
open Go.RowKit
set_option linter.unusedVariables false
set_option linter.unusedSimpArgs false

end Go.Proofs.Ytfncikbmdaameaa
