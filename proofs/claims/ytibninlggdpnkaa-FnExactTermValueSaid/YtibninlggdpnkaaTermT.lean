/- Terms as the laws copy them. -/
import Derived.Test.YtibninlggdpnkaaTermE
namespace Go.Proofs.Ytibninlggdpnkaa
open Go.RowKit
set_option linter.unusedVariables false
set_option linter.unusedSimpArgs false

theorem ISS.setOther {w : World} {lo hi : Nat} {v : Value} {l : List (List Int)} (h : ISS w lo hi v l) {a : Addr} (ha : a.block < lo ∨ hi ≤ a.block) (u : Value) : ISS (w.setCell a u) lo hi v l :=
  h.of_blocks fun b h1 h2 h3 => Below.heap_setCell w a u b (by omega)
set_option maxHeartbeats 2000000 in
theorem toTerm_any (s : Int) (U : List Int) (G : List (List Int)) (v1 v2 : Value) (hb : Nat) (w : World) (i1 : ISr w hb v1 U) (i2 : ISSr w hb v2 G) (hhb : hb ≤ w.heap.size) (hl1 : U.length ≤ 1048576) (hl2 : G.length ≤ 1048576) (hl3 : ∀ i, i < G.length → (G.getD i []).length ≤ 1048576) :
    Calls Try.prog 49 #[.agg #[.int .i64 s, v1, v2]] w fun e w' => ∃ u1 u2, e = .returned (.agg #[.int .i64 s, u1, u2]) ∧ IS w' (w.heap.size + 3) (w.heap.size + 4) u1 U ∧ ISS w' (w.heap.size + 4) (w.heap.size + 5 + G.length) u2 G ∧ Below w.heap.size w w' ∧ w'.heap.size = w.heap.size + 5 + G.length := by
  have HT := fun w' (h' : ISr w' hb v1 U) (hh : hb ≤ w'.heap.size) => toIntS_any U v1 hb w' h' hh hl1
  have HT2 := fun w' (h' : ISSr w' hb v2 G) (hh : hb ≤ w'.heap.size) => toIntSS_any G v2 hb w' h' hh hl2 hl3
  have I1 := Lib.hid i1
  have I2 := Lib.hid i2
  clear i1 i2
  go_enter Try.func49, Try.ntmps49
  go_wp2_with fail
  have B0 := below3 w (.cells #[.int .i64 s, v1, v2] 58) (.cells #[.int .i64 0, .slice none 0 0, .slice none 0 0] 61) (.cells #[.int .i64 s, .slice none 0 0, .slice none 0 0] 61)
  refine (HT _ (I1.out.keep B0 hhb) (by simp; omega)).mono ?_
  rintro e w1 ⟨u1, rfl, k1, b1, s1⟩
  obtain ⟨c1, f1⟩ := bcell b1
  have J2 := Lib.hid ((I2.out.keep B0 hhb).keep b1 (by simp; omega))
  have B1 := Lib.hid (below_then B0 (by simp; omega) b1)
  have S1 := s1
  simp only [World.size_alloc] at S1
  have hz : w.heap.size + 1 + 1 < w1.heap.size := by omega
  have HS1 := Lib.hid S1
  obtain ⟨a1, cp1, rfl, -⟩ := id k1
  have K1 := Lib.hid k1
  clear s1 S1 k1 HT I1 I2 B0
  clear b1
  go_wp2_with fail
  have J3 := J2.out.keep ((Below.refl w.heap.size w1).setCell (p := ⟨w.heap.size + 1 + 1, 1, none⟩) (by show w.heap.size ≤ w.heap.size + 1 + 1; omega) (.slice a1 U.length cp1)) hhb
  refine (HT2 _ J3 (by simp; omega)).mono ?_
  rintro e w2 ⟨u2, rfl, k2, b2, s2⟩
  obtain ⟨c2, f2⟩ := bcell b2
  have B2 := Lib.hid (below_then (B1.out.setCell (p := ⟨w.heap.size + 1 + 1, 1, none⟩) (by show w.heap.size ≤ w.heap.size + 1 + 1; omega) (.slice a1 U.length cp1)) (by simp; omega) b2)
  have S2 := s2
  simp only [World.size_setCell] at S2
  have hz1 : w.heap.size + 1 < w1.heap.size := by omega
  have hz3 : w.heap.size + 1 < w2.heap.size := by omega
  have hz2 : w.heap.size + 1 + 1 < w2.heap.size := by omega
  have HS2 := Lib.hid S2
  have K1' := Lib.hid ((K1.out.setOther (a := ⟨w.heap.size + 1 + 1, 1, none⟩) (.inl (by show w.heap.size + 1 + 1 < _; simp)) (.slice a1 U.length cp1)).keep b2 (by simp [HS1.out]))
  obtain ⟨a2, cp2, rfl, -⟩ := id k2
  have K2 := Lib.hid k2
  clear b2 s2 S2 k2 J3 J2 HT2 K1 B1
  go_wp2_with fail
  have HS2' := HS2.out
  have HS1' := HS1.out
  refine bodyPost_ret (v := .agg #[.int .i64 s, .slice a1 U.length cp1, .slice a2 G.length cp2]) (by simp [results, Try.results49, go_sem, c1, c2, hz, hz1, hz2, hz3]) rfl ⟨_, _, rfl, ?_, ?_, ?_, ?_⟩
  · have k := K1'.out.mono (lo' := w.heap.size + 3) (hi' := w.heap.size + 4) (by simp) (by simp)
    refine ((((k.setOther (.inl ?_) _).setOther (.inl ?_) _).setOther (.inl ?_) _).setOther (.inl ?_) _)
    all_goals (dsimp only; omega)
  · have k := K2.out.mono (lo' := w.heap.size + 4) (hi' := w.heap.size + 5 + G.length) (by simp; omega) (by simp; omega)
    refine ((((k.setOther (.inl ?_) _).setOther (.inl ?_) _).setOther (.inl ?_) _).setOther (.inl ?_) _)
    all_goals (dsimp only; omega)
  · refine ((((B2.out.setCell ?_ _).setCell ?_ _).setCell ?_ _).setCell ?_ _)
    all_goals (dsimp only; omega)
  · simp; omega
end Go.Proofs.Ytibninlggdpnkaa
