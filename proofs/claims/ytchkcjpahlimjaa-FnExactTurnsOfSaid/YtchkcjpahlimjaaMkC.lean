/- Marking cones. -/
import Derived.Test.YtchkcjpahlimjaaOnly
import Derived.Test.YtchkcjpahlimjaaConeL
import Derived.Test.YtchkcjpahlimjaaGen
namespace Go.Proofs.Ytchkcjpahlimjaa
open Go.RowKit
set_option linter.unusedVariables false
set_option linter.unusedSimpArgs false

/-- two slices of the call's own, in blocks of their own -/
def ConeO (w : World) (lo hi : Nat) (u1 u2 : Value) (U V : List Int) : Prop := IS w lo hi u1 U ∧ IS w lo hi u2 V ∧ (blkOf u2 = none ∨ blkOf u2 ≠ blkOf u1)
theorem ConeO.fstR {w : World} {lo hi : Nat} {u1 u2 : Value} {U V : List Int} (h : ConeO w lo hi u1 u2 U V) : ISr w hi u1 U := h.1.read
theorem ConeO.sndR {w : World} {lo hi : Nat} {u1 u2 : Value} {U V : List Int} (h : ConeO w lo hi u1 u2 U V) : ISr w hi u2 V := h.2.1.read
theorem ConeO.nil (w : World) (lo hi : Nat) : ConeO w lo hi (.slice none 0 0) (.slice none 0 0) [] [] := ⟨IS.nil _ _ _, IS.nil _ _ _, .inl rfl⟩
theorem ConeO.keep {w w' : World} {lo hi B : Nat} {u1 u2 : Value} {U V : List Int} (h : ConeO w lo hi u1 u2 U V) (hb : Below B w w') (hB : hi ≤ B) : ConeO w' lo hi u1 u2 U V := ⟨h.1.keep hb hB, h.2.1.keep hb hB, h.2.2⟩
theorem ConeO.only {w w' : World} {lo hi lo2 hi2 : Nat} {u1 u2 : Value} {U V : List Int} (h : ConeO w lo2 hi2 u1 u2 U V) (ho : Only lo hi w w') (hd : hi2 ≤ lo ∨ hi ≤ lo2) : ConeO w' lo2 hi2 u1 u2 U V := ⟨h.1.only ho hd, h.2.1.only ho hd, h.2.2⟩

theorem IS.disj {w : World} {a b c d : Nat} {u1 u2 : Value} {U V : List Int} (h1 : IS w a b u1 U) (h2 : IS w c d u2 V) (h : b ≤ c ∨ d ≤ a) : blkOf u2 = none ∨ blkOf u2 ≠ blkOf u1 := by
  rcases h2.blkIn with h0 | ⟨x, e, l1, l2, -⟩
  · exact .inl h0
  · right
    rcases h1.blkIn with h0 | ⟨y, e', m1, m2, -⟩
    · rw [e, h0]; simp
    · rw [e, e']; intro g; injection g with g; omega
theorem ConeO.of {w : World} {a b c d lo hi : Nat} {u1 u2 : Value} {U V : List Int} (h1 : IS w a b u1 U) (h2 : IS w c d u2 V) (h : b ≤ c ∨ d ≤ a) (ha : lo ≤ a) (hb : b ≤ hi) (hc : lo ≤ c) (hd : d ≤ hi) : ConeO w lo hi u1 u2 U V :=
  ⟨h1.mono ha hb, h2.mono hc hd, IS.disj h1 h2 h⟩
theorem Box2.only {w w' : World} {n lo hi : Nat} {x y : Value} (h : Box2 w n x y) (ho : Only lo hi w w') (hn : n < lo ∨ hi ≤ n) : Box2 w' n x y := by
  have e := ho.block n h.lt hn
  exact ⟨Nat.lt_of_lt_of_le h.lt ho.size, (World.cell?_of_block (w := w) e).trans h.c0, (World.cell?_of_block (w := w) e).trans h.c1, (World.frozen?_of_block (w := w) e).trans h.f0, (World.frozen?_of_block (w := w) e).trans h.f1⟩
theorem Only.base {B lo hi : Nat} {w w1 w2 : World} (h : Below B w w1) (ho : Only lo hi w1 w2) (hB : B ≤ lo) (hlo : lo ≤ w1.heap.size) : Below B w w2 := h.trans ((ho.below hlo).mono hB)

set_option maxHeartbeats 1000000 in
theorem markCone_any (U V : List Int) (u1 u2 : Value) (lo hi : Nat) (k : Int) (w : World) (h : ConeO w lo hi u1 u2 U V) (hh : hi ≤ w.heap.size) (hk : 0 ≤ k) (hk' : k + U.length + V.length ≤ 4611686018427387904) :
    Calls Try.prog 20 #[.agg #[u1, u2], .int .i64 k] w fun e w' => e = .returned (.int .i64 (k + U.length + V.length)) ∧ ConeO w' lo hi u1 u2 (markL U.length k) (markL V.length (k + U.length)) ∧ Only lo hi w w' := by
  have b0 := below1 w (.cells #[u1, u2] 28)
  obtain ⟨i1, i2, hd⟩ := h.keep b0 hh
  have M1 := markIntS_any U u1 lo hi k _ i1 hk (by omega)
  have O0 := Only.of_below (lo := lo) (hi := hi) b0
  have bx := box2_new w u1 u2 28
  have x0 := bx.c0
  have x1 := bx.c1
  have hb2 : k + (U.length : Int) + V.length ≤ 4611686018427387904 := hk'
  have hsz : hi ≤ w.heap.size := hh
  go_enter Try.func20, Try.ntmps20
  go_wp2_with fail
  refine M1.mono ?_
  rintro e w1 ⟨rfl, k1, g1⟩
  have O1 := Only.of_grown (lo := lo) (hi := hi) g1 i1.blkIn
  have j2 := i2.grown g1 hd
  have M2 := markIntS_any V u2 lo hi (k + U.length) w1 j2 (by omega) (by omega)
  have x1' : w1.cell? ⟨w.heap.size, 1, none⟩ = some u2 := by
    rw [World.cell?_of_block (w := w.alloc (.cells #[u1, u2] 28)) (O1.block w.heap.size (by simp) (.inr hsz))]; exact x1
  clear M1 x0 x1
  go_wp2_with fail
  refine M2.mono ?_
  rintro e w2 ⟨rfl, k2, g2⟩
  have O2 := Only.of_grown (lo := lo) (hi := hi) g2 j2.blkIn
  have k1' : IS w2 lo hi u1 (markL U.length k) := by
    refine k1.grown g2 ?_
    rcases hd with h | h
    · rcases i1.blkIn with h1 | ⟨b, h1, -⟩
      · exact .inl h1
      · right; rw [h1, h]; simp
    · exact .inr (Ne.symm h)
  have HK := Lib.hid k1'
  have HK2 := Lib.hid k2
  have HO := Lib.hid ((O0.trans O1).trans O2)
  clear k1' k2 O0 O1 O2 g1 g2 M2 x1'
  go_wp2
  go_ret
  exact ⟨rfl, ⟨HK.out, HK2.out, hd⟩, HO.out⟩
end Go.Proofs.Ytchkcjpahlimjaa
