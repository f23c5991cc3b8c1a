/- The law on IsReflexive: its walk. -/
import Derived.Test.YtcofkjnkdfibfaaPlH
import Derived.Test.YtcofkjnkdfibfaaB1
import Derived.Deep.RegionHeld3
namespace Go.Proofs.Ytcofkjnkdfibfaa
open Go.RowKit
set_option linter.unusedVariables false
set_option linter.unusedSimpArgs false

set_option maxHeartbeats 4000000 in
theorem lawIsReflexive (v0 : Value) (l0 : List (List Int)) (w : World) (h0 : ISSr w w.heap.size v0 l0) :
    Calls Try.prog 8 #[v0] w fun e w' => e = .returned (.bool true) ∧ Below w.heap.size w w' := by
  have b0 := Below.refl w.heap.size w
  obtain ⟨z0, hz0⟩ : ∃ z : Nat, z = (totS l0) := ⟨_, rfl⟩
  by_cases hZ0 : z0 ≤ 1048576
  case neg =>
    go_enter Try.func8, Try.ntmps8
    have B1 := Lib.hid b0
    have F2 := Lib.hid (h0.keep b0 (Nat.le_refl _))
    have L3 := Lib.hid (b0.size)
    clear b0 h0
    go_wp2_with fail
    have SZ := szIntSS_any l0 v0 1048576 w.heap.size _ F2.out (by omega) (by omega)
    rw [← hz0] at SZ
    unfold szL at SZ
    rw [if_pos (by omega)] at SZ
    refine (toBelow0 SZ).mono ?_
    clear SZ
    rintro e w4 ⟨rfl, c5⟩
    have B6 := Lib.hid (below_then B1.out B1.out.size c5)
    have L7 := Lib.hid (Nat.le_trans L3.out (c5).size)
    have F8 := Lib.hid (F2.out.keep c5 L3.out)
    clear B1 F2 L3
    clear c5
    go_wp2
    go_ret
    exact ⟨rfl, B6.out⟩
  have HT0 := fun w' (j1 : ISSr w' w.heap.size v0 l0) (hs : w.heap.size ≤ w'.heap.size) => toIntSS_any l0 v0 w.heap.size w' j1 hs (totS_len (ls := l0) (B := 1048576) (by omega)).1 (totS_len (ls := l0) (B := 1048576) (by omega)).2
  go_enter Try.func8, Try.ntmps8
  have B9 := Lib.hid b0
  have F10 := Lib.hid (h0.keep b0 (Nat.le_refl _))
  have L11 := Lib.hid (b0.size)
  clear b0 h0
  go_wp2_with fail
  have SZ := szIntSS_any l0 v0 1048576 w.heap.size _ F10.out (by omega) (by omega)
  rw [← hz0] at SZ
  unfold szL at SZ
  rw [if_neg (by omega)] at SZ
  refine (toBelow0 SZ).mono ?_
  clear SZ
  rintro e w12 ⟨rfl, c13⟩
  have B14 := Lib.hid (below_then B9.out B9.out.size c13)
  have L15 := Lib.hid (Nat.le_trans L11.out (c13).size)
  have F16 := Lib.hid (F10.out.keep c13 L11.out)
  clear B9 F10 L11
  clear c13
  have hr0 : 0 ≤ (1048576 : Int) - (z0 : Int) := by omega
  clear hz0
  go_wp2_with fail
  refine (HT0 w12 F16.out B14.out.size).mono ?_
  rintro e w17 ⟨u20, rfl, k21, c18, s19⟩
  have F22 := Lib.hid (k21.mono (lo' := w12.heap.size) (hi' := w17.heap.size) (by omega) (by omega)).read
  have L23 := Lib.hid (Nat.le_refl w17.heap.size)
  clear k21 s19
  have B24 := Lib.hid (below_then B14.out B14.out.size c18)
  have L25 := Lib.hid (Nat.le_trans L15.out (c18).size)
  have F26 := Lib.hid (F16.out.keep c18 L15.out)
  clear B14 F16 L15
  clear c18
  go_wp2_with fail
  have SP := specIsReflexive_any l0 u20 w17.heap.size w17  (F22.out.upto L23.out) (Nat.le_refl _)
  refine SP.mono ?_
  clear SP
  rintro e w27 ⟨rfl, c28⟩
  have B29 := Lib.hid (below_then B24.out B24.out.size c28)
  have L30 := Lib.hid (Nat.le_trans L25.out (c28).size)
  have F31 := Lib.hid (F26.out.keep c28 L25.out)
  have L32 := Lib.hid (Nat.le_trans L23.out (c28).size)
  have F33 := Lib.hid (F22.out.keep c28 L23.out)
  clear B24 F26 F22 L25 L23
  clear c28
  clear F33
  go_wp2_with fail
  refine (HT0 w27 F31.out B29.out.size).mono ?_
  rintro e w34 ⟨u37, rfl, k38, c35, s36⟩
  have F39 := Lib.hid (k38.mono (lo' := w27.heap.size) (hi' := w34.heap.size) (by omega) (by omega)).read
  have L40 := Lib.hid (Nat.le_refl w34.heap.size)
  clear k38 s36
  have B41 := Lib.hid (below_then B29.out B29.out.size c35)
  have L42 := Lib.hid (Nat.le_trans L30.out (c35).size)
  have F43 := Lib.hid (F31.out.keep c35 L30.out)
  clear B29 F31 L30
  clear c35
  go_wp2_with fail
  have SP := implIsReflexive_any l0 u37 w34.heap.size w34  (F39.out.upto L40.out) (Nat.le_refl _)
  refine SP.mono ?_
  clear SP
  rintro e w44 ⟨rfl, c45⟩
  have B46 := Lib.hid (below_then B41.out B41.out.size c45)
  have L47 := Lib.hid (Nat.le_trans L42.out (c45).size)
  have F48 := Lib.hid (F43.out.keep c45 L42.out)
  have L49 := Lib.hid (Nat.le_trans L40.out (c45).size)
  have F50 := Lib.hid (F39.out.keep c45 L40.out)
  clear B41 F43 F39 L42 L40
  clear c45
  go_wp2_with fail
  refine (HT0 w44 F48.out B46.out.size).mono ?_
  rintro e w51 ⟨u54, rfl, k55, c52, s53⟩
  have F56 := Lib.hid (k55.mono (lo' := w44.heap.size) (hi' := w51.heap.size) (by omega) (by omega)).read
  have L57 := Lib.hid (Nat.le_refl w51.heap.size)
  clear k55 s53
  have B58 := Lib.hid (below_then B46.out B46.out.size c52)
  have L59 := Lib.hid (Nat.le_trans L47.out (c52).size)
  have F60 := Lib.hid (F48.out.keep c52 L47.out)
  have L61 := Lib.hid (Nat.le_trans L49.out (c52).size)
  have F62 := Lib.hid (F50.out.keep c52 L49.out)
  clear B46 F48 F50 L47 L49
  clear c52
  go_wp2_with fail
  have E := eqIntSS_any l0 l0 u37 u54 _ _ _ F62.out F56.out
  rw [decide_eq_true (rfl : l0 = l0)] at E
  refine (toBelow E).mono ?_
  clear E
  rintro e w63 ⟨rfl, c64⟩
  have B65 := Lib.hid (below_then B58.out B58.out.size c64)
  have L66 := Lib.hid (Nat.le_trans L59.out (c64).size)
  have F67 := Lib.hid (F60.out.keep c64 L59.out)
  have L68 := Lib.hid (Nat.le_trans L61.out (c64).size)
  have F69 := Lib.hid (F62.out.keep c64 L61.out)
  have L70 := Lib.hid (Nat.le_trans L57.out (c64).size)
  have F71 := Lib.hid (F56.out.keep c64 L57.out)
  clear B58 F60 F62 F56 L59 L61 L57
  clear c64
  clear F71
  go_wp2
  go_ret
  exact ⟨rfl, B65.out⟩
end Go.Proofs.Ytcofkjnkdfibfaa
