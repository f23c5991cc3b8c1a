/- normalAt: the program's closure and its walk. -/
import Derived.Test.YtehhoplenloocaaGreatNrmM
import Derived.Test.YtehhoplenloocaaGreatParH
import Derived.Test.YtehhoplenloocaaGreatPrm
import Derived.Test.YtehhoplenloocaaGreatHulI
import Derived.Test.YtehhoplenloocaaGreatApl
import Derived.Deep.RegionHeld3
namespace Go.Proofs.YtehhoplenloocaaGreat
open Go.RowKit
set_option linter.unusedVariables false
set_option linter.unusedSimpArgs false

/-- numbers up to a bound, two of them -/
def Two (M : Int) (l : List Int) : Prop := l.length = 2 ∧ allIn l (-M) M = true
theorem Two.wide {M : Int} {l : List Int} (h : Two M l) {k : Int} (hk : M ≤ k) : allIn l (-k) k = true := allIn_up h.2 (by omega) hk
theorem Two.at {M : Int} {l : List Int} (h : Two M l) : (-M ≤ l.getD 0 0 ∧ l.getD 0 0 ≤ M) ∧ (-M ≤ l.getD 1 0 ∧ l.getD 1 0 ≤ M) := ⟨allIn_at h.2 0 (by rw [h.1]; omega), allIn_at h.2 1 (by rw [h.1]; omega)⟩
theorem Two.of {M x y : Int} (hx : -M ≤ x ∧ x ≤ M) (hy : -M ≤ y ∧ y ≤ M) : Two M [x, y] := ⟨rfl, by simp [allIn, inB]; omega⟩
theorem Two.minus {M N : Int} {a b : List Int} (ha : Two M a) (hb : Two M b) (hN : N = 2 * M) : Two N (minusI a b) := by
  obtain ⟨a0, a1⟩ := ha.at
  obtain ⟨b0, b1⟩ := hb.at
  exact Two.of (by omega) (by omega)
theorem Two.cross {M N : Int} {a b : List Int} (ha : Two M a) (hb : Two M b) (hM : 0 ≤ M) (hN : N = 2 * (M * M)) : -N ≤ crossI a b ∧ crossI a b ≤ N := by
  obtain ⟨a0, a1⟩ := ha.at
  obtain ⟨b0, b1⟩ := hb.at
  have h1 : (a.getD 0 0).natAbs * (b.getD 1 0).natAbs ≤ M.natAbs * M.natAbs := Nat.mul_le_mul (by omega) (by omega)
  have h2 : (a.getD 1 0).natAbs * (b.getD 0 0).natAbs ≤ M.natAbs * M.natAbs := Nat.mul_le_mul (by omega) (by omega)
  rw [← Int.natAbs_mul, ← Int.natAbs_mul] at h1 h2
  have : 0 ≤ M * M := Int.mul_nonneg hM hM
  unfold crossI
  omega
set_option maxRecDepth 100000 in
set_option maxHeartbeats 8000000 in
theorem split_any (x a u ww : List Int) (st : Int) (vx va vu vw : Value) (pa pw ps pu hb : Nat) (w : World) (ix : ISr w hb vx x) (ia : ISr w hb va a) (iu : ISr w hb vu u) (iw : ISr w hb vw ww) (hhb : hb ≤ w.heap.size)
    (ha : w.cell? ⟨pa, 0, none⟩ = some va) (hw : w.cell? ⟨pw, 0, none⟩ = some vw) (hs : w.cell? ⟨ps, 0, none⟩ = some (.int .i64 st)) (hu : w.cell? ⟨pu, 0, none⟩ = some vu) (lpa : pa < w.heap.size) (lpw : pw < w.heap.size) (lps : ps < w.heap.size) (lpu : pu < w.heap.size)
    (bx : Two 50 x) (ba : Two 50 a) (bu : Two 100 u) (bw : Two 100 ww) (hst : st = 1 ∨ st = -1) :
    Calls Tryz.prog 80 #[vx, .pointer (some ⟨pa, 0, none⟩), .pointer (some ⟨pw, 0, none⟩), .pointer (some ⟨ps, 0, none⟩), .pointer (some ⟨pu, 0, none⟩)] w fun e w' => ∃ r, e = .returned r ∧ IS w' w.heap.size w'.heap.size r [crossI (minusI x a) ww, st * crossI u (minusI x a)] ∧ Below w.heap.size w w' := by
  obtain ⟨x0, x1⟩ := bx.at
  obtain ⟨a0, a1⟩ := ba.at
  have MI := minus_any x a vx va hb w ix ia hhb bx.1 ba.1 (by omega) (by omega)
  have bv : Two 100 (minusI x a) := bx.minus ba rfl
  have hc1 := bv.cross bw (by omega) (N := 20000) rfl
  have hc2 := bu.cross bv (by omega) (N := 20000) rfl
  have CA := Lib.hid (fun W vv hv (iv : ISr W hv vv (minusI x a)) (jw : ISr W hb vw ww) => cross_any (minusI x a) ww vv vw hv hb W iv jw rfl bw.1 (bv.wide (by omega)) (bw.wide (by omega)))
  have CB := Lib.hid (fun W vv hv (iv : ISr W hv vv (minusI x a)) (ju : ISr W hb vu u) => cross_any u (minusI x a) vu vv hb hv W ju iv bu.1 rfl (bu.wide (by omega)) (bv.wide (by omega)))
  have HIW := Lib.hid iw
  have HIU := Lib.hid iu
  obtain ⟨aw, cw, rfl, -⟩ := id iw
  obtain ⟨au, cu, rfl, -⟩ := id iu
  obtain ⟨aa, ca, rfl, -⟩ := id ia
  rw [bw.1] at hw CA HIW
  rw [bu.1] at hu CB HIU
  rw [ba.1] at ha MI
  clear ix ia iu iw bx ba bu bw bv x0 x1 a0 a1
  have HML := Lib.hid (show (minusI x a).length = 2 from rfl)
  generalize minusI x a = v at *
  generalize crossI v ww = p at *
  generalize crossI u v = q at *
  have hwm : IntKind.i64.wrap (st * q) = st * q := wr64 _ (by rcases hst with e | e <;> rw [e] <;> omega)
  go_enter Tryz.func80, Tryz.ntmps80
  go_wp2_with fail
  with_reducible refine MI.mono ?_
  rintro e w1 ⟨uv, rfl, kv, c1⟩
  have KV := Lib.hid kv
  obtain ⟨av, cv, hv, -⟩ := id kv
  rw [HML.out] at hv
  subst hv
  have HS := Lib.hid (show ∀ W, Below w.heap.size w W → W.cell? ⟨pw, 0, none⟩ = some (.slice aw 2 cw) ∧ W.cell? ⟨ps, 0, none⟩ = some (.int .i64 st) ∧ W.cell? ⟨pu, 0, none⟩ = some (.slice au 2 cu) from fun W B => ⟨(B.cell (p := ⟨pw, 0, none⟩) lpw).trans hw, (B.cell (p := ⟨ps, 0, none⟩) lps).trans hs, (B.cell (p := ⟨pu, 0, none⟩) lpu).trans hu⟩)
  have C1 := Lib.hid c1
  have hz1 := c1.size
  have BD : Below w1.heap.size w1 w1.drew := below_draws _ _ 1
  have x0 := (HS.out _ (below_then C1.out hz1 BD)).1
  have x1 := (HS.out _ (below_then C1.out hz1 BD)).2.1
  have x2 := (HS.out _ (below_then C1.out hz1 BD)).2.2
  clear kv c1 MI ha hw hs hu
  go_wp2_with fail
  go_region_held3 (fun (w' : World) => w'.cell? ⟨pw, 0, none⟩ = some (.slice aw 2 cw) ∧ w'.cell? ⟨ps, 0, none⟩ = some (.int .i64 st) ∧ w'.cell? ⟨pu, 0, none⟩ = some (.slice au 2 cu))
    (first | exact ⟨x0, x1, x2⟩ | exact HS.out _ (below_then C1.out hz1 B5) | exact HS.out _ (below_then C1.out hz1 B4) | exact HS.out _ (below_then C1.out hz1 (B5.alloc B5.size _)) | go_keep)
    (first
      | (go_at_call 81; (with_reducible refine (CA.out _ _ _ ((KV.out.keep B4 (Nat.le_refl _)).read) (HIW.out.keep (below_then C1.out hz1 B4) hhb)).mono ?_); rintro e w5 ⟨rfl, d5, hw5⟩; have c5 := below_draws w4.heap.size w4 d5; rw [← hw5] at c5; clear hw5; have B5 := below_then B4 B4.size c5)
      | (go_at_call 81; (with_reducible refine (CB.out _ _ _ ((KV.out.keep B4 (Nat.le_refl _)).read) (HIU.out.keep (below_then C1.out hz1 B4) hhb)).mono ?_); rintro e w5 ⟨rfl, d5, hw5⟩; have c5 := below_draws w4.heap.size w4 d5; rw [← hw5] at c5; clear hw5; have B5 := below_then B4 B4.size c5)
      | (go_at_call 81; (with_reducible refine (CA.out _ _ _ ((KV.out.keep BD (Nat.le_refl _)).read) (HIW.out.keep (below_then C1.out hz1 BD) hhb)).mono ?_); rintro e w4 ⟨rfl, d4, hw4⟩; have c4 := below_draws w1.drew.heap.size w1.drew d4; rw [← hw4] at c4; clear hw4; have B4 := below_then BD BD.size c4)
      | (go_at_call 81; (with_reducible refine (CB.out _ _ _ ((KV.out.keep BD (Nat.le_refl _)).read) (HIU.out.keep (below_then C1.out hz1 BD) hhb)).mono ?_); rintro e w4 ⟨rfl, d4, hw4⟩; have c4 := below_draws w1.drew.heap.size w1.drew d4; rw [← hw4] at c4; clear hw4; have B4 := below_then BD BD.size c4))
  all_goals
    have hz5 := B5.size
    have IL := Lib.hid (IS.lit2 w5 w.heap.size (Nat.le_trans hz1 hz5) p (st * q))
    have B6 := Lib.hid ((below_then C1.out hz1 B5).alloc (Nat.le_trans hz1 hz5) (.cells #[.int .i64 p, .int .i64 (st * q)] 3))
    clear c4 c5 B4 B5 x0 x1 x2 BD hwm
    go_wp2
    go_ret
    exact ⟨_, rfl, IL.out.mono (Nat.le_refl _) (by simp), B6.out⟩
end Go.Proofs.YtehhoplenloocaaGreat
