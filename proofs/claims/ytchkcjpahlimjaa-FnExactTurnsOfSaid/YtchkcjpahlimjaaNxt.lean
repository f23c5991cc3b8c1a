/- The next vector of a split cone: the model's walk. -/
import Derived.Test.YtchkcjpahlimjaaBez
import Derived.Test.YtchkcjpahlimjaaVec2
namespace Go.Proofs.Ytchkcjpahlimjaa
open Go.RowKit
set_option linter.unusedVariables false
set_option linter.unusedSimpArgs false

def parX (x y : Int) : Int := -(parE x y).a1 * (parE x y).r
def parY (x y : Int) : Int := (parE x y).a0 * (parE x y).r
theorem par_cross' {x y : Int} (hx : -30 ≤ x ∧ x ≤ 30) (hy : -30 ≤ y ∧ y ≤ 30) (hg : Int.gcd x y = 1) : x * parY x y - y * parX x y = 1 := par_cross hx hy hg
theorem smallB_iff {m x : Int} (h : smallB m x = true) : -m ≤ x ∧ x ≤ m := by
  unfold smallB at h; simp only [Bool.and_eq_true, decide_eq_true_eq] at h; exact h
theorem par_bd {x y : Int} (hx : -30 ≤ x ∧ x ≤ 30) (hy : -30 ≤ y ∧ y ≤ 30) (hg : Int.gcd x y = 1) : (-30 ≤ parX x y ∧ parX x y ≤ 30) ∧ (-30 ≤ parY x y ∧ parY x y ≤ 30) := by
  have h := eAll_end 10 _ (box_ok hx hy hg)
  have h2 := smallB_iff h.2.1
  have h3 := smallB_iff h.2.2.1
  unfold parX parY parE
  rw [Int.neg_mul]
  omega
/-- the next vector -/
def nextX (x y p q : Int) : Int := nxX x y p q (parX x y) (parY x y)
def nextY (x y p q : Int) : Int := nxY x y p q (parX x y) (parY x y)
theorem bez_M (a b : Int) (ha : -30 ≤ a ∧ a ≤ 30) (hb : -30 ≤ b ∧ b ≤ 30) : ∃ M : Int, ((a = M ∨ a = -M ∨ b = M ∨ b = -M) ∧ (-M ≤ a ∧ a ≤ M) ∧ (-M ≤ b ∧ b ≤ M)) ∧ M ≤ 30 := by
  refine ⟨max (a.natAbs : Int) (b.natAbs : Int), ?_, ?_⟩ <;> omega
theorem cross_bd30 {x y p q : Int} (hx : -30 ≤ x ∧ x ≤ 30) (hy : -30 ≤ y ∧ y ≤ 30) (hp : -30 ≤ p ∧ p ≤ 30) (hq : -30 ≤ q ∧ q ≤ 30) : -1800 ≤ x * q - y * p ∧ x * q - y * p ≤ 1800 := by
  have h1 := mul_abs (a := x) (b := q) (A := 30) (B := 30) (by omega) (by omega) (by omega) (by omega) (by omega) (by omega)
  have h2 := mul_abs (a := y) (b := p) (A := 30) (B := 30) (by omega) (by omega) (by omega) (by omega) (by omega) (by omega)
  omega
theorem in9 {x y : Int} (hx : -30 ≤ x ∧ x ≤ 30) (hy : -30 ≤ y ∧ y ≤ 30) : allIn [x, y] (-1000000000) 1000000000 = true := by
  simp [allIn, inB]; omega

set_option maxRecDepth 100000 in
set_option maxHeartbeats 4000000 in
theorem l9Next_any (x y p q : Int) (v1 v2 : Value) (hb : Nat) (w : World) (i1 : ISr w hb v1 [x, y]) (i2 : ISr w hb v2 [p, q]) (hhb : hb ≤ w.heap.size) (hx : -30 ≤ x ∧ x ≤ 30) (hy : -30 ≤ y ∧ y ≤ 30) (hp : -30 ≤ p ∧ p ≤ 30) (hq : -30 ≤ q ∧ q ≤ 30)
    (hg : Int.gcd x y = 1) (hd : 0 < x * q - y * p) :
    Calls Try.prog 57 #[v1, v2] w fun e w' => ∃ u, e = .returned u ∧ IS w' w.heap.size w'.heap.size u [nextX x y p q, nextY x y p q] ∧ Below w.heap.size w w' := by
  have pb := par_bd hx hy hg
  obtain ⟨M, hM, hM30⟩ := bez_M (parX x y) (parY x y) pb.1 pb.2
  have C0 := l7Cross_any [x, y] [p, q] v1 v2 hb hb w i1 i2 rfl rfl (in9 hx hy) (in9 hp hq)
  rw [show crossI [x, y] [p, q] = x * q - y * p by simp [crossI]] at C0
  have C1 := fun W (B : Below w.heap.size w W) => l9Bezout_any x y v1 hb W (i1.keep B hhb) (by have := B.size; omega) hx hy (parX x y) (parY x y) M (par_cross' hx hy hg) hM hM30
  have HSAME := Lib.hid (fun c d (h : x * d - y * c = 1) => nx_same (p := p) (q := q) (a := parX x y) (b := parY x y) (c := c) (d := d) hd (par_cross' hx hy hg) h)
  have HCD := Lib.hid (cross_bd30 hx hy hp hq)
  have HI1 := Lib.hid i1
  have HI2 := Lib.hid i2
  obtain ⟨a1, cp1, rfl, -⟩ := id i1
  obtain ⟨a2, cp2, rfl, -⟩ := id i2
  clear i1 i2 pb hM hM30
  obtain ⟨D, hD⟩ : ∃ D, D = x * q - y * p := ⟨_, rfl⟩
  rw [← hD] at C0 hd HCD
  have HD := Lib.hid hD
  clear hD
  go_enter Try.func57, Try.ntmps57
  go_wp2_with fail
  refine C0.mono ?_
  rintro e w1 ⟨rfl, d1, hw1⟩
  have HB1 := Lib.hid (show Below w.heap.size w w1 from hw1 ▸ below_draws _ _ _)
  clear hw1
  go_wp2_with fail
  refine (C1 _ HB1.out).mono ?_
  rintro e w2 ⟨u, c, d, rfl, hcr, hc, hd2, hisu, hbe2⟩
  have HS1 := Lib.hid HB1.out.size
  have HB2 := Lib.hid (below_then HB1.out HB1.out.size hbe2)
  have HS2 := Lib.hid hbe2.size
  have HSM := Lib.hid (HSAME.out c d hcr)
  have HISU := Lib.hid hisu
  have C2 := l7Cross_any [c, d] [p, q] u (Value.slice a2 2 cp2) w2.heap.size hb w2 hisu.read (HI2.out.keep HB2.out hhb) rfl rfl (in9 hc hd2) (in9 hp hq)
  rw [show crossI [c, d] [p, q] = c * q - d * p by simp [crossI]] at C2
  have hcb := cross_bd30 hc hd2 hp hq
  obtain ⟨au, cu, rfl, -⟩ := id hisu
  clear hisu hbe2 hcr
  obtain ⟨K, hK⟩ : ∃ K, K = c * q - d * p := ⟨_, rfl⟩
  rw [← hK] at C2 hcb
  have HK := Lib.hid hK
  clear hK
  go_wp2_with fail
  refine C2.mono ?_
  rintro e w3 ⟨rfl, d3, hw3⟩
  have HB3 := Lib.hid (show Below w2.heap.size w2 w3 from hw3 ▸ below_draws _ _ _)
  clear hw3
  go_wp2_with (go_at_call 96; (with_reducible refine (l3Floor_any K D _ (by omega) (by omega) (by omega) (by have := HCD.out; omega)).mono ?_); rintro e w' ⟨rfl, rfl⟩)
  have HF := Lib.hid (div_bd2 (x := K) (d := D) 1800 (by omega) (by omega) (by omega))
  have HB23 := Lib.hid (below_then HB2.out HB2.out.size HB3.out)
  have mb1 := mul_bd2 (a := K / D) (b := 30) (M := 1800) (N := 30) (by have := HF.out; omega) (by have := HF.out; omega) (by omega) (by omega) (by omega)
  obtain ⟨f, hf⟩ : ∃ f, f = K / D := ⟨_, rfl⟩
  rw [← hf] at HF ⊢
  have hmx := mul_bd6 (a := x) (b := f) (by omega) (by omega) (by have := HF.out; omega) (by have := HF.out; omega)
  have hmy := mul_bd6 (a := y) (b := f) (by omega) (by omega) (by have := HF.out; omega) (by have := HF.out; omega)
  have hf2 := hf
  rw [HK.out, HD.out] at hf2
  have HQ := Lib.hid (show f = nxQ x y p q c d from hf2)
  clear hf hf2 mb1
  refine (l2Scale_any [x, y] _ f hb w3 (HI1.out.keep HB23.out hhb) (by have := HB23.out.size; omega) (by simp) (fun k hk => ?_)).mono ?_
  · match k, hk with
    | 0, _ => simp only [List.getD_cons_zero]; omega
    | 1, _ => simp only [List.getD_cons_succ, List.getD_cons_zero]; omega
  rintro e w4 ⟨u4, rfl, is4, hb4⟩
  have HIS4 := Lib.hid is4
  have HB4 := Lib.hid (below_then HB23.out HB23.out.size hb4)
  have HSU := Lib.hid ((HISU.out.keep HB3.out (Nat.le_refl _)).keep hb4 HB3.out.size)
  have HZ := Lib.hid hb4.size
  have HZ3 := Lib.hid HB3.out.size
  obtain ⟨a4, c4, rfl, -⟩ := id is4
  clear is4 hb4
  go_wp2_with fail
  refine (l2Less_any [c, d] ([x, y].map (· * f)) _ _ w4.heap.size w4 (HSU.out.read.upto (by have := HZ.out; have := HZ3.out; omega)) HIS4.out.read (Nat.le_refl _) (by simp) (by simp) (fun k hk => ?_)).mono ?_
  · match k, hk with
    | 0, _ => simp only [List.map_cons, List.getD_cons_zero]; omega
    | 1, _ => simp only [List.map_cons, List.getD_cons_succ, List.getD_cons_zero]; omega
  rintro e w5 ⟨u5, rfl, is5, hb5⟩
  have HIS5 := Lib.hid is5
  have HB5 := Lib.hid (below_then HB4.out HB4.out.size hb5)
  obtain ⟨a5, c5, rfl, -⟩ := id is5
  clear is5 hb5
  go_wp2
  go_ret
  refine ⟨_, rfl, ?_, HB5.out⟩
  have e1 : List.zipWith (· - ·) [c, d] ([x, y].map (· * f)) = [nextX x y p q, nextY x y p q] := by
    unfold nextX nextY
    rw [← HSM.out.1, ← HSM.out.2]
    unfold nxX nxY
    rw [← HQ.out]
    simp [Int.mul_comm]
  rw [← e1]
  exact HIS5.out.mono HB4.out.size (Nat.le_refl _)
end Go.Proofs.Ytchkcjpahlimjaa
