/- The statement on tetrahedra: the walk. -/
import Derived.Test.YtfncikbmdaameaaDrE
import Derived.Test.YtfncikbmdaameaaTetN
import Derived.Test.YtfncikbmdaameaaVol
import Derived.Test.YtfncikbmdaameaaSame
import Derived.Test.YtfncikbmdaameaaTot
import Derived.Deep.RegionHeld3
import Derived.Deep.DeepCutAuto
namespace Go.Proofs.Ytfncikbmdaameaa
open Go.RowKit
set_option linter.unusedVariables false
set_option linter.unusedSimpArgs false

set_option maxRecDepth 100000 in
set_option maxHeartbeats 16000000 in
theorem lawFnTetrahedra (v : Value) (l : List Int) (w : World) (h : ISb w w.heap.size v l) :
    Calls Try.prog 9 #[v] w fun e w' => e = .returned (.bool true) ∧ Below w.heap.size w w' := by
  have HBG := big_any v l w.heap.size w h
  have CC := DrawTetraTop_any v l w.heap.size w h (Nat.le_refl _)
  have HI := Lib.hid h
  clear h
  cases hbig : decide (1048576 < l.length)
  case true =>
    rw [hbig] at HBG
    go_enter Try.func9, Try.ntmps9
    go_wp2_with (go_at_call 22; (with_reducible refine HBG.mono ?_); rintro e w' ⟨rfl, rfl⟩)
    go_ret
    exact ⟨rfl, Below.refl _ _⟩
  rw [hbig] at HBG
  clear hbig
  go_enter Try.func9, Try.ntmps9
  go_wp2_with (go_at_call 22; (with_reducible refine HBG.mono ?_); rintro e w' ⟨rfl, rfl⟩)
  clear HBG
  refine CC.mono ?_
  rintro e w1 ⟨⟨u1, ls, rfl, k1, hl1⟩, c1⟩
  clear CC
  have HB1 := Lib.hid c1
  have F_p := Lib.hid (k1.read)
  clear c1
  clear k1 hl1
  obtain ⟨a1, q1, e1, -⟩ := id F_p.out
  subst e1
  have CC := implTetraTop_any ls _ _ w1 F_p.out (Nat.le_refl _)
  go_wp2_with fail
  refine CC.mono ?_
  rintro e w2 ⟨u2, rfl, k2, c2⟩
  clear CC
  have HB2 := Lib.hid (below_then HB1.out HB1.out.size c2)
  clear HB1
  have ho := (F_p.out.keep c2 (Nat.le_refl _)).upto c2.size
  clear F_p
  have F_p := Lib.hid ho
  clear ho
  have F_t := Lib.hid (k2.read)
  clear c2
  clear k2
  obtain ⟨a2, q2, e2, -⟩ := id F_t.out
  subst e2
  have CC := DrawTetraHas_any v l w.heap.size w2 (HI.out.keep HB2.out (Nat.le_refl _)) HB2.out.size
  go_wp2_with fail
  refine CC.mono ?_
  rintro e w3 ⟨⟨u3, la, x3, xs, n3, rfl, k3, hl3, kx3, hx3⟩, c3⟩
  clear CC
  have HB3 := Lib.hid (below_then HB2.out HB2.out.size c3)
  clear HB2
  have ho := (F_p.out.keep c3 (Nat.le_refl _)).upto c3.size
  clear F_p
  have F_p := Lib.hid ho
  clear ho
  have ho := (F_t.out.keep c3 (Nat.le_refl _)).upto c3.size
  clear F_t
  have F_t := Lib.hid ho
  clear ho
  have F_a := Lib.hid (k3.read)
  have F_x := Lib.hid (kx3.read)
  clear c3
  clear k3 hl3 kx3 hx3
  obtain ⟨a3, q3, e3, -⟩ := id F_a.out
  subst e3
  obtain ⟨a4, q4, e4, -⟩ := id F_x.out
  subst e4
  have CC := DrawTetraCount_any v l w.heap.size w3 (HI.out.keep HB3.out (Nat.le_refl _)) HB3.out.size
  go_wp2_with fail
  refine CC.mono ?_
  rintro e w4 ⟨⟨u5, lb, n5, rfl, k5, hl5⟩, c4⟩
  clear CC
  have HB4 := Lib.hid (below_then HB3.out HB3.out.size c4)
  clear HB3
  have ho := (F_p.out.keep c4 (Nat.le_refl _)).upto c4.size
  clear F_p
  have F_p := Lib.hid ho
  clear ho
  have ho := (F_t.out.keep c4 (Nat.le_refl _)).upto c4.size
  clear F_t
  have F_t := Lib.hid ho
  clear ho
  have ho := (F_a.out.keep c4 (Nat.le_refl _)).upto c4.size
  clear F_a
  have F_a := Lib.hid ho
  clear ho
  have ho := (F_x.out.keep c4 (Nat.le_refl _)).upto c4.size
  clear F_x
  have F_x := Lib.hid ho
  clear ho
  have F_b := Lib.hid (k5.read)
  clear c4
  clear k5 hl5
  obtain ⟨a5, q5, e5, -⟩ := id F_b.out
  subst e5
  
  clear HI
  have SZ := Lib.hid (Nat.le_refl w4.heap.size)
  have C1 := fun W (B : Below w4.heap.size w4 W) => specTetraTop_any ls _ _ W (F_p.out.keep B (Nat.le_refl _)) B.size
  have C2 := fun W (B : Below w4.heap.size w4 W) => implTetraHas_any la xs n3 _ _ _ W (F_a.out.keep B (Nat.le_refl _)) (F_x.out.keep B (Nat.le_refl _)) B.size
  have C3 := fun W (B : Below w4.heap.size w4 W) => specTetraHas_any la xs n3 _ _ _ W (F_a.out.keep B (Nat.le_refl _)) (F_x.out.keep B (Nat.le_refl _)) B.size
  have C4 := fun W (B : Below w4.heap.size w4 W) => implTetraCount_any lb _ n5 _ W (F_b.out.keep B (Nat.le_refl _)) B.size
  have C5 := fun W (B : Below w4.heap.size w4 W) => specTetraCount_any lb _ n5 _ W (F_b.out.keep B (Nat.le_refl _)) B.size
  have C6 := fun W (B : Below w4.heap.size w4 W) => implTetraInner_any lb _ n5 _ W (F_b.out.keep B (Nat.le_refl _)) B.size
  have C7 := fun W (B : Below w4.heap.size w4 W) => specTetraInner_any lb _ n5 _ W (F_b.out.keep B (Nat.le_refl _)) B.size
  have C8 := fun W (B : Below w4.heap.size w4 W) => implVolumeSix_any ls _ _ W (F_p.out.keep B (Nat.le_refl _)) B.size
  have C9 := fun W (B : Below w4.heap.size w4 W) => specVolumeSix_any ls _ _ W (F_p.out.keep B (Nat.le_refl _)) B.size
  have C10 := fun W (B : Below w4.heap.size w4 W) => implIsTetra_any ls _ _ W (F_p.out.keep B (Nat.le_refl _)) B.size
  have C11 := fun W (B : Below w4.heap.size w4 W) => specIsTetra_any ls _ _ W (F_p.out.keep B (Nat.le_refl _)) B.size
  have C12 := fun W (B : Below w4.heap.size w4 W) => implTetraCount_any ls _ 3 _ W (F_p.out.keep B (Nat.le_refl _)) B.size
  have C13 := fun W (B : Below w4.heap.size w4 W) => implTetraInner_any ls _ 2 _ W (F_p.out.keep B (Nat.le_refl _)) B.size
  have BB := Below.refl w4.heap.size w4
  generalize thF la xs n3 = r1 at *
  generalize tcF lb n5 = r2 at *
  generalize tiF lb n5 = r3 at *
  go_upto_region 7 with fail
  go_cut [76] (fun s wx => s = .bool false ∧ Hid (Below w4.heap.size w4 wx))
  case first =>
    as_aux_lemma =>
      go_wp2_with (first
        | (go_at_call 83; (with_reducible refine (C1 _ BB).mono ?_); rintro e w6 ⟨u6, rfl, k6, c6⟩; have BB := below_then BB BB.size c6)
        | (go_at_call 67; have Q := toBelow (sameInts_any (ttF ls) (ttF ls) _ u6 _ _ w6 (F_t.out.keep BB (Nat.le_refl _)) k6.read); (with_reducible refine Q.mono ?_); rw [decide_eq_true (rfl : ttF ls = ttF ls)]; rintro e w7 ⟨rfl, c7⟩; have BB := below_then BB BB.size c7)
        | (go_at_call 84; (with_reducible refine (C2 _ BB).mono ?_); rintro e w8 ⟨rfl, c8⟩; have BB := below_then BB BB.size c8)
        | (go_at_call 85; (with_reducible refine (C3 _ BB).mono ?_); rintro e w9 ⟨rfl, c9⟩; have BB := below_then BB BB.size c9)
        | (go_at_call 86; (with_reducible refine (C4 _ BB).mono ?_); rintro e w10 ⟨rfl, c10⟩; have BB := below_then BB BB.size c10)
        | (go_at_call 87; (with_reducible refine (C5 _ BB).mono ?_); rintro e w11 ⟨rfl, c11⟩; have BB := below_then BB BB.size c11)
        | (go_at_call 88; (with_reducible refine (C6 _ BB).mono ?_); rintro e w12 ⟨rfl, c12⟩; have BB := below_then BB BB.size c12)
        | (go_at_call 89; (with_reducible refine (C7 _ BB).mono ?_); rintro e w13 ⟨rfl, c13⟩; have BB := below_then BB BB.size c13)
        | (go_at_call 90; (with_reducible refine (C8 _ BB).mono ?_); rintro e w14 ⟨rfl, c14⟩; have BB := below_then BB BB.size c14)
        | (go_at_call 91; (with_reducible refine (C9 _ BB).mono ?_); rintro e w15 ⟨rfl, c15⟩; have BB := below_then BB BB.size c15)
        | (go_at_call 92; (with_reducible refine (C10 _ BB).mono ?_); rintro e w16 ⟨rfl, c16⟩; have BB := below_then BB BB.size c16)
        | (go_at_call 93; (with_reducible refine (C11 _ BB).mono ?_); rintro e w17 ⟨rfl, c17⟩; have BB := below_then BB BB.size c17))
      go_meet
      exact ⟨rfl, Lib.hid BB⟩
  case rest =>
  obtain ⟨rfl, HC⟩ := hcut
  clear C1 C2 C3 C4 C5 C6 C7 C9 C10 C11 F_a F_x F_b BB
  cases ht : tetraB ls
  · have hr : ttF ls = [] := by unfold ttF; rw [ht]; rfl
    have hv : volF ls = 0 := by unfold volF; rw [ht]; rfl
    rw [hv] at C8
    rw [hr] at F_t ⊢
    have C8' := C8 _ HC.out
    have HB5 := Lib.hid (below_then HB4.out HB4.out.size HC.out)
    clear C8 C12 C13 hr hv ht
    go_wp2_with fail
    refine C8'.mono ?_
    rintro e w5 ⟨rfl, c5⟩
    go_wp2
    go_ret
    exact ⟨rfl, below_then HB5.out HB5.out.size c5⟩
  obtain ⟨b1, b2, b3, hT, h1, h2, h3, hsum, h4, h5⟩ := tet_law ht
  have hbd := tet_bd ht
  have hvol : volF ls = 1 + b1 + b2 + b3 := by
    unfold volF; rw [ht, if_pos rfl, hsum]; omega
  rw [← hsum] at hbd
  rw [hT] at F_t ⊢
  have TT := Lib.hid (fun W (B : Below w4.heap.size w4 W) => total_any [1, b1, b2, b3] _ _ W (F_t.out.keep B (Nat.le_refl _)) (by simp) (fun x hx => by simp at hx; omega))
  have hs4 : [1, b1, b2, b3].sum = 1 + b1 + b2 + b3 := by simp; omega
  rw [hvol] at C8
  rw [h4] at C12
  rw [h5] at C13
  clear hT hsum h4 h5 ht hvol
  obtain ⟨bt, ot, rfl, hbb, hcc⟩ : ∃ b off, a2 = some ⟨b, off, none⟩ ∧ b < w4.heap.size ∧ ∀ i, i < 4 → w4.cell? ⟨b, off + i, none⟩ = some (.int .i64 ([1, b1, b2, b3].getD i 0)) := by
    obtain ⟨a', cap', e, -, -, hc⟩ := F_t.out
    injection e with e1 e2 e3
    obtain ⟨b, off, f1, f2, f3⟩ := hc (by simp)
    exact ⟨b, off, e1.trans f1, f2, fun i hi => f3 i (by simpa using hi)⟩
  have HCC := Lib.hid hcc
  clear hcc
  rw [show [1, b1, b2, b3].length = 4 from rfl] at TT ⊢
  rw [hs4] at TT
  have HB5 := Lib.hid (below_then HB4.out HB4.out.size HC.out)
  clear F_t F_p hs4
  have hn0 : ((4 : Int) == 0) = false := rfl
  have q0 := HCC.out 0 (by omega)
  have q1 := HCC.out 1 (by omega)
  have q2' := HCC.out 2 (by omega)
  have q3 := HCC.out 3 (by omega)
  simp only [List.getD_cons_zero, List.getD_cons_succ, Nat.add_zero] at q0 q1 q2' q3
  have y0 := (HC.out.cell (p := ⟨bt, ot, none⟩) hbb).trans q0
  have y1 := (HC.out.cell (p := ⟨bt, ot + 1, none⟩) hbb).trans q1
  have y2 := (HC.out.cell (p := ⟨bt, ot + 2, none⟩) hbb).trans q2'
  have y3 := (HC.out.cell (p := ⟨bt, ot + 3, none⟩) hbb).trans q3
  clear q0 q1 q2' q3 HCC
  go_wp2_with fail
  go_loop [10] (fun i => ∃ k : Nat, k ≤ 4 ∧ i = .int .i64 k) (fun i => 4 - (intOf i).toNat)
  case atStart => exact ⟨0, by omega, rfl⟩
  case round =>
    obtain ⟨k, hk, rfl⟩ := hrel
    by_cases hlt : k < 4
    · have HCK := Lib.hid (show ∃ z : Int, 0 ≤ z ∧ wc.cell? ⟨bt, ot + k, none⟩ = some (.int .i64 z) by
        rcases (show k = 0 ∨ k = 1 ∨ k = 2 ∨ k = 3 by omega) with rfl | rfl | rfl | rfl
        · exact ⟨_, by omega, y0⟩
        · exact ⟨_, h1, y1⟩
        · exact ⟨_, h2, y2⟩
        · exact ⟨_, h3, y3⟩)
      obtain ⟨z, hz, ck⟩ := HCK.out
      have hzn : decide (z < 0) = false := by simp; omega
      clear y0 y1 y2 y3
      go_wp2
      go_round
      case rel => exact ⟨k + 1, by omega, by go_num⟩
      case measure => simp [intOf]; omega
    · obtain rfl : k = 4 := by omega
      have T4 := TT.out _ HC.out
      go_wp2_with (first
        | (go_at_call 94; (with_reducible refine T4.mono ?_); rintro e w7 ⟨rfl, rfl⟩)
        | (go_at_call 90; (with_reducible refine (C8 _ HC.out).mono ?_); rintro e w8 ⟨rfl, c8⟩))
      have Y := Lib.hid (below_then HC.out HC.out.size c8)
      have HB6 := Lib.hid (below_then HB4.out HB4.out.size Y.out)
      have hc := HC.out.size
      have x0 := (c8.cell (p := ⟨bt, ot, none⟩) (Nat.lt_of_lt_of_le hbb hc)).trans y0
      have x1 := (c8.cell (p := ⟨bt, ot + 1, none⟩) (Nat.lt_of_lt_of_le hbb hc)).trans y1
      have x2 := (c8.cell (p := ⟨bt, ot + 2, none⟩) (Nat.lt_of_lt_of_le hbb hc)).trans y2
      have x3 := (c8.cell (p := ⟨bt, ot + 3, none⟩) (Nat.lt_of_lt_of_le hbb hc)).trans y3
      clear y0 y1 y2 y3 C8 TT T4 c8 HB5
      have m1 := wr64 (10 * b1) (by omega)
      have m2 := wr64 (4 * b2) (by omega)
      have m3 := wr64 (20 + 10 * b1) (by omega)
      have m4 := wr64 (20 + 10 * b1 + 4 * b2) (by omega)
      have m5 := wr64 (20 + 10 * b1 + 4 * b2 + b3) (by omega)
      have m6 := wr64 (4 * b3) (by omega)
      have m7 := wr64 (b2 + 4 * b3) (by omega)
      go_quiet (fail)
      have Y9 := Lib.hid (Y.out.trans (below_draws w4.heap.size w8 nq))
      have x2' : (w8.drewN nq).cell? ⟨bt, ot + 2, none⟩ = some (.int .i64 b2) := x2
      have x3' : (w8.drewN nq).cell? ⟨bt, ot + 3, none⟩ = some (.int .i64 b3) := x3
      clear x0 x1 x2 x3
      generalize w8.drewN nq = w9 at *
      obtain ⟨T3, hT3⟩ : ∃ T3, T3 = 20 + 10 * b1 + 4 * b2 + b3 := ⟨_, rfl⟩
      rw [← hT3] at C12 ⊢
      have hTT : (T3 == T3) = true := by simp
      have hUU : (b2 + 4 * b3 == b2 + 4 * b3) = true := by simp
      clear m1 m2 m3 m4 m5 hT3
      have D9 : Below w4.heap.size w4 w9.drew := Y9.out.trans (below_draws w4.heap.size w9 1)
      have h9 := Nat.lt_of_lt_of_le hbb Y9.out.size
      go_wp2_with fail
      go_region_held3 (fun w' => w'.cell? ⟨bt, ot + 2, none⟩ = some (.int .i64 b2) ∧ w'.cell? ⟨bt, ot + 3, none⟩ = some (.int .i64 b3))
        (first | exact ⟨x2', x3'⟩ | exact ⟨z2, z3⟩ | go_keep)
        (first
          | (go_at_call 86; (with_reducible refine (C12 _ D9).mono ?_); rintro e w10 ⟨rfl, c10⟩; have BB := below_then (below_draws w9.heap.size w9 1) (Nat.le_refl _) c10; have DD := below_then D9 D9.size c10; have z2 := (BB.cell (p := ⟨bt, ot + 2, none⟩) h9).trans x2'; have z3 := (BB.cell (p := ⟨bt, ot + 3, none⟩) h9).trans x3')
          | (go_at_call 88; (with_reducible refine (C13 _ DD).mono ?_); rintro e w11 ⟨rfl, c11⟩; have BB := below_then BB BB.size c11; have z2 := (BB.cell (p := ⟨bt, ot + 2, none⟩) h9).trans x2'; have z3 := (BB.cell (p := ⟨bt, ot + 3, none⟩) h9).trans x3'))
      go_wp2
      go_ret
      exact ⟨rfl, below_then (below_then HB4.out HB4.out.size Y9.out) (Nat.le_trans HB4.out.size Y9.out.size) BB⟩
end Go.Proofs.Ytfncikbmdaameaa
