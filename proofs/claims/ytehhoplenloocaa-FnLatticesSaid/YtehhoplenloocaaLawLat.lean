/- The statement on lattices: the walk. -/
import Derived.Test.YtehhoplenloocaaB8
import Derived.Test.YtehhoplenloocaaB10
import Derived.Test.YtehhoplenloocaaCelP
import Derived.Test.YtehhoplenloocaaSame
import Derived.Test.YtehhoplenloocaaB1
import Derived.Deep.AppendLies
import Derived.Deep.DeepCutAuto
namespace Go.Proofs.Ytehhoplenloocaa
open Go.RowKit
set_option linter.unusedVariables false
set_option linter.unusedSimpArgs false

theorem leads_new {M P : List (List Int)} (hn : P.Nodup) (hc : ∀ c ∈ P, celP M (clsV M c).1 = c) {k : Nat} (hk : k < P.length) : decide ((clsV M (P.getD k [])).1 ∈ (P.take k).map fun c => (clsV M c).1) = false := by
  rw [decide_eq_false_iff_not]
  intro h
  obtain ⟨c, h1, h2⟩ := List.mem_map.1 h
  obtain ⟨j, hj, rfl⟩ := List.getElem_of_mem h1
  rw [List.length_take] at hj
  rw [List.getElem_take] at h2
  have e : P.getD k [] = P[k] := by rw [List.getD_eq_getElem?_getD, List.getElem?_eq_getElem hk]; rfl
  rw [e] at h2
  have a := hc P[j] (List.getElem_mem _)
  have b := hc P[k] (List.getElem_mem _)
  rw [h2, b] at a
  exact (List.pairwise_iff_getElem.1 hn) j k (by omega) hk (by omega) a.symm
theorem sameL_yes (l : List (List Int)) (v1 v2 : Value) (h1 h2 : Nat) (w : World) (i1 : ISSr w h1 v1 l) (i2 : ISSr w h2 v2 l) : Calls Try.prog 15 #[v1, v2] w fun e w' => e = .returned (.bool true) ∧ Below w.heap.size w w' := by
  have := toBelow (sameLists_any l l v1 v2 h1 h2 w i1 i2)
  rwa [decide_eq_true rfl] at this
theorem sameI_yes (l : List Int) (v1 v2 : Value) (h1 h2 : Nat) (w : World) (i1 : ISr w h1 v1 l) (i2 : ISr w h2 v2 l) : Calls Try.prog 18 #[v1, v2] w fun e w' => e = .returned (.bool true) ∧ Below w.heap.size w w' := by
  have := toBelow (sameInts_any l l v1 v2 h1 h2 w i1 i2)
  rwa [decide_eq_true rfl] at this

set_option maxRecDepth 100000 in
set_option maxHeartbeats 16000000 in
theorem lawFnLattices (v : Value) (l : List Int) (w : World) (h : ISb w w.heap.size v l) :
    Calls Try.prog 4 #[v] w fun e w' => e = .returned (.bool true) ∧ Below w.heap.size w w' := by
  have HBG := big_any v l w.heap.size w h
  have CC := DrawCellPoints_any v l w.heap.size w h (Nat.le_refl _)
  have HI := Lib.hid h
  clear h
  cases hbig : decide (1048576 < l.length)
  case true =>
    rw [hbig] at HBG
    go_enter Try.func4, Try.ntmps4
    go_wp2_with (go_at_call 6; (with_reducible refine HBG.mono ?_); rintro e w' ⟨rfl, rfl⟩)
    go_ret
    exact ⟨rfl, Below.refl _ _⟩
  rw [hbig] at HBG
  clear hbig
  go_enter Try.func4, Try.ntmps4
  go_wp2_with (go_at_call 6; (with_reducible refine HBG.mono ?_); rintro e w' ⟨rfl, rfl⟩)
  clear HBG
  refine CC.mono ?_
  rintro e w1 ⟨⟨u1, M, rfl, i1⟩, c1⟩
  clear CC
  have HB1 := Lib.hid c1
  have F_M := Lib.hid (i1.read)
  clear c1
  clear i1
  obtain ⟨a1, q1, e1, -⟩ := id F_M.out
  subst e1
  have CC := implCellPoints_any M _ _ w1 F_M.out (Nat.le_refl _)
  go_wp2_with fail
  refine CC.mono ?_
  rintro e w2 ⟨u2, rfl, k2, c2⟩
  clear CC
  have HB2 := Lib.hid (below_then HB1.out HB1.out.size c2)
  clear HB1
  have ho := (F_M.out.keep c2 (Nat.le_refl _)).upto c2.size
  clear F_M
  have F_M := Lib.hid ho
  clear ho
  have F_P := Lib.hid (k2.read)
  clear c2
  clear k2
  obtain ⟨a2, q2, e2, -⟩ := id F_P.out
  subst e2
  have CC := implClassLeaders_any M _ _ w2 F_M.out (Nat.le_refl _)
  go_wp2_with fail
  refine CC.mono ?_
  rintro e w3 ⟨u3, rfl, k3, c3⟩
  clear CC
  have HB3 := Lib.hid (below_then HB2.out HB2.out.size c3)
  clear HB2
  have ho := (F_M.out.keep c3 (Nat.le_refl _)).upto c3.size
  clear F_M
  have F_M := Lib.hid ho
  clear ho
  have ho := (F_P.out.keep c3 (Nat.le_refl _)).upto c3.size
  clear F_P
  have F_P := Lib.hid ho
  clear ho
  have F_L := Lib.hid (k3.read)
  clear c3
  clear k3
  obtain ⟨a3, q3, e3, -⟩ := id F_L.out
  subst e3
  have CC := DrawClassLeader_any v l w.heap.size w3 (HI.out.keep HB3.out (Nat.le_refl _)) HB3.out.size
  go_wp2_with fail
  refine CC.mono ?_
  rintro e w4 ⟨⟨u4, u5, N, X, rfl, i4, -, i5, -, -⟩, c4⟩
  clear CC
  have HB4 := Lib.hid (below_then HB3.out HB3.out.size c4)
  clear HB3
  have ho := (F_M.out.keep c4 (Nat.le_refl _)).upto c4.size
  clear F_M
  have F_M := Lib.hid ho
  clear ho
  have ho := (F_P.out.keep c4 (Nat.le_refl _)).upto c4.size
  clear F_P
  have F_P := Lib.hid ho
  clear ho
  have ho := (F_L.out.keep c4 (Nat.le_refl _)).upto c4.size
  clear F_L
  have F_L := Lib.hid ho
  clear ho
  have F_N := Lib.hid (i4.read)
  have F_X := Lib.hid (i5.read)
  clear c4
  clear i4 i5
  obtain ⟨a4, q4, e4, -⟩ := id F_N.out
  subst e4
  obtain ⟨a5, q5, e5, -⟩ := id F_X.out
  subst e5
  have CC := implClassLeader_any N X _ _ _ w4 F_N.out F_X.out (Nat.le_refl _)
  go_wp2_with fail
  refine CC.mono ?_
  rintro e w5 ⟨u6, rfl, k6, c5⟩
  clear CC
  have HB5 := Lib.hid (below_then HB4.out HB4.out.size c5)
  clear HB4
  have ho := (F_M.out.keep c5 (Nat.le_refl _)).upto c5.size
  clear F_M
  have F_M := Lib.hid ho
  clear ho
  have ho := (F_P.out.keep c5 (Nat.le_refl _)).upto c5.size
  clear F_P
  have F_P := Lib.hid ho
  clear ho
  have ho := (F_L.out.keep c5 (Nat.le_refl _)).upto c5.size
  clear F_L
  have F_L := Lib.hid ho
  clear ho
  have ho := (F_N.out.keep c5 (Nat.le_refl _)).upto c5.size
  clear F_N
  have F_N := Lib.hid ho
  clear ho
  have ho := (F_X.out.keep c5 (Nat.le_refl _)).upto c5.size
  clear F_X
  have F_X := Lib.hid ho
  clear ho
  have F_A := Lib.hid (k6.read)
  clear c5
  clear k6
  obtain ⟨a6, q6, e6, -⟩ := id F_A.out
  subst e6
  have CC := specClassLeader_any N X _ _ _ w5 F_N.out F_X.out (Nat.le_refl _)
  go_wp2_with fail
  refine CC.mono ?_
  rintro e w6 ⟨u7, rfl, k7, c6⟩
  clear CC
  have HB6 := Lib.hid (below_then HB5.out HB5.out.size c6)
  clear HB5
  have ho := (F_M.out.keep c6 (Nat.le_refl _)).upto c6.size
  clear F_M
  have F_M := Lib.hid ho
  clear ho
  have ho := (F_P.out.keep c6 (Nat.le_refl _)).upto c6.size
  clear F_P
  have F_P := Lib.hid ho
  clear ho
  have ho := (F_L.out.keep c6 (Nat.le_refl _)).upto c6.size
  clear F_L
  have F_L := Lib.hid ho
  clear ho
  have ho := (F_N.out.keep c6 (Nat.le_refl _)).upto c6.size
  clear F_N
  have F_N := Lib.hid ho
  clear ho
  have ho := (F_X.out.keep c6 (Nat.le_refl _)).upto c6.size
  clear F_X
  have F_X := Lib.hid ho
  clear ho
  have ho := (F_A.out.keep c6 (Nat.le_refl _)).upto c6.size
  clear F_A
  have F_A := Lib.hid ho
  clear ho
  have F_B := Lib.hid (k7.read)
  clear c6
  clear k7
  obtain ⟨a7, q7, e7, -⟩ := id F_B.out
  subst e7
  have CC := DrawSameClass_any v l w.heap.size w6 (HI.out.keep HB6.out (Nat.le_refl _)) HB6.out.size
  go_wp2_with fail
  refine CC.mono ?_
  rintro e w7 ⟨⟨u8, u9, u10, Q, Y, Z, rfl, i8, i9, i10⟩, c7⟩
  clear CC
  have HB7 := Lib.hid (below_then HB6.out HB6.out.size c7)
  clear HB6
  have ho := (F_M.out.keep c7 (Nat.le_refl _)).upto c7.size
  clear F_M
  have F_M := Lib.hid ho
  clear ho
  have ho := (F_P.out.keep c7 (Nat.le_refl _)).upto c7.size
  clear F_P
  have F_P := Lib.hid ho
  clear ho
  have ho := (F_L.out.keep c7 (Nat.le_refl _)).upto c7.size
  clear F_L
  have F_L := Lib.hid ho
  clear ho
  have ho := (F_N.out.keep c7 (Nat.le_refl _)).upto c7.size
  clear F_N
  have F_N := Lib.hid ho
  clear ho
  have ho := (F_X.out.keep c7 (Nat.le_refl _)).upto c7.size
  clear F_X
  have F_X := Lib.hid ho
  clear ho
  have ho := (F_A.out.keep c7 (Nat.le_refl _)).upto c7.size
  clear F_A
  have F_A := Lib.hid ho
  clear ho
  have ho := (F_B.out.keep c7 (Nat.le_refl _)).upto c7.size
  clear F_B
  have F_B := Lib.hid ho
  clear ho
  have F_Q := Lib.hid (i8.read)
  have F_Y := Lib.hid (i9.read)
  have F_Z := Lib.hid (i10.read)
  clear c7
  clear i8 i9 i10
  obtain ⟨a8, q8, e8, -⟩ := id F_Q.out
  subst e8
  obtain ⟨a9, q9, e9, -⟩ := id F_Y.out
  subst e9
  obtain ⟨a10, q10, e10, -⟩ := id F_Z.out
  subst e10
  clear HI
  obtain ⟨i0, hi0, hz0, hz1, hz2⟩ := info_parts info_ints
  have HI0 := Lib.hid hi0; clear hi0
  have HZ0 := Lib.hid hz0; clear hz0
  have HZ1 := Lib.hid hz1; clear hz1
  have HZ2 := Lib.hid hz2; clear hz2
  go_upto_region 10 with fail
  obtain ⟨wz, hwz⟩ : ∃ wz, wz = w7 := ⟨_, rfl⟩
  subst hwz
  have hlat := fun h => lat_all (M := M) h
  have hag := fun h => cls_again (M := N) (x := X) h
  have C1 := fun W (R : Below wz.heap.size wz W) => specCellPoints_any M _ _ W (F_M.out.keep R (Nat.le_refl _)) R.size
  have C2 := fun W (R : Below wz.heap.size wz W) => specClassLeaders_any M _ _ W (F_M.out.keep R (Nat.le_refl _)) R.size
  have C3 := fun W (R : Below wz.heap.size wz W) => implSameClass_any Q Y Z _ _ _ _ W (F_Q.out.keep R (Nat.le_refl _)) (F_Y.out.keep R (Nat.le_refl _)) (F_Z.out.keep R (Nat.le_refl _)) R.size
  have C4 := fun W (R : Below wz.heap.size wz W) => specSameClass_any Q Y Z _ _ _ _ W (F_Q.out.keep R (Nat.le_refl _)) (F_Y.out.keep R (Nat.le_refl _)) (F_Z.out.keep R (Nat.le_refl _)) R.size
  have C5 := fun W (R : Below wz.heap.size wz W) => implIdx_any M _ _ W (F_M.out.keep R (Nat.le_refl _)) R.size
  have C6 := fun W (R : Below wz.heap.size wz W) => specIdx_any M _ _ W (F_M.out.keep R (Nat.le_refl _))
  have C7 := fun W (R : Below wz.heap.size wz W) => sameI_yes (clsV N X).1 _ _ _ _ W (F_A.out.keep R (Nat.le_refl _)) (F_B.out.keep R (Nat.le_refl _))
  have C8 := Lib.hid (fun W (R : Below wz.heap.size wz W) => implClassLeader_any N (clsV N X).1 _ _ _ W (F_N.out.keep R (Nat.le_refl _)) (F_A.out.keep R (Nat.le_refl _)) R.size)
  have C9 := Lib.hid (fun W (R : Below wz.heap.size wz W) => implSameClass_any N X (clsV N X).1 _ _ _ _ W (F_N.out.keep R (Nat.le_refl _)) (F_X.out.keep R (Nat.le_refl _)) (F_A.out.keep R (Nat.le_refl _)) R.size)
  have S1 := Lib.hid (fun W u (R : Below wz.heap.size wz W) (k : ISSr W W.heap.size u (cpV M)) => sameL_yes (cpV M) _ _ _ _ W (F_P.out.keep R (Nat.le_refl _)) k)
  have S2 := Lib.hid (fun W u (R : Below wz.heap.size wz W) (k : ISSr W W.heap.size u (clV M)) => sameL_yes (clV M) _ _ _ _ W (F_L.out.keep R (Nat.le_refl _)) k)
  have S3 := Lib.hid (fun W u (R : Below wz.heap.size wz W) (k : ISr W W.heap.size u (clsV N X).1) => sameI_yes (clsV N X).1 _ _ _ _ W k (F_A.out.keep R (Nat.le_refl _)))
  go_cut [92] (fun s wx => s = .bool false ∧ Hid (Below wz.heap.size wz wx))
  case first =>
    as_aux_lemma =>
      have BB : Below wz.heap.size wz wz := Below.refl _ _
      generalize (clsV N X).2 = ok at *
      generalize samV Q Y Z = sm at *
      generalize idxV M = ix at *
      go_wp2_with (first
          | (go_at_call 34; (with_reducible refine (C1 _ BB).mono ?_); rintro e y1 ⟨p1, rfl, k1, d1⟩; have T1 := S1.out _ _ (below_then BB BB.size d1) k1; have BB := below_then BB BB.size d1)
          | (go_at_call 15; (with_reducible refine (T1).mono ?_); rintro e y2 ⟨rfl, d2⟩; have BB := below_then BB BB.size d2)
          | (go_at_call 35; (with_reducible refine (C2 _ BB).mono ?_); rintro e y3 ⟨p3, rfl, k3, d3⟩; have T2 := S2.out _ _ (below_then BB BB.size d3) k3.read; have BB := below_then BB BB.size d3)
          | (go_at_call 15; (with_reducible refine (T2).mono ?_); rintro e y4 ⟨rfl, d4⟩; have BB := below_then BB BB.size d4)
          | (go_at_call 18; (with_reducible refine (C7 _ BB).mono ?_); rintro e y5 ⟨rfl, d5⟩; have BB := below_then BB BB.size d5)
          | (go_at_call 36; (with_reducible refine (C3 _ BB).mono ?_); rintro e y6 ⟨rfl, d6⟩; have BB := below_then BB BB.size d6)
          | (go_at_call 37; (with_reducible refine (C4 _ BB).mono ?_); rintro e y7 ⟨rfl, d7⟩; have BB := below_then BB BB.size d7)
          | (go_at_call 38; (with_reducible refine (C5 _ BB).mono ?_); rintro e y8 ⟨rfl, d8⟩; have BB := below_then BB BB.size d8)
          | (go_at_call 39; (with_reducible refine (C6 _ BB).mono ?_); rintro e y9 ⟨rfl, d9⟩; have BB := below_then BB BB.size d9))
      go_meet
      exact ⟨rfl, Lib.hid BB⟩
  case rest =>
  obtain ⟨rfl, HC⟩ := hcut
  clear C1 C2 C3 C4 C6 C7 S1 S2 F_Q F_Y F_Z F_B
  cases hok : (clsV N X).2
  · skip
    go_upto_region 16 with fail
    clear C8 C9 S3 hag F_N F_X F_A
    by_cases eL : clV M = []
    · have z0 : (((clV M).length : Int) == 0) = true := by rw [eL]; rfl
      have z1 : (clV M).length = 0 := by rw [eL]; rfl
      go_wp2
      go_ret
      exact ⟨rfl, below_then HB7.out HB7.out.size HC.out⟩
    · obtain ⟨l1, l2, l3, l4⟩ := hlat eL
      have ix9 : idxV M ≤ 500 := by
        cases e : cpB M
        · have z : (cpV M).length = 0 := by unfold cpV; rw [e]; rfl
          rw [← l2] at z
          exact absurd (List.length_eq_zero_iff.1 z) eL
        · exact (cpB_true e).2.2.2
      clear hlat
      have D5 := C5 wc HC.out
      rw [← l1] at D5 ix9
      clear C5 l1
      generalize clV M = LL at *
      generalize cpV M = PP at *
      have hLn : 0 < PP.length := by
        rw [← l2]; cases LL with
        | nil => exact absurd rfl eL
        | cons _ _ => simp
      have z0 : ((PP.length : Int) == 0) = false := by rw [beq_eq_false_iff_ne]; omega
      have HL2 := Lib.hid l2
      rw [l2] at F_L ⊢
      clear l2 eL
      obtain ⟨_, _, hh, hcap1, hcap2, hcell⟩ := id F_P.out
      injection hh with hh1 hh2 hh3
      subst hh1 hh3
      obtain ⟨b, off, V, rfl, hbw, hcl⟩ := hcell (by intro e; rw [e] at hLn; simp at hLn)
      have HCL := Lib.hid hcl
      have hP9 : PP.length ≤ 500 := by omega
      clear hcl hh2 hcell ix9
      go_wp2_with (first
        | (go_at_call 38; (with_reducible refine D5.mono ?_); rintro e z3 ⟨rfl, d5⟩; have BB := below_then HC.out HC.out.size d5; have cA := below1 z3 (.cells #[] 30); have HE0 := Lib.hid (below_then BB BB.size cA); have HO0 := Lib.hid (OwnL.lit0 z3 wz.heap.size BB.size))
        | fail)
      clear HC D5
      go_loopw [17, 18] (fun s i wr => ∃ (k : Nat) (acc : List (List Int)), k ≤ PP.length ∧ i = .int .i64 k ∧ acc.length ≤ k ∧ Hid (acc = (PP.take k).map fun c => (clsV M c).1) ∧ Hid (OwnL wr wz.heap.size s acc) ∧ Hid (Below wz.heap.size wz wr)) (fun _ i _ => PP.length - (intOf i).toNat)
      case atStart => exact ⟨0, [], by omega, rfl, Nat.le_refl _, Lib.hid (by simp), HO0, HE0⟩
      case round =>
        clear HO0 HE0 BB cA d5
        obtain ⟨k, acc, hk, rfl, hal, HA, HO, HE⟩ := hrel
        by_cases hlt : k < PP.length
        · have hdec : decide ((k : Int) < (PP.length : Int)) = true := by simp; omega
          have x0 : wr.cell? ⟨b, off + k, none⟩ = some (V k) := (HE.out.cell (p := ⟨b, off + k, none⟩) hbw).trans (HCL.out k hlt).1
          have hmem : PP.getD k [] ∈ PP := by
            rw [List.getD_eq_getElem?_getD, List.getElem?_eq_getElem hlt]; exact List.getElem_mem _
          obtain ⟨m1, m2, m3⟩ := l4 _ hmem
          have CL := implClassLeader_any M (PP.getD k []) _ (V k) wz.heap.size wr (F_M.out.keep HE.out (Nat.le_refl _)) ((HCL.out k hlt).2.keep HE.out (Nat.le_refl _)) HE.out.size
          rw [m1] at CL
          have HN := Lib.hid (leads_new l3 (fun c hc => (l4 c hc).2.2) hlt)
          have HM2 := Lib.hid (show decide ((clsV M (PP.getD k [])).1 ∈ LL) = true from decide_eq_true m2)
          rw [← HA.out] at HN
          have HA2 := Lib.hid (show acc ++ [(clsV M (PP.getD k [])).1] = (PP.take (k + 1)).map fun c => (clsV M c).1 from by
            rw [HA.out, List.take_add_one, List.map_append, List.getElem?_eq_getElem hlt, List.getD_eq_getElem?_getD, List.getElem?_eq_getElem hlt]; rfl)
          clear m1 m2 m3 hmem
          generalize (clsV M (PP.getD k [])).1 = ld at *
          have hwz := HE.out.size
          go_wp2_with (first
            | (go_at_call 31; (with_reducible refine CL.mono ?_); rintro e w4 ⟨u4, rfl, k4, c4⟩; obtain ⟨a4, p4, rfl, -⟩ := id k4; have H1 := toBelow (hasList_any acc ld _ _ wr.heap.size w4.heap.size w4 ((HO.out.is.read).keep c4 (Nat.le_refl _)) k4.read); rw [HN.out] at H1)
            | (go_at_call 40; (with_reducible refine H1.mono ?_); rintro e w5 ⟨rfl, c5⟩; have BE5 := (HE.out.trans (c4.mono hwz)).trans (c5.mono (Nat.le_trans hwz c4.size)); have H2 := toBelow (hasList_any LL ld _ _ wz.heap.size w4.heap.size w5 (F_L.out.keep BE5 (Nat.le_refl _)) (k4.read.keep c5 (Nat.le_refl _))); rw [HM2.out] at H2)
            | (go_at_call 40; (with_reducible refine H2.mono ?_); rintro e w6 ⟨rfl, c6⟩; have C46 : Below w4.heap.size w4 w6 := c5.trans (c6.mono c5.size); have C06 : Below wr.heap.size wr w6 := c4.trans (C46.mono c4.size); obtain ⟨V6, q6, hpt⟩ := HO.out.part C06; have HPT := Lib.hid hpt; have K6 := Lib.hid (k4.keep C46 (Nat.le_refl _)); have hs46 := C46.size; have hs04 := c4.size; have HE6 := Lib.hid (HE.out.trans (C06.mono hwz)))
            | (at_builtin; refine wpList_append_own _ rfl _ _ 24 rfl wz.heap.size 30 i0 (.slice none 0 0) 1 24 Try.underlying24 HI0.out HZ0.out HZ1.out HZ2.out rfl (by decide) _ _ _ rfl (HPT.out.alloc _) ⟨w6.heap.size, 0, none⟩ 1 1 [.slice a4 ld.length p4] rfl rfl ?c1 ?c2 ?c3 ?c4 ?c5 ?_)
            | fail)
          case c1 => exact cell_one_new _ _ _
          case c2 => first | rfl | (intro u hu; simp at hu; subst hu; rfl)
          case c3 => unfold maxLen; omega
          case c4 => omega
          case c5 => first | omega | (simp; omega)
          intro v2 w7 hown2 hgrow _
          have HO7 := Lib.hid (HPT.out.push K6.out (Nat.le_refl _) hs04 hs46 hgrow hown2)
          have hB7 : Below wz.heap.size w6 w7 := OwnLp.below (Below.refl wz.heap.size w6) (by omega) _ hgrow HPT.out (Nat.le_refl _)
          have HE7 := Lib.hid (HE6.out.trans hB7)
          clear hown2 hgrow hB7
          go_wp2
          go_roundw
          case rel => exact ⟨k + 1, _, by omega, by go_num, by simp; omega, HA2, HO7, HE7⟩
          case measure => simp [intOf]; omega
        · have hdec : decide ((k : Int) < (PP.length : Int)) = false := by simp; omega
          go_wp2
          go_ret
          exact ⟨rfl, below_then HB7.out HB7.out.size HE.out⟩
  · obtain ⟨g1, g2⟩ := hag hok
    have D8 := C8.out wc HC.out
    rw [g1] at D8
    dsimp only at D8
    have D9 := C9
    rw [g2] at D9
    clear g1 g2
    go_upto_region 16 with (first
      | (go_at_call 31; (with_reducible refine D8.mono ?_); rintro e y1 ⟨p1, rfl, k1, d1⟩; have BB := below_then HC.out HC.out.size d1; have T3 := S3.out _ _ BB k1.read)
      | (go_at_call 18; (with_reducible refine T3.mono ?_); rintro e y2 ⟨rfl, d2⟩; have BB := below_then BB BB.size d2)
      | (go_at_call 36; (with_reducible refine (D9.out _ BB).mono ?_); rintro e y3 ⟨rfl, d3⟩; have BB := below_then BB BB.size d3))
    clear HC
    have HC := Lib.hid BB
    clear BB T3 k1 d1 d2 d3 D8 D9
    clear C8 C9 S3 hag F_N F_X F_A
    by_cases eL : clV M = []
    · have z0 : (((clV M).length : Int) == 0) = true := by rw [eL]; rfl
      have z1 : (clV M).length = 0 := by rw [eL]; rfl
      go_wp2
      go_ret
      exact ⟨rfl, below_then HB7.out HB7.out.size HC.out⟩
    · obtain ⟨l1, l2, l3, l4⟩ := hlat eL
      have ix9 : idxV M ≤ 500 := by
        cases e : cpB M
        · have z : (cpV M).length = 0 := by unfold cpV; rw [e]; rfl
          rw [← l2] at z
          exact absurd (List.length_eq_zero_iff.1 z) eL
        · exact (cpB_true e).2.2.2
      clear hlat
      have D5 := C5 y3 HC.out
      rw [← l1] at D5 ix9
      clear C5 l1
      generalize clV M = LL at *
      generalize cpV M = PP at *
      have hLn : 0 < PP.length := by
        rw [← l2]; cases LL with
        | nil => exact absurd rfl eL
        | cons _ _ => simp
      have z0 : ((PP.length : Int) == 0) = false := by rw [beq_eq_false_iff_ne]; omega
      have HL2 := Lib.hid l2
      rw [l2] at F_L ⊢
      clear l2 eL
      obtain ⟨_, _, hh, hcap1, hcap2, hcell⟩ := id F_P.out
      injection hh with hh1 hh2 hh3
      subst hh1 hh3
      obtain ⟨b, off, V, rfl, hbw, hcl⟩ := hcell (by intro e; rw [e] at hLn; simp at hLn)
      have HCL := Lib.hid hcl
      have hP9 : PP.length ≤ 500 := by omega
      clear hcl hh2 hcell ix9
      go_wp2_with (first
        | (go_at_call 38; (with_reducible refine D5.mono ?_); rintro e z3 ⟨rfl, d5⟩; have BB := below_then HC.out HC.out.size d5; have cA := below1 z3 (.cells #[] 30); have HE0 := Lib.hid (below_then BB BB.size cA); have HO0 := Lib.hid (OwnL.lit0 z3 wz.heap.size BB.size))
        | fail)
      clear HC D5
      go_loopw [17, 18] (fun s i wr => ∃ (k : Nat) (acc : List (List Int)), k ≤ PP.length ∧ i = .int .i64 k ∧ acc.length ≤ k ∧ Hid (acc = (PP.take k).map fun c => (clsV M c).1) ∧ Hid (OwnL wr wz.heap.size s acc) ∧ Hid (Below wz.heap.size wz wr)) (fun _ i _ => PP.length - (intOf i).toNat)
      case atStart => exact ⟨0, [], by omega, rfl, Nat.le_refl _, Lib.hid (by simp), HO0, HE0⟩
      case round =>
        clear HO0 HE0 BB cA d5
        obtain ⟨k, acc, hk, rfl, hal, HA, HO, HE⟩ := hrel
        by_cases hlt : k < PP.length
        · have hdec : decide ((k : Int) < (PP.length : Int)) = true := by simp; omega
          have x0 : wr.cell? ⟨b, off + k, none⟩ = some (V k) := (HE.out.cell (p := ⟨b, off + k, none⟩) hbw).trans (HCL.out k hlt).1
          have hmem : PP.getD k [] ∈ PP := by
            rw [List.getD_eq_getElem?_getD, List.getElem?_eq_getElem hlt]; exact List.getElem_mem _
          obtain ⟨m1, m2, m3⟩ := l4 _ hmem
          have CL := implClassLeader_any M (PP.getD k []) _ (V k) wz.heap.size wr (F_M.out.keep HE.out (Nat.le_refl _)) ((HCL.out k hlt).2.keep HE.out (Nat.le_refl _)) HE.out.size
          rw [m1] at CL
          have HN := Lib.hid (leads_new l3 (fun c hc => (l4 c hc).2.2) hlt)
          have HM2 := Lib.hid (show decide ((clsV M (PP.getD k [])).1 ∈ LL) = true from decide_eq_true m2)
          rw [← HA.out] at HN
          have HA2 := Lib.hid (show acc ++ [(clsV M (PP.getD k [])).1] = (PP.take (k + 1)).map fun c => (clsV M c).1 from by
            rw [HA.out, List.take_add_one, List.map_append, List.getElem?_eq_getElem hlt, List.getD_eq_getElem?_getD, List.getElem?_eq_getElem hlt]; rfl)
          clear m1 m2 m3 hmem
          generalize (clsV M (PP.getD k [])).1 = ld at *
          have hwz := HE.out.size
          go_wp2_with (first
            | (go_at_call 31; (with_reducible refine CL.mono ?_); rintro e w4 ⟨u4, rfl, k4, c4⟩; obtain ⟨a4, p4, rfl, -⟩ := id k4; have H1 := toBelow (hasList_any acc ld _ _ wr.heap.size w4.heap.size w4 ((HO.out.is.read).keep c4 (Nat.le_refl _)) k4.read); rw [HN.out] at H1)
            | (go_at_call 40; (with_reducible refine H1.mono ?_); rintro e w5 ⟨rfl, c5⟩; have BE5 := (HE.out.trans (c4.mono hwz)).trans (c5.mono (Nat.le_trans hwz c4.size)); have H2 := toBelow (hasList_any LL ld _ _ wz.heap.size w4.heap.size w5 (F_L.out.keep BE5 (Nat.le_refl _)) (k4.read.keep c5 (Nat.le_refl _))); rw [HM2.out] at H2)
            | (go_at_call 40; (with_reducible refine H2.mono ?_); rintro e w6 ⟨rfl, c6⟩; have C46 : Below w4.heap.size w4 w6 := c5.trans (c6.mono c5.size); have C06 : Below wr.heap.size wr w6 := c4.trans (C46.mono c4.size); obtain ⟨V6, q6, hpt⟩ := HO.out.part C06; have HPT := Lib.hid hpt; have K6 := Lib.hid (k4.keep C46 (Nat.le_refl _)); have hs46 := C46.size; have hs04 := c4.size; have HE6 := Lib.hid (HE.out.trans (C06.mono hwz)))
            | (at_builtin; refine wpList_append_own _ rfl _ _ 24 rfl wz.heap.size 30 i0 (.slice none 0 0) 1 24 Try.underlying24 HI0.out HZ0.out HZ1.out HZ2.out rfl (by decide) _ _ _ rfl (HPT.out.alloc _) ⟨w6.heap.size, 0, none⟩ 1 1 [.slice a4 ld.length p4] rfl rfl ?c1 ?c2 ?c3 ?c4 ?c5 ?_)
            | fail)
          case c1 => exact cell_one_new _ _ _
          case c2 => first | rfl | (intro u hu; simp at hu; subst hu; rfl)
          case c3 => unfold maxLen; omega
          case c4 => omega
          case c5 => first | omega | (simp; omega)
          intro v2 w7 hown2 hgrow _
          have HO7 := Lib.hid (HPT.out.push K6.out (Nat.le_refl _) hs04 hs46 hgrow hown2)
          have hB7 : Below wz.heap.size w6 w7 := OwnLp.below (Below.refl wz.heap.size w6) (by omega) _ hgrow HPT.out (Nat.le_refl _)
          have HE7 := Lib.hid (HE6.out.trans hB7)
          clear hown2 hgrow hB7
          go_wp2
          go_roundw
          case rel => exact ⟨k + 1, _, by omega, by go_num, by simp; omega, HA2, HO7, HE7⟩
          case measure => simp [intOf]; omega
        · have hdec : decide ((k : Int) < (PP.length : Int)) = false := by simp; omega
          go_wp2
          go_ret
          exact ⟨rfl, below_then HB7.out HB7.out.size HE.out⟩
end Go.Proofs.Ytehhoplenloocaa
