/- The statement on floors: the walk. -/
import Derived.Test.YtfncikbmdaameaaDrF
import Derived.Test.YtfncikbmdaameaaDed
import Derived.Test.YtfncikbmdaameaaSumsW
import Derived.Test.YtfncikbmdaameaaTriW
import Derived.Test.YtfncikbmdaameaaMir
import Derived.Test.YtfncikbmdaameaaB2
import Derived.Deep.DeepCutAuto
namespace Go.Proofs.Ytfncikbmdaameaa
open Go.RowKit
set_option linter.unusedVariables false
set_option linter.unusedSimpArgs false

def gcdV (l : List Int) : Int := if vecB l then gcdL l else -1
set_option maxHeartbeats 1000000 in
theorem specGcdOf_any (l : List Int) (v : Value) (hb : Nat) (w : World) (h : ISr w hb v l) :
    Calls Try.prog 45 #[v] w fun e w' => e = .returned (.int .i64 (gcdV l)) ∧ ∃ d, w' = w.drewN d := by
  have H1 := specIsVector_any l v hb w h
  cases hv : vecB l
  · have hr : gcdV l = -1 := by unfold gcdV; rw [hv]; rfl
    rw [hr]
    rw [hv] at H1
    go_enter Try.func45, Try.ntmps45
    go_wp2_with (go_at_call 132; (with_reducible refine H1.mono ?_); rintro e w' ⟨rfl, d, rfl⟩)
    go_ret
    exact ⟨rfl, _, rfl⟩
  · have hr : gcdV l = gcdL l := by unfold gcdV; rw [hv]; rfl
    have hb' := vecB_bd hv
    rw [hr]
    rw [hv] at H1
    have H2 := fun d => l2All_any l v hb (w.drewN d) h 1000 (by omega) (allIn_at hb')
    go_enter Try.func45, Try.ntmps45
    go_wp2_with (first | (go_at_call 132; (with_reducible refine H1.mono ?_); rintro e w' ⟨rfl, d, rfl⟩) | (go_at_call 133; (with_reducible refine (H2 _).mono ?_); rintro e w' ⟨rfl, rfl⟩))
    go_ret
    exact ⟨rfl, _, rfl⟩
theorem floor_step {n m a b : Int} (h1 : 1 ≤ n) (h2 : n ≤ 300) (h3 : 1 ≤ m) (h4 : m ≤ 100000) (ha : -150 ≤ a ∧ a ≤ 250) (hb : -150 ≤ b ∧ b ≤ 250) : floorS n m a b = floorS (n - 1) m a b + (a * (n - 1) + b) / m := by
  unfold floorS
  have e : ∀ k : Int, 0 ≤ k → k ≤ 300 → (inB k 0 100000 && inB m 1 100000 && inB a (-100000) 100000 && inB b (-100000) 100000) = true := fun k k0 k1 => by
    simp [inB]; omega
  rw [if_pos (e n (by omega) h2), if_pos (e (n - 1) (by omega) (by omega))]
  obtain ⟨k, rfl⟩ : ∃ k : Nat, n = (k : Int) + 1 := ⟨(n - 1).toNat, by omega⟩
  rw [show ((k : Int) + 1).toNat = k + 1 by omega, show ((k : Int) + 1 - 1).toNat = k by omega, show (k : Int) + 1 - 1 = k by omega, fs]
theorem triC_in {c d k : Int} (h : 0 ≤ triC c d k) : 1 ≤ c ∧ 1 ≤ d ∧ 0 ≤ k ∧ c ≤ 100000 ∧ d ≤ 100000 ∧ k ≤ 100000 := by
  refine Classical.byContradiction fun g => ?_
  rw [triC_out (fun g' => g (by simp only [inB_iff] at g'; omega))] at h
  omega
theorem triC_sum {c d k : Int} (h1 : 1 ≤ c) (h2 : 1 ≤ d) (h3 : 0 ≤ k) (h4 : c ≤ 100000) (h5 : d ≤ 100000) (h6 : k ≤ 100000) : triC c d k = fs d (-c) k ((k / c).toNat + 1) + (k / c + 1) := by
  unfold triC
  rw [if_pos (by simp [inB]; omega)]
  have hq := Int.ediv_nonneg h3 (show 0 ≤ c by omega)
  rw [fs_reverse d c]
  have e : c * ((((k / c).toNat.succ : Nat) : Int) - 1) + (k - c * (k / c)) = k := by
    rw [show (((k / c).toNat.succ : Nat) : Int) - 1 = k / c by omega]; omega
  rw [e]
theorem triC_comm (c d k : Int) : triC c d k = triC d c k := by
  by_cases h : 1 ≤ c ∧ 1 ≤ d ∧ 0 ≤ k ∧ c ≤ 100000 ∧ d ≤ 100000 ∧ k ≤ 100000
  · obtain ⟨h1, h2, h3, h4, h5, h6⟩ := h
    rw [triC_sum h1 h2 h3 h4 h5 h6, triC_sum h2 h1 h3 h5 h4 h6]
    obtain ⟨K, rfl⟩ : ∃ K : Nat, k = K := ⟨k.toNat, by omega⟩
    have e1 := fs_cols c d K h1 h2
    have e2 := fs_cols d c K h2 h1
    rw [colsT_comm] at e2
    exact e1.trans e2.symm
  · rw [triC_out (fun g' => h (by simp only [inB_iff] at g'; omega)), triC_out (fun g' => h (by simp only [inB_iff] at g'; omega))]
theorem mirB_ok (h k : Int) : mirB h k = sawOkB h k := by
  unfold mirB
  cases hs : sawOkB h k
  · rfl
  · rw [saw_mirror hs]; simp
theorem gcdV_two {h j : Int} (hh : -1 ≤ h ∧ h ≤ 1001) (hj : 1 ≤ j ∧ j ≤ 30) : sawOkB h j = (inB h 1 1000 && (gcdV [h, j] == 1)) := by
  unfold sawOkB
  cases h1 : inB h 1 1000
  · rfl
  · rw [inB_iff] at h1
    have h2 : inB j 1 1000 = true := by rw [inB_iff]; omega
    have hv : vecB [h, j] = true := by simp [vecB, allIn, inB]; omega
    unfold gcdV
    rw [h2, if_pos hv]
    have e : gcdL [h, j] = gcdI h j := by
      unfold gcdL
      simp only [List.foldl_cons, List.foldl_nil]
      rw [gcdI_comm 0 h, gcdI_zero, Int.max_eq_left (by omega)]
    rw [e]; rfl
theorem floorS_bd (n m a b : Int) : -1000010000000000 ≤ floorS n m a b ∧ floorS n m a b ≤ 1000010000000000 := by
  unfold floorS
  split
  · rename_i g
    simp only [Bool.and_eq_true, inB_iff] at g
    have := fs_bd (m := m) (a := a) (b := b) (by omega) (by omega) (by omega) (by omega) (by omega) n.toNat (by omega)
    omega
  · omega
set_option maxRecDepth 100000 in
set_option maxHeartbeats 8000000 in
theorem lawFnFloors (v : Value) (l : List Int) (w : World) (h : ISb w w.heap.size v l) :
    Calls Try.prog 6 #[v] w fun e w' => e = .returned (.bool true) ∧ Below w.heap.size w w' := by
  have HBG := big_any v l w.heap.size w h
  have D1 := DrawFloorSum_any v l w.heap.size w h (Nat.le_refl _)
  have HI := Lib.hid h
  clear h
  cases hbig : decide (1048576 < l.length)
  case true =>
    rw [hbig] at HBG
    go_enter Try.func6, Try.ntmps6
    go_wp2_with (go_at_call 22; (with_reducible refine HBG.mono ?_); rintro e w' ⟨rfl, rfl⟩)
    go_ret
    exact ⟨rfl, Below.refl _ _⟩
  rw [hbig] at HBG
  clear hbig
  go_enter Try.func6, Try.ntmps6
  go_wp2_with (go_at_call 22; (with_reducible refine HBG.mono ?_); rintro e w' ⟨rfl, rfl⟩)
  refine D1.mono ?_
  rintro e w1 ⟨⟨n, m, a, b, rfl, ha1, ha2, hb1, hb2⟩, c1⟩
  clear D1 HBG
  have D2 := DrawTriangleCount_any v l w.heap.size w1 (HI.out.keep c1 (Nat.le_refl _)) c1.size
  have HB1 := Lib.hid c1
  clear c1
  go_wp2_with (first | fail | (go_at_call 35; (with_reducible refine (implFloorSum_any _ _ _ _ _).mono ?_); rintro e w' ⟨rfl, rfl⟩))
  refine D2.mono ?_
  rintro e w2 ⟨⟨c, d, k, rfl⟩, c2⟩
  clear D2
  have HB2 := Lib.hid (below_then HB1.out HB1.out.size c2)
  have D3 := DrawSawSum_any v l w.heap.size w2 (HI.out.keep HB2.out (Nat.le_refl _)) HB2.out.size
  clear c2 HB1
  go_wp2_with (go_at_call 37; (with_reducible refine (implTriangleCount_any _ _ _ _).mono ?_); rintro e w' ⟨rfl, rfl⟩)
  refine D3.mono ?_
  rintro e w3 ⟨⟨h, j, rfl, hh1, hh2, hj1, hj2⟩, c3⟩
  clear D3
  have HB3 := Lib.hid (below_then HB2.out HB2.out.size c3)
  clear c3 HB2 HI
  have SQ := fun W => implSawSum_any h j W
  have ST := fun W => specSawSum_any h j W
  have SF := fun W => specFloorSum_any n m a b W
  have SC := fun W => specTriangleCount_any c d k W
  have SM := fun W => implMirrorHolds_any h j W
  have SN := fun W => specMirrorHolds_any h j W
  have HFS := Lib.hid (fun (h1 : 1 ≤ n) (h2 : n ≤ 300) (h3 : 1 ≤ m) (h4 : m ≤ 100000) => floor_step h1 h2 h3 h4 ⟨ha1, ha2⟩ ⟨hb1, hb2⟩)
  have HTC := Lib.hid (triC_comm c d k)
  have HTI := Lib.hid (fun (h : 0 ≤ triC c d k) => triC_in h)
  have HTS := Lib.hid (fun (h : 0 ≤ triC c d k) => let g := triC_in h; triC_sum g.1 g.2.1 g.2.2.1 g.2.2.2.1 g.2.2.2.2.1 g.2.2.2.2.2)
  have HMB := Lib.hid ((mirB_ok h j).trans (gcdV_two ⟨hh1, hh2⟩ ⟨hj1, hj2⟩))
  generalize hfs : floorS n m a b = fsv at *
  generalize htc : triC c d k = tcv at *
  generalize sawS h j = ssv at *
  generalize mirB h j = mbv at *
  go_upto_region 11 with (first
    | (go_at_call 39; (with_reducible refine (SQ _).mono ?_); rintro e w' ⟨rfl, d1, rfl⟩)
    | (go_at_call 42; (with_reducible refine (ST _).mono ?_); rintro e w' ⟨rfl, rfl⟩)
    | (go_at_call 40; (with_reducible refine (SF _).mono ?_); rintro e w' ⟨rfl, d2, rfl⟩)
    | (go_at_call 41; (with_reducible refine (SC _).mono ?_); rintro e w' ⟨rfl, d3, rfl⟩)
    | (go_at_call 43; (with_reducible refine (SM _).mono ?_); rintro e w' ⟨rfl, d4, rfl⟩)
    | (go_at_call 44; (with_reducible refine (SN _).mono ?_); rintro e w' ⟨rfl, rfl⟩))
  have HB4 := Lib.hid (HB3.out.trans ((below_draws w.heap.size w3 (d1 + d2 + d3 + d4))))
  generalize w3.drewN (d1 + d2 + d3 + d4) = w4 at *
  clear SQ ST SF SC HB3 SN
  go_cut [97] (fun s wx => s = .bool (decide (1 ≤ n ∧ n ≤ 300 ∧ 1 ≤ m ∧ m ≤ 100000)) ∧ w4 = wx)
  case first =>
    as_aux_lemma =>
      go_wp2_with fail
      all_goals (go_meet; exact ⟨congrArg Value.bool (by first | (rw [decide_eq_decide]; omega) | exact (decide_eq_true (by omega)).symm | exact (decide_eq_false (by omega)).symm), rfl⟩)
  case rest =>
    obtain ⟨rfl, rfl⟩ := hcut
    go_upto_if 97 with fail
    go_cut [15, 16] (fun _ _ wx => w4 = wx)
    case first =>
      as_aux_lemma =>
        by_cases hA : 1 ≤ n ∧ n ≤ 300 ∧ 1 ≤ m ∧ m ≤ 100000
        · rw [decide_eq_true hA]
          have hst := HFS.out hA.1 hA.2.1 hA.2.2.1 hA.2.2.2
          have mb := mul_bd2 (a := a) (b := n - 1) (M := 250) (N := 299) (by omega) (by omega) (by omega) (by omega) (by omega)
          have e1 : wrap64 (a * (n - 1)) = a * (n - 1) := IntWalk.wrap64_in _ (by omega)
          have qb := div_bd2 (x := a * (n - 1) + b) (d := m) 80000 (by omega) (by omega) (by omega)
          have fb := floorS_bd (n - 1) m a b
          have fb2 := floorS_bd n m a b
          rw [hfs] at fb2
          clear hfs
          generalize hX : a * (n - 1) = X at *
          have e2 : wrap64 (X + b) = X + b := IntWalk.wrap64_in _ (by omega)
          have e5 : wrap64 (floorS (n - 1) m a b + (X + b) / m) = fsv := by rw [← hst]; exact IntWalk.wrap64_in _ (by omega)
          have e6 : (fsv != fsv) = false := by simp
          have e7 : (fsv != floorS (n - 1) m a b + (X + b) / m) = false := by rw [← hst]; simp
          clear hst
          by_cases hneg : (X + b).tmod m < 0
          · have e3 : (X + b).tdiv m - 1 = (X + b) / m := quo_neg (by omega) hneg
            have e4 : (X + b).tdiv m = (X + b) / m + 1 := by omega
            go_wp2_with (go_at_call 35; (with_reducible refine (implFloorSum_any _ _ _ _ _).mono ?_); rintro e w' ⟨rfl, rfl⟩)
            go_meet
            exact rfl
          · have e4 : (X + b).tdiv m = (X + b) / m := quo_pos (by omega) (by omega)
            go_wp2_with (go_at_call 35; (with_reducible refine (implFloorSum_any _ _ _ _ _).mono ?_); rintro e w' ⟨rfl, rfl⟩)
            go_meet
            exact rfl
        · rw [decide_eq_false hA]
          go_wp2_with fail
          go_meet
          exact rfl
    case rest =>
      obtain rfl := hcut
      clear hfs HFS
      go_upto_region 18 with fail
      go_cut [136] (fun s wx => s = .bool (decide (0 ≤ tcv ∧ c ≤ 12 ∧ d ≤ 12 ∧ k ≤ 60)) ∧ w4 = wx)
      case first =>
        as_aux_lemma =>
          go_wp2_with fail
          all_goals (go_meet; exact ⟨congrArg Value.bool (by first | (rw [decide_eq_decide]; omega) | exact (decide_eq_true (by omega)).symm | exact (decide_eq_false (by omega)).symm), rfl⟩)
      case rest =>
        obtain ⟨rfl, rfl⟩ := hcut
        go_upto_if 136 with fail
        go_cut [17, 18] (fun _ _ wx => w4 = wx)
        case first =>
          as_aux_lemma =>
            by_cases hT : 0 ≤ tcv ∧ c ≤ 12 ∧ d ≤ 12 ∧ k ≤ 60
            · rw [decide_eq_true hT]
              obtain ⟨t1, t2, t3, -⟩ := HTI.out hT.1
              obtain ⟨t0, t4, t5, t6⟩ := hT
              have HE := Lib.hid (HTS.out t0)
              have kq0 := Int.ediv_nonneg t3 (show 0 ≤ c by omega)
              have kq1 := Int.ediv_le_self c t3
              have kq2 := Int.mul_ediv_self_le (x := k) (k := c) (by omega)
              have kq3 := Int.lt_mul_ediv_self_add (x := k) (k := c) (by omega)
              generalize hkc : k / c = Q at *
              have SC := fun W => implTriangleCount_any d c k W
              rw [← HTC.out] at SC
              have e6 : (tcv != tcv) = false := by simp
              clear htc hkc
              go_wp2_with fail
              go_loop [17, 18] (fun s i => ∃ (r : Nat) (z : Int), (r : Int) ≤ Q + 1 ∧ i = .int .i64 r ∧ s = .int .i64 z ∧ Hid (z = fs d (-c) k r + r)) (fun _ i => (Q + 1 - intOf i).toNat)
              case atStart => exact ⟨0, 0, by omega, rfl, rfl, Lib.hid rfl⟩
              case round =>
                obtain ⟨r, z, hr, rfl, rfl, hz⟩ := hrel
                have fb := fs_bd (m := d) (a := -c) (b := k) t2 (by omega) (by omega) (by omega) (by omega) r (by omega)
                have zb : -1000010000001 ≤ z ∧ z ≤ 1000010000001 := by rw [hz.out]; omega
                clear fb
                have cb : 0 ≤ c * (r : Int) ∧ c * (r : Int) ≤ 12 * 61 := ⟨Int.mul_nonneg (by omega) (by omega), Int.mul_le_mul (by omega) (by omega) (by omega) (by omega)⟩
                by_cases hlt : c * (r : Int) ≤ k
                · have hrq : (r : Int) ≤ Q := by
                    refine Classical.byContradiction fun g => ?_
                    have := Int.mul_le_mul_of_nonneg_left (show Q + 1 ≤ (r : Int) by omega) (show 0 ≤ c by omega)
                    rw [Int.mul_add] at this
                    omega
                  have HZ2 := Lib.hid (show z + (k - c * (r : Int)) / d + 1 = fs d (-c) k (r + 1) + ((r + 1 : Nat) : Int) by
                    rw [hz.out, fs, show -c * (r : Int) + k = k - c * (r : Int) by rw [Int.neg_mul]; omega]; push_cast; omega)
                  have db := Int.ediv_nonneg (show 0 ≤ k - c * (r : Int) by omega) (show 0 ≤ d by omega)
                  have db2 := Int.ediv_le_self d (show 0 ≤ k - c * (r : Int) by omega)
                  go_wp2
                  go_round
                  case rel => exact ⟨r + 1, _, by omega, by go_num, rfl, HZ2⟩
                  case measure => simp [intOf]; omega
                · have hrq : (r : Int) = Q + 1 := by
                    refine Classical.byContradiction fun g => ?_
                    have := Int.mul_le_mul_of_nonneg_left (show (r : Int) ≤ Q by omega) (show 0 ≤ c by omega)
                    omega
                  obtain rfl : z = tcv := by rw [hz.out, HE.out, show Q.toNat + 1 = r by omega, hrq]
                  clear hz HE hrq
                  go_wp2_with (go_at_call 37; (with_reducible refine (SC _).mono ?_); rintro e w' ⟨rfl, rfl⟩)
                  go_meet
                  exact rfl
            · rw [decide_eq_false hT]
              go_wp2_with fail
              go_meet
              exact rfl
        case rest =>
          obtain rfl := hcut
          have GC := specGcdOf_any [h, j] _ _ _ (IS.lit2 w4 w4.heap.size (Nat.le_refl _) h j).read
          have HB5 := Lib.hid (HB4.out.trans ((below1 w4 (.cells #[.int .i64 h, .int .i64 j] 3)).mono HB4.out.size))
          generalize gcdV [h, j] = gv at *
          go_upto_region 27 with (go_at_call 45; (with_reducible refine GC.mono ?_); rintro e w' ⟨rfl, d5, rfl⟩)
          have HB6 := Lib.hid (HB5.out.trans (below_draws w.heap.size _ d5))
          generalize World.drewN _ d5 = w5 at *
          clear GC HB4 HB5 HTC HTI HTS htc
          go_cut [20] (fun s wx => s = .bool (inB h 1 1000 && gv == 1) ∧ w5 = wx)
          case first =>
            as_aux_lemma =>
              go_wp2_with fail
              all_goals (go_meet; refine ⟨congrArg Value.bool ?_, rfl⟩; simp [inB]; try omega)
          case rest =>
            obtain ⟨rfl, rfl⟩ := hcut
            have HR := Lib.hid (show (mbv == (inB h 1 1000 && gv == 1)) = true by rw [HMB.out]; simp)
            clear HMB
            generalize (inB h 1 1000 && gv == 1) = rv at *
            go_wp2_with (go_at_call 43; (with_reducible refine (SM _).mono ?_); rintro e w' ⟨rfl, d6, rfl⟩)
            go_ret
            exact ⟨ret_bool HR.out, HB6.out.trans (below_draws _ _ _)⟩
end Go.Proofs.Ytfncikbmdaameaa
