/- PointsValue: the plain law and the walks. -/
import Derived.Test.YtibninlggdpnkaaConeN
import Derived.Test.YtibninlggdpnkaaPowW
import Derived.Test.YtibninlggdpnkaaTSS
namespace Go.Proofs.Ytibninlggdpnkaa
open Go.RowKit
set_option linter.unusedVariables false
set_option linter.unusedSimpArgs false

def goodR (X : List Int) : Bool := vecB X && decide (X.length = 2)
def monI (X : List Int) (s u : Int) : Int := powP s (X.getD 0 0) * powP u (X.getD 1 0)
def accP (ls : List (List Int)) (s u : Int) : Nat → Int
  | 0 => 0
  | k + 1 => (accP ls s u k + monI (ls.getD k []) s u) % 10007
def ptsV (ls : List (List Int)) (s u : Int) : Int × Bool :=
  if inB s 1 10006 && inB u 1 10006 && ls.all goodR then (accP ls s u ls.length, true) else (0, false)
theorem ret_pts {p : Int × Bool} {a : Int} {b : Bool} (h : p = (a, b)) : Ending.returned (.tuple #[.int .i64 a, .bool b]) = Ending.returned (.tuple #[.int .i64 p.1, .bool p.2]) := by rw [h]
theorem powP_bd (a n : Int) : 0 ≤ powP a n ∧ powP a n < 10007 := by
  unfold powP
  split
  · unfold pmN
    have := Nat.mod_lt (a.toNat ^ (n % 10006).toNat) (show 0 < 10007 by omega)
    omega
  · omega
theorem monI_bd (X : List Int) (s u : Int) : 0 ≤ monI X s u ∧ monI X s u ≤ 100140049 := by
  have h1 := powP_bd s (X.getD 0 0)
  have h2 := powP_bd u (X.getD 1 0)
  unfold monI
  have := mul_bd2 (a := powP s (X.getD 0 0)) (b := powP u (X.getD 1 0)) (M := 10007) (N := 10007) (by omega) (by omega) h2.1 (by omega) (by omega)
  exact ⟨Int.mul_nonneg h1.1 h2.1, by omega⟩
theorem goodR_of {X : List Int} (h : goodR X = true) : X.length = 2 ∧ allIn X (-1000) 1000 = true := by
  simp only [goodR, vecB, Bool.and_eq_true, decide_eq_true_eq] at h
  exact ⟨h.2, h.1.2⟩
theorem ptsV_bad {ls : List (List Int)} {s u : Int} {k : Nat} (hk : k < ls.length) (h : goodR (ls.getD k []) = false) : ptsV ls s u = (0, false) := by
  unfold ptsV
  rw [if_neg]
  intro hc
  simp only [Bool.and_eq_true, List.all_eq_true] at hc
  have := hc.2 (ls.getD k []) (by rw [List.getD_eq_getElem?_getD, List.getElem?_eq_getElem hk]; exact List.getElem_mem hk)
  rw [h] at this; cases this
theorem ptsV_good {ls : List (List Int)} {s u : Int} (hs : inB s 1 10006 = true) (hu : inB u 1 10006 = true) (h : ∀ j, j < ls.length → goodR (ls.getD j []) = true) : ptsV ls s u = (accP ls s u ls.length, true) := by
  unfold ptsV
  rw [if_pos]
  simp only [Bool.and_eq_true, List.all_eq_true]
  refine ⟨⟨hs, hu⟩, fun x hx => ?_⟩
  obtain ⟨i, hi, rfl⟩ := List.mem_iff_getElem.1 hx
  have := h i hi
  rwa [List.getD_eq_getElem?_getD, List.getElem?_eq_getElem hi] at this

set_option maxHeartbeats 1000000 in
theorem power_P (a n : Int) (w : World) (ha : 1 ≤ a) (ha' : a ≤ 10006) (hn : -1000 ≤ n) (hn' : n ≤ 1000) :
    Calls Try.prog 70 #[.int .i64 a, .int .i64 n] w fun e w' => e = .returned (.int .i64 (powP a n)) ∧ w = w' := by
  obtain ⟨A, rfl⟩ : ∃ A : Nat, a = A := ⟨a.toNat, by omega⟩
  have hv : powP (A : Int) n = (pmN A (n % 10006).toNat : Int) := by
    unfold powP
    rw [if_pos]
    · simp
    · rw [inB_iff.2 ⟨by omega, by omega⟩, inB_iff.2 ⟨by omega, by omega⟩]; rfl
  rw [hv]
  exact power_any A n w (by omega) (by omega) (by omega)

set_option maxHeartbeats 800000 in
theorem implPointsValue_any (ls : List (List Int)) (v : Value) (s u : Int) (hb : Nat) (w : World) (h : ISSr w hb v ls) :
    Calls Try.prog 31 #[v, .int .i64 s, .int .i64 u] w fun e w' => e = .returned (.tuple #[.int .i64 (ptsV ls s u).1, .bool (ptsV ls s u).2]) ∧ ∃ d, w' = w.drewN d := by
  cases hs : inB s 1 10006
  · have hv : ptsV ls s u = (0, false) := by unfold ptsV; rw [hs]; rfl
    have W1 := fun w => within_any s 1 10006 w
    simp only [hs] at W1
    rw [hv]
    obtain ⟨a, cap, rfl, -⟩ := h
    clear hv hs
    generalize ls.length = n at *
    go_enter Try.func31, Try.ntmps31
    go_wp2_with (go_at_call 59; (with_reducible refine (W1 _).mono ?_); rintro e w' ⟨rfl, rfl⟩)
    go_ret2
    exact ⟨rfl, 0, rfl⟩
  cases hu : inB u 1 10006
  · have hv : ptsV ls s u = (0, false) := by unfold ptsV; rw [hu, Bool.and_false]; rfl
    have W1 := fun w => within_any s 1 10006 w
    have W2 := fun w => within_any u 1 10006 w
    simp only [hs] at W1
    simp only [hu] at W2
    rw [hv]
    obtain ⟨a, cap, rfl, -⟩ := h
    clear hv hs hu
    generalize ls.length = n at *
    go_enter Try.func31, Try.ntmps31
    go_wp2_with (first | (go_at_call 59; (with_reducible refine (W1 _).mono ?_); rintro e w' ⟨rfl, rfl⟩) | (go_at_call 59; (with_reducible refine (W2 _).mono ?_); rintro e w' ⟨rfl, rfl⟩))
    go_ret2
    exact ⟨rfl, 0, rfl⟩
  have W1 := fun w => within_any s 1 10006 w
  have W2 := fun w => within_any u 1 10006 w
  simp only [hs] at W1
  simp only [hu] at W2
  have BS := inB_iff.1 hs
  have BU := inB_iff.1 hu
  rcases h.cases with ⟨rfl, a, cap, rfl⟩ | ⟨hpos, hlen, b, off, cap, V0, rfl, hbb, hcell⟩
  · have hv : ptsV [] s u = (0, true) := ptsV_good hs hu (fun j hj => absurd hj (Nat.not_lt_zero _))
    rw [hv]
    clear hv hs hu BS BU
    go_enter Try.func31, Try.ntmps31
    go_wp2_with (first | (go_at_call 59; (with_reducible refine (W1 _).mono ?_); rintro e w' ⟨rfl, rfl⟩) | (go_at_call 59; (with_reducible refine (W2 _).mono ?_); rintro e w' ⟨rfl, rfl⟩))
    refine wp_loop_rounds 1 ?_
    rw [rounds_succ]
    go_wp2
    go_ret2
    exact ⟨rfl, 0, rfl⟩
  obtain ⟨n, hn⟩ : ∃ n, n = ls.length := ⟨_, rfl⟩
  rw [← hn] at hlen hpos ⊢
  have HN := Lib.hid hn; clear hn h
  have HC := Lib.hid hcell; clear hcell
  have HS := Lib.hid hs; clear hs
  have HU := Lib.hid hu; clear hu
  have HBS := Lib.hid BS; clear BS
  have HBU := Lib.hid BU; clear BU
  go_enter Try.func31, Try.ntmps31
  go_wp2_with (first | (go_at_call 59; (with_reducible refine (W1 _).mono ?_); rintro e w' ⟨rfl, rfl⟩) | (go_at_call 59; (with_reducible refine (W2 _).mono ?_); rintro e w' ⟨rfl, rfl⟩))
  clear W1 W2
  go_loopw [8, 21] (fun m i wr => ∃ (d k : Nat) (r : Int), wr = w.drewN d ∧ k ≤ n ∧ i = .int .i64 k ∧ m = .int .i64 r ∧ 0 ≤ r ∧ r < 10007 ∧ Hid (r = accP ls s u k) ∧ Hid (∀ j, j < k → goodR (ls.getD j []) = true)) (fun _ i _ => n - (intOf i).toNat)
  case atStart => exact ⟨0, 0, 0, rfl, by omega, rfl, rfl, by omega, by omega, Lib.hid rfl, fun j hj => absurd hj (Nat.not_lt_zero _)⟩
  case round =>
    obtain ⟨d, k, r, hw, hk, rfl, rfl, hr0, hr1, hr, hall⟩ := hrel
    have HW := Lib.hid hw; clear hw
    by_cases hlt : k < n
    · have hkl : k < ls.length := by rw [← HN.out]; exact hlt
      have hck : wr.cell? ⟨b, off + k, none⟩ = some (V0 k) := by rw [HW.out]; exact (HC.out k hkl).1
      have hrow : ISr wr hb (V0 k) (ls.getD k []) := by rw [HW.out]; exact (HC.out k hkl).2
      have HV := implIsVector_any (ls.getD k []) (V0 k) hb wr hrow
      cases hg : goodR (ls.getD k [])
      · have HB := Lib.hid (ptsV_bad (s := s) (u := u) hkl hg)
        cases hv : vecB (ls.getD k [])
        · rw [hv] at HV
          clear hkl hv hg hrow
          generalize V0 k = xk at *
          go_wp2_with (go_at_call 69; (with_reducible refine HV.mono ?_); rintro e w' ⟨rfl, d2, rfl⟩)
          go_ret2
          exact ⟨ret_pts HB.out, _, by rw [HW.out, World.drewN_drewN]⟩
        · have h2 : (ls.getD k []).length ≠ 2 := by intro e; rw [goodR, hv, e] at hg; simp at hg
          have hne : (((ls.getD k []).length : Int) != 2) = true := by rw [bne_iff_ne]; omega
          rw [hv] at HV
          obtain ⟨a1, c1, e1, -⟩ := hrow
          rw [e1] at hck HV
          clear hkl hv hg h2 e1
          generalize (ls.getD k []).length = m at *
          go_wp2_with (go_at_call 69; (with_reducible refine HV.mono ?_); rintro e w' ⟨rfl, d2, rfl⟩)
          go_ret2
          exact ⟨ret_pts HB.out, _, by rw [HW.out, World.drewN_drewN]⟩
      · obtain ⟨g1, g2⟩ := goodR_of hg
        have hvv : vecB (ls.getD k []) = true := by simp only [goodR, Bool.and_eq_true] at hg; exact hg.1
        have p0 := allIn_at g2 0 (by omega)
        have p1 := allIn_at g2 1 (by omega)
        obtain ⟨b1, o1, c1, e1, -, y0, y1⟩ := hrow.two g1
        have HALL := Lib.hid (fun j (hj : j < k + 1) => show goodR (ls.getD j []) = true by
          by_cases e : j = k
          · subst e; exact hg
          · exact hall.out j (by omega))
        have HACC := Lib.hid (show ∀ x : Int, x = (r + powP s ((ls.getD k []).getD 0 0) * powP u ((ls.getD k []).getD 1 0)) % 10007 → x = accP ls s u (k + 1) by intro x hx; rw [accP, monI, ← hr.out]; exact hx)
        have mb := monI_bd (ls.getD k []) s u
        rw [monI] at mb
        rw [hvv] at HV
        rw [e1] at hck HV
        clear hkl hg g1 g2 hvv hrow e1 hr hall
        generalize (ls.getD k []).getD 0 0 = X0 at *
        generalize (ls.getD k []).getD 1 0 = X1 at *
        have P1 := fun w => power_P s X0 w HBS.out.1 HBS.out.2 p0.1 p0.2
        have P2 := fun w => power_P u X1 w HBU.out.1 HBU.out.2 p1.1 p1.2
        generalize powP s X0 = m1 at *
        generalize powP u X1 = m2 at *
        have q1 := wr64 (m1 * m2) (by omega)
        have q2 := wr64 (r + m1 * m2) (by omega)
        have HM := Lib.hid (show 0 ≤ r + m1 * m2 by omega)
        have y0' : ∀ n', (wr.drewN n').cell? ⟨b1, o1, none⟩ = some (.int .i64 X0) := fun n' => y0
        have y1' : ∀ n', (wr.drewN n').cell? ⟨b1, o1 + 1, none⟩ = some (.int .i64 X1) := fun n' => y1
        go_wp2_with (go_at_call 69; (with_reducible refine HV.mono ?_); rintro e w' ⟨rfl, d2, rfl⟩)
        have z0 := y0' d2
        have z1 := y1' d2
        clear y0' y1' y0 y1 HV mb hck
        have HW2 := Lib.hid (show wr.drewN d2 = w.drewN (d + d2) by rw [HW.out, World.drewN_drewN])
        clear HW
        generalize wr.drewN d2 = w2 at *
        have q3 := wr64 ((r + m1 * m2).tmod 10007) (by rw [Int.tmod_eq_emod_of_nonneg HM.out]; have := Int.emod_nonneg (r + m1 * m2) (show (10007 : Int) ≠ 0 by omega); have := Int.emod_lt_of_pos (r + m1 * m2) (show (0 : Int) < 10007 by omega); omega)
        clear p0 p1 hr0 hr1 HBS HBU HC HN HS HU
        go_quiet (first | (go_at_call 70; with_reducible exact quiet_eq (P1 _)) | (go_at_call 70; with_reducible exact quiet_eq (P2 _)))
        go_wp2
        go_round
        case rel => exact ⟨d + d2 + nq, k + 1, (r + m1 * m2) % 10007, by rw [HW2.out, World.drewN_drewN], by omega, by go_num, by rw [Int.tmod_eq_emod_of_nonneg HM.out], Int.emod_nonneg _ (by omega), Int.emod_lt_of_pos _ (by omega), Lib.hid (HACC.out _ rfl), HALL.out⟩
        case measure => simp [intOf]; omega
    · obtain rfl : k = n := by omega
      have hv := ptsV_good HS.out HU.out (fun j hj => hall.out j (by rw [HN.out]; exact hj))
      have HVV := Lib.hid hv; clear hv
      go_wp2
      go_ret2
      exact ⟨ret_pts (HVV.out.trans (by rw [← HN.out, hr.out])), _, HW.out⟩
end Go.Proofs.Ytibninlggdpnkaa
