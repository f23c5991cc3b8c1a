/- The partner of a primitive vector: the program's walk. -/
import Derived.Test.YtchkcjpahlimjaaSplL
import Derived.Test.YtchkcjpahlimjaaTurnM
import Derived.Test.YtchkcjpahlimjaaTurn
namespace Go.Proofs.Ytchkcjpahlimjaa
open Go.RowKit
set_option linter.unusedVariables false
set_option linter.unusedSimpArgs false

theorem eNext_fix {e : ESt} (h : e.s = 0) : eNext e = e := by unfold eNext; rw [if_pos h]
theorem eIt_fix {e : ESt} (k : Nat) (h : (eIt k e).s = 0) : ∀ d, eIt (k + d) e = eIt k e
  | 0 => rfl
  | d + 1 => by rw [show k + (d + 1) = k + d + 1 from rfl, eIt_succ, eIt_fix k h d, eNext_fix h]
theorem tdiv_small {r s : Int} (h : -60 ≤ r ∧ r ≤ 60) : -60 ≤ Int.tdiv r s ∧ Int.tdiv r s ≤ 60 := by
  have h1 := Int.natAbs_tdiv r s
  have h2 := Nat.div_le_self r.natAbs s.natAbs
  have h3 : (Int.tdiv r s).natAbs ≤ r.natAbs := by rw [h1]; exact h2
  omega
theorem eOk_bd {e : ESt} (h : eOk e = true) : (-60 ≤ e.a0 ∧ e.a0 ≤ 60) ∧ (-60 ≤ e.a1 ∧ e.a1 ≤ 60) ∧ (-60 ≤ e.b0 ∧ e.b0 ≤ 60) ∧ (-60 ≤ e.b1 ∧ e.b1 ≤ 60) ∧ (-60 ≤ e.r ∧ e.r ≤ 60) ∧ (-60 ≤ e.s ∧ e.s ≤ 60) := by
  unfold eOk smallB at h
  simp only [Bool.and_eq_true, decide_eq_true_eq] at h
  omega
set_option maxRecDepth 100000 in
set_option maxHeartbeats 4000000 in
theorem partner_any (x y : Int) (v : Value) (hb : Nat) (w : World) (h : ISr w hb v [x, y]) (hhb : hb ≤ w.heap.size) (hx : -30 ≤ x ∧ x ≤ 30) (hy : -30 ≤ y ∧ y ≤ 30) (hg : Int.gcd x y = 1) :
    Calls Try.prog 61 #[v] w fun e w' => ∃ u, e = .returned u ∧ IS w' w.heap.size w'.heap.size u [-(parE x y).a1 * (parE x y).r, (parE x y).a0 * (parE x y).r] ∧ Below w.heap.size w w' := by
  have hall := box_ok hx hy hg
  have HOK := Lib.hid (eAll_ok 10 _ hall)
  have HEND := Lib.hid (eAll_end 10 _ hall).1
  have HFIX := Lib.hid (fun k => eIt_fix (e := eSt x y) k)
  have HSUC := Lib.hid (fun k => eIt_succ k (eSt x y))
  have HPAR := Lib.hid (show parE x y = eIt 10 (eSt x y) from rfl)
  have H0 := Lib.hid (show eIt 0 (eSt x y) = ⟨1, 0, 0, 1, x, y⟩ from rfl)
  rcases h.cases with ⟨e, -⟩ | ⟨-, -, b, off, cap, rfl, hbb, hc⟩
  · cases e
  have p0 : w.cell? ⟨b, off, none⟩ = some (.int .i64 x) := hc 0 (by simp)
  have p1 : w.cell? ⟨b, off + 1, none⟩ = some (.int .i64 y) := hc 1 (by simp)
  have hbw : b < w.heap.size := Nat.lt_of_lt_of_le hbb hhb
  have IA0 := Lib.hid ((IS.lit2 w w.heap.size (Nat.le_refl _) 1 0).keep (below1 _ (.cells #[.int .i64 0, .int .i64 1] 3)) (by simp))
  have IB0 := Lib.hid (IS.lit2 (w.alloc (.cells #[.int .i64 1, .int .i64 0] 3)) w.heap.size (by simp) 0 1)
  have BB0 := Lib.hid (below2 w (.cells #[.int .i64 1, .int .i64 0] 3) (.cells #[.int .i64 0, .int .i64 1] 3))
  simp only [World.size_alloc] at IA0 IB0
  have q0 := (BB0.out.cell (p := ⟨b, off, none⟩) hbw).trans p0
  have q1 := (BB0.out.cell (p := ⟨b, off + 1, none⟩) hbw).trans p1
  clear h hc hall
  go_enter Try.func61, Try.ntmps61
  go_wp2
  go_quiet (fail)
  go_wp2
  go_loopw [3, 4, 5, 6, 7] (fun va vb r s _ wr => ∃ (k : Nat) (e : ESt), k ≤ 10 ∧ Hid (e = eIt k (eSt x y)) ∧ r = .int .i64 e.r ∧ s = .int .i64 e.s ∧ Hid (IS wr w.heap.size wr.heap.size va [e.a0, e.a1]) ∧ Hid (IS wr w.heap.size wr.heap.size vb [e.b0, e.b1]) ∧ Hid (Below w.heap.size w wr)) (fun _ _ _ s _ _ => (intOf s).natAbs)
  case atStart => exact ⟨0, ⟨1, 0, 0, 1, x, y⟩, by omega, Lib.hid H0.out.symm, rfl, rfl, Lib.hid (IA0.out.mono (Nat.le_refl _) (by simp)), Lib.hid (IB0.out.mono (Nat.le_refl _) (by simp)), Lib.hid (BB0.out.trans (below_draws _ _ _))⟩
  case round =>
    obtain ⟨k, e, hk, he, rfl, rfl, hia, hib, hbe⟩ := hrel
    obtain ⟨a0, a1, b0, b1, r, s⟩ := e
    dsimp only at hia hib
    dsimp only
    have hok := HOK.out k hk
    rw [← he.out] at hok
    obtain ⟨u1, u2, u3, u4, u5', u6'⟩ := eOk_bd hok
    dsimp only at u1 u2 u3 u4 u5' u6'
    by_cases hs : s = 0
    · have hfin : eIt 10 (eSt x y) = ⟨a0, a1, b0, b1, r, s⟩ := by
        have := HFIX.out k (by rw [← he.out]; exact hs) (10 - k)
        rw [show k + (10 - k) = 10 by omega, ← he.out] at this
        exact this
      have HR := Lib.hid (show ([-(parE x y).a1 * (parE x y).r, (parE x y).a0 * (parE x y).r] : List Int) = [-a1 * r, a0 * r] by rw [HPAR.out, hfin])
      obtain ⟨ba, oa, ca, rfl, -, la, c0, c1⟩ := hia.out.at2
      have m1 := mul_abs (a := -a1) (b := r) (A := 60) (B := 60) (by omega) (by omega) (by omega) (by omega) (by omega) (by omega)
      have m2 := mul_abs (a := a0) (b := r) (A := 60) (B := 60) (by omega) (by omega) (by omega) (by omega) (by omega) (by omega)
      have w1' := wr64 (-a1) (by omega)
      have w2' := wr64 (-a1 * r) (by omega)
      have w3' := wr64 (a0 * r) (by omega)
      have HIS := Lib.hid (IS.lit2 wr w.heap.size hbe.out.size (-a1 * r) (a0 * r))
      have HBE := Lib.hid (hbe.out.trans (below1 wr (.cells #[.int .i64 (-a1 * r), .int .i64 (a0 * r)] 3) |>.mono hbe.out.size))
      clear hfin hok u1 u2 u3 u4 u5' u6' m1 m2 hia hib hbe he
      subst hs
      go_wp2
      go_region_held3 (fun w' => w'.cell? ⟨ba, oa, none⟩ = some (.int .i64 a0) ∧ w'.cell? ⟨ba, oa + 1, none⟩ = some (.int .i64 a1)) (go_keep) (fail)
      go_wp2
      go_ret
      refine ⟨_, rfl, ?_, Lib.hid (HBE.out.trans (below_draws _ _ 1)) |>.out⟩
      rw [HR.out]
      exact (HIS.out.mono (Nat.le_refl _) (by simp)).world rfl
    · have hk2 : k < 10 := by
        rcases Nat.lt_or_ge k 10 with g | g
        · exact g
        · obtain rfl : k = 10 := by omega
          have := HEND.out
          rw [← he.out] at this
          exact absurd this hs
      have hnx : eIt (k + 1) (eSt x y) = ⟨b0, b1, a0 - Int.tdiv r s * b0, a1 - Int.tdiv r s * b1, s, r - Int.tdiv r s * s⟩ := by
        rw [HSUC.out, ← he.out]; unfold eNext; rw [if_neg hs]; rfl
      have HNX := Lib.hid hnx
      have hok2 := HOK.out (k + 1) (by omega)
      rw [hnx] at hok2
      obtain ⟨-, -, v3, v4, -, v6⟩ := eOk_bd hok2
      dsimp only at v3 v4 v6
      obtain ⟨ba, oa, ca, rfl, -, la, c0, c1⟩ := hia.out.at2
      obtain ⟨bb, ob, cb, rfl, -, lb, d0, d1⟩ := hib.out.at2
      have hne : (s != 0) = true := by simpa using hs
      have tq := tdiv_small (s := s) u5'
      have HME := Lib.hid (show (r - Int.tdiv r s * s).natAbs < s.natAbs by
        have := Int.tmod_def r s
        rw [Int.mul_comm] at this
        rw [← this]
        exact tmod_natAbs r s hs)
      have w0' := wr64 (Int.tdiv r s) (by omega)
      have w0'' : wrap64 (Int.tdiv r s) = Int.tdiv r s := by first | exact w0' | (simpa [IntKind.wrap] using w0') | (unfold IntKind.wrap at w0'; exact w0') | (simp only [wrap64]; omega) | (unfold wrap64; omega)
      obtain ⟨q, hq⟩ : ∃ q, q = Int.tdiv r s := ⟨_, rfl⟩
      rw [← hq] at HME HNX tq
      have hq2 : wrap64 (Int.tdiv r s) = q := by rw [w0'', hq]
      have hq3 : IntKind.i64.wrap (Int.tdiv r s) = q := by rw [w0', hq]
      rw [← hq] at v3 v4 v6
      clear hq w0' w0'' hnx
      have w1' := wr64 (q * s) (by omega)
      have w2' := wr64 (r - q * s) (by omega)
      have w3' := wr64 (q * b0) (by omega)
      have w4' := wr64 (a0 - q * b0) (by omega)
      have w5' := wr64 (q * b1) (by omega)
      have w6' := wr64 (a1 - q * b1) (by omega)
      have HIS := Lib.hid (IS.lit2 wr w.heap.size hbe.out.size (a0 - q * b0) (a1 - q * b1))
      have HBE := Lib.hid (hbe.out.trans (below1 wr (.cells #[.int .i64 (a0 - q * b0), .int .i64 (a1 - q * b1)] 3) |>.mono hbe.out.size))
      have HKB := Lib.hid (hib.out.keep (below1 wr (.cells #[.int .i64 (a0 - q * b0), .int .i64 (a1 - q * b1)] 3)) (Nat.le_refl _))
      clear hok hok2 u1 u2 u3 u4 u5' u6' v3 v4 v6 hia hib hbe he
      go_wp2
      go_region_held3 (fun w' => w'.cell? ⟨ba, oa, none⟩ = some (.int .i64 a0) ∧ w'.cell? ⟨ba, oa + 1, none⟩ = some (.int .i64 a1) ∧ w'.cell? ⟨bb, ob, none⟩ = some (.int .i64 b0) ∧ w'.cell? ⟨bb, ob + 1, none⟩ = some (.int .i64 b1)) (go_keep) (fail)
      clear w1' w2' w3' w4' w5' w6' hq2 hq3 c0 c1 d0 d1
      go_wp2
      go_roundw
      case rel => exact ⟨k + 1, ⟨b0, b1, a0 - q * b0, a1 - q * b1, s, r - q * s⟩, by omega, Lib.hid HNX.out.symm, rfl, rfl, Lib.hid ((HKB.out.mono (Nat.le_refl _) (by simp)).world rfl), Lib.hid ((HIS.out.mono (Nat.le_refl _) (by simp)).world rfl), Lib.hid (HBE.out.trans (below_draws _ _ 1))⟩
      case measure => simp [intOf]; exact HME.out
end Go.Proofs.Ytchkcjpahlimjaa
