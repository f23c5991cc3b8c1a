/- The partner of a primitive vector with numbers up to 100: the program's walk. -/
import Derived.Test.YtehhoplenloocaaGreatBezH
import Derived.Deep.RegionHeld3
namespace Go.Proofs.YtehhoplenloocaaGreat
open Go.RowKit
set_option linter.unusedVariables false
set_option linter.unusedSimpArgs false

/-- what holds all the way of Euclid's steps with their factors -/
structure EuH (x y a0 a1 b0 b1 r s : Int) : Prop where
  er : r = a0 * x + a1 * y
  es : s = b0 * x + b1 * y
  ed : a0 * b1 - a1 * b0 = 1 ∨ a0 * b1 - a1 * b0 = -1
  p0 : a0 * b0 * (r * s) ≤ 0
  p1 : a1 * b1 * (r * s) ≤ 0
  ba0 : -100 ≤ a0 ∧ a0 ≤ 100
  ba1 : -100 ≤ a1 ∧ a1 ≤ 100
  bb0 : -100 ≤ b0 ∧ b0 ≤ 100
  bb1 : -100 ≤ b1 ∧ b1 ≤ 100
  br : -100 ≤ r ∧ r ≤ 100
  bs : -100 ≤ s ∧ s ≤ 100
theorem EuH.start {x y : Int} (hx : -100 ≤ x ∧ x ≤ 100) (hy : -100 ≤ y ∧ y ≤ 100) : EuH x y 1 0 0 1 x y :=
  ⟨by omega, by omega, by omega, by simp, by simp, by omega, by omega, by omega, by omega, hx, hy⟩
/-- two numbers that do not pull against each other -/
theorem no_pull {b r a s x : Int} (hr : r ≠ 0) (hp : a * b * (r * s) ≤ 0) (he : b * r - a * s = x ∨ b * r - a * s = -x) (hx : -100 ≤ x ∧ x ≤ 100) : -100 ≤ b ∧ b ≤ 100 := by
  have e : (b * r) * (a * s) ≤ 0 := by
    have : (b * r) * (a * s) = a * b * (r * s) := by grind
    omega
  have h1 : (b * r).natAbs ≤ x.natAbs := by
    rcases Int.lt_trichotomy (b * r) 0 with g | g | g
    · have : 0 ≤ a * s := by
        rcases Int.lt_or_le (a * s) 0 with k | k
        · have := Int.mul_pos_of_neg_of_neg g k; omega
        · exact k
      omega
    · omega
    · have : a * s ≤ 0 := by
        rcases Int.lt_or_le 0 (a * s) with k | k
        · have := Int.mul_pos g k; omega
        · exact k
      omega
  rw [Int.natAbs_mul] at h1
  have h2 : b.natAbs * 1 ≤ b.natAbs * r.natAbs := Nat.mul_le_mul_left _ (by omega)
  omega
theorem EuH.step {x y a0 a1 b0 b1 r s : Int} (h : EuH x y a0 a1 b0 b1 r s) (hx : -100 ≤ x ∧ x ≤ 100) (hy : -100 ≤ y ∧ y ≤ 100) (hs : s ≠ 0) :
    EuH x y b0 b1 (a0 - r.tdiv s * b0) (a1 - r.tdiv s * b1) s (r - r.tdiv s * s) := by
  have hm : r - r.tdiv s * s = r.tmod s := by
    have := Int.mul_tdiv_add_tmod r s
    rw [Int.mul_comm] at this; omega
  have hlt := tmod_natAbs r s hs
  rw [← hm] at hlt
  -- signs
  have hsg1 : 0 ≤ r * r.tdiv s * s := by
    have e : r.tdiv s * s = r - r.tmod s := by have := Int.mul_tdiv_add_tmod r s; rw [Int.mul_comm] at this; omega
    have e2 : r * r.tdiv s * s = r * (r - r.tmod s) := by rw [Int.mul_assoc, e]
    rw [e2]
    have hle : (r.tmod s).natAbs ≤ r.natAbs := by rw [Int.natAbs_tmod]; exact Nat.mod_le _ _
    rcases Int.lt_or_le r 0 with g | g
    · exact Int.mul_nonneg_of_nonpos_of_nonpos (by omega) (by omega)
    · exact Int.mul_nonneg g (by omega)
  have hsg2 : 0 ≤ r * r.tmod s := by
    rcases Int.lt_or_le r 0 with g | g
    · have : r.tmod s ≤ 0 := by
        have := Int.tmod_nonneg (a := -r) s (by omega)
        rw [Int.neg_tmod] at this; omega
      exact Int.mul_nonneg_of_nonpos_of_nonpos (by omega) this
    · exact Int.mul_nonneg g (Int.tmod_nonneg _ g)
  rw [← hm] at hsg2
  have hr0 : r = 0 → r.tdiv s = 0 := fun e => by rw [e]; simp
  generalize r.tdiv s = q at *
  obtain ⟨t, ht⟩ : ∃ t, t = r - q * s := ⟨_, rfl⟩
  rw [← ht] at hlt hsg2 ⊢
  -- s * t and r * s have one sign; q too
  have key : ∀ a b : Int, a * b * (r * s) ≤ 0 → b * (a - q * b) * (s * t) ≤ 0 := fun a b hp => by
    by_cases hr : r = 0
    · have hq := hr0 hr
      rw [hr, hq] at ht
      simp at ht
      rw [ht]; simp
    · have hrr : 0 < r * r := by
        rcases Int.lt_or_lt_of_ne hr with g | g
        · exact Int.mul_pos_of_neg_of_neg g g
        · exact Int.mul_pos g g
      have e : (b * (a - q * b) * (s * t)) * (r * r) = (a * b * (r * s)) * (r * t) - (r * q * s) * (r * t) * (b * b) := by grind
      have hbb : 0 ≤ b * b := by
        rcases Int.lt_or_le b 0 with g | g
        · exact Int.le_of_lt (Int.mul_pos_of_neg_of_neg g g)
        · exact Int.mul_nonneg g g
      have m1 : (a * b * (r * s)) * (r * t) ≤ 0 := Int.mul_nonpos_of_nonpos_of_nonneg hp hsg2
      have m2 : 0 ≤ (r * q * s) * (r * t) * (b * b) := Int.mul_nonneg (Int.mul_nonneg hsg1 hsg2) hbb
      rcases Int.lt_or_le 0 (b * (a - q * b) * (s * t)) with g | g
      · have := Int.mul_pos g hrr; omega
      · exact g
  have k0 := key a0 b0 h.p0
  have k1 := key a1 b1 h.p1
  have hd : b0 * (a1 - q * b1) - b1 * (a0 - q * b0) = -(a0 * b1 - a1 * b0) := by grind
  have hd2 := h.ed
  have et : t = (a0 - q * b0) * x + (a1 - q * b1) * y := by rw [ht, h.er, h.es]; grind
  have e1 : (a1 - q * b1) * s - b1 * t = x ∨ (a1 - q * b1) * s - b1 * t = -x := by
    have : (a1 - q * b1) * s - b1 * t = -(a0 * b1 - a1 * b0) * x := by rw [et, h.es]; grind
    rw [this]
    rcases hd2 with e | e <;> rw [e] <;> simp
  have e0 : (a0 - q * b0) * s - b0 * t = y ∨ (a0 - q * b0) * s - b0 * t = -y := by
    have : (a0 - q * b0) * s - b0 * t = (a0 * b1 - a1 * b0) * y := by rw [et, h.es]; grind
    rw [this]
    rcases hd2 with e | e <;> rw [e] <;> simp
  have hbs := h.bs
  exact ⟨h.es, et, by rw [hd]; omega, k0, k1, h.bb0, h.bb1, no_pull hs k0 e0 hy, no_pull hs k1 e1 hx, h.bs, by omega⟩
/-- at the end the rest is one or minus one -/
theorem EuH.stop {x y a0 a1 b0 b1 r : Int} (h : EuH x y a0 a1 b0 b1 r 0) (hg : Int.gcd x y = 1) : r * r = 1 := by
  have hr := h.er
  have hs := h.es
  have hd := h.ed
  have ex : x = (a0 * b1 - a1 * b0) * (b1 * r) := by
    have e : (a0 * b1 - a1 * b0) * (b1 * r) = (a0 * b1 - a1 * b0) * ((a0 * b1 - a1 * b0) * x + a1 * (b0 * x + b1 * y)) := by rw [hr]; grind
    rw [e, ← hs]
    rcases hd with e | e <;> rw [e] <;> omega
  have ey : y = (a0 * b1 - a1 * b0) * (-b0 * r) := by
    have e : (a0 * b1 - a1 * b0) * (-b0 * r) = (a0 * b1 - a1 * b0) * ((a0 * b1 - a1 * b0) * y - a0 * (b0 * x + b1 * y)) := by rw [hr]; grind
    rw [e, ← hs]
    rcases hd with e | e <;> rw [e] <;> omega
  have d1 : r ∣ x := ⟨(a0 * b1 - a1 * b0) * b1, by rw [ex]; grind⟩
  have d2 : r ∣ y := ⟨(a0 * b1 - a1 * b0) * -b0, by rw [ey]; grind⟩
  have this : r.natAbs ∣ 1 := by
    have hdv : r.natAbs ∣ Int.gcd x y := Nat.dvd_gcd (Int.natAbs_dvd_natAbs.2 d1) (Int.natAbs_dvd_natAbs.2 d2)
    rwa [hg] at hdv
  have h1 : r.natAbs = 1 := Nat.dvd_one.1 this
  rcases (show r = 1 ∨ r = -1 by omega) with e | e <;> rw [e] <;> rfl
theorem IS.at2H {w : World} {lo hi : Nat} {v : Value} {x y : Int} (h : IS w lo hi v [x, y]) : ∃ b off cap, v = .slice (some ⟨b, off, Option.none⟩) 2 cap ∧ lo ≤ b ∧ b < hi ∧ w.cell? ⟨b, off, Option.none⟩ = some (.int .i64 x) ∧ w.cell? ⟨b, off + 1, Option.none⟩ = some (.int .i64 y) := by
  rcases h.cases with ⟨e, -⟩ | ⟨-, -, b, off, cap, rfl, -, -, h1, h2, h3⟩
  · cases e
  · refine ⟨b, off, cap, rfl, h1, h2, ?_, ?_⟩
    · have := h3.cell (i := 0) (by simp); rwa [Nat.add_zero] at this
    · exact h3.cell (i := 1) (by simp)
theorem mul_bd100 {a b : Int} (ha : -100 ≤ a ∧ a ≤ 100) (hb : -100 ≤ b ∧ b ≤ 100) : -10000 ≤ a * b ∧ a * b ≤ 10000 := by
  have h1 : a.natAbs * b.natAbs ≤ 100 * 100 := Nat.mul_le_mul (by omega) (by omega)
  rw [← Int.natAbs_mul] at h1
  omega
theorem tdiv_bd100 {r s : Int} (h : -100 ≤ r ∧ r ≤ 100) : -100 ≤ r.tdiv s ∧ r.tdiv s ≤ 100 := by
  have h1 := Int.natAbs_tdiv r s
  have h2 := Nat.div_le_self r.natAbs s.natAbs
  have h3 : (Int.tdiv r s).natAbs ≤ r.natAbs := by rw [h1]; exact h2
  omega
set_option maxRecDepth 100000 in
set_option maxHeartbeats 4000000 in
theorem partnerH_any (x y : Int) (v : Value) (hb : Nat) (w : World) (h : ISr w hb v [x, y]) (hhb : hb ≤ w.heap.size) (hx : -100 ≤ x ∧ x ≤ 100) (hy : -100 ≤ y ∧ y ≤ 100) (hg : Int.gcd x y = 1) :
    Calls Tryz.prog 79 #[v] w fun e w' => ∃ u c d, e = .returned u ∧ x * d - y * c = 1 ∧ (-100 ≤ c ∧ c ≤ 100) ∧ (-100 ≤ d ∧ d ≤ 100) ∧ IS w' w.heap.size w'.heap.size u [c, d] ∧ Below w.heap.size w w' := by
  have HG := Lib.hid hg
  have HST := Lib.hid (EuH.start hx hy)
  have HSTEP := Lib.hid (fun a0 a1 b0 b1 r s (h : EuH x y a0 a1 b0 b1 r s) hs => h.step hx hy hs)
  rcases h.cases with ⟨e, -⟩ | ⟨-, -, b, off, cap, rfl, hbb, hc⟩
  · cases e
  have p0 : w.cell? ⟨b, off, none⟩ = some (.int .i64 x) := hc 0 (by simp)
  have p1 : w.cell? ⟨b, off + 1, none⟩ = some (.int .i64 y) := hc 1 (by simp)
  have hbw : b < w.heap.size := Nat.lt_of_lt_of_le hbb hhb
  have IA0 := Lib.hid ((IS.lit2 w w.heap.size (Nat.le_refl _) 1 0).keep (below1 _ (.cells #[.int .i64 0, .int .i64 1] 3)) (by simp))
  have IB0 := Lib.hid (IS.lit2 (w.alloc (.cells #[.int .i64 1, .int .i64 0] 3)) w.heap.size (by simp) 0 1)
  have BB0 := Lib.hid (below2 w (.cells #[.int .i64 1, .int .i64 0] 3) (.cells #[.int .i64 0, .int .i64 1] 3))
  simp only [World.size_alloc] at IA0 IB0
  have q0 := (BB0.out.cell (p := ⟨b, off, none⟩) hbw).trans p0
  have q1 := (BB0.out.cell (p := ⟨b, off + 1, none⟩) hbw).trans p1
  clear h hc
  go_enter Tryz.func79, Tryz.ntmps79
  go_wp2
  go_quiet (fail)
  go_wp2
  go_loopw [3, 4, 5, 6, 7] (fun va vb r s _ wr => ∃ a0 a1 b0 b1 r' s' : Int, Hid (EuH x y a0 a1 b0 b1 r' s') ∧ r = .int .i64 r' ∧ s = .int .i64 s' ∧ Hid (IS wr w.heap.size wr.heap.size va [a0, a1]) ∧ Hid (IS wr w.heap.size wr.heap.size vb [b0, b1]) ∧ Hid (Below w.heap.size w wr)) (fun _ _ _ s _ _ => (intOf s).natAbs)
  case atStart => exact ⟨1, 0, 0, 1, x, y, HST, rfl, rfl, Lib.hid (IA0.out.mono (Nat.le_refl _) (by simp)), Lib.hid (IB0.out.mono (Nat.le_refl _) (by simp)), Lib.hid (BB0.out.trans (below_draws _ _ _))⟩
  case round =>
    obtain ⟨a0, a1, b0, b1, r, s, he, rfl, rfl, hia, hib, hbe⟩ := hrel
    have u1 := he.out.ba0
    have u2 := he.out.ba1
    have u3 := he.out.bb0
    have u4 := he.out.bb1
    have u5' := he.out.br
    have u6' := he.out.bs
    by_cases hs : s = 0
    · subst hs
      have HRR := Lib.hid (show x * (a0 * r) - y * (-a1 * r) = 1 from by
        have h1 := he.out.stop HG.out
        have h2 := he.out.er
        have : x * (a0 * r) - y * (-a1 * r) = r * (a0 * x + a1 * y) := by grind
        rw [this, ← h2]; exact h1)
      have HRB := Lib.hid (show (r = 1 ∨ r = -1) from by
        have h1 := he.out.stop HG.out
        have h2 : r.natAbs * r.natAbs = 1 := by rw [← Int.natAbs_mul, h1]; rfl
        have h3 := Nat.eq_one_of_mul_eq_one_left h2
        omega)
      have HB1 := Lib.hid (show -100 ≤ -a1 * r ∧ -a1 * r ≤ 100 by rcases HRB.out with e | e <;> rw [e] <;> omega)
      have HB2 := Lib.hid (show -100 ≤ a0 * r ∧ a0 * r ≤ 100 by rcases HRB.out with e | e <;> rw [e] <;> omega)
      obtain ⟨ba, oa, ca, rfl, -, la, c0, c1⟩ := hia.out.at2H
      have m1 := HB1.out
      have m2 := HB2.out
      have w1' := wr64 (-a1) (by omega)
      have w2' := wr64 (-a1 * r) (by omega)
      have w3' := wr64 (a0 * r) (by omega)
      have HIS := Lib.hid (IS.lit2 wr w.heap.size hbe.out.size (-a1 * r) (a0 * r))
      have HBE := Lib.hid (hbe.out.trans (below1 wr (.cells #[.int .i64 (-a1 * r), .int .i64 (a0 * r)] 3) |>.mono hbe.out.size))
      clear u1 u2 u3 u4 u5' u6' m1 m2 hia hib hbe he
      go_wp2
      go_region_held3 (fun w' => w'.cell? ⟨ba, oa, none⟩ = some (.int .i64 a0) ∧ w'.cell? ⟨ba, oa + 1, none⟩ = some (.int .i64 a1)) (go_keep) (fail)
      go_wp2
      go_ret
      exact ⟨_, _, _, rfl, HRR.out, HB1.out, HB2.out, (HIS.out.mono (Nat.le_refl _) (by simp)).world rfl, Lib.hid (HBE.out.trans (below_draws _ _ 1)) |>.out⟩
    · have hnx := HSTEP.out a0 a1 b0 b1 r s he.out hs
      have v3 := hnx.bb0
      have v4 := hnx.bb1
      have v6 := hnx.bs
      obtain ⟨ba, oa, ca, rfl, -, la, c0, c1⟩ := hia.out.at2H
      obtain ⟨bb, ob, cb, rfl, -, lb, d0, d1⟩ := hib.out.at2H
      have hne : (s != 0) = true := by simpa using hs
      have tq := tdiv_bd100 (s := s) u5'
      have HNX := Lib.hid hnx
      have HME := Lib.hid (show (r - Int.tdiv r s * s).natAbs < s.natAbs by
        have := Int.mul_tdiv_add_tmod r s
        rw [Int.mul_comm] at this
        rw [show r - r.tdiv s * s = r.tmod s by omega]
        exact tmod_natAbs r s hs)
      have w0' := wr64 (Int.tdiv r s) (by omega)
      have w0'' : wrap64 (Int.tdiv r s) = Int.tdiv r s := by unfold wrap64; omega
      obtain ⟨q, hq⟩ : ∃ q, q = Int.tdiv r s := ⟨_, rfl⟩
      rw [← hq] at HME HNX tq
      have hq2 : wrap64 (Int.tdiv r s) = q := by rw [w0'', hq]
      have hq3 : IntKind.i64.wrap (Int.tdiv r s) = q := by rw [w0', hq]
      rw [← hq] at v3 v4 v6
      clear hq w0' w0'' hnx
      have n1 := mul_bd100 tq u6'
      have n2 := mul_bd100 tq u3
      have n3 := mul_bd100 tq u4
      have w1' := wr64 (q * s) (by omega)
      have w2' := wr64 (r - q * s) (by omega)
      have w3' := wr64 (q * b0) (by omega)
      have w4' := wr64 (a0 - q * b0) (by omega)
      have w5' := wr64 (q * b1) (by omega)
      have w6' := wr64 (a1 - q * b1) (by omega)
      have HIS := Lib.hid (IS.lit2 wr w.heap.size hbe.out.size (a0 - q * b0) (a1 - q * b1))
      have HBE := Lib.hid (hbe.out.trans (below1 wr (.cells #[.int .i64 (a0 - q * b0), .int .i64 (a1 - q * b1)] 3) |>.mono hbe.out.size))
      have HKB := Lib.hid (hib.out.keep (below1 wr (.cells #[.int .i64 (a0 - q * b0), .int .i64 (a1 - q * b1)] 3)) (Nat.le_refl _))
      clear u1 u2 u3 u4 u5' u6' v3 v4 v6 n1 n2 n3 hia hib hbe he
      go_wp2
      go_region_held3 (fun w' => w'.cell? ⟨ba, oa, none⟩ = some (.int .i64 a0) ∧ w'.cell? ⟨ba, oa + 1, none⟩ = some (.int .i64 a1) ∧ w'.cell? ⟨bb, ob, none⟩ = some (.int .i64 b0) ∧ w'.cell? ⟨bb, ob + 1, none⟩ = some (.int .i64 b1)) (go_keep) (fail)
      clear w1' w2' w3' w4' w5' w6' hq2 hq3 c0 c1 d0 d1
      go_wp2
      go_roundw
      case rel => exact ⟨b0, b1, a0 - q * b0, a1 - q * b1, s, r - q * s, HNX, rfl, rfl, Lib.hid ((HKB.out.mono (Nat.le_refl _) (by simp)).world rfl), Lib.hid ((HIS.out.mono (Nat.le_refl _) (by simp)).world rfl), Lib.hid (HBE.out.trans (below_draws _ _ 1))⟩
      case measure => simp [intOf]; exact HME.out
end Go.Proofs.YtehhoplenloocaaGreat
