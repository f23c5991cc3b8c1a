/- The model's search for a partner: the walk. -/
import Derived.Test.YtehhoplenloocaaGreatB2
namespace Go.Proofs.YtehhoplenloocaaGreat
open Go.RowKit
set_option linter.unusedVariables false
set_option linter.unusedSimpArgs false

def tryTH (n k : Int) : Nat → Int × Int
  | 0 => (k, n)
  | 1 => (k, -n)
  | 2 => (n, k)
  | _ => (-n, k)
def noHitH (x y n k : Int) : Prop := ∀ i, i < 4 → x * (tryTH n k i).2 - y * (tryTH n k i).1 ≠ 1
theorem hit_atH {x y a b M : Int} (h : x * b - y * a = 1) (hM : (a = M ∨ a = -M ∨ b = M ∨ b = -M) ∧ (-M ≤ a ∧ a ≤ M) ∧ (-M ≤ b ∧ b ≤ M)) (hno : ∀ k, -M ≤ k → k ≤ M → noHitH x y M k) : False := by
  obtain ⟨h1, ha, hb⟩ := hM
  rcases h1 with e | e | e | e
  · exact hno b hb.1 hb.2 2 (by omega) (by simp only [tryTH]; rw [← e]; exact h)
  · exact hno b hb.1 hb.2 3 (by omega) (by simp only [tryTH]; rw [← e]; exact h)
  · exact hno a ha.1 ha.2 0 (by omega) (by simp only [tryTH]; rw [← e]; exact h)
  · exact hno a ha.1 ha.2 1 (by omega) (by simp only [tryTH]; rw [← e]; exact h)

theorem IS.lit2H (w : World) (B g : Nat) (hg : w.heap.size = g) (h : B ≤ g) (x y : Int) : IS (w.alloc (.cells #[.int .i64 x, .int .i64 y] 3)) B (g + 1) (.slice (some ⟨g, 0, Option.none⟩) 2 2) [x, y] := by
  subst hg; exact IS.lit2 w B h x y
/-- the four tries, as they are laid -/
def tryWH (w : World) (n k : Int) : World := ((((w.alloc (.cells #[.int .i64 k, .int .i64 n] 3)).alloc (.cells #[.int .i64 k, .int .i64 (-n)] 3)).alloc (.cells #[.int .i64 n, .int .i64 k] 3)).alloc (.cells #[.int .i64 (-n), .int .i64 k] 3)).alloc
  (.cells #[.slice (some ⟨w.heap.size, 0, none⟩) 2 2, .slice (some ⟨w.heap.size + 1, 0, none⟩) 2 2, .slice (some ⟨w.heap.size + 1 + 1, 0, none⟩) 2 2, .slice (some ⟨w.heap.size + 1 + 1 + 1, 0, none⟩) 2 2] 25)
theorem tryWH_size (w : World) (n k : Int) : (tryWH w n k).heap.size = w.heap.size + 5 := by simp [tryWH]
theorem tryWH_below (w : World) (n k : Int) : Below w.heap.size w (tryWH w n k) := by
  unfold tryWH
  exact (((((Below.refl w.heap.size w).alloc (Nat.le_refl _) _).alloc (by simp) _).alloc (by simp; omega) _).alloc (by simp; omega) _).alloc (by simp; omega) _
theorem tryWH_is (w : World) (n k : Int) : ∀ i, i < 4 → ∃ u, (tryWH w n k).cell? ⟨w.heap.size + 1 + 1 + 1 + 1, i, none⟩ = some u ∧ IS (tryWH w n k) w.heap.size (tryWH w n k).heap.size u [(tryTH n k i).1, (tryTH n k i).2] := by
  have hz := tryWH_size w n k
  have bk : BK (tryWH w n k) (w.heap.size + 1 + 1 + 1 + 1) 0 4 25 (fun i => (#[.slice (some ⟨w.heap.size, 0, none⟩) 2 2, .slice (some ⟨w.heap.size + 1, 0, none⟩) 2 2, .slice (some ⟨w.heap.size + 1 + 1, 0, none⟩) 2 2, .slice (some ⟨w.heap.size + 1 + 1 + 1, 0, none⟩) 2 2] : Array Value).getD i (.int .i64 0)) := by
    refine ⟨_, by unfold tryWH; have := heap_alloc_new ((((w.alloc (.cells #[.int .i64 k, .int .i64 n] 3)).alloc (.cells #[.int .i64 k, .int .i64 (-n)] 3)).alloc (.cells #[.int .i64 n, .int .i64 k] 3)).alloc (.cells #[.int .i64 (-n), .int .i64 k] 3)) (.cells #[.slice (some ⟨w.heap.size, 0, none⟩) 2 2, .slice (some ⟨w.heap.size + 1, 0, none⟩) 2 2, .slice (some ⟨w.heap.size + 1 + 1, 0, none⟩) 2 2, .slice (some ⟨w.heap.size + 1 + 1 + 1, 0, none⟩) 2 2] 25); simpa using this, fun i hi => ?_⟩
    match i, hi with
    | 0, _ => rfl
    | 1, _ => rfl
    | 2, _ => rfl
    | 3, _ => rfl
  intro i hi
  have hc := bk.cell hi
  rw [Nat.zero_add] at hc
  refine ⟨_, hc, ?_⟩
  rw [hz]
  unfold tryWH
  match i, hi with
  | 0, _ => exact (((((IS.lit2 w w.heap.size (Nat.le_refl _) k n).keep (below1 _ _) (by simp)).keep (below1 _ _) (by simp)).keep (below1 _ _) (by simp)).keep (below1 _ _) (by simp)).mono (Nat.le_refl _) (by omega)
  | 1, _ => exact ((((IS.lit2H (w.alloc (.cells #[.int .i64 k, .int .i64 n] 3)) w.heap.size (w.heap.size + 1) (by simp) (by omega) k (-n)).keep (below1 _ _) (by simp)).keep (below1 _ _) (by simp)).keep (below1 _ _) (by simp)).mono (Nat.le_refl _) (by omega)
  | 2, _ => exact (((IS.lit2H ((w.alloc (.cells #[.int .i64 k, .int .i64 n] 3)).alloc (.cells #[.int .i64 k, .int .i64 (-n)] 3)) w.heap.size (w.heap.size + 1 + 1) (by simp) (by omega) n k).keep (below1 _ _) (by simp)).keep (below1 _ _) (by simp)).mono (Nat.le_refl _) (by omega)
  | 3, _ => exact ((IS.lit2H (((w.alloc (.cells #[.int .i64 k, .int .i64 n] 3)).alloc (.cells #[.int .i64 k, .int .i64 (-n)] 3)).alloc (.cells #[.int .i64 n, .int .i64 k] 3)) w.heap.size (w.heap.size + 1 + 1 + 1) (by simp) (by omega) (-n) k).keep (below1 _ _) (by simp)).mono (Nat.le_refl _) (by omega)

set_option maxRecDepth 100000 in
set_option maxHeartbeats 8000000 in
theorem l9BezoutH_any (x y : Int) (v : Value) (hb : Nat) (w : World) (h : ISr w hb v [x, y]) (hhb : hb ≤ w.heap.size) (hx : -100 ≤ x ∧ x ≤ 100) (hy : -100 ≤ y ∧ y ≤ 100) (a b M : Int) (hab : x * b - y * a = 1)
    (hM : (a = M ∨ a = -M ∨ b = M ∨ b = -M) ∧ (-M ≤ a ∧ a ≤ M) ∧ (-M ≤ b ∧ b ≤ M)) (hM100 : M ≤ 100) :
    Calls Tryz.prog 86 #[v] w fun e w' => ∃ u c d, e = .returned u ∧ x * d - y * c = 1 ∧ (-100 ≤ c ∧ c ≤ 100) ∧ (-100 ≤ d ∧ d ≤ 100) ∧ IS w' w.heap.size w'.heap.size u [c, d] ∧ Below w.heap.size w w' := by
  have HAB := Lib.hid hab
  have HMM := Lib.hid hM
  have HXX := Lib.hid h
  have hM0 : 0 ≤ M := by omega
  obtain ⟨av, cv, rfl, -⟩ := id h
  clear h hab hM
  go_enter Tryz.func86, Tryz.ntmps86
  go_wp2
  go_loopw [3, 4, 5, 6] (fun ns _ _ _ wr => ∃ n : Nat, (n : Int) ≤ M ∧ ns = .int .i64 n ∧ Hid (Below w.heap.size w wr)) (fun ns _ _ _ _ => (M - intOf ns).toNat)
  case atStart => exact ⟨0, by omega, rfl, Below.refl _ _⟩
  case round =>
    obtain ⟨n, hn, rfl, hbe⟩ := hrel
    generalize wr = w1 at *
    have hwz := hbe.out.size
    go_wp2
    go_loopw [4, 5, 6] (fun ks _ _ wr => ∃ j : Nat, j ≤ 2 * n + 1 ∧ ks = .int .i64 (-(n : Int) + j) ∧ Hid (∀ j' : Nat, j' < j → noHitH x y n (-(n : Int) + j')) ∧ Hid (Below w.heap.size w wr)) (fun ks _ _ _ => ((n : Int) + 1 - intOf ks).toNat)
    case atStart => exact ⟨0, by omega, by simp, Lib.hid (fun j hj => absurd hj (Nat.not_lt_zero _)), hbe⟩
    case round =>
      obtain ⟨j, hj, rfl, hno, hb2⟩ := hrel
      generalize wr = w2 at *
      by_cases hjt : j < 2 * n + 1
      · have hle : -(n : Int) + j ≤ n := by omega
        have hdec : decide (-(n : Int) + j ≤ n) = true := by simpa using hle
        generalize hk : -(n : Int) + (j : Int) = k at *
        have HK := Lib.hid hk
        have hkb : -(n : Int) ≤ k ∧ k ≤ n := by omega
        have HT := Lib.hid (tryWH_is w2 n k)
        have HTB := Lib.hid (tryWH_below w2 n k)
        have HTZ := Lib.hid (tryWH_size w2 n k)
        have hn100 : (n : Int) ≤ 100 := by omega
        have HAT : ∀ (m : Int) (i : Nat), (tryWH w2 m k) = (tryWH w2 m k) := fun _ _ => rfl
        clear hk hle hjt HAT
        go_wp2
        have e5 : (tryWH w2 n k) = (tryWH w2 n k) := rfl
        conv at e5 => lhs; unfold tryWH
        rw [e5]
        clear e5
        have HZ2 := Lib.hid hb2.out.size
        generalize tryWH w2 n k = w5 at *
        generalize w2.heap.size = z2 at *
        go_loopw [6] (fun is wr => ∃ (i d : Nat), i ≤ 4 ∧ is = .int .i64 i ∧ Hid (wr = w5.drewN d) ∧ Hid (∀ i' : Nat, i' < i → x * (tryTH n k i').2 - y * (tryTH n k i').1 ≠ 1)) (fun is _ => (4 - intOf is).toNat)
        case atStart => exact ⟨0, 0, by omega, rfl, Lib.hid rfl, Lib.hid fun i hi => absurd hi (Nat.not_lt_zero _)⟩
        case round =>
          obtain ⟨i, d, hi, rfl, hwd, hni⟩ := hrel
          generalize wr = w6 at *
          by_cases hi4 : i < 4
          · have hdi : decide ((i : Int) < 4) = true := by rw [decide_eq_true_eq]; omega
            obtain ⟨u, hcu, hisu⟩ := HT.out i hi4
            have hcu : w6.cell? ⟨z2 + 1 + 1 + 1 + 1, i, none⟩ = some u := by rw [hwd.out]; exact hcu
            have hisu6 : IS w6 z2 w5.heap.size u [(tryTH n k i).1, (tryTH n k i).2] := by rw [hwd.out]; exact hisu
            have HB6 := Lib.hid (show Below w.heap.size w w6 from by rw [hwd.out]; exact ((hb2.out.trans (HTB.out.mono HZ2.out)).trans (below_draws _ _ d)))
            have hZ6 : w6.heap.size = w5.heap.size := by rw [hwd.out]; rfl
            have HZ6 := Lib.hid hZ6
            have tb : (-100 ≤ (tryTH n k i).1 ∧ (tryTH n k i).1 ≤ 100) ∧ (-100 ≤ (tryTH n k i).2 ∧ (tryTH n k i).2 ≤ 100) := by
              unfold tryTH; split <;> simp only [] <;> omega
            have HNI := Lib.hid (show x * (tryTH n k i).2 - y * (tryTH n k i).1 ≠ 1 → ∀ i' : Nat, i' < i + 1 → x * (tryTH n k i').2 - y * (tryTH n k i').1 ≠ 1 from fun h0 i' hi' => by
              by_cases e : i' = i
              · subst e; exact h0
              · exact hni.out i' (by omega))
            generalize (tryTH n k i).1 = c at *
            generalize (tryTH n k i).2 = e at *
            have HIS := Lib.hid hisu6
            have CR := l7Cross_any [x, y] [c, e] (.slice av 2 cv) u hb w5.heap.size w6 (HXX.out.keep HB6.out hhb) hisu6.read rfl rfl (by simp [allIn, inB]; omega) (by simp [allIn, inB]; omega)
            rw [show crossI [x, y] [c, e] = x * e - y * c by simp [crossI]] at CR
            obtain ⟨au, cu, rfl, -⟩ := id hisu6
            obtain ⟨q, hq⟩ : ∃ q, q = x * e - y * c := ⟨_, rfl⟩
            rw [← hq] at CR HNI
            have HQ := Lib.hid hq
            clear hq hisu hisu6
            go_wp2_with fail
            refine CR.mono ?_
            rintro e1 w7 ⟨rfl, d7, rfl⟩
            have hcu7 : (w6.drewN d7).cell? ⟨z2 + 1 + 1 + 1 + 1, i, none⟩ = some (Value.slice au [c, e].length cu) := hcu
            have HB7 := Lib.hid (HB6.out.trans (below_draws w.heap.size w6 d7))
            have HW7 := Lib.hid (show w6.drewN d7 = w5.drewN (d + d7) by rw [hwd.out, World.drewN_drewN])
            have HIS7 := Lib.hid (show IS (w6.drewN d7) z2 w5.heap.size (Value.slice au [c, e].length cu) [c, e] from HIS.out.draws d7)
            have HZ7 := Lib.hid (show (w6.drewN d7).heap.size = w5.heap.size from HZ6.out)
            generalize w6.drewN d7 = w7 at *
            by_cases hq1 : q = 1
            · have hqe : (q == 1) = true := by simpa using hq1
              go_wp2
              go_ret
              refine ⟨_, c, e, rfl, by rw [← HQ.out]; exact hq1, tb.1, tb.2, HIS7.out.mono HZ2.out (by rw [HZ7.out]; exact Nat.le_refl _), HB7.out⟩
            · have hqe : (q == 1) = false := by simpa using hq1
              have HN2 := Lib.hid (HNI.out hq1)
              go_wp2
              go_roundw
              case rel => exact ⟨i + 1, d + d7, by omega, by go_num, HW7, HN2⟩
              case measure => simp [intOf]; omega
          · obtain rfl : i = 4 := by omega
            have HB6 := Lib.hid (show Below w.heap.size w w6 from by rw [hwd.out]; exact ((hb2.out.trans (HTB.out.mono HZ2.out)).trans (below_draws _ _ d)))
            go_wp2
            go_roundw
            case rel => exact ⟨j + 1, by have := HK.out; omega, by congr 1; have := HK.out; omega, Lib.hid (fun j' hj' => by
              by_cases ej : j' = j
              · subst ej; rw [HK.out]; exact hni.out
              · exact hno.out j' (by omega)), HB6⟩
            case measure => simp [intOf]; omega
      · obtain rfl : j = 2 * n + 1 := by omega
        have hle : ¬ (-(n : Int) + ((2 * n + 1 : Nat) : Int) ≤ n) := by omega
        have hdec : decide (-(n : Int) + ((2 * n + 1 : Nat) : Int) ≤ n) = false := by simpa using hle
        have hlt : (n : Int) < M := by
          rcases Int.lt_or_le n M with g | g
          · exact g
          · exfalso
            obtain rfl : M = n := by omega
            exact hit_atH HAB.out HMM.out (fun k h1 h2 => by
              have := hno.out (k + n).toNat (by omega)
              rwa [show -(n : Int) + (((k + n).toNat : Nat) : Int) = k by omega] at this)
        go_wp2
        go_roundw
        case rel => exact ⟨n + 1, by omega, by go_num, hb2⟩
        case measure => simp [intOf]; omega
end Go.Proofs.YtehhoplenloocaaGreat
