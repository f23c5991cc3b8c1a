/- Vectors: differences of points, products, comparing. -/
import Derived.Test.YtchkcjpahlimjaaVec
namespace Go.Proofs.Ytchkcjpahlimjaa
open Go.RowKit
set_option linter.unusedVariables false
set_option linter.unusedSimpArgs false

theorem bit_any {f : FuncId} : True := trivial
def bitI (b : Bool) : Int := if b then 1 else 0
set_option maxHeartbeats 400000 in
theorem l1Bit_any (b : Bool) (w : World) :
    Calls Try.prog 65 #[.bool b] w fun e w' => e = .returned (.int .i64 (bitI b)) ∧ w = w' := by
  cases b
  all_goals
    go_enter Try.func65, Try.ntmps65
    go_wp2
    go_ret
    exact ⟨rfl, rfl⟩

/-- the difference of two points of the plane -/
def minusI (a b : List Int) : List Int := [a.getD 0 0 - b.getD 0 0, a.getD 1 0 - b.getD 1 0]
theorem two_list {a : List Int} (h : a.length = 2) : a = [a.getD 0 0, a.getD 1 0] := by
  match a, h with
  | [x, y], _ => rfl
theorem minusI_zip {a b : List Int} (ha : a.length = 2) (hb : b.length = 2) : List.zipWith (· - ·) a b = minusI a b := by
  rw [two_list ha, two_list hb]; rfl
theorem minusI_len (a b : List Int) : (minusI a b).length = 2 := rfl
theorem IS.lit2 (w : World) (B : Nat) (h : B ≤ w.heap.size) (x y : Int) : IS (w.alloc (.cells #[.int .i64 x, .int .i64 y] 3)) B (w.heap.size + 1) (.slice (some ⟨w.heap.size, 0, none⟩) 2 2) [x, y] := by
  refine IS.of_BK (l := [x, y]) ⟨_, heap_alloc_new w _, fun i hi => ?_⟩ (Nat.le_refl _) (by simp [maxLen]) h (by omega)
  match i, hi with
  | 0, _ => rfl
  | 1, _ => rfl
theorem IS.world {w w' : World} {lo hi : Nat} {v : Value} {l : List Int} (h : IS w lo hi v l) (hh : w'.heap = w.heap) : IS w' lo hi v l :=
  h.of_blocks fun b _ _ _ => by rw [hh]

set_option maxHeartbeats 1000000 in
theorem minus_any (a b : List Int) (va vb : Value) (hb : Nat) (w : World) (ia : ISr w hb va a) (ib : ISr w hb vb b) (hhb : hb ≤ w.heap.size) (la : a.length = 2) (lb : b.length = 2)
    (p0 : -9223372036854775808 ≤ a.getD 0 0 - b.getD 0 0 ∧ a.getD 0 0 - b.getD 0 0 ≤ 9223372036854775807) (p1 : -9223372036854775808 ≤ a.getD 1 0 - b.getD 1 0 ∧ a.getD 1 0 - b.getD 1 0 ≤ 9223372036854775807) :
    Calls Try.prog 106 #[va, vb] w fun e w' => ∃ u, e = .returned u ∧ IS w' w.heap.size w'.heap.size u (minusI a b) ∧ Below w.heap.size w w' := by
  obtain ⟨b1, o1, c1, rfl, h1, x0, x1⟩ := ia.two la
  obtain ⟨b2, o2, c2, rfl, h2, y0, y1⟩ := ib.two lb
  clear ia ib la lb
  unfold minusI
  generalize a.getD 0 0 = a0 at *
  generalize a.getD 1 0 = a1 at *
  generalize b.getD 0 0 = b0 at *
  generalize b.getD 1 0 = bq at *
  have e1 := wr64 (a0 - b0) p0
  have e2 := wr64 (a1 - bq) p1
  have HIS := Lib.hid (IS.lit2 w w.heap.size (Nat.le_refl _) (a0 - b0) (a1 - bq))
  have HBE := Lib.hid (below1 w (.cells #[.int .i64 (a0 - b0), .int .i64 (a1 - bq)] 3))
  have l1 : b1 < w.heap.size := by omega
  have l2 : b2 < w.heap.size := by omega
  go_enter Try.func106, Try.ntmps106
  go_wp2_with fail
  go_region_held3 (fun w' => w'.cell? ⟨b1, o1, none⟩ = some (.int .i64 a0) ∧ w'.cell? ⟨b1, o1 + 1, none⟩ = some (.int .i64 a1) ∧ w'.cell? ⟨b2, o2, none⟩ = some (.int .i64 b0) ∧ w'.cell? ⟨b2, o2 + 1, none⟩ = some (.int .i64 bq)) (go_keep) (fail)
  go_wp2
  go_ret
  exact ⟨_, rfl, by simp; exact HIS.out.world rfl, HBE.out.trans (by first | exact Below.refl _ _ | exact below_draws _ _ 1)⟩

/-- the sum of the products of the first k numbers -/
def dotK (a b : List Int) : Nat → Int
  | 0 => 0
  | k + 1 => dotK a b k + a.getD k 0 * b.getD k 0
def dotI (a b : List Int) : Int := dotK a b a.length
theorem dotK_bd {a b : List Int} (ha : allIn a (-1000000000) 1000000000 = true) (hb : allIn b (-1000000000) 1000000000 = true) (hl : a.length ≤ b.length) : ∀ k, k ≤ a.length → -((k : Int) * 1000000000000000000) ≤ dotK a b k ∧ dotK a b k ≤ (k : Int) * 1000000000000000000
  | 0, _ => by simp [dotK]
  | k + 1, h => by
    have h1 := dotK_bd ha hb hl k (by omega)
    have h2 := allIn_at ha k (by omega)
    have h3 := allIn_at hb k (by omega)
    have h4 := mul_bd4 h2.1 h2.2 h3.1 h3.2
    rw [dotK]; omega
set_option maxHeartbeats 1000000 in
theorem dot_any (a b : List Int) (va vb : Value) (ha hb : Nat) (w : World) (ia : ISr w ha va a) (ib : ISr w hb vb b) (hl : a.length ≤ b.length) (h4 : a.length ≤ 4)
    (ba : allIn a (-1000000000) 1000000000 = true) (bb : allIn b (-1000000000) 1000000000 = true) :
    Calls Try.prog 118 #[va, vb] w fun e w' => e = .returned (.int .i64 (dotI a b)) ∧ ∃ d, w' = w.drewN d := by
  have hbd := dotK_bd ba bb hl
  have hpa := allIn_at ba
  have hpb := allIn_at bb
  obtain ⟨n, hn⟩ : ∃ n, n = a.length := ⟨_, rfl⟩
  obtain ⟨n', hn'⟩ : ∃ n, n = b.length := ⟨_, rfl⟩
  obtain ⟨aa, cap, rfl, -, -, hcell⟩ := id ia
  obtain ⟨ab, cap', rfl, -, hm', hcell'⟩ := id ib
  unfold maxLen at hm'
  rw [← hn] at hl h4 ⊢
  rw [← hn'] at hl ⊢
  have HN := Lib.hid hn; clear hn
  have HN' := Lib.hid hn'; clear hn'
  have HC := Lib.hid hcell; clear hcell ia
  have HC' := Lib.hid hcell'; clear hcell' ib hm'
  have HBD := Lib.hid hbd; clear hbd
  have HPA := Lib.hid hpa; clear hpa ba
  have HPB := Lib.hid hpb; clear hpb bb
  go_enter Try.func118, Try.ntmps118
  go_wp2
  go_loopw [5, 6, 9] (fun s _ i wr => ∃ (d k : Nat) (t : Int), k ≤ n ∧ i = .int .i64 k ∧ s = .int .i64 t ∧ Hid (t = dotK a b k) ∧ Hid (wr = w.drewN d)) (fun _ _ i _ => n - (intOf i).toNat)
  case atStart => exact ⟨0, 0, 0, by omega, rfl, rfl, Lib.hid rfl, Lib.hid rfl⟩
  case round =>
    obtain ⟨d, k, t, hk, rfl, rfl, ht, HW⟩ := hrel
    by_cases hlt : k < n
    · have hkl : k < a.length := by rw [← HN.out]; exact hlt
      have hkl' : k < b.length := by rw [← HN'.out]; omega
      obtain ⟨b1, o1, rfl, -, hcc⟩ := HC.out (by intro e; rw [e] at hkl; exact absurd hkl (Nat.not_lt_zero _))
      obtain ⟨b2, o2, rfl, -, hcc'⟩ := HC'.out (by intro e; rw [e] at hkl'; exact absurd hkl' (Nat.not_lt_zero _))
      have hck : wr.cell? ⟨b1, o1 + k, none⟩ = some (.int .i64 (a.getD k 0)) := by rw [HW.out]; exact hcc k hkl
      have hck' : wr.cell? ⟨b2, o2 + k, none⟩ = some (.int .i64 (b.getD k 0)) := by rw [HW.out]; exact hcc' k hkl'
      have h1 := HPA.out k hkl
      have h2 := HPB.out k hkl'
      have h3 := mul_bd4 h1.1 h1.2 h2.1 h2.2
      have h5 := HBD.out k (by omega)
      rw [← ht.out] at h5
      have HE := Lib.hid (show t + a.getD k 0 * b.getD k 0 = dotK a b (k + 1) by rw [dotK, ← ht.out])
      clear hcc hcc' hkl hkl' h1 h2
      generalize a.getD k 0 = x at *
      generalize b.getD k 0 = y at *
      have g0 : k ≤ 4 := by omega
      have g1 : -5000000000000000000 ≤ t + x * y ∧ t + x * y ≤ 5000000000000000000 := by omega
      have e1 := wr64 (x * y) (by omega)
      have e2 := wr64 (t + x * y) (by omega)
      have i1 : (0 : Int) ≤ (k : Int) := by omega
      have i2 : (k : Int) < (n : Int) := by omega
      have i3 : (k : Int) < (n' : Int) := by omega
      clear h5 h3
      go_wp2
      go_quiet (fail)
      go_wp2
      go_roundw
      case rel => exact ⟨d + nq, k + 1, _, by omega, by go_num, rfl, HE, Lib.hid (by rw [HW.out, World.drewN_drewN])⟩
      case measure => simp [intOf]; omega
    · obtain rfl : k = n := by omega
      have HF := Lib.hid (show t = dotI a b by rw [dotI, ← HN.out]; exact ht.out)
      go_wp2
      go_ret
      exact ⟨ret_int HF.out, _, HW.out⟩

set_option maxHeartbeats 1000000 in
theorem l2Same_any (l1 l2 : List Int) (v1 v2 : Value) (h1 h2 : Nat) (w : World) (i1 : ISr w h1 v1 l1) (i2 : ISr w h2 v2 l2) :
    Calls Try.prog 117 #[v1, v2] w fun e w' => e = .returned (.bool (decide (l1 = l2))) ∧ ∃ d, w' = w.drewN d := by
  obtain ⟨n, hn⟩ : ∃ n, n = l1.length := ⟨_, rfl⟩
  obtain ⟨n', hn'⟩ : ∃ n, n = l2.length := ⟨_, rfl⟩
  obtain ⟨aa, cap, rfl, hc, hm, hcell⟩ := id i1
  obtain ⟨ab, cap', rfl, hc', hm', hcell'⟩ := id i2
  unfold maxLen at hm hm'
  rw [← hn, ← hn'] at ⊢
  rw [← hn] at hc
  rw [← hn'] at hc'
  have hb1 : n ≤ 9223372036854775807 := by omega
  have hb2 : n' ≤ 9223372036854775807 := by omega
  have HN := Lib.hid hn; clear hn
  have HN' := Lib.hid hn'; clear hn'
  have HC := Lib.hid hcell; clear hcell i1
  have HC' := Lib.hid hcell'; clear hcell' i2 hm' hm hc hc'
  by_cases hle : n = n'
  case neg =>
    have HF := Lib.hid (show decide (l1 = l2) = false by rw [decide_eq_false_iff_not]; intro e; exact hle (by rw [HN.out, HN'.out, e]))
    have hb : ((n : Int) != (n' : Int)) = true := by rw [bne_iff_ne]; omega
    clear hle
    go_enter Try.func117, Try.ntmps117
    go_wp2
    go_ret
    exact ⟨ret_bool HF.out.symm, 0, rfl⟩
  subst hle
  go_enter Try.func117, Try.ntmps117
  go_wp2
  go_loopw [5] (fun i wr => ∃ (d k : Nat), k ≤ n ∧ i = .int .i64 k ∧ Hid (l1.take k = l2.take k) ∧ Hid (wr = w.drewN d)) (fun i _ => n - (intOf i).toNat)
  case atStart => exact ⟨0, 0, by omega, rfl, Lib.hid rfl, Lib.hid rfl⟩
  case round =>
    obtain ⟨d, k, hk, rfl, hE, HW⟩ := hrel
    by_cases hlt : k < n
    · have hkl : k < l1.length := by rw [← HN.out]; exact hlt
      have hkl' : k < l2.length := by rw [← HN'.out]; omega
      obtain ⟨b1, o1, rfl, -, hcc⟩ := HC.out (by intro e; rw [e] at hkl; exact absurd hkl (Nat.not_lt_zero _))
      obtain ⟨b2, o2, rfl, -, hcc'⟩ := HC'.out (by intro e; rw [e] at hkl'; exact absurd hkl' (Nat.not_lt_zero _))
      have hck : wr.cell? ⟨b1, o1 + k, none⟩ = some (.int .i64 (l1.getD k 0)) := by rw [HW.out]; exact hcc k hkl
      have hck' : wr.cell? ⟨b2, o2 + k, none⟩ = some (.int .i64 (l2.getD k 0)) := by rw [HW.out]; exact hcc' k hkl'
      have i1 : (0 : Int) ≤ (k : Int) := by omega
      have i2 : (k : Int) < (n : Int) := by omega
      by_cases he : l1.getD k 0 = l2.getD k 0
      · have HS := Lib.hid (take_eq_step hkl hkl' hE.out he)
        clear hkl hkl' hcc hcc'
        rw [← he] at hck'
        clear he
        generalize l1.getD k 0 = x at *
        have hxx : (x != x) = false := by simp
        go_wp2
        go_quiet (fail)
        go_wp2
        go_roundw
        case rel => exact ⟨d + nq, k + 1, by omega, by go_num, HS, Lib.hid (by rw [HW.out, World.drewN_drewN])⟩
        case measure => simp [intOf]; omega
      · have HF := Lib.hid (ne_of_getD he)
        clear hkl hkl' hcc hcc'
        generalize l1.getD k 0 = x at *
        generalize l2.getD k 0 = y at *
        have hxy : (x != y) = true := by simpa using he
        go_wp2
        go_quiet (fail)
        go_wp2
        go_ret
        exact ⟨ret_bool HF.out.symm, d + nq, by rw [HW.out, World.drewN_drewN]⟩
    · obtain rfl : k = n := by omega
      have e1 := hE.out
      rw [HN.out, List.take_length, ← HN.out, HN'.out, List.take_length] at e1
      have HF := Lib.hid (show decide (l1 = l2) = true by rw [decide_eq_true_eq]; exact e1)
      clear e1
      go_wp2
      go_ret
      exact ⟨ret_bool HF.out.symm, _, HW.out⟩
end Go.Proofs.Ytchkcjpahlimjaa
