/- Points, rays and determinants of the plane: the walks. -/
import Derived.Test.YtchkcjpahlimjaaGcdL
import Derived.Test.YtchkcjpahlimjaaMk
namespace Go.Proofs.Ytchkcjpahlimjaa
open Go.RowKit
set_option linter.unusedVariables false
set_option linter.unusedSimpArgs false

def crossI (a b : List Int) : Int := a.getD 0 0 * b.getD 1 0 - a.getD 1 0 * b.getD 0 0
theorem allIn_at {l : List Int} {lo hi : Int} (h : allIn l lo hi = true) : ∀ k, k < l.length → lo ≤ l.getD k 0 ∧ l.getD k 0 ≤ hi := by
  intro k hk
  have := List.all_eq_true.1 h (l.getD k 0) (by rw [List.getD_eq_getElem?_getD, List.getElem?_eq_getElem hk]; exact List.getElem_mem hk)
  exact inB_iff.1 this
theorem mul_bd4 {a b : Int} (ha : -1000000000 ≤ a) (ha' : a ≤ 1000000000) (hb : -1000000000 ≤ b) (hb' : b ≤ 1000000000) : -1000000000000000000 ≤ a * b ∧ a * b ≤ 1000000000000000000 := by
  rcases Int.le_total 0 b with h | h
  · have := mul_bd2 (a := a) (b := b) (M := 1000000000) (N := 1000000000) ha ha' h hb' (by omega); omega
  · have := mul_bd2 (a := a) (b := -b) (M := 1000000000) (N := 1000000000) ha ha' (by omega) (by omega) (by omega)
    rw [Int.mul_neg] at this; omega
theorem wr64 (n : Int) (h : -9223372036854775808 ≤ n ∧ n ≤ 9223372036854775807) : IntKind.i64.wrap n = n := IntWalk.i64_in n h
/-- a slice of two -/
theorem ISr.two {w : World} {hi : Nat} {v : Value} {l : List Int} (h : ISr w hi v l) (hl : l.length = 2) :
    ∃ b off cap, v = .slice (some ⟨b, off, none⟩) 2 cap ∧ b < hi ∧ w.cell? ⟨b, off, none⟩ = some (.int .i64 (l.getD 0 0)) ∧ w.cell? ⟨b, off + 1, none⟩ = some (.int .i64 (l.getD 1 0)) := by
  rcases h.cases with ⟨rfl, -⟩ | ⟨-, -, b, off, cap, rfl, hb, hc⟩
  · simp at hl
  · rw [hl]
    exact ⟨b, off, cap, rfl, hb, by have := hc 0 (by omega); rwa [Nat.add_zero] at this, hc 1 (by omega)⟩
def ptB (l : List Int) (m : Int) : Bool := decide (l.length = 2) && allIn l (-m) m
theorem ptB_len {l : List Int} {m : Int} (h : ptB l m = true) : l.length = 2 ∧ allIn l (-m) m = true := by
  simpa [ptB] using h
def rayB (l : List Int) : Bool := ptB l 30 && decide (gcdL l = 1)
set_option maxHeartbeats 1000000 in
theorem cross_any (a b : List Int) (va vb : Value) (ha hb : Nat) (w : World) (ia : ISr w ha va a) (ib : ISr w hb vb b) (la : a.length = 2) (lb : b.length = 2)
    (ba : allIn a (-1000000000) 1000000000 = true) (bb : allIn b (-1000000000) 1000000000 = true) :
    Calls Try.prog 60 #[va, vb] w fun e w' => e = .returned (.int .i64 (crossI a b)) ∧ ∃ d, w' = w.drewN d := by
  obtain ⟨b1, o1, c1, rfl, -, x0, x1⟩ := ia.two la
  obtain ⟨b2, o2, c2, rfl, -, y0, y1⟩ := ib.two lb
  have p0 := allIn_at ba 0 (by omega)
  have p1 := allIn_at ba 1 (by omega)
  have q0 := allIn_at bb 0 (by omega)
  have q1 := allIn_at bb 1 (by omega)
  clear ia ib la lb ba bb
  unfold crossI
  generalize a.getD 0 0 = a0 at *
  generalize a.getD 1 0 = a1 at *
  generalize b.getD 0 0 = b0 at *
  generalize b.getD 1 0 = bq at *
  have m1 := mul_bd4 p0.1 p0.2 q1.1 q1.2
  have m2 := mul_bd4 p1.1 p1.2 q0.1 q0.2
  have e1 := wr64 (a0 * bq) (by omega)
  have e2 := wr64 (a1 * b0) (by omega)
  have e3 := wr64 (a0 * bq - a1 * b0) (by omega)
  go_enter Try.func60, Try.ntmps60
  go_wp2
  go_quiet (fail)
  go_wp2
  go_ret
  exact ⟨rfl, _, rfl⟩
set_option maxHeartbeats 1000000 in
theorem l7Cross_any (a b : List Int) (va vb : Value) (ha hb : Nat) (w : World) (ia : ISr w ha va a) (ib : ISr w hb vb b) (la : a.length = 2) (lb : b.length = 2)
    (ba : allIn a (-1000000000) 1000000000 = true) (bb : allIn b (-1000000000) 1000000000 = true) :
    Calls Try.prog 56 #[va, vb] w fun e w' => e = .returned (.int .i64 (crossI a b)) ∧ ∃ d, w' = w.drewN d := by
  obtain ⟨b1, o1, c1, rfl, -, x0, x1⟩ := ia.two la
  obtain ⟨b2, o2, c2, rfl, -, y0, y1⟩ := ib.two lb
  have p0 := allIn_at ba 0 (by omega)
  have p1 := allIn_at ba 1 (by omega)
  have q0 := allIn_at bb 0 (by omega)
  have q1 := allIn_at bb 1 (by omega)
  clear ia ib la lb ba bb
  unfold crossI
  generalize a.getD 0 0 = a0 at *
  generalize a.getD 1 0 = a1 at *
  generalize b.getD 0 0 = b0 at *
  generalize b.getD 1 0 = bq at *
  have m1 := mul_bd4 p0.1 p0.2 q1.1 q1.2
  have m2 := mul_bd4 p1.1 p1.2 q0.1 q0.2
  have e1 := wr64 (a0 * bq) (by omega)
  have e2 := wr64 (a1 * b0) (by omega)
  have e3 := wr64 (a0 * bq - a1 * b0) (by omega)
  go_enter Try.func56, Try.ntmps56
  go_wp2
  go_quiet (fail)
  go_wp2
  go_ret
  exact ⟨rfl, _, rfl⟩

set_option maxHeartbeats 1000000 in
theorem isPoint_any (l : List Int) (v : Value) (m : Int) (hb : Nat) (w : World) (h : ISr w hb v l) (hm : 0 ≤ m) (hm' : m ≤ 1000000000) :
    Calls Try.prog 97 #[v, .int .i64 m] w fun e w' => e = .returned (.bool (ptB l m)) ∧ w = w' := by
  have HA := fun w' (h' : ISr w' hb v l) => allWithin_any l v (-m) m hb w' h'
  have H1 := HA w h
  obtain ⟨a, cap, rfl, -, -, -⟩ := h
  by_cases hl : l.length = 2
  · have hv : ptB l m = allIn l (-m) m := by simp [ptB, hl]
    rw [hv]; clear hv HA
    rw [hl] at H1 ⊢
    clear hl
    go_enter Try.func97, Try.ntmps97
    go_wp2_with (go_at_call 81; (with_reducible refine H1.mono ?_); rintro e w' ⟨rfl, rfl⟩)
    go_ret
    exact ⟨rfl, rfl⟩
  · have hv : ptB l m = false := by simp [ptB, hl]
    rw [hv]; clear hv
    have hne : ((l.length : Int) == 2) = false := by rw [beq_eq_false_iff_ne]; omega
    generalize l.length = n at *
    clear H1 HA
    go_enter Try.func97, Try.ntmps97
    go_wp2
    go_ret
    exact ⟨rfl, rfl⟩

set_option maxHeartbeats 1000000 in
theorem l2Small_any (l : List Int) (v : Value) (m : Int) (hb : Nat) (w : World) (h : ISr w hb v l) (hm : 0 ≤ m) (hm' : m ≤ 1000000000) :
    Calls Try.prog 107 #[v, .int .i64 m] w fun e w' => e = .returned (.bool (allIn l (-m) m)) ∧ ∃ d, w' = w.drewN d := by
  rcases h.cases with ⟨rfl, a, cap, rfl⟩ | ⟨hpos, hlen, b, off, cap, rfl, hbb, hcell⟩
  · go_enter Try.func107, Try.ntmps107
    go_wp2
    refine wp_loop_rounds 1 ?_
    rw [rounds_succ]
    go_wp2
    go_ret
    exact ⟨rfl, 0, rfl⟩
  · clear h
    obtain ⟨n, hn⟩ : ∃ n, n = l.length := ⟨_, rfl⟩
    rw [← hn] at hlen hpos ⊢
    have HN := Lib.hid hn; clear hn
    have HC := Lib.hid hcell; clear hcell
    go_enter Try.func107, Try.ntmps107
    go_wp2
    go_loopw [5] (fun i wr => ∃ (d k : Nat), wr = w.drewN d ∧ k ≤ n ∧ i = .int .i64 k ∧ Hid (allIn (l.take k) (-m) m = true)) (fun i _ => n - (intOf i).toNat)
    case atStart => exact ⟨0, 0, rfl, by omega, rfl, rfl⟩
    case round =>
      obtain ⟨d, k, hw, hk, rfl, hall⟩ := hrel
      have HW := Lib.hid hw; clear hw
      by_cases hlt : k < n
      · have hl : k < l.length := by rw [← HN.out]; exact hlt
        have hck : wr.cell? ⟨b, off + k, none⟩ = some (.int .i64 (l.getD k 0)) := by rw [HW.out]; exact HC.out k hl
        have HS := Lib.hid (allIn_step l (-m) m k hl)
        have HF := Lib.hid (allIn_false l (-m) m k hl)
        clear hl
        generalize l.getD k 0 = x at *
        have HI := fun w => l1In_any x (-m) m w
        cases hx : inB x (-m) m
        · have HX := Lib.hid hx
          rw [hx] at HI
          clear hx
          go_wp2_with (go_at_call 78; (with_reducible refine (HI _).mono ?_); rintro e w' ⟨rfl, rfl⟩)
          all_goals try go_quiet ((go_at_call 78; exact quiet_eq (HI _)))
          all_goals try go_wp2
          go_ret
          exact ⟨ret_bool (HF.out HX.out).symm, by first | exact ⟨d, HW.out⟩ | exact ⟨d + nq, by rw [HW.out, World.drewN_drewN]⟩⟩
        · have HX := Lib.hid hx
          rw [hx] at HI
          clear hx
          go_wp2_with (go_at_call 78; (with_reducible refine (HI _).mono ?_); rintro e w' ⟨rfl, rfl⟩)
          all_goals try go_quiet ((go_at_call 78; exact quiet_eq (HI _)))
          all_goals try go_wp2
          go_roundw
          case rel => first | exact ⟨d, k + 1, HW.out, by omega, by go_num, by rw [HS.out, hall.out, HX.out]; rfl⟩ | exact ⟨d + nq, k + 1, by rw [HW.out, World.drewN_drewN], by omega, by go_num, by rw [HS.out, hall.out, HX.out]; rfl⟩
          case measure => simp [intOf]; omega
      · obtain rfl : k = n := by omega
        go_wp2
        go_ret
        refine ⟨ret_bool ?_, _, HW.out⟩
        have := hall.out
        rw [HN.out, List.take_length] at this
        exact this.symm
end Go.Proofs.Ytchkcjpahlimjaa
