/- SideNumbers: the walks. -/
import Derived.Test.YtcofkjnkdfibfaaPlE
namespace Go.Proofs.Ytcofkjnkdfibfaa
open Go.RowKit
set_option linter.unusedVariables false
set_option linter.unusedSimpArgs false

def snK (ls : List (List Int)) : Nat → List Int
  | 0 => []
  | k + 1 => snK ls k ++ [sdI ls k]
theorem snK_len (ls : List (List Int)) : ∀ k, (snK ls k).length = k
  | 0 => rfl
  | k + 1 => by unfold snK; rw [List.length_append, snK_len ls k]; rfl
def snF (ls : List (List Int)) : List Int := if isPolyB ls then snK ls ls.length else []
theorem snF_len (ls : List (List Int)) : (snF ls).length ≤ 12 := by
  unfold snF
  cases hp : isPolyB ls
  · simp
  · obtain ⟨h3, h12, hf⟩ := isPoly_parts hp
    simp only [if_true]; rw [snK_len]; exact h12
theorem IS.lit1 (w : World) (B : Nat) (h : B ≤ w.heap.size) (x : Int) : IS (w.alloc (.cells #[.int .i64 x] 3)) B (w.heap.size + 1) (.slice (some ⟨w.heap.size, 0, none⟩) 1 1) [x] := by
  refine IS.of_BK (l := [x]) ⟨_, heap_alloc_new w _, fun i hi => ?_⟩ (Nat.le_refl _) (by simp [maxLen]) h (by omega)
  match i, hi with
  | 0, _ => rfl

set_option maxRecDepth 100000 in
set_option maxHeartbeats 4000000 in
theorem implSides_any (ls : List (List Int)) (v : Value) (hb : Nat) (w : World) (h : ISSr w hb v ls) (hhb : hb ≤ w.heap.size) :
    Calls Try.prog 20 #[v] w fun e w' => ∃ u, e = .returned u ∧ IS w' w.heap.size w'.heap.size u (snF ls) ∧ Below w.heap.size w w' := by
  have IP := implIsPolygon_any ls v hb w h hhb
  cases hp : isPolyB ls
  case false =>
    have hr : snF ls = [] := by unfold snF; rw [hp]; rfl
    rw [hr]
    rw [hp] at IP
    clear h hr hp
    go_enter Try.func20, Try.ntmps20
    go_wp2_with (go_at_call 49; (with_reducible refine IP.mono ?_); rintro e w1 ⟨rfl, c1⟩)
    go_ret
    exact ⟨_, rfl, IS.nil _ _ _, c1⟩
  have HR := Lib.hid (show snF ls = snK ls ls.length by unfold snF; rw [hp]; rfl)
  rw [hp] at IP
  obtain ⟨h3, h12, hf⟩ := isPoly_parts hp
  rcases h.cases with ⟨rfl, a, cap, rfl⟩ | ⟨hpos, hlen, b, off, cap, V, rfl, hbb, hcell⟩
  · simp at h3
  obtain ⟨n, hn⟩ : ∃ n, n = ls.length := ⟨_, rfl⟩
  have HFA := Lib.hid (fun k hk => flat_at hf (k := k) hk)
  rw [← hn] at hlen hpos h12 IP HR ⊢
  have HN := Lib.hid hn; clear hn
  have HC := Lib.hid hcell
  have HBL := Lib.hid (show b < w.heap.size by omega)
  have HHB := Lib.hid hhb
  clear hcell hbb h hf hp h3 hhb
  have n1 : (1 : Int) ≤ (n : Int) := by omega
  go_enter Try.func20, Try.ntmps20
  go_wp2_with (go_at_call 49; (with_reducible refine IP.mono ?_); rintro e w1 ⟨rfl, c1⟩)
  have C1 := Lib.hid c1
  clear IP c1
  go_loopw [3, 11] (fun s i wr => ∃ (k : Nat), k ≤ n ∧ i = .int .i64 k ∧ Hid (OwnI wr w.heap.size s (snK ls k)) ∧ Hid (Below w.heap.size w wr)) (fun _ i _ => n - (intOf i).toNat)
  case atStart => exact ⟨0, by omega, rfl, Lib.hid (OwnI.nil _ _), C1⟩
  case round =>
    obtain ⟨k, hk, rfl, HO, HB⟩ := hrel
    by_cases hlt : k < n
    · have hkl : k < ls.length := by rw [← HN.out]; exact hlt
      obtain ⟨y, hy⟩ : ∃ y, y = (k + 1) % ls.length := ⟨_, rfl⟩
      have hyl : y < ls.length := by rw [hy]; exact Nat.mod_lt _ (by omega)
      have hyn : y < n := by rw [HN.out]; exact hyl
      have hyI : ((k : Int) + 1) % (n : Int) = (y : Int) := by rw [hy, ← HN.out]; push_cast; rfl
      have ck : wr.cell? ⟨b, off + k, none⟩ = some (V k) := (HB.out.cell (p := ⟨b, off + k, none⟩) HBL.out).trans (HC.out k hkl).1
      have cy : wr.cell? ⟨b, off + y, none⟩ = some (V y) := (HB.out.cell (p := ⟨b, off + y, none⟩) HBL.out).trans (HC.out y hyl).1
      have rk : ISr wr hb (V k) (ls.getD k []) := (HC.out k hkl).2.keep HB.out HHB.out
      have ry : ISr wr hb (V y) (ls.getD y []) := (HC.out y hyl).2.keep HB.out HHB.out
      have fk := HFA.out k hkl
      have fy := HFA.out y hyl
      have mb := minus_bd fy fk
      have m0 := mb 0 (by simp [minusI])
      have m1 := mb 1 (by simp [minusI])
      simp only [minusI, List.getD_cons_zero, List.getD_cons_succ] at m0 m1
      have MI := minus_any (ls.getD y []) (ls.getD k []) (V y) (V k) hb wr ry rk (Nat.le_trans HHB.out HB.out.size) fy.1 fk.1 (by omega) (by omega)
      have GC := fun u hi W (H : ISr W hi u (minusI (ls.getD y []) (ls.getD k []))) => gcdAll_any _ u hi W H 100 (by omega) mb
      have hT : gcdL (minusI (ls.getD y []) (ls.getD k [])) = sdI ls k := by unfold sdI; rw [hy]
      rw [hT] at GC
      have HS := Lib.hid (show snK ls (k + 1) = snK ls k ++ [sdI ls k] from rfl)
      have hal : (snK ls k).length ≤ 12 := by rw [snK_len]; omega
      clear rk ry fk fy hT hkl hyl hy mb m0 m1
      generalize sdI ls k = t at *
      generalize snK ls k = acc at *
      generalize minusI (ls.getD y []) (ls.getD k []) = m at *
      have j1 : (y : Int) < (n : Int) := by omega
      have j2 : (0 : Int) ≤ (y : Int) := by omega
      go_wp2_with fail
      with_reducible refine MI.mono ?_
      rintro e w2 ⟨u, rfl, hi, c2⟩
      go_wp2_with fail
      with_reducible refine (GC u _ _ hi.read).mono ?_
      rintro e w3 ⟨rfl, d, hw3⟩
      have C3 := c2.trans (below_draws wr.heap.size w2 d)
      rw [← hw3] at C3
      have HO2 := Lib.hid (HO.out.kept C3)
      have HB2 := Lib.hid (below_then HB.out HB.out.size C3)
      have hsz := HB2.out.size
      clear hw3 hi c2 MI GC C3 HB HO
      go_wp2_with (at_builtin; refine wpList_append_I rfl _ _ rfl rfl rfl (HO2.out.kept (below1 w3 (.cells #[.int .i64 t] 3))) (IS.lit1 w3 w.heap.size hsz t).read (by simp; omega) (by simp; omega) ?_)
      intro a4 cap4 w4 ho4 hg4
      have HB4 := Lib.hid (OwnI.below HB2.out HB2.out.size _ hg4 HO2.out (Nat.le_refl _))
      rw [← HS.out] at ho4
      have HO4 := Lib.hid ho4
      clear hg4 ho4 HO2 HB2 hsz
      go_wp2
      go_roundw
      case rel => exact ⟨k + 1, by omega, by go_num, HO4, HB4⟩
      case measure => simp [intOf]; omega
    · obtain rfl : k = n := by omega
      go_wp2
      go_ret
      refine ⟨_, rfl, ?_, HB.out⟩
      rw [HR.out]
      exact HO.out.is
set_option maxRecDepth 100000 in
set_option maxHeartbeats 4000000 in
theorem specSides_any (ls : List (List Int)) (v : Value) (hb : Nat) (w : World) (h : ISSr w hb v ls) (hhb : hb ≤ w.heap.size) :
    Calls Try.prog 19 #[v] w fun e w' => ∃ u, e = .returned u ∧ IS w' w.heap.size w'.heap.size u (snF ls) ∧ Below w.heap.size w w' := by
  have IP := Lib.hid (fun W (HB : Below w.heap.size w W) => specIsPolygon_any ls v hb W (h.keep HB hhb) (Nat.le_trans hhb HB.size))
  have HO0 := Lib.hid (OwnI.lit0 w w.heap.size (Nat.le_refl _))
  have HB0 := Lib.hid (below1 w (.cells #[] 3))
  have H := Lib.hid h
  obtain ⟨a, cap, rfl, hcap, hm, hcell⟩ := id h
  cases hp : isPolyB ls
  case false =>
    have HR := Lib.hid (show snF ls = [] by unfold snF; rw [hp]; rfl)
    rw [hp] at IP
    have IQ := IP.out _ HB0.out
    clear h hcell hp IP
    generalize ls.length = n at *
    by_cases hz : n = 0
    · subst hz
      clear IQ
      go_enter Try.func19, Try.ntmps19
      go_wp2
      refine wp_loop_rounds 1 ?_
      rw [rounds_succ]
      go_wp2
      go_ret
      refine ⟨_, rfl, ?_, HB0.out⟩
      rw [HR.out]; exact HO0.out.is
    · have h1 : (0 : Int) < (n : Int) := by omega
      go_enter Try.func19, Try.ntmps19
      go_wp2
      refine wp_loop_rounds 1 ?_
      rw [rounds_succ]
      go_wp2_with (go_at_call 45; (with_reducible refine IQ.mono ?_); rintro e w2 ⟨rfl, c2⟩)
      go_ret
      refine ⟨_, rfl, ?_, below_then HB0.out HB0.out.size c2⟩
      rw [HR.out]; exact (HO0.out.kept c2).is
  have HR := Lib.hid (show snF ls = snK ls ls.length by unfold snF; rw [hp]; rfl)
  rw [hp] at IP
  obtain ⟨h3, h12, hf⟩ := isPoly_parts hp
  have SD := Lib.hid (fun k W (HB : Below w.heap.size w W) hk => l7Side_any ls _ hb W (h.keep HB hhb) (Nat.le_trans hhb HB.size) h12 hf k hk)
  obtain ⟨n, hn⟩ : ∃ n, n = ls.length := ⟨_, rfl⟩
  rw [← hn] at h12 h3 IP HR ⊢
  have HN := Lib.hid hn; clear hn
  clear hcell h hf hp hhb hcap hm H
  have n1 : (1 : Int) ≤ (n : Int) := by omega
  go_enter Try.func19, Try.ntmps19
  go_wp2
  go_loopw [3, 4] (fun s i wr => ∃ (k : Nat), k ≤ n ∧ i = .int .i64 k ∧ Hid (OwnI wr w.heap.size s (snK ls k)) ∧ Hid (Below w.heap.size w wr)) (fun _ i _ => n - (intOf i).toNat)
  case atStart => exact ⟨0, by omega, rfl, HO0, HB0⟩
  case round =>
    obtain ⟨k, hk, rfl, HO, HB⟩ := hrel
    by_cases hlt : k < n
    · have hkl : k < ls.length := by rw [← HN.out]; exact hlt
      have IQ := IP.out wr HB.out
      go_wp2_with fail
      with_reducible refine IQ.mono ?_
      rintro e w2 ⟨rfl, c2⟩
      have HB2 := Lib.hid (below_then HB.out HB.out.size c2)
      have HO2 := Lib.hid (HO.out.kept c2)
      clear IQ c2 HB HO
      have MI := SD.out k w2 HB2.out hkl
      rw [← HN.out] at MI
      have HS := Lib.hid (show snK ls (k + 1) = snK ls k ++ [sdI ls k] from rfl)
      have hal : (snK ls k).length ≤ 12 := by rw [snK_len]; omega
      clear hkl
      generalize sdI ls k = t at *
      generalize snK ls k = acc at *
      go_wp2_with fail
      with_reducible refine MI.mono ?_
      rintro e w3 ⟨rfl, c3⟩
      have HB3 := Lib.hid (below_then HB2.out HB2.out.size c3)
      have HO3 := Lib.hid (HO2.out.kept c3)
      have hsz := HB3.out.size
      clear MI c3 HB2 HO2
      go_wp2_with (at_builtin; refine wpList_append_I rfl _ _ rfl rfl rfl (HO3.out.kept (below1 w3 (.cells #[.int .i64 t] 3))) (IS.lit1 w3 w.heap.size hsz t).read (by simp; omega) (by simp; omega) ?_)
      intro a4 cap4 w4 ho4 hg4
      have HB4 := Lib.hid (OwnI.below HB3.out HB3.out.size _ hg4 HO3.out (Nat.le_refl _))
      rw [← HS.out] at ho4
      have HO4 := Lib.hid ho4
      clear hg4 ho4 HO3 HB3 hsz
      go_wp2
      go_roundw
      case rel => exact ⟨k + 1, by omega, by go_num, HO4, HB4⟩
      case measure => simp [intOf]; omega
    · obtain rfl : k = n := by omega
      go_wp2
      go_ret
      refine ⟨_, rfl, ?_, HB.out⟩
      rw [HR.out]
      exact HO.out.is
end Go.Proofs.Ytcofkjnkdfibfaa
