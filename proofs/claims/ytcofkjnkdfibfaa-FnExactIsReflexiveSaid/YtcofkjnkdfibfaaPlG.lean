/- The place of a point in a polygon: the walks of placeOf and l7Place. -/
import Derived.Test.YtcofkjnkdfibfaaPlF
namespace Go.Proofs.Ytcofkjnkdfibfaa
open Go.RowKit
set_option linter.unusedVariables false
set_option linter.unusedSimpArgs false

def tnK (ls : List (List Int)) (c : List Int) (k : Nat) : Int := tn (ptOf (ls.getD k [])) (ptOf (ls.getD ((k + 1) % ls.length) [])) (ptOf c)
def ngK (ls : List (List Int)) (c : List Int) (k : Nat) : Bool := (List.range k).any fun j => decide (tnK ls c j < 0)
def plS (ls : List (List Int)) (c : List Int) : Nat → Int
  | 0 => 1
  | k + 1 => if tnK ls c k = 0 then 0 else plS ls c k
def plV (ls : List (List Int)) (c : List Int) : Int := if ngK ls c ls.length then -1 else plS ls c ls.length
theorem ngK_step (ls : List (List Int)) (c : List Int) (k : Nat) : ngK ls c (k + 1) = (ngK ls c k || decide (tnK ls c k < 0)) := by
  unfold ngK; rw [List.range_succ, List.any_append]; simp
theorem plV_neg {ls : List (List Int)} {c : List Int} {k : Nat} (hk : k < ls.length) (h : tnK ls c k < 0) : plV ls c = -1 := by
  unfold plV
  have : ngK ls c ls.length = true := by
    unfold ngK; rw [List.any_eq_true]; exact ⟨k, by rw [List.mem_range]; exact hk, by simpa using h⟩
  rw [this]; rfl
theorem plV_end {ls : List (List Int)} {c : List Int} (h : ngK ls c ls.length = false) : plV ls c = plS ls c ls.length := by unfold plV; rw [h]; rfl

set_option maxRecDepth 100000 in
set_option maxHeartbeats 4000000 in
theorem placeOf_any (ls : List (List Int)) (c : List Int) (v vc : Value) (hb : Nat) (w : World) (h : ISSr w hb v ls) (ic : ISr w hb vc c) (hhb : hb ≤ w.heap.size) (hf : flatB ls 50 = true) (lc : c.length = 2) (bc : allIn c (-1000000) 1000000 = true) (h12 : ls.length ≤ 12) :
    Calls Try.prog 85 #[v, vc] w fun e w' => e = .returned (.int .i64 (plV ls c)) ∧ Below w.heap.size w w' := by
  rcases h.cases with ⟨rfl, a, cap, rfl⟩ | ⟨hpos, hlen, b, off, cap, V, rfl, hbb, hcell⟩
  · clear ic
    go_enter Try.func85, Try.ntmps85
    go_wp2
    refine wp_loop_rounds 1 ?_
    rw [rounds_succ]
    go_wp2
    go_ret
    exact ⟨rfl, Below.refl _ _⟩
  obtain ⟨n, hn⟩ : ∃ n, n = ls.length := ⟨_, rfl⟩
  have HFA := Lib.hid (fun k hk => flat_at hf (k := k) hk)
  rw [← hn] at hlen hpos h12 ⊢
  have HN := Lib.hid hn; clear hn
  have HC := Lib.hid hcell
  have HIC := Lib.hid ic
  have HBL := Lib.hid (show b < w.heap.size by omega)
  have HHB := Lib.hid hhb
  clear hcell hbb h hf hhb ic
  have n1 : (1 : Int) ≤ (n : Int) := by omega
  go_enter Try.func85, Try.ntmps85
  go_wp2
  go_loopw [5, 11] (fun s i wr => ∃ (k : Nat), k ≤ n ∧ i = .int .i64 k ∧ s = .int .i64 (plS ls c k) ∧ Hid (ngK ls c k = false) ∧ Hid (Below w.heap.size w wr)) (fun _ i _ => n - (intOf i).toNat)
  case atStart => exact ⟨0, by omega, rfl, rfl, Lib.hid rfl, Lib.hid (Below.refl _ _)⟩
  case round =>
    obtain ⟨k, hk, rfl, rfl, HG, HB⟩ := hrel
    by_cases hlt : k < n
    · have hkl : k < ls.length := by rw [← HN.out]; exact hlt
      obtain ⟨y, hy⟩ : ∃ y, y = (k + 1) % ls.length := ⟨_, rfl⟩
      have hyl : y < ls.length := by rw [hy]; exact Nat.mod_lt _ (by omega)
      have hyn : y < n := by rw [HN.out]; exact hyl
      have hyI : ((k : Int) + 1) % (n : Int) = (y : Int) := by rw [hy, ← HN.out]; push_cast; rfl
      have ck : wr.cell? ⟨b, off + k, none⟩ = some (V k) := (HB.out.cell (p := ⟨b, off + k, none⟩) HBL.out).trans (HC.out k hkl).1
      have cy : wr.cell? ⟨b, off + y, none⟩ = some (V y) := (HB.out.cell (p := ⟨b, off + y, none⟩) HBL.out).trans (HC.out y hyl).1
      have fk := HFA.out k hkl
      have fy := HFA.out y hyl
      have TU := turn_any (ls.getD k []) (ls.getD y []) c (V k) (V y) vc hb wr ((HC.out k hkl).2.keep HB.out HHB.out) ((HC.out y hyl).2.keep HB.out HHB.out) (HIC.out.keep HB.out HHB.out) (Nat.le_trans HHB.out HB.out.size) fk.1 fy.1 lc (allIn_wide fk.2 (by omega)) (allIn_wide fy.2 (by omega)) bc
      have hT : tn (ptOf (ls.getD k [])) (ptOf (ls.getD y [])) (ptOf c) = tnK ls c k := by unfold tnK; rw [hy]
      rw [hT] at TU
      have HS := Lib.hid (show plS ls c (k + 1) = if tnK ls c k = 0 then 0 else plS ls c k from rfl)
      have HNG := Lib.hid (fun h => plV_neg (ls := ls) (c := c) hkl h)
      have HST := Lib.hid (ngK_step ls c k)
      clear fk fy hT hkl hyl hy
      generalize tnK ls c k = t at *
      have j1 : (y : Int) < (n : Int) := by omega
      have j2 : (0 : Int) ≤ (y : Int) := by omega
      go_wp2_with fail
      with_reducible refine TU.mono ?_
      rintro e w2 ⟨rfl, c2⟩
      have HB2 := Lib.hid (below_then HB.out HB.out.size c2)
      clear TU c2
      by_cases h0 : t < 0
      · have HR := Lib.hid (HNG.out h0)
        go_wp2
        go_ret
        exact ⟨ret_int HR.out.symm, HB2.out⟩
      · have HG2 := Lib.hid (show ngK ls c (k + 1) = false by rw [HST.out, HG.out, decide_eq_false h0]; rfl)
        by_cases hz : t = 0
        · have HP := Lib.hid (show plS ls c (k + 1) = 0 by rw [HS.out, if_pos hz])
          subst hz
          go_wp2
          go_roundw
          case rel => exact ⟨k + 1, by omega, by go_num, by rw [HP.out], HG2, HB2⟩
          case measure => simp [intOf]; omega
        · have HP := Lib.hid (show plS ls c (k + 1) = plS ls c k by rw [HS.out, if_neg hz])
          go_wp2
          go_roundw
          case rel => exact ⟨k + 1, by omega, by go_num, by rw [HP.out], HG2, HB2⟩
          case measure => simp [intOf]; omega
    · obtain rfl : k = n := by omega
      have HR := Lib.hid (show plS ls c k = plV ls c by rw [plV_end (by rw [← HN.out]; exact HG.out), ← HN.out])
      go_wp2
      go_ret
      exact ⟨ret_int HR.out, HB.out⟩
set_option maxRecDepth 100000 in
set_option maxHeartbeats 4000000 in
theorem l7Place_any (ls : List (List Int)) (c : List Int) (v vc : Value) (hb : Nat) (w : World) (h : ISSr w hb v ls) (ic : ISr w hb vc c) (hhb : hb ≤ w.heap.size) (hf : flatB ls 50 = true) (lc : c.length = 2) (bc : allIn c (-1000000) 1000000 = true) (h12 : ls.length ≤ 12) :
    Calls Try.prog 61 #[v, vc] w fun e w' => e = .returned (.int .i64 (plV ls c)) ∧ Below w.heap.size w w' := by
  rcases h.cases with ⟨rfl, a, cap, rfl⟩ | ⟨hpos, hlen, b, off, cap, V, rfl, hbb, hcell⟩
  · clear ic
    go_enter Try.func61, Try.ntmps61
    go_wp2
    refine wp_loop_rounds 1 ?_
    rw [rounds_succ]
    go_wp2
    go_ret
    exact ⟨rfl, Below.refl _ _⟩
  obtain ⟨n, hn⟩ : ∃ n, n = ls.length := ⟨_, rfl⟩
  have HFA := Lib.hid (fun k hk => flat_at hf (k := k) hk)
  rw [← hn] at hlen hpos h12 ⊢
  have HN := Lib.hid hn; clear hn
  have HC := Lib.hid hcell
  have HIC := Lib.hid ic
  have HBL := Lib.hid (show b < w.heap.size by omega)
  have HHB := Lib.hid hhb
  clear hcell hbb h hf hhb ic
  have n1 : (1 : Int) ≤ (n : Int) := by omega
  go_enter Try.func61, Try.ntmps61
  go_wp2
  go_loopw [5, 6] (fun s i wr => ∃ (k : Nat), k ≤ n ∧ i = .int .i64 k ∧ s = .int .i64 (plS ls c k) ∧ Hid (ngK ls c k = false) ∧ Hid (Below w.heap.size w wr)) (fun _ i _ => n - (intOf i).toNat)
  case atStart => exact ⟨0, by omega, rfl, rfl, Lib.hid rfl, Lib.hid (Below.refl _ _)⟩
  case round =>
    obtain ⟨k, hk, rfl, rfl, HG, HB⟩ := hrel
    by_cases hlt : k < n
    · have hkl : k < ls.length := by rw [← HN.out]; exact hlt
      obtain ⟨y, hy⟩ : ∃ y, y = (k + 1) % ls.length := ⟨_, rfl⟩
      have hyl : y < ls.length := by rw [hy]; exact Nat.mod_lt _ (by omega)
      have hyn : y < n := by rw [HN.out]; exact hyl
      have hyI : ((k : Int) + 1) % (n : Int) = (y : Int) := by rw [hy, ← HN.out]; push_cast; rfl
      have ck : wr.cell? ⟨b, off + k, none⟩ = some (V k) := (HB.out.cell (p := ⟨b, off + k, none⟩) HBL.out).trans (HC.out k hkl).1
      have cy : wr.cell? ⟨b, off + y, none⟩ = some (V y) := (HB.out.cell (p := ⟨b, off + y, none⟩) HBL.out).trans (HC.out y hyl).1
      have fk := HFA.out k hkl
      have fy := HFA.out y hyl
      have HBD := HB.out.trans (below_draws w.heap.size wr 1)
      have TU := l7Turn_any (ls.getD k []) (ls.getD y []) c (V k) (V y) vc hb wr.drew ((HC.out k hkl).2.keep HBD HHB.out) ((HC.out y hyl).2.keep HBD HHB.out) (HIC.out.keep HBD HHB.out) (Nat.le_trans HHB.out HB.out.size) fk.1 fy.1 lc (allIn_wide fk.2 (by omega)) (allIn_wide fy.2 (by omega)) bc
      have hT : tn (ptOf (ls.getD k [])) (ptOf (ls.getD y [])) (ptOf c) = tnK ls c k := by unfold tnK; rw [hy]
      rw [hT] at TU
      have HS := Lib.hid (show plS ls c (k + 1) = if tnK ls c k = 0 then 0 else plS ls c k from rfl)
      have HNG := Lib.hid (fun h => plV_neg (ls := ls) (c := c) hkl h)
      have HST := Lib.hid (ngK_step ls c k)
      clear fk fy hT hkl hyl hy
      generalize tnK ls c k = t at *
      have j1 : (y : Int) < (n : Int) := by omega
      have j2 : (0 : Int) ≤ (y : Int) := by omega
      have CK := Lib.hid (HC.out k (by rw [← HN.out]; exact hlt)).1
      have CY := Lib.hid (HC.out y (by rw [← HN.out]; exact hyn)).1
      have hkn : (k : Int) < (n : Int) := by omega
      have hk0 : (0 : Int) ≤ (k : Int) := by omega
      have j6 : IntKind.i64.wrap ((k : Int) + 1) = (k : Int) + 1 := wr64 _ (by omega)
      have hyT : ((k : Int) + 1).tmod (n : Int) = (y : Int) := by rw [Int.tmod_eq_emod_of_nonneg (by omega)]; exact hyI
      have j7 : IntKind.i64.wrap (((k : Int) + 1).tmod (n : Int)) = y := by rw [hyT]; exact wr64 _ (by omega)
      have j8 : IntKind.i64.wrap (((k : Int) + 1) % (n : Int)) = y := by rw [hyI]; exact wr64 _ (by omega)
      have j9 := wr64 (y : Int) (by omega)
      have jd : ¬ n = 0 := by omega
      have jb : ((y : Int)).toNat = y := by omega
      have jc : ((k : Int)).toNat = k := by omega
      go_wp2
      go_region_held3 (fun w' => w'.cell? ⟨b, off + k, none⟩ = some (V k) ∧ w'.cell? ⟨b, off + y, none⟩ = some (V y))
        (first | exact ⟨ck, cy⟩ | exact ⟨z1, z2⟩ | go_keep)
        ((go_at_call 83; (with_reducible refine TU.mono ?_); rintro e w2 ⟨rfl, c2⟩; have BB := below_then HBD HBD.size c2; have z1 := (BB.cell (p := ⟨b, off + k, none⟩) HBL.out).trans CK.out; have z2 := (BB.cell (p := ⟨b, off + y, none⟩) HBL.out).trans CY.out))
      have HB2 := Lib.hid BB
      clear TU c2 z1 z2 BB HBD
      by_cases h0 : t < 0
      · have HR := Lib.hid (HNG.out h0)
        go_wp2
        go_ret
        exact ⟨ret_int HR.out.symm, HB2.out⟩
      · have HG2 := Lib.hid (show ngK ls c (k + 1) = false by rw [HST.out, HG.out, decide_eq_false h0]; rfl)
        by_cases hz : t = 0
        · have HP := Lib.hid (show plS ls c (k + 1) = 0 by rw [HS.out, if_pos hz])
          subst hz
          go_wp2
          go_roundw
          case rel => exact ⟨k + 1, by omega, by go_num, by rw [HP.out], HG2, HB2⟩
          case measure => simp [intOf]; omega
        · have HP := Lib.hid (show plS ls c (k + 1) = plS ls c k by rw [HS.out, if_neg hz])
          go_wp2
          go_roundw
          case rel => exact ⟨k + 1, by omega, by go_num, by rw [HP.out], HG2, HB2⟩
          case measure => simp [intOf]; omega
    · obtain rfl : k = n := by omega
      have HR := Lib.hid (show plS ls c k = plV ls c by rw [plV_end (by rw [← HN.out]; exact HG.out), ← HN.out])
      go_wp2
      go_ret
      exact ⟨ret_int HR.out, HB.out⟩
end Go.Proofs.Ytcofkjnkdfibfaa
