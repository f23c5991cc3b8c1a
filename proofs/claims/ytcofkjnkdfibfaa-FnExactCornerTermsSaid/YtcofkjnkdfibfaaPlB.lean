/- Boundary counts and area doubles of polygons: the walks. -/
import Derived.Test.YtcofkjnkdfibfaaPlA
import Derived.Test.YtcofkjnkdfibfaaHulW
import Derived.Test.YtcofkjnkdfibfaaB1
import Derived.Deep.RegionHeld3
namespace Go.Proofs.Ytcofkjnkdfibfaa
open Go.RowKit
set_option linter.unusedVariables false
set_option linter.unusedSimpArgs false

def bdV (ls : List (List Int)) : Int := if isPolyB ls then bdL ls else -1
def arV (ls : List (List Int)) : Int := if isPolyB ls then arL ls else -1
def inV (ls : List (List Int)) : Int := if isPolyB ls then (arL ls - bdL ls + 2).tdiv 2 else -1

set_option maxRecDepth 100000 in
set_option maxHeartbeats 4000000 in
theorem implBoundary_any (ls : List (List Int)) (v : Value) (hb : Nat) (w : World) (h : ISSr w hb v ls) (hhb : hb ≤ w.heap.size) :
    Calls Try.prog 58 #[v] w fun e w' => e = .returned (.int .i64 (bdV ls)) ∧ Below w.heap.size w w' := by
  have IP := implIsPolygon_any ls v hb w h hhb
  cases hp : isPolyB ls
  case false =>
    have hr : bdV ls = -1 := by unfold bdV; rw [hp]; rfl
    rw [hr]
    rw [hp] at IP
    clear h hr hp
    go_enter Try.func58, Try.ntmps58
    go_wp2_with (go_at_call 49; (with_reducible refine IP.mono ?_); rintro e w1 ⟨rfl, c1⟩)
    go_ret
    exact ⟨rfl, c1⟩
  have hr : bdV ls = bdL ls := by unfold bdV; rw [hp]; rfl
  rw [hr]
  rw [hp] at IP
  obtain ⟨h3, h12, hf⟩ := isPoly_parts hp
  rcases h.cases with ⟨rfl, a, cap, rfl⟩ | ⟨hpos, hlen, b, off, cap, V, rfl, hbb, hcell⟩
  · simp at h3
  obtain ⟨n, hn⟩ : ∃ n, n = ls.length := ⟨_, rfl⟩
  have HFA := Lib.hid (fun k hk => flat_at hf (k := k) hk)
  have HBD := Lib.hid (fun k hk => bdK_bd hf k hk)
  have HTB := Lib.hid (fun k hk => sdI_bd hf (k := k) hk)
  rw [← hn] at hlen hpos h12 IP ⊢
  have HN := Lib.hid hn; clear hn
  have HC := Lib.hid hcell
  have HBL := Lib.hid (show b < w.heap.size by omega)
  have HHB := Lib.hid hhb
  clear hcell hbb h hf hp hr h3 hhb
  have n1 : (1 : Int) ≤ (n : Int) := by omega
  go_enter Try.func58, Try.ntmps58
  go_wp2_with (go_at_call 49; (with_reducible refine IP.mono ?_); rintro e w1 ⟨rfl, c1⟩)
  have C1 := Lib.hid c1
  clear IP c1
  go_loopw [3, 11] (fun s i wr => ∃ (k : Nat) (z : Int), k ≤ n ∧ i = .int .i64 k ∧ s = .int .i64 z ∧ Hid (Below w.heap.size w wr) ∧ Hid (z = bdK ls k)) (fun _ i _ => n - (intOf i).toNat)
  case atStart => exact ⟨0, 0, by omega, rfl, rfl, C1, Lib.hid rfl⟩
  case round =>
    obtain ⟨k, z, hk, rfl, rfl, HB, HZ⟩ := hrel
    by_cases hlt : k < n
    · have hkl : k < ls.length := by rw [← HN.out]; exact hlt
      obtain ⟨y, hy⟩ : ∃ y, y = (k + 1) % ls.length := ⟨_, rfl⟩
      have hyl : y < ls.length := by rw [hy]; exact Nat.mod_lt _ (by omega)
      have hyn : y < n := by rw [HN.out]; exact hyl
      have hyI : ((k : Int) + 1) % (n : Int) = (y : Int) := by rw [hy, ← HN.out]; push_cast; rfl
      have ck : wr.cell? ⟨b, off + k, none⟩ = some (V k) := (HB.out.cell (p := ⟨b, off + k, none⟩) HBL.out).trans (HC.out k hkl).1
      have cy : wr.cell? ⟨b, off + y, none⟩ = some (V y) := (HB.out.cell (p := ⟨b, off + y, none⟩) HBL.out).trans (HC.out y hyl).1
      have rk : ISr wr hb (V k) (ls.getD k []) := (HC.out k hkl).2.keep HB.out HHB.out
      have ry : ISr wr hb (V y) (ls.getD y []) := (HC.out y hyl).2.keep HB.out HHB.out
      have fk := HFA.out k hkl
      have fy := HFA.out y hyl
      have mb := minus_bd fy fk
      have m0 := mb 0 (by simp [minusI])
      have m1 := mb 1 (by simp [minusI])
      simp only [minusI, List.getD_cons_zero, List.getD_cons_succ] at m0 m1
      have MI := minus_any (ls.getD y []) (ls.getD k []) (V y) (V k) hb wr ry rk (Nat.le_trans HHB.out HB.out.size) fy.1 fk.1 (by omega) (by omega)
      have GC := fun u hi W (H : ISr W hi u (minusI (ls.getD y []) (ls.getD k []))) => gcdAll_any _ u hi W H 100 (by omega) mb
      have hT : gcdL (minusI (ls.getD y []) (ls.getD k [])) = sdI ls k := by unfold sdI; rw [hy]
      rw [hT] at GC
      have HS := Lib.hid (show bdK ls (k + 1) = bdK ls k + sdI ls k from rfl)
      have b1 := HBD.out k (by omega)
      have b2 := HTB.out k hkl
      rw [← HZ.out] at b1
      clear rk ry fk fy hT hkl hyl hy mb m0 m1
      generalize sdI ls k = t at *
      generalize minusI (ls.getD y []) (ls.getD k []) = m at *
      have j1 : (y : Int) < (n : Int) := by omega
      have j2 : (0 : Int) ≤ (y : Int) := by omega
      go_wp2_with (first | (go_at_call 54; (with_reducible refine MI.mono ?_); rintro e w2 ⟨u, rfl, hi, c2⟩) | (go_at_call 53; (with_reducible refine (GC u _ _ hi.read).mono ?_); rintro e w3 ⟨rfl, d, rfl⟩))
      have HB2 := Lib.hid ((below_then HB.out HB.out.size c2).trans (below_draws w.heap.size w2 d))
      clear MI GC c2 hi
      go_roundw
      case rel => exact ⟨k + 1, z + t, by omega, by go_num, by go_num, HB2, Lib.hid (by rw [HS.out, HZ.out])⟩
      case measure => simp [intOf]; omega
    · obtain rfl : k = n := by omega
      have HR := Lib.hid (show z = bdL ls by rw [HZ.out, bdL, ← HN.out])
      go_wp2
      go_ret
      exact ⟨ret_int HR.out, HB.out⟩
set_option maxHeartbeats 4000000 in
theorem implAreaTwice_any (ls : List (List Int)) (v : Value) (hb : Nat) (w : World) (h : ISSr w hb v ls) (hhb : hb ≤ w.heap.size) :
    Calls Try.prog 59 #[v] w fun e w' => e = .returned (.int .i64 (arV ls)) ∧ Below w.heap.size w w' := by
  have IP := implIsPolygon_any ls v hb w h hhb
  cases hp : isPolyB ls
  case false =>
    have hr : arV ls = -1 := by unfold arV; rw [hp]; rfl
    rw [hr]
    rw [hp] at IP
    clear h hr hp
    go_enter Try.func59, Try.ntmps59
    go_wp2_with (go_at_call 49; (with_reducible refine IP.mono ?_); rintro e w1 ⟨rfl, c1⟩)
    go_ret
    exact ⟨rfl, c1⟩
  have hr : arV ls = arL ls := by unfold arV; rw [hp]; rfl
  rw [hr]
  rw [hp] at IP
  obtain ⟨h3, h12, hf⟩ := isPoly_parts hp
  have AT := fun W (H : ISSr W hb v ls) => areaTwice_any ls v hb W H h12 hf
  have H := Lib.hid h
  clear h hr hp h3 h12 hf
  generalize arL ls = t at *
  go_enter Try.func59, Try.ntmps59
  go_wp2_with (first | (go_at_call 49; (with_reducible refine IP.mono ?_); rintro e w1 ⟨rfl, c1⟩) | (go_at_call 82; (with_reducible refine (AT _ (H.out.keep c1 hhb)).mono ?_); rintro e w2 ⟨rfl, d, rfl⟩))
  go_ret
  exact ⟨rfl, c1.trans (below_draws _ _ _)⟩
set_option maxRecDepth 100000 in
set_option maxHeartbeats 4000000 in
theorem l7Area_any (ls : List (List Int)) (v : Value) (hb : Nat) (w : World) (h : ISSr w hb v ls) (h12 : ls.length ≤ 12) (hf : flatB ls 50 = true) :
    Calls Try.prog 56 #[v] w fun e w' => e = .returned (.int .i64 (arL ls)) ∧ ∃ d, w' = w.drewN d := by
  rcases h.cases with ⟨rfl, a, cap, rfl⟩ | ⟨hpos, hlen, b, off, cap, V, rfl, hbb, hcell⟩
  · go_enter Try.func56, Try.ntmps56
    go_wp2
    refine wp_loop_rounds 1 ?_
    rw [rounds_succ]
    go_wp2
    go_ret
    exact ⟨rfl, 0, rfl⟩
  · obtain ⟨n, hn⟩ : ∃ n, n = ls.length := ⟨_, rfl⟩
    have HFA := Lib.hid (fun k hk => flat_at hf (k := k) hk)
    have HBD := Lib.hid (fun k hk => arK_bd hf k hk)
    have HTB := Lib.hid (fun k hk => arT_bd hf (k := k) hk)
    rw [← hn] at hlen hpos h12 ⊢
    have HN := Lib.hid hn; clear hn
    have HC := Lib.hid hcell; clear hcell hbb h hf
    have n1 : (1 : Int) ≤ (n : Int) := by omega
    go_enter Try.func56, Try.ntmps56
    go_wp2
    go_loopw [3, 4] (fun s i wr => ∃ (d k : Nat) (z : Int), k ≤ n ∧ i = .int .i64 k ∧ s = .int .i64 z ∧ Hid (wr = w.drewN d) ∧ Hid (z = arK ls k)) (fun _ i _ => n - (intOf i).toNat)
    case atStart => exact ⟨0, 0, 0, by omega, rfl, rfl, Lib.hid rfl, Lib.hid rfl⟩
    case round =>
      obtain ⟨d, k, z, hk, rfl, rfl, HW, HZ⟩ := hrel
      by_cases hlt : k < n
      · have hkl : k < ls.length := by rw [← HN.out]; exact hlt
        obtain ⟨y, hy⟩ : ∃ y, y = (k + 1) % ls.length := ⟨_, rfl⟩
        have hyl : y < ls.length := by rw [hy]; exact Nat.mod_lt _ (by omega)
        have hyn : y < n := by rw [HN.out]; exact hyl
        have hyI : ((k : Int) + 1) % (n : Int) = (y : Int) := by rw [hy, ← HN.out]; push_cast; rfl
        have hyT : ((k : Int) + 1).tmod (n : Int) = (y : Int) := by rw [Int.tmod_eq_emod_of_nonneg (by omega)]; exact hyI
        have ck : wr.cell? ⟨b, off + k, none⟩ = some (V k) := by rw [HW.out]; exact (HC.out k hkl).1
        have cy : wr.cell? ⟨b, off + y, none⟩ = some (V y) := by rw [HW.out]; exact (HC.out y hyl).1
        have fk := HFA.out k hkl
        have fy := HFA.out y hyl
        have hT : crossI (ls.getD k []) (ls.getD y []) = arT ls k := by unfold arT; rw [hy]
        have HQ := fun n' => l7Cross_any (ls.getD k []) (ls.getD y []) (V k) (V y) hb hb (wr.drewN n') (by rw [HW.out]; exact (HC.out k hkl).2) (by rw [HW.out]; exact (HC.out y hyl).2) fk.1 fy.1 (allIn_wide fk.2 (by omega)) (allIn_wide fy.2 (by omega))
        rw [hT] at HQ
        have HQ' := Lib.hid HQ; clear HQ
        have HS := Lib.hid (show arK ls (k + 1) = arK ls k + arT ls k from rfl)
        have b1 := HBD.out k (by omega)
        have b2 := HTB.out k hkl
        rw [← HZ.out] at b1
        clear fk fy hT hkl hyl hy
        generalize arT ls k = t at *
        have j1 : (y : Int) < (n : Int) := by omega
        have j2 : (0 : Int) ≤ (y : Int) := by omega
        have j3 : ¬ (n : Int) = 0 := by omega
        go_wp2
        go_quiet ((go_at_call 81; exact Calls.quiet_of (HQ'.out _)))
        go_wp2
        go_roundw
        case rel => exact ⟨d + nq, k + 1, z + t, by omega, by go_num, by go_num, Lib.hid (by rw [HW.out, World.drewN_drewN]), Lib.hid (by rw [HS.out, HZ.out])⟩
        case measure => simp [intOf]; omega
      · obtain rfl : k = n := by omega
        have HR := Lib.hid (show z = arL ls by rw [HZ.out, arL, ← HN.out])
        go_wp2
        go_ret
        exact ⟨ret_int HR.out, _, HW.out⟩
set_option maxRecDepth 100000 in
set_option maxHeartbeats 4000000 in
theorem l7Side_any (ls : List (List Int)) (v : Value) (hb : Nat) (w : World) (h : ISSr w hb v ls) (hhb : hb ≤ w.heap.size) (h12 : ls.length ≤ 12) (hf : flatB ls 50 = true) (k : Nat) (hkl : k < ls.length) :
    Calls Try.prog 52 #[v, .int .i64 k] w fun e w' => e = .returned (.int .i64 (sdI ls k)) ∧ Below w.heap.size w w' := by
  rcases h.cases with ⟨rfl, a, cap, rfl⟩ | ⟨hpos, hlen, b, off, cap, V, rfl, hbb, hcell⟩
  · simp at hkl
  obtain ⟨n, hn⟩ : ∃ n, n = ls.length := ⟨_, rfl⟩
  obtain ⟨y, hy⟩ : ∃ y, y = (k + 1) % ls.length := ⟨_, rfl⟩
  have hyl : y < ls.length := by rw [hy]; exact Nat.mod_lt _ (by omega)
  have hyn : y < n := by rw [hn]; exact hyl
  have hlt : k < n := by rw [hn]; exact hkl
  have hyI : ((k : Int) + 1) % (n : Int) = (y : Int) := by rw [hy, hn]; push_cast; rfl
  have hyT : ((k : Int) + 1).tmod (n : Int) = (y : Int) := by rw [Int.tmod_eq_emod_of_nonneg (by omega)]; exact hyI
  have ck : ∀ W, Below w.heap.size w W → W.cell? ⟨b, off + k, none⟩ = some (V k) := fun W HB => (HB.cell (p := ⟨b, off + k, none⟩) (show b < w.heap.size by omega)).trans (hcell k hkl).1
  have cy : ∀ W, Below w.heap.size w W → W.cell? ⟨b, off + y, none⟩ = some (V y) := fun W HB => (HB.cell (p := ⟨b, off + y, none⟩) (show b < w.heap.size by omega)).trans (hcell y hyl).1
  have fk := flat_at hf hkl
  have fy := flat_at hf hyl
  have mb := minus_bd fy fk
  have zz : List.zipWith (· - ·) (ls.getD y []) (ls.getD k []) = minusI (ls.getD y []) (ls.getD k []) := zip_minus fy.1 fk.1
  have mz : ∀ i, i < (ls.getD y []).length → -9223372036854775808 ≤ (ls.getD y []).getD i 0 - (ls.getD k []).getD i 0 ∧ (ls.getD y []).getD i 0 - (ls.getD k []).getD i 0 ≤ 9223372036854775807 := by
    intro i hi
    have e1 := allIn_at fy.2 i hi
    have e2 := allIn_at fk.2 i (by rw [fk.1]; rw [fy.1] at hi; exact hi)
    omega
  have ML := fun W (HB : Below w.heap.size w W) => l2Less_any (ls.getD y []) (ls.getD k []) (V y) (V k) hb W ((hcell y hyl).2.keep HB hhb) ((hcell k hkl).2.keep HB hhb) (Nat.le_trans hhb HB.size) (by rw [fy.1]; omega) (by rw [fy.1, fk.1]; omega) mz
  rw [zz] at ML
  have GC := fun u hi W (H : ISr W hi u (minusI (ls.getD y []) (ls.getD k []))) => l2All_any _ u hi W H 100 (by omega) mb
  have hT : gcdL (minusI (ls.getD y []) (ls.getD k [])) = sdI ls k := by unfold sdI; rw [hy]
  rw [hT] at GC
  have CK := Lib.hid ck
  have CY := Lib.hid cy
  have MLH := Lib.hid (ML w.drew (below_draws w.heap.size w 1))
  have GCH := Lib.hid GC
  rw [← hn] at hlen hpos h12 ⊢
  have k1 := ck w (Below.refl _ _)
  have k2 := cy w (Below.refl _ _)
  clear hcell hbb h hf fk fy mb zz mz ML GC hT ck cy hy hyl hkl hn
  generalize sdI ls k = t at *
  generalize minusI (ls.getD y []) (ls.getD k []) = m at *
  have j1 : (y : Int) < (n : Int) := by omega
  have j2 : (0 : Int) ≤ (y : Int) := by omega
  have j3 : ¬ (n : Int) = 0 := by omega
  have j4 : (0 : Int) ≤ (k : Int) := by omega
  have j5 : (k : Int) < (n : Int) := by omega
  have j6 : IntKind.i64.wrap ((k : Int) + 1) = (k : Int) + 1 := wr64 _ (by omega)
  have j7 : IntKind.i64.wrap (((k : Int) + 1).tmod (n : Int)) = y := by rw [hyT]; exact wr64 _ (by omega)
  have j8 : IntKind.i64.wrap (((k : Int) + 1) % (n : Int)) = y := by rw [hyI]; exact wr64 _ (by omega)
  have j9 := wr64 (y : Int) (by omega)
  have ja : ((n : Int) == 0) = false := by rw [beq_eq_false_iff_ne]; omega
  have jd : ¬ n = 0 := by omega
  have jb : ((y : Int)).toNat = y := by omega
  have jc : ((k : Int)).toNat = k := by omega
  go_enter Try.func52, Try.ntmps52
  go_wp2
  go_region_held3 (fun w' => w'.cell? ⟨b, off + k, none⟩ = some (V k) ∧ w'.cell? ⟨b, off + y, none⟩ = some (V y))
    (first | exact ⟨k1, k2⟩ | exact ⟨z1, z2⟩ | go_keep)
    (first
      | (go_at_call 65; (with_reducible refine MLH.out.mono ?_); rintro e w8 ⟨u, rfl, hi, c8⟩; have BB := below_then (below_draws w.heap.size w 1) (Nat.le_refl _) c8; have z1 := CK.out _ BB; have z2 := CY.out _ BB)
      | (go_at_call 79; (with_reducible refine (GCH.out u _ _ hi.read).mono ?_); rintro e w9 ⟨rfl, rfl⟩))
  go_wp2_with fail
  go_ret
  exact ⟨rfl, BB⟩
end Go.Proofs.Ytcofkjnkdfibfaa
