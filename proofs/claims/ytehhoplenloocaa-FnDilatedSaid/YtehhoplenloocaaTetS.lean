/- Tetrahedra: the walks of the model. -/
import Derived.Test.YtehhoplenloocaaTetM
import Derived.Test.YtehhoplenloocaaB2
import Derived.Test.YtehhoplenloocaaB1
import Derived.Deep.RegionHeld3
import Derived.Deep.RegionWith
namespace Go.Proofs.Ytehhoplenloocaa
open Go.RowKit
set_option linter.unusedVariables false
set_option linter.unusedSimpArgs false

theorem ISSr.three {w : World} {hi : Nat} {v : Value} {ls : List (List Int)} (h : ISSr w hi v ls) (h3 : ls.length = 3) :
    ∃ b off cap, ∃ V : Nat → Value, v = .slice (some ⟨b, off, none⟩) 3 cap ∧ b < hi ∧ (∀ i, i < 3 → w.cell? ⟨b, off + i, none⟩ = some (V i) ∧ ISr w hi (V i) (ls.getD i [])) := by
  obtain ⟨a, cap, hv, h1, h2, h4⟩ := h
  obtain ⟨b, off, V, rfl, hb, hc⟩ := h4 (by intro e; rw [e] at h3; cases h3)
  rw [h3] at hv hc
  exact ⟨b, off, cap, V, hv, hb, hc⟩
theorem mul_bdd {a b : Int} (h1 : -100000 ≤ a ∧ a ≤ 100000) (h2 : -100000 ≤ b ∧ b ≤ 100000) : -10000000000 ≤ a * b ∧ a * b ≤ 10000000000 := by
  have := mul_abs h1.1 h1.2 h2.1 h2.2 (by omega) (by omega); omega
theorem mul_bdt {a b : Int} (h1 : -100000 ≤ a ∧ a ≤ 100000) (h2 : -20000000000 ≤ b ∧ b ≤ 20000000000) : -2000000000000000 ≤ a * b ∧ a * b ≤ 2000000000000000 := by
  have := mul_abs h1.1 h1.2 h2.1 h2.2 (by omega) (by omega); omega
def dpart (a0 a1 a2 b0 b1 b2 c0 c1 c2 : Int) : Nat → Int
  | 0 => 0
  | 1 => 0 + a0 * (b1 * c2 - b2 * c1)
  | 2 => 0 + a0 * (b1 * c2 - b2 * c1) + a1 * (b2 * c0 - b0 * c2)
  | _ => 0 + a0 * (b1 * c2 - b2 * c1) + a1 * (b2 * c0 - b0 * c2) + a2 * (b0 * c1 - b1 * c0)

set_option maxHeartbeats 4000000 in
theorem l3Det_any (m : List (List Int)) (v : Value) (hb : Nat) (w : World) (h : ISSr w hb v m) (hs : SqB 3 m) :
    Calls Try.prog 152 #[v] w fun e w' => e = .returned (.int .i64 (det3 m)) ∧ ∃ d, w' = w.drewN d := by
  obtain ⟨b, off, cap, V, rfl, hbb, hc⟩ := h.three hs.len
  obtain ⟨x0, i0⟩ := hc 0 (by omega)
  obtain ⟨x1, i1⟩ := hc 1 (by omega)
  obtain ⟨x2, i2⟩ := hc 2 (by omega)
  rw [Nat.add_zero] at x0
  obtain ⟨l0, r0⟩ := hs.row 0 (by omega)
  obtain ⟨l1, r1⟩ := hs.row 1 (by omega)
  obtain ⟨l2, r2⟩ := hs.row 2 (by omega)
  obtain ⟨p0, o0, k0, e0, -, y0, y1, y2⟩ := i0.three l0
  obtain ⟨p1, o1, k1, e1, -, z0, z1, z2⟩ := i1.three l1
  obtain ⟨p2, o2, k2, e2, -, t0, t1, t2⟩ := i2.three l2
  rw [e0] at x0; rw [e1] at x1; rw [e2] at x2
  have hd : det3 m = dd _ _ _ _ _ _ _ _ _ := rfl
  have a0b := allIn_at r0 0 (by omega)
  have a1b := allIn_at r0 1 (by omega)
  have a2b := allIn_at r0 2 (by omega)
  have b0b := allIn_at r1 0 (by omega)
  have b1b := allIn_at r1 1 (by omega)
  have b2b := allIn_at r1 2 (by omega)
  have c0b := allIn_at r2 0 (by omega)
  have c1b := allIn_at r2 1 (by omega)
  have c2b := allIn_at r2 2 (by omega)
  clear hc i0 i1 i2 e0 e1 e2 h hs r0 r1 r2 l0 l1 l2
  generalize (m.getD 0 []).getD 0 0 = a0 at *
  generalize (m.getD 0 []).getD 1 0 = a1 at *
  generalize (m.getD 0 []).getD 2 0 = a2 at *
  generalize (m.getD 1 []).getD 0 0 = b0 at *
  generalize (m.getD 1 []).getD 1 0 = b1 at *
  generalize (m.getD 1 []).getD 2 0 = b2 at *
  generalize (m.getD 2 []).getD 0 0 = c0 at *
  generalize (m.getD 2 []).getD 1 0 = c1 at *
  generalize (m.getD 2 []).getD 2 0 = c2 at *
  rw [hd]
  have HD := Lib.hid (show dd a0 a1 a2 b0 b1 b2 c0 c1 c2 = dpart a0 a1 a2 b0 b1 b2 c0 c1 c2 3 by simp only [dd, dpart, Int.zero_add])
  clear hd
  have w01 := mul_bdd b1b c2b
  have w02 := mul_bdd b2b c1b
  have w11 := mul_bdd b2b c0b
  have w12 := mul_bdd b0b c2b
  have w21 := mul_bdd b0b c1b
  have w22 := mul_bdd b1b c0b
  have u0 := mul_bdt a0b (b := b1 * c2 - b2 * c1) (by omega)
  have u1 := mul_bdt a1b (b := b2 * c0 - b0 * c2) (by omega)
  have u2 := mul_bdt a2b (b := b0 * c1 - b1 * c0) (by omega)
  have f0 := wr64 (b1 * c2) (by omega)
  have f1 := wr64 (b2 * c1) (by omega)
  have f2 := wr64 (b1 * c2 - b2 * c1) (by omega)
  have f3 := wr64 (a0 * (b1 * c2 - b2 * c1)) (by omega)
  have f4 := wr64 (0 + a0 * (b1 * c2 - b2 * c1)) (by omega)
  have f4' := wr64 (a0 * (b1 * c2 - b2 * c1)) (by omega)
  have g0 := wr64 (b2 * c0) (by omega)
  have g1 := wr64 (b0 * c2) (by omega)
  have g2 := wr64 (b2 * c0 - b0 * c2) (by omega)
  have g3 := wr64 (a1 * (b2 * c0 - b0 * c2)) (by omega)
  have h0 := wr64 (b0 * c1) (by omega)
  have h1 := wr64 (b1 * c0) (by omega)
  have h2 := wr64 (b0 * c1 - b1 * c0) (by omega)
  have h3 := wr64 (a2 * (b0 * c1 - b1 * c0)) (by omega)
  have HP0 := Lib.hid (show dpart a0 a1 a2 b0 b1 b2 c0 c1 c2 1 = dpart a0 a1 a2 b0 b1 b2 c0 c1 c2 0 + a0 * (b1 * c2 - b2 * c1) from rfl)
  have HP1 := Lib.hid (show dpart a0 a1 a2 b0 b1 b2 c0 c1 c2 2 = dpart a0 a1 a2 b0 b1 b2 c0 c1 c2 1 + a1 * (b2 * c0 - b0 * c2) from rfl)
  have HP2 := Lib.hid (show dpart a0 a1 a2 b0 b1 b2 c0 c1 c2 3 = dpart a0 a1 a2 b0 b1 b2 c0 c1 c2 2 + a2 * (b0 * c1 - b1 * c0) from rfl)
  have v0 : dpart a0 a1 a2 b0 b1 b2 c0 c1 c2 0 = 0 := rfl
  have s0 := wr64 (dpart a0 a1 a2 b0 b1 b2 c0 c1 c2 0 + a0 * (b1 * c2 - b2 * c1)) (by omega)
  have v1 := HP0.out
  have s1 := wr64 (dpart a0 a1 a2 b0 b1 b2 c0 c1 c2 1 + a1 * (b2 * c0 - b0 * c2)) (by omega)
  have v2 := HP1.out
  have s2 := wr64 (dpart a0 a1 a2 b0 b1 b2 c0 c1 c2 2 + a2 * (b0 * c1 - b1 * c0)) (by omega)
  have V0 := Lib.hid v0
  clear v0 v1 v2 f4 f4' w01 w02 w11 w12 w21 w22 u0 u1 u2 a0b a1b a2b b0b b1b b2b c0b c1b c2b
  generalize dpart a0 a1 a2 b0 b1 b2 c0 c1 c2 0 = d0 at *
  generalize dpart a0 a1 a2 b0 b1 b2 c0 c1 c2 1 = d1 at *
  generalize dpart a0 a1 a2 b0 b1 b2 c0 c1 c2 2 = d2 at *
  generalize dpart a0 a1 a2 b0 b1 b2 c0 c1 c2 3 = d3 at *
  have HCC := Lib.hid (show ∀ d, ((w.drewN d).cell? ⟨b, off, none⟩ = some (.slice (some ⟨p0, o0, none⟩) 3 k0) ∧ (w.drewN d).cell? ⟨b, off + 1, none⟩ = some (.slice (some ⟨p1, o1, none⟩) 3 k1) ∧ (w.drewN d).cell? ⟨b, off + 2, none⟩ = some (.slice (some ⟨p2, o2, none⟩) 3 k2)) ∧ ((w.drewN d).cell? ⟨p0, o0, none⟩ = some (.int .i64 a0) ∧ (w.drewN d).cell? ⟨p0, o0 + 1, none⟩ = some (.int .i64 a1) ∧ (w.drewN d).cell? ⟨p0, o0 + 2, none⟩ = some (.int .i64 a2)) ∧ ((w.drewN d).cell? ⟨p1, o1, none⟩ = some (.int .i64 b0) ∧ (w.drewN d).cell? ⟨p1, o1 + 1, none⟩ = some (.int .i64 b1) ∧ (w.drewN d).cell? ⟨p1, o1 + 2, none⟩ = some (.int .i64 b2)) ∧ ((w.drewN d).cell? ⟨p2, o2, none⟩ = some (.int .i64 c0) ∧ (w.drewN d).cell? ⟨p2, o2 + 1, none⟩ = some (.int .i64 c1) ∧ (w.drewN d).cell? ⟨p2, o2 + 2, none⟩ = some (.int .i64 c2)) from fun d => ⟨⟨x0, x1, x2⟩, ⟨y0, y1, y2⟩, ⟨z0, z1, z2⟩, ⟨t0, t1, t2⟩⟩)
  clear x0 x1 x2 y0 y1 y2 z0 z1 z2 t0 t1 t2
  go_enter Try.func152, Try.ntmps152
  go_wp2
  go_loopw [3, 4, 5, 6] (fun s c _ _ wr => ∃ d : Nat, Hid (wr = w.drewN d) ∧ ((c = .int .i64 0 ∧ s = .int .i64 d0) ∨ (c = .int .i64 1 ∧ s = .int .i64 d1) ∨ (c = .int .i64 2 ∧ s = .int .i64 d2) ∨ (c = .int .i64 3 ∧ s = .int .i64 d3))) (fun _ c _ _ _ => 3 - (intOf c).toNat)
  case atStart => exact ⟨0, Lib.hid rfl, .inl ⟨rfl, by rw [V0.out]⟩⟩
  case round =>
    obtain ⟨d, HW, hcs⟩ := hrel
    obtain ⟨⟨x0, x1, x2⟩, ⟨y0, y1, y2⟩, ⟨z0, z1, z2⟩, ⟨t0, t1, t2⟩⟩ := HCC.out d
    rw [← HW.out] at x0 x1 x2 y0 y1 y2 z0 z1 z2 t0 t1 t2
    rcases hcs with ⟨rfl, rfl⟩ | ⟨rfl, rfl⟩ | ⟨rfl, rfl⟩ | ⟨rfl, rfl⟩
    · clear s1 s2 g0 g1 g2 g3 h0 h1 h2 h3
      go_wp2
      go_quiet (fail)
      go_wp2
      go_roundw
      case rel => exact ⟨d + nq, Lib.hid (by rw [HW.out, World.drewN_drewN]), .inr (.inl ⟨rfl, by rw [HP0.out]⟩)⟩
      case measure => simp [intOf]
    · clear s0 s2 f0 f1 f2 f3 h0 h1 h2 h3
      go_wp2
      go_quiet (fail)
      go_wp2
      go_roundw
      case rel => exact ⟨d + nq, Lib.hid (by rw [HW.out, World.drewN_drewN]), .inr (.inr (.inl ⟨rfl, by rw [HP1.out]⟩))⟩
      case measure => simp [intOf]
    · clear s0 s1 f0 f1 f2 f3 g0 g1 g2 g3
      go_wp2
      go_quiet (fail)
      go_wp2
      go_roundw
      case rel => exact ⟨d + nq, Lib.hid (by rw [HW.out, World.drewN_drewN]), .inr (.inr (.inr ⟨rfl, by rw [HP2.out]⟩))⟩
      case measure => simp [intOf]
    · go_wp2
      go_ret
      exact ⟨ret_int HD.out.symm, d, HW.out⟩
end Go.Proofs.Ytehhoplenloocaa
