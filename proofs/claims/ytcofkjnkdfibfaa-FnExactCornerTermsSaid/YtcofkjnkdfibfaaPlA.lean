/- Areas and sides of polygons: the walks. -/
import Derived.Test.YtcofkjnkdfibfaaHulW
import Derived.Test.YtcofkjnkdfibfaaB1
import Derived.Deep.RegionHeld3
namespace Go.Proofs.Ytcofkjnkdfibfaa
open Go.RowKit
set_option linter.unusedVariables false
set_option linter.unusedSimpArgs false

def rw' (ls : List (List Int)) (k : Nat) : List Int := ls.getD k []
def arT (ls : List (List Int)) (k : Nat) : Int := crossI (ls.getD k []) (ls.getD ((k + 1) % ls.length) [])
def arK (ls : List (List Int)) : Nat → Int
  | 0 => 0
  | k + 1 => arK ls k + arT ls k
def arL (ls : List (List Int)) : Int := arK ls ls.length
def sdI (ls : List (List Int)) (k : Nat) : Int := gcdL (minusI (ls.getD ((k + 1) % ls.length) []) (ls.getD k []))
def bdK (ls : List (List Int)) : Nat → Int
  | 0 => 0
  | k + 1 => bdK ls k + sdI ls k
def bdL (ls : List (List Int)) : Int := bdK ls ls.length
theorem flat_at {ls : List (List Int)} (hf : flatB ls 50 = true) {k : Nat} (hk : k < ls.length) : (ls.getD k []).length = 2 ∧ allIn (ls.getD k []) (-50) 50 = true := ptB_len (flatB_at hf k hk)
theorem mul_bd50 {a b : Int} (ha : -50 ≤ a) (ha' : a ≤ 50) (hb : -50 ≤ b) (hb' : b ≤ 50) : -2500 ≤ a * b ∧ a * b ≤ 2500 := by
  have h1 := Int.mul_nonneg (show 0 ≤ 50 - a by omega) (show 0 ≤ 50 - b by omega)
  have h2 := Int.mul_nonneg (show 0 ≤ 50 + a by omega) (show 0 ≤ 50 + b by omega)
  have h3 := Int.mul_nonneg (show 0 ≤ 50 - a by omega) (show 0 ≤ 50 + b by omega)
  have h4 := Int.mul_nonneg (show 0 ≤ 50 + a by omega) (show 0 ≤ 50 - b by omega)
  simp only [Int.sub_mul, Int.add_mul, Int.mul_sub, Int.mul_add] at h1 h2 h3 h4
  omega
theorem arT_bd {ls : List (List Int)} (hf : flatB ls 50 = true) {k : Nat} (hk : k < ls.length) : -5000 ≤ arT ls k ∧ arT ls k ≤ 5000 := by
  obtain ⟨a2, ab⟩ := flat_at hf hk
  have hy : (k + 1) % ls.length < ls.length := Nat.mod_lt _ (by omega)
  obtain ⟨b2, bb⟩ := flat_at hf hy
  have a0 := allIn_at ab 0 (by omega)
  have a1 := allIn_at ab 1 (by omega)
  have b0 := allIn_at bb 0 (by omega)
  have b1 := allIn_at bb 1 (by omega)
  unfold arT crossI
  generalize (ls.getD k []).getD 0 0 = x at *
  generalize (ls.getD k []).getD 1 0 = y at *
  generalize (ls.getD ((k + 1) % ls.length) []).getD 0 0 = z at *
  generalize (ls.getD ((k + 1) % ls.length) []).getD 1 0 = u at *
  have m1 := mul_bd50 a0.1 a0.2 b1.1 b1.2
  have m2 := mul_bd50 a1.1 a1.2 b0.1 b0.2
  omega
theorem gcdI_bdM {a b M : Int} (ha : -M ≤ a ∧ a ≤ M) (hb : -M ≤ b ∧ b ≤ M) : 0 ≤ gcdI a b ∧ gcdI a b ≤ M := by
  refine ⟨gcdI_nonneg _ _, ?_⟩
  by_cases h : b = 0
  · subst h; rw [gcdI_zero]; omega
  · unfold gcdI
    have := Nat.le_of_dvd (by omega) (Nat.gcd_dvd_right a.natAbs b.natAbs)
    have e : Int.gcd a b = Nat.gcd a.natAbs b.natAbs := rfl
    rw [e]; omega
theorem gcdL_pair (a b : Int) : gcdL [a, b] = gcdI a b := by
  unfold gcdL
  simp only [List.foldl_cons, List.foldl_nil]
  rw [gcdI_comm 0 a, gcdI_zero]
  have : gcdI (max a (-a)) b = gcdI a b := by
    unfold gcdI Int.gcd
    have h : (max a (-a)).natAbs = a.natAbs := by omega
    rw [h]
  exact this
theorem minus_bd {a b : List Int} (ha : a.length = 2 ∧ allIn a (-50) 50 = true) (hb : b.length = 2 ∧ allIn b (-50) 50 = true) : ∀ k, k < (minusI a b).length → -100 ≤ (minusI a b).getD k 0 ∧ (minusI a b).getD k 0 ≤ 100 := by
  have := minusI_in ha.2 hb.2 ha.1 hb.1
  exact fun k hk => allIn_at this k hk
theorem sdI_bd {ls : List (List Int)} (hf : flatB ls 50 = true) {k : Nat} (hk : k < ls.length) : 0 ≤ sdI ls k ∧ sdI ls k ≤ 100 := by
  have hy : (k + 1) % ls.length < ls.length := Nat.mod_lt _ (by omega)
  have m := minus_bd (flat_at hf hy) (flat_at hf hk)
  have m0 := m 0 (by simp [minusI])
  have m1 := m 1 (by simp [minusI])
  clear m
  unfold sdI
  generalize ls.getD ((k + 1) % ls.length) [] = a at *
  generalize ls.getD k [] = b at *
  simp only [minusI, List.getD_cons_zero, List.getD_cons_succ] at m0 m1 ⊢
  rw [gcdL_pair]
  exact gcdI_bdM (M := 100) m0 m1
theorem arK_bd {ls : List (List Int)} (hf : flatB ls 50 = true) : ∀ k : Nat, k ≤ ls.length → -(5000 * (k : Int)) ≤ arK ls k ∧ arK ls k ≤ 5000 * k
  | 0, _ => by simp [arK]
  | k + 1, h => by
    have a := arK_bd hf k (by omega)
    have b := arT_bd hf (k := k) (by omega)
    unfold arK; push_cast; omega
theorem bdK_bd {ls : List (List Int)} (hf : flatB ls 50 = true) : ∀ k : Nat, k ≤ ls.length → 0 ≤ bdK ls k ∧ bdK ls k ≤ 100 * k
  | 0, _ => by simp [bdK]
  | k + 1, h => by
    have a := bdK_bd hf k (by omega)
    have b := sdI_bd hf (k := k) (by omega)
    unfold bdK; push_cast; omega
theorem isPoly_parts {ls : List (List Int)} (h : isPolyB ls = true) : 3 ≤ ls.length ∧ ls.length ≤ 12 ∧ flatB ls 50 = true := by
  unfold isPolyB at h
  simp only [Bool.and_eq_true, inB_iff] at h
  exact ⟨by omega, by omega, h.2.1⟩

set_option maxRecDepth 100000 in
set_option maxHeartbeats 4000000 in
theorem areaTwice_any (ls : List (List Int)) (v : Value) (hb : Nat) (w : World) (h : ISSr w hb v ls) (h12 : ls.length ≤ 12) (hf : flatB ls 50 = true) :
    Calls Try.prog 82 #[v] w fun e w' => e = .returned (.int .i64 (arL ls)) ∧ ∃ d, w' = w.drewN d := by
  rcases h.cases with ⟨rfl, a, cap, rfl⟩ | ⟨hpos, hlen, b, off, cap, V, rfl, hbb, hcell⟩
  · go_enter Try.func82, Try.ntmps82
    go_wp2
    refine wp_loop_rounds 1 ?_
    rw [rounds_succ]
    go_wp2
    go_ret
    exact ⟨rfl, 0, rfl⟩
  · obtain ⟨n, hn⟩ : ∃ n, n = ls.length := ⟨_, rfl⟩
    have HFA := Lib.hid (fun k hk => flat_at hf (k := k) hk)
    have HBD := Lib.hid (fun k hk => arK_bd hf k hk)
    have HTB := Lib.hid (fun k hk => arT_bd hf (k := k) hk)
    rw [← hn] at hlen hpos h12 ⊢
    have HN := Lib.hid hn; clear hn
    have HC := Lib.hid hcell; clear hcell hbb h hf
    have n1 : (1 : Int) ≤ (n : Int) := by omega
    go_enter Try.func82, Try.ntmps82
    go_wp2
    go_loopw [3, 8] (fun s i wr => ∃ (d k : Nat) (z : Int), k ≤ n ∧ i = .int .i64 k ∧ s = .int .i64 z ∧ Hid (wr = w.drewN d) ∧ Hid (z = arK ls k)) (fun _ i _ => n - (intOf i).toNat)
    case atStart => exact ⟨0, 0, 0, by omega, rfl, rfl, Lib.hid rfl, Lib.hid rfl⟩
    case round =>
      obtain ⟨d, k, z, hk, rfl, rfl, HW, HZ⟩ := hrel
      by_cases hlt : k < n
      · have hkl : k < ls.length := by rw [← HN.out]; exact hlt
        obtain ⟨y, hy⟩ : ∃ y, y = (k + 1) % ls.length := ⟨_, rfl⟩
        have hyl : y < ls.length := by rw [hy]; exact Nat.mod_lt _ (by omega)
        have hyn : y < n := by rw [HN.out]; exact hyl
        have hyI : ((k : Int) + 1) % (n : Int) = (y : Int) := by rw [hy, ← HN.out]; push_cast; rfl
        have ck : wr.cell? ⟨b, off + k, none⟩ = some (V k) := by rw [HW.out]; exact (HC.out k hkl).1
        have cy : wr.cell? ⟨b, off + y, none⟩ = some (V y) := by rw [HW.out]; exact (HC.out y hyl).1
        have rk : ISr wr hb (V k) (ls.getD k []) := by rw [HW.out]; exact (HC.out k hkl).2
        have ry : ISr wr hb (V y) (ls.getD y []) := by rw [HW.out]; exact (HC.out y hyl).2
        have fk := HFA.out k hkl
        have fy := HFA.out y hyl
        have CR := cross_any _ _ _ _ hb hb wr rk ry fk.1 fy.1 (allIn_wide fk.2 (by omega)) (allIn_wide fy.2 (by omega))
        have hT : crossI (ls.getD k []) (ls.getD y []) = arT ls k := by unfold arT; rw [hy]
        rw [hT] at CR
        have HS := Lib.hid (show arK ls (k + 1) = arK ls k + arT ls k from rfl)
        have b1 := HBD.out k (by omega)
        have b2 := HTB.out k hkl
        rw [← HZ.out] at b1
        clear rk ry fk fy hT hkl hyl hy
        generalize arT ls k = t at *
        have j1 : (y : Int) < (n : Int) := by omega
        have j2 : (0 : Int) ≤ (y : Int) := by omega
        go_wp2_with (go_at_call 89; (with_reducible refine CR.mono ?_); rintro e w' ⟨rfl, d2, rfl⟩)
        go_roundw
        case rel => exact ⟨d + d2, k + 1, z + t, by omega, by go_num, by go_num, Lib.hid (by rw [HW.out, World.drewN_drewN]), Lib.hid (by rw [HS.out, HZ.out])⟩
        case measure => simp [intOf]; omega
      · obtain rfl : k = n := by omega
        have HR := Lib.hid (show z = arL ls by rw [HZ.out, arL, ← HN.out])
        go_wp2
        go_ret
        exact ⟨ret_int HR.out, _, HW.out⟩
end Go.Proofs.Ytcofkjnkdfibfaa
