/- B11: texts in one: PlA PlB PlC PlD PlE PlF PlG Times Dil Area AtL. -/
import Derived.Test.YtehhoplenloocaaGreatB15
import Derived.Test.YtehhoplenloocaaGreatB1
import Derived.Deep.RegionHeld3
import Derived.Test.YtehhoplenloocaaGreatPlace
import Derived.Test.YtehhoplenloocaaGreatB4
/- Areas and sides of polygons: the walks. -/
namespace Go.Proofs.YtehhoplenloocaaGreat
open Go.RowKit
set_option linter.unusedVariables false
set_option linter.unusedSimpArgs false

def rw' (ls : List (List Int)) (k : Nat) : List Int := ls.getD k []
def arT (ls : List (List Int)) (k : Nat) : Int := crossI (ls.getD k []) (ls.getD ((k + 1) % ls.length) [])
def arK (ls : List (List Int)) : Nat → Int
  | 0 => 0
  | k + 1 => arK ls k + arT ls k
def arL (ls : List (List Int)) : Int := arK ls ls.length
def sdI (ls : List (List Int)) (k : Nat) : Int := gcdL (minusI (ls.getD ((k + 1) % ls.length) []) (ls.getD k []))
def bdK (ls : List (List Int)) : Nat → Int
  | 0 => 0
  | k + 1 => bdK ls k + sdI ls k
def bdL (ls : List (List Int)) : Int := bdK ls ls.length
theorem flat_at {ls : List (List Int)} (hf : flatB ls 50 = true) {k : Nat} (hk : k < ls.length) : (ls.getD k []).length = 2 ∧ allIn (ls.getD k []) (-50) 50 = true := ptB_len (flatB_at hf k hk)
theorem mul_bd50 {a b : Int} (ha : -50 ≤ a) (ha' : a ≤ 50) (hb : -50 ≤ b) (hb' : b ≤ 50) : -2500 ≤ a * b ∧ a * b ≤ 2500 := by
  have h1 := Int.mul_nonneg (show 0 ≤ 50 - a by omega) (show 0 ≤ 50 - b by omega)
  have h2 := Int.mul_nonneg (show 0 ≤ 50 + a by omega) (show 0 ≤ 50 + b by omega)
  have h3 := Int.mul_nonneg (show 0 ≤ 50 - a by omega) (show 0 ≤ 50 + b by omega)
  have h4 := Int.mul_nonneg (show 0 ≤ 50 + a by omega) (show 0 ≤ 50 - b by omega)
  simp only [Int.sub_mul, Int.add_mul, Int.mul_sub, Int.mul_add] at h1 h2 h3 h4
  omega
theorem arT_bd {ls : List (List Int)} (hf : flatB ls 50 = true) {k : Nat} (hk : k < ls.length) : -5000 ≤ arT ls k ∧ arT ls k ≤ 5000 := by
  obtain ⟨a2, ab⟩ := flat_at hf hk
  have hy : (k + 1) % ls.length < ls.length := Nat.mod_lt _ (by omega)
  obtain ⟨b2, bb⟩ := flat_at hf hy
  have a0 := allIn_at ab 0 (by omega)
  have a1 := allIn_at ab 1 (by omega)
  have b0 := allIn_at bb 0 (by omega)
  have b1 := allIn_at bb 1 (by omega)
  unfold arT crossI
  generalize (ls.getD k []).getD 0 0 = x at *
  generalize (ls.getD k []).getD 1 0 = y at *
  generalize (ls.getD ((k + 1) % ls.length) []).getD 0 0 = z at *
  generalize (ls.getD ((k + 1) % ls.length) []).getD 1 0 = u at *
  have m1 := mul_bd50 a0.1 a0.2 b1.1 b1.2
  have m2 := mul_bd50 a1.1 a1.2 b0.1 b0.2
  omega
theorem gcdI_bdM {a b M : Int} (ha : -M ≤ a ∧ a ≤ M) (hb : -M ≤ b ∧ b ≤ M) : 0 ≤ gcdI a b ∧ gcdI a b ≤ M := by
  refine ⟨gcdI_nonneg _ _, ?_⟩
  by_cases h : b = 0
  · subst h; rw [gcdI_zero]; omega
  · unfold gcdI
    have := Nat.le_of_dvd (by omega) (Nat.gcd_dvd_right a.natAbs b.natAbs)
    have e : Int.gcd a b = Nat.gcd a.natAbs b.natAbs := rfl
    rw [e]; omega
theorem gcdL_pair (a b : Int) : gcdL [a, b] = gcdI a b := by
  unfold gcdL
  simp only [List.foldl_cons, List.foldl_nil]
  rw [gcdI_comm 0 a, gcdI_zero]
  have : gcdI (max a (-a)) b = gcdI a b := by
    unfold gcdI Int.gcd
    have h : (max a (-a)).natAbs = a.natAbs := by omega
    rw [h]
  exact this
theorem minus_bd {a b : List Int} (ha : a.length = 2 ∧ allIn a (-50) 50 = true) (hb : b.length = 2 ∧ allIn b (-50) 50 = true) : ∀ k, k < (minusI a b).length → -100 ≤ (minusI a b).getD k 0 ∧ (minusI a b).getD k 0 ≤ 100 := by
  have := minusI_in ha.2 hb.2 ha.1 hb.1
  exact fun k hk => allIn_at this k hk
theorem sdI_bd {ls : List (List Int)} (hf : flatB ls 50 = true) {k : Nat} (hk : k < ls.length) : 0 ≤ sdI ls k ∧ sdI ls k ≤ 100 := by
  have hy : (k + 1) % ls.length < ls.length := Nat.mod_lt _ (by omega)
  have m := minus_bd (flat_at hf hy) (flat_at hf hk)
  have m0 := m 0 (by simp [minusI])
  have m1 := m 1 (by simp [minusI])
  clear m
  unfold sdI
  generalize ls.getD ((k + 1) % ls.length) [] = a at *
  generalize ls.getD k [] = b at *
  simp only [minusI, List.getD_cons_zero, List.getD_cons_succ] at m0 m1 ⊢
  rw [gcdL_pair]
  exact gcdI_bdM (M := 100) m0 m1
theorem arK_bd {ls : List (List Int)} (hf : flatB ls 50 = true) : ∀ k : Nat, k ≤ ls.length → -(5000 * (k : Int)) ≤ arK ls k ∧ arK ls k ≤ 5000 * k
  | 0, _ => by simp [arK]
  | k + 1, h => by
    have a := arK_bd hf k (by omega)
    have b := arT_bd hf (k := k) (by omega)
    unfold arK; push_cast; omega
theorem bdK_bd {ls : List (List Int)} (hf : flatB ls 50 = true) : ∀ k : Nat, k ≤ ls.length → 0 ≤ bdK ls k ∧ bdK ls k ≤ 100 * k
  | 0, _ => by simp [bdK]
  | k + 1, h => by
    have a := bdK_bd hf k (by omega)
    have b := sdI_bd hf (k := k) (by omega)
    unfold bdK; push_cast; omega
theorem isPoly_parts {ls : List (List Int)} (h : isPolyB ls = true) : 3 ≤ ls.length ∧ ls.length ≤ 12 ∧ flatB ls 50 = true := by
  unfold isPolyB at h
  simp only [Bool.and_eq_true, inB_iff] at h
  exact ⟨by omega, by omega, h.2.1⟩

end Go.Proofs.YtehhoplenloocaaGreat

/- Boundary counts and area doubles of polygons: the walks. -/
namespace Go.Proofs.YtehhoplenloocaaGreat
open Go.RowKit
set_option linter.unusedVariables false
set_option linter.unusedSimpArgs false

def bdV (ls : List (List Int)) : Int := if isPolyB ls then bdL ls else -1
def arV (ls : List (List Int)) : Int := if isPolyB ls then arL ls else -1
def inV (ls : List (List Int)) : Int := if isPolyB ls then (arL ls - bdL ls + 2).tdiv 2 else -1

set_option maxRecDepth 100000 in
set_option maxHeartbeats 4000000 in
theorem l7Area_any (ls : List (List Int)) (v : Value) (hb : Nat) (w : World) (h : ISSr w hb v ls) (h12 : ls.length ≤ 12) (hf : flatB ls 50 = true) :
    Calls Tryz.prog 51 #[v] w fun e w' => e = .returned (.int .i64 (arL ls)) ∧ ∃ d, w' = w.drewN d := by
  rcases h.cases with ⟨rfl, a, cap, rfl⟩ | ⟨hpos, hlen, b, off, cap, V, rfl, hbb, hcell⟩
  · go_enter Tryz.func51, Tryz.ntmps51
    go_wp2
    refine wp_loop_rounds 1 ?_
    rw [rounds_succ]
    go_wp2
    go_ret
    exact ⟨rfl, 0, rfl⟩
  · obtain ⟨n, hn⟩ : ∃ n, n = ls.length := ⟨_, rfl⟩
    have HFA := Lib.hid (fun k hk => flat_at hf (k := k) hk)
    have HBD := Lib.hid (fun k hk => arK_bd hf k hk)
    have HTB := Lib.hid (fun k hk => arT_bd hf (k := k) hk)
    rw [← hn] at hlen hpos h12 ⊢
    have HN := Lib.hid hn; clear hn
    have HC := Lib.hid hcell; clear hcell hbb h hf
    have n1 : (1 : Int) ≤ (n : Int) := by omega
    go_enter Tryz.func51, Tryz.ntmps51
    go_wp2
    go_loopw [3, 4] (fun s i wr => ∃ (d k : Nat) (z : Int), k ≤ n ∧ i = .int .i64 k ∧ s = .int .i64 z ∧ Hid (wr = w.drewN d) ∧ Hid (z = arK ls k)) (fun _ i _ => n - (intOf i).toNat)
    case atStart => exact ⟨0, 0, 0, by omega, rfl, rfl, Lib.hid rfl, Lib.hid rfl⟩
    case round =>
      obtain ⟨d, k, z, hk, rfl, rfl, HW, HZ⟩ := hrel
      by_cases hlt : k < n
      · have hkl : k < ls.length := by rw [← HN.out]; exact hlt
        obtain ⟨y, hy⟩ : ∃ y, y = (k + 1) % ls.length := ⟨_, rfl⟩
        have hyl : y < ls.length := by rw [hy]; exact Nat.mod_lt _ (by omega)
        have hyn : y < n := by rw [HN.out]; exact hyl
        have hyI : ((k : Int) + 1) % (n : Int) = (y : Int) := by rw [hy, ← HN.out]; push_cast; rfl
        have hyT : ((k : Int) + 1).tmod (n : Int) = (y : Int) := by rw [Int.tmod_eq_emod_of_nonneg (by omega)]; exact hyI
        have ck : wr.cell? ⟨b, off + k, none⟩ = some (V k) := by rw [HW.out]; exact (HC.out k hkl).1
        have cy : wr.cell? ⟨b, off + y, none⟩ = some (V y) := by rw [HW.out]; exact (HC.out y hyl).1
        have fk := HFA.out k hkl
        have fy := HFA.out y hyl
        have hT : crossI (ls.getD k []) (ls.getD y []) = arT ls k := by unfold arT; rw [hy]
        have HQ := fun n' => l7Cross_any (ls.getD k []) (ls.getD y []) (V k) (V y) hb hb (wr.drewN n') (by rw [HW.out]; exact (HC.out k hkl).2) (by rw [HW.out]; exact (HC.out y hyl).2) fk.1 fy.1 (allIn_wide fk.2 (by omega)) (allIn_wide fy.2 (by omega))
        rw [hT] at HQ
        have HQ' := Lib.hid HQ; clear HQ
        have HS := Lib.hid (show arK ls (k + 1) = arK ls k + arT ls k from rfl)
        have b1 := HBD.out k (by omega)
        have b2 := HTB.out k hkl
        rw [← HZ.out] at b1
        clear fk fy hT hkl hyl hy
        generalize arT ls k = t at *
        have j1 : (y : Int) < (n : Int) := by omega
        have j2 : (0 : Int) ≤ (y : Int) := by omega
        have j3 : ¬ (n : Int) = 0 := by omega
        go_wp2
        go_quiet ((go_at_call 97; exact Calls.quiet_of (HQ'.out _)))
        go_wp2
        go_roundw
        case rel => exact ⟨d + nq, k + 1, z + t, by omega, by go_num, by go_num, Lib.hid (by rw [HW.out, World.drewN_drewN]), Lib.hid (by rw [HS.out, HZ.out])⟩
        case measure => simp [intOf]; omega
      · obtain rfl : k = n := by omega
        have HR := Lib.hid (show z = arL ls by rw [HZ.out, arL, ← HN.out])
        go_wp2
        go_ret
        exact ⟨ret_int HR.out, _, HW.out⟩
set_option maxRecDepth 100000 in
set_option maxHeartbeats 4000000 in
theorem l7Side_any (ls : List (List Int)) (v : Value) (hb : Nat) (w : World) (h : ISSr w hb v ls) (hhb : hb ≤ w.heap.size) (h12 : ls.length ≤ 12) (hf : flatB ls 50 = true) (k : Nat) (hkl : k < ls.length) :
    Calls Tryz.prog 52 #[v, .int .i64 k] w fun e w' => e = .returned (.int .i64 (sdI ls k)) ∧ Below w.heap.size w w' := by
  rcases h.cases with ⟨rfl, a, cap, rfl⟩ | ⟨hpos, hlen, b, off, cap, V, rfl, hbb, hcell⟩
  · simp at hkl
  obtain ⟨n, hn⟩ : ∃ n, n = ls.length := ⟨_, rfl⟩
  obtain ⟨y, hy⟩ : ∃ y, y = (k + 1) % ls.length := ⟨_, rfl⟩
  have hyl : y < ls.length := by rw [hy]; exact Nat.mod_lt _ (by omega)
  have hyn : y < n := by rw [hn]; exact hyl
  have hlt : k < n := by rw [hn]; exact hkl
  have hyI : ((k : Int) + 1) % (n : Int) = (y : Int) := by rw [hy, hn]; push_cast; rfl
  have hyT : ((k : Int) + 1).tmod (n : Int) = (y : Int) := by rw [Int.tmod_eq_emod_of_nonneg (by omega)]; exact hyI
  have ck : ∀ W, Below w.heap.size w W → W.cell? ⟨b, off + k, none⟩ = some (V k) := fun W HB => (HB.cell (p := ⟨b, off + k, none⟩) (show b < w.heap.size by omega)).trans (hcell k hkl).1
  have cy : ∀ W, Below w.heap.size w W → W.cell? ⟨b, off + y, none⟩ = some (V y) := fun W HB => (HB.cell (p := ⟨b, off + y, none⟩) (show b < w.heap.size by omega)).trans (hcell y hyl).1
  have fk := flat_at hf hkl
  have fy := flat_at hf hyl
  have mb := minus_bd fy fk
  have zz : List.zipWith (· - ·) (ls.getD y []) (ls.getD k []) = minusI (ls.getD y []) (ls.getD k []) := zip_minus fy.1 fk.1
  have mz : ∀ i, i < (ls.getD y []).length → -9223372036854775808 ≤ (ls.getD y []).getD i 0 - (ls.getD k []).getD i 0 ∧ (ls.getD y []).getD i 0 - (ls.getD k []).getD i 0 ≤ 9223372036854775807 := by
    intro i hi
    have e1 := allIn_at fy.2 i hi
    have e2 := allIn_at fk.2 i (by rw [fk.1]; rw [fy.1] at hi; exact hi)
    omega
  have ML := fun W (HB : Below w.heap.size w W) => l2Less_any (ls.getD y []) (ls.getD k []) (V y) (V k) hb W ((hcell y hyl).2.keep HB hhb) ((hcell k hkl).2.keep HB hhb) (Nat.le_trans hhb HB.size) (by rw [fy.1]; omega) (by rw [fy.1, fk.1]; omega) mz
  rw [zz] at ML
  have GC := fun u hi W (H : ISr W hi u (minusI (ls.getD y []) (ls.getD k []))) => l2All_any _ u hi W H 100 (by omega) mb
  have hT : gcdL (minusI (ls.getD y []) (ls.getD k [])) = sdI ls k := by unfold sdI; rw [hy]
  rw [hT] at GC
  have CK := Lib.hid ck
  have CY := Lib.hid cy
  have MLH := Lib.hid (ML w.drew (below_draws w.heap.size w 1))
  have GCH := Lib.hid GC
  rw [← hn] at hlen hpos h12 ⊢
  have k1 := ck w (Below.refl _ _)
  have k2 := cy w (Below.refl _ _)
  clear hcell hbb h hf fk fy mb zz mz ML GC hT ck cy hy hyl hkl hn
  generalize sdI ls k = t at *
  generalize minusI (ls.getD y []) (ls.getD k []) = m at *
  have j1 : (y : Int) < (n : Int) := by omega
  have j2 : (0 : Int) ≤ (y : Int) := by omega
  have j3 : ¬ (n : Int) = 0 := by omega
  have j4 : (0 : Int) ≤ (k : Int) := by omega
  have j5 : (k : Int) < (n : Int) := by omega
  have j6 : IntKind.i64.wrap ((k : Int) + 1) = (k : Int) + 1 := wr64 _ (by omega)
  have j7 : IntKind.i64.wrap (((k : Int) + 1).tmod (n : Int)) = y := by rw [hyT]; exact wr64 _ (by omega)
  have j8 : IntKind.i64.wrap (((k : Int) + 1) % (n : Int)) = y := by rw [hyI]; exact wr64 _ (by omega)
  have j9 := wr64 (y : Int) (by omega)
  have ja : ((n : Int) == 0) = false := by rw [beq_eq_false_iff_ne]; omega
  have jd : ¬ n = 0 := by omega
  have jb : ((y : Int)).toNat = y := by omega
  have jc : ((k : Int)).toNat = k := by omega
  go_enter Tryz.func52, Tryz.ntmps52
  go_wp2
  go_region_held3 (fun w' => w'.cell? ⟨b, off + k, none⟩ = some (V k) ∧ w'.cell? ⟨b, off + y, none⟩ = some (V y))
    (first | exact ⟨k1, k2⟩ | exact ⟨z1, z2⟩ | go_keep)
    (first
      | (go_at_call 85; (with_reducible refine MLH.out.mono ?_); rintro e w8 ⟨u, rfl, hi, c8⟩; have BB := below_then (below_draws w.heap.size w 1) (Nat.le_refl _) c8; have z1 := CK.out _ BB; have z2 := CY.out _ BB)
      | (go_at_call 98; (with_reducible refine (GCH.out u _ _ hi.read).mono ?_); rintro e w9 ⟨rfl, rfl⟩))
  go_wp2_with fail
  go_ret
  exact ⟨rfl, BB⟩
end Go.Proofs.YtehhoplenloocaaGreat

/- Inner counts and Ehrhart's numbers of polygons: the walks. -/
namespace Go.Proofs.YtehhoplenloocaaGreat
open Go.RowKit
set_option linter.unusedVariables false
set_option linter.unusedSimpArgs false

theorem bdV_bd (ls : List (List Int)) (hp : isPolyB ls = true) : 0 ≤ bdV ls ∧ bdV ls ≤ 1200 := by
  obtain ⟨h3, h12, hf⟩ := isPoly_parts hp
  have := bdK_bd hf ls.length (Nat.le_refl _)
  unfold bdV bdL; rw [hp]; simp only [if_true]; omega
theorem arV_bd (ls : List (List Int)) (hp : isPolyB ls = true) : -60000 ≤ arV ls ∧ arV ls ≤ 60000 := by
  obtain ⟨h3, h12, hf⟩ := isPoly_parts hp
  have := arK_bd hf ls.length (Nat.le_refl _)
  unfold arV arL; rw [hp]; simp only [if_true]; omega
def ehI (ls : List (List Int)) (t : Int) : Int := (2 + bdV ls * t + arV ls * t * t).tdiv 2
def ehV (ls : List (List Int)) (t : Int) : Int := if isPolyB ls && inB t (-1000) 1000 then ehI ls t else -1
theorem mul_bdE {a b M N : Int} (ha : -M ≤ a) (ha' : a ≤ M) (hb : -N ≤ b) (hb' : b ≤ N) (hM : 0 ≤ M) (hN : 0 ≤ N) : -(M * N) ≤ a * b ∧ a * b ≤ M * N := by
  have h1 : a.natAbs * b.natAbs ≤ M.natAbs * N.natAbs := Nat.mul_le_mul (by omega) (by omega)
  rw [← Int.natAbs_mul, ← Int.natAbs_mul] at h1
  have : 0 ≤ M * N := Int.mul_nonneg hM hN
  omega
theorem tdiv2_bd {a M : Int} (h : -M ≤ a ∧ a ≤ M) : -M ≤ a.tdiv 2 ∧ a.tdiv 2 ≤ M := by
  have := Int.natAbs_tdiv_le_natAbs a 2
  omega
theorem eh_prods {B A t : Int} (hB : 0 ≤ B ∧ B ≤ 1200) (hA : -60000 ≤ A ∧ A ≤ 60000) (ht : -10000 ≤ t ∧ t ≤ 10000) :
    (-12000000 ≤ B * t ∧ B * t ≤ 12000000) ∧ (-600000000 ≤ A * t ∧ A * t ≤ 600000000) ∧ (-6000000000000 ≤ A * t * t ∧ A * t * t ≤ 6000000000000) := by
  have m1 := mul_bdE (a := B) (b := t) (M := 1200) (N := 10000) (by omega) hB.2 ht.1 ht.2 (by omega) (by omega)
  have m2 := mul_bdE (a := A) (b := t) (M := 60000) (N := 10000) hA.1 hA.2 ht.1 ht.2 (by omega) (by omega)
  have m3 := mul_bdE (a := A * t) (b := t) (M := 600000000) (N := 10000) (by omega) (by omega) ht.1 ht.2 (by omega) (by omega)
  omega

set_option maxRecDepth 100000 in
set_option maxHeartbeats 4000000 in
theorem specBoundary_any (ls : List (List Int)) (v : Value) (hb : Nat) (w : World) (h : ISSr w hb v ls) (hhb : hb ≤ w.heap.size) :
    Calls Tryz.prog 22 #[v] w fun e w' => e = .returned (.int .i64 (bdV ls)) ∧ Below w.heap.size w w' := by
  have IP := specIsPolygon_any ls v hb w h hhb
  cases hp : isPolyB ls
  case false =>
    have hr : bdV ls = -1 := by unfold bdV; rw [hp]; rfl
    rw [hr]
    rw [hp] at IP
    clear h hr hp
    go_enter Tryz.func22, Tryz.ntmps22
    go_wp2_with (go_at_call 31; (with_reducible refine IP.mono ?_); rintro e w1 ⟨rfl, c1⟩)
    go_ret
    exact ⟨rfl, c1⟩
  have hr : bdV ls = bdL ls := by unfold bdV; rw [hp]; rfl
  rw [hr]
  rw [hp] at IP
  obtain ⟨h3, h12, hf⟩ := isPoly_parts hp
  have SD := Lib.hid (fun k W (HB : Below w.heap.size w W) hk => l7Side_any ls v hb W (h.keep HB hhb) (Nat.le_trans hhb HB.size) h12 hf k hk)
  obtain ⟨a, cap, rfl, hcap, hm, hcell⟩ := id h
  obtain ⟨n, hn⟩ : ∃ n, n = ls.length := ⟨_, rfl⟩
  have HBD := Lib.hid (fun k hk => bdK_bd hf k hk)
  have HTB := Lib.hid (fun k hk => sdI_bd hf (k := k) hk)
  rw [← hn] at h12 h3 IP ⊢
  have HN := Lib.hid hn; clear hn
  clear hcell h hf hp hr hhb hcap hm
  have n1 : (1 : Int) ≤ (n : Int) := by omega
  go_enter Tryz.func22, Tryz.ntmps22
  go_wp2_with (go_at_call 31; (with_reducible refine IP.mono ?_); rintro e w1 ⟨rfl, c1⟩)
  have C1 := Lib.hid c1
  clear IP c1
  go_loopw [3, 4] (fun s i wr => ∃ (k : Nat) (z : Int), k ≤ n ∧ i = .int .i64 k ∧ s = .int .i64 z ∧ Hid (Below w.heap.size w wr) ∧ Hid (z = bdK ls k)) (fun _ i _ => n - (intOf i).toNat)
  case atStart => exact ⟨0, 0, by omega, rfl, rfl, C1, Lib.hid rfl⟩
  case round =>
    obtain ⟨k, z, hk, rfl, rfl, HB, HZ⟩ := hrel
    by_cases hlt : k < n
    · have hkl : k < ls.length := by rw [← HN.out]; exact hlt
      have MI := SD.out k wr HB.out hkl
      have HS := Lib.hid (show bdK ls (k + 1) = bdK ls k + sdI ls k from rfl)
      have b1 := HBD.out k (by omega)
      have b2 := HTB.out k hkl
      rw [← HZ.out] at b1
      rw [← HN.out] at MI
      clear hkl
      generalize sdI ls k = t at *
      go_wp2_with (go_at_call 52; (with_reducible refine MI.mono ?_); rintro e w2 ⟨rfl, c2⟩)
      have HB2 := Lib.hid (below_then HB.out HB.out.size c2)
      clear MI c2
      go_roundw
      case rel => exact ⟨k + 1, z + t, by omega, by go_num, by go_num, HB2, Lib.hid (by rw [HS.out, HZ.out])⟩
      case measure => simp [intOf]; omega
    · obtain rfl : k = n := by omega
      have HR := Lib.hid (show z = bdL ls by rw [HZ.out, bdL, ← HN.out])
      go_wp2
      go_ret
      exact ⟨ret_int HR.out, HB.out⟩
end Go.Proofs.YtehhoplenloocaaGreat

/- EhrhartOf, InnerCount, SeriesTop: the walks. -/
namespace Go.Proofs.YtehhoplenloocaaGreat
open Go.RowKit
set_option linter.unusedVariables false
set_option linter.unusedSimpArgs false

theorem IS.none' (w : World) (lo hi : Nat) (a : Option Addr) (cap : Nat) (h : cap ≤ maxLen) : IS w lo hi (.slice a 0 cap) [] := ⟨a, cap, rfl, Nat.zero_le _, h, fun h => absurd rfl h⟩
def eoF (ls : List (List Int)) : List Int := if isPolyB ls then [2, bdV ls, arV ls] else []
theorem eoF_len (ls : List (List Int)) : (eoF ls).length ≤ 3 := by unfold eoF; split <;> simp
def stF (ls : List (List Int)) : List Int := if isPolyB ls then [1, ehI ls 1 - 3, inV ls] else []
theorem stF_len (ls : List (List Int)) : (stF ls).length ≤ 3 := by unfold stF; split <;> simp
theorem inV_poly (ls : List (List Int)) (hp : isPolyB ls = true) : inV ls = (arV ls - bdV ls + 2).tdiv 2 := by unfold inV arV bdV; simp [hp]
theorem arL_V (ls : List (List Int)) (hp : isPolyB ls = true) : arL ls = arV ls := by unfold arV; simp [hp]
theorem ehV_one (ls : List (List Int)) (hp : isPolyB ls = true) : ehV ls 1 = ehI ls 1 := by unfold ehV; rw [hp]; rfl
theorem ehI_bd (ls : List (List Int)) (hp : isPolyB ls = true) {t : Int} (ht : -10000 ≤ t ∧ t ≤ 10000) : -7000000000000 ≤ ehI ls t ∧ ehI ls t ≤ 7000000000000 := by
  have hB := bdV_bd ls hp
  have hA := arV_bd ls hp
  unfold ehI
  obtain ⟨m1, m2, m3⟩ := eh_prods hB hA ht
  exact tdiv2_bd (M := 7000000000000) (by omega)

set_option maxHeartbeats 4000000 in
theorem specInner_any (ls : List (List Int)) (v : Value) (hb : Nat) (w : World) (h : ISSr w hb v ls) (hhb : hb ≤ w.heap.size) :
    Calls Tryz.prog 23 #[v] w fun e w' => e = .returned (.int .i64 (inV ls)) ∧ Below w.heap.size w w' := by
  have IP := specIsPolygon_any ls v hb w h hhb
  cases hp : isPolyB ls
  case false =>
    have hr : inV ls = -1 := by unfold inV; rw [hp]; rfl
    rw [hr]
    rw [hp] at IP
    clear h hr hp
    go_enter Tryz.func23, Tryz.ntmps23
    go_wp2_with (go_at_call 31; (with_reducible refine IP.mono ?_); rintro e w1 ⟨rfl, c1⟩)
    go_ret
    exact ⟨rfl, c1⟩
  rw [inV_poly ls hp]
  rw [hp] at IP
  obtain ⟨h3, h12, hf⟩ := isPoly_parts hp
  have BD := fun W (HB : Below w.heap.size w W) => specBoundary_any ls v hb W (h.keep HB hhb) (Nat.le_trans hhb HB.size)
  have AR := fun W (HB : Below w.heap.size w W) => l7Area_any ls v hb W (h.keep HB hhb) h12 hf
  rw [arL_V ls hp] at AR
  have hB := bdV_bd ls hp
  have hA := arV_bd ls hp
  clear h hp hhb hf h3 h12
  generalize bdV ls = B at *
  generalize arV ls = A at *
  have e1 := wr64 (A - B) (by omega)
  have e2 := wr64 (A - B + 2) (by omega)
  have e3 := tdiv2_bd (a := A - B + 2) (M := 70000) (by omega)
  obtain ⟨q, hq⟩ : ∃ q, q = (A - B + 2).tdiv 2 := ⟨_, rfl⟩
  have e4 : IntKind.i64.wrap ((A - B + 2).tdiv 2) = q := by rw [← hq]; exact wr64 _ (by omega)
  rw [← hq]
  clear hq
  go_enter Tryz.func23, Tryz.ntmps23
  go_wp2_with (first | (go_at_call 31; (with_reducible refine IP.mono ?_); rintro e w1 ⟨rfl, c1⟩) | (go_at_call 51; (with_reducible refine (AR _ c1).mono ?_); rintro e w2 ⟨rfl, d, rfl⟩; have C2 := c1.trans (below_draws w.heap.size w1 d)) | (go_at_call 22; (with_reducible refine (BD _ C2).mono ?_); rintro e w3 ⟨rfl, c3⟩))
  go_ret
  exact ⟨rfl, below_then C2 C2.size c3⟩
end Go.Proofs.YtehhoplenloocaaGreat

/- SeriesTop of polygons: the walks. -/
namespace Go.Proofs.YtehhoplenloocaaGreat
open Go.RowKit
set_option linter.unusedVariables false
set_option linter.unusedSimpArgs false

end Go.Proofs.YtehhoplenloocaaGreat

/- SideNumbers: the walks. -/
namespace Go.Proofs.YtehhoplenloocaaGreat
open Go.RowKit
set_option linter.unusedVariables false
set_option linter.unusedSimpArgs false

def snK (ls : List (List Int)) : Nat → List Int
  | 0 => []
  | k + 1 => snK ls k ++ [sdI ls k]
theorem snK_len (ls : List (List Int)) : ∀ k, (snK ls k).length = k
  | 0 => rfl
  | k + 1 => by unfold snK; rw [List.length_append, snK_len ls k]; rfl
def snF (ls : List (List Int)) : List Int := if isPolyB ls then snK ls ls.length else []
theorem snF_len (ls : List (List Int)) : (snF ls).length ≤ 12 := by
  unfold snF
  cases hp : isPolyB ls
  · simp
  · obtain ⟨h3, h12, hf⟩ := isPoly_parts hp
    simp only [if_true]; rw [snK_len]; exact h12
theorem IS.lit1P (w : World) (B : Nat) (h : B ≤ w.heap.size) (x : Int) : IS (w.alloc (.cells #[.int .i64 x] 3)) B (w.heap.size + 1) (.slice (some ⟨w.heap.size, 0, none⟩) 1 1) [x] := by
  refine IS.of_BK (l := [x]) ⟨_, heap_alloc_new w _, fun i hi => ?_⟩ (Nat.le_refl _) (by simp [maxLen]) h (by omega)
  match i, hi with
  | 0, _ => rfl

end Go.Proofs.YtehhoplenloocaaGreat

/- The place of a point in a polygon: the walks of placeOf and l7Place. -/
namespace Go.Proofs.YtehhoplenloocaaGreat
open Go.RowKit
set_option linter.unusedVariables false
set_option linter.unusedSimpArgs false

def tnE (ls : List (List Int)) (c : List Int) (k : Nat) : Int := tn (ptOf (ls.getD k [])) (ptOf (ls.getD ((k + 1) % ls.length) [])) (ptOf c)
def ngK (ls : List (List Int)) (c : List Int) (k : Nat) : Bool := (List.range k).any fun j => decide (tnE ls c j < 0)
def plS (ls : List (List Int)) (c : List Int) : Nat → Int
  | 0 => 1
  | k + 1 => if tnE ls c k = 0 then 0 else plS ls c k
def plV (ls : List (List Int)) (c : List Int) : Int := if ngK ls c ls.length then -1 else plS ls c ls.length
theorem ngK_step (ls : List (List Int)) (c : List Int) (k : Nat) : ngK ls c (k + 1) = (ngK ls c k || decide (tnE ls c k < 0)) := by
  unfold ngK; rw [List.range_succ, List.any_append]; simp
theorem plV_neg {ls : List (List Int)} {c : List Int} {k : Nat} (hk : k < ls.length) (h : tnE ls c k < 0) : plV ls c = -1 := by
  unfold plV
  have : ngK ls c ls.length = true := by
    unfold ngK; rw [List.any_eq_true]; exact ⟨k, by rw [List.mem_range]; exact hk, by simpa using h⟩
  rw [this]; rfl
theorem plV_end {ls : List (List Int)} {c : List Int} (h : ngK ls c ls.length = false) : plV ls c = plS ls c ls.length := by unfold plV; rw [h]; rfl

end Go.Proofs.YtehhoplenloocaaGreat

/- Points that are stretched in place. -/
namespace Go.Proofs.YtehhoplenloocaaGreat
open Go.RowKit
set_option linter.unusedVariables false
set_option linter.unusedSimpArgs false

def scaleTo (r : List Int) (t : Int) (j : Nat) : List Int := (r.take j).map (· * t) ++ r.drop j
theorem scaleTo_len (r : List Int) (t : Int) (j : Nat) : (scaleTo r t j).length = r.length := by
  unfold scaleTo; rw [List.length_append, List.length_map, List.length_take, List.length_drop]; omega
theorem scaleTo_zero (r : List Int) (t : Int) : scaleTo r t 0 = r := by simp [scaleTo]
theorem scaleTo_full (r : List Int) (t : Int) : scaleTo r t r.length = r.map (· * t) := by simp [scaleTo]
theorem scaleTo_at (r : List Int) (t : Int) (j : Nat) (h : j < r.length) : (scaleTo r t j).getD j 0 = r.getD j 0 := by
  unfold scaleTo
  rw [List.getD_eq_getElem?_getD, List.getElem?_append_right (by rw [List.length_map, List.length_take]; omega), List.length_map, List.length_take, Nat.min_eq_left (by omega), Nat.sub_self, List.getElem?_drop, Nat.add_zero, ← List.getD_eq_getElem?_getD]
theorem scaleTo_set (r : List Int) (t : Int) (j : Nat) (h : j < r.length) : (scaleTo r t j).set j (r.getD j 0 * t) = scaleTo r t (j + 1) := by
  unfold scaleTo
  rw [List.set_append_right _ _ (by rw [List.length_map, List.length_take]; omega), List.length_map, List.length_take, Nat.min_eq_left (by omega), Nat.sub_self]
  rw [List.take_succ_eq_append_getElem h, List.map_append, List.append_assoc]
  congr 1
  rw [List.drop_eq_getElem_cons h, List.getD_eq_getElem?_getD, List.getElem?_eq_getElem h]
  rfl
def timesL (ls : List (List Int)) (t : Int) : List (List Int) := ls.map fun r => r.map (· * t)
def curT (ls : List (List Int)) (t : Int) (k j : Nat) : Nat → List Int := fun i => if i < k then (ls.getD i []).map (· * t) else if i = k then scaleTo (ls.getD i []) t j else ls.getD i []
theorem curT_end (ls : List (List Int)) (t : Int) : (List.range ls.length).map (curT ls t ls.length 0) = timesL ls t := by
  apply List.ext_getElem
  · simp [timesL]
  · intro i h1 h2
    simp at h1
    simp [timesL, curT, h1]

end Go.Proofs.YtehhoplenloocaaGreat

/- DilatePolygon: the walks. -/
namespace Go.Proofs.YtehhoplenloocaaGreat
open Go.RowKit
set_option linter.unusedVariables false
set_option linter.unusedSimpArgs false

def dilV (ls : List (List Int)) (t : Int) : List (List Int) × Bool := if isPolyB ls && (inB t 1 50 && isPolyB (timesL ls t)) then (timesL ls t, true) else ([], false)
theorem dilV_no1 {ls : List (List Int)} {t : Int} (h : isPolyB ls = false) : dilV ls t = ([], false) := by unfold dilV; rw [h]; rfl
theorem dilV_no2 {ls : List (List Int)} {t : Int} (h : inB t 1 50 = false) : dilV ls t = ([], false) := by unfold dilV; rw [h]; simp
theorem dilV_no3 {ls : List (List Int)} {t : Int} (h : isPolyB (timesL ls t) = false) : dilV ls t = ([], false) := by unfold dilV; rw [h]; simp
theorem dilV_yes {ls : List (List Int)} {t : Int} (h1 : isPolyB ls = true) (h2 : inB t 1 50 = true) (h3 : isPolyB (timesL ls t) = true) : dilV ls t = (timesL ls t, true) := by unfold dilV; rw [h1, h2, h3]; rfl
theorem rowXY {r : List Int} (h : r.length = 2) : ∃ x y, r = [x, y] := by
  match r, h with
  | [x, y], _ => exact ⟨x, y, rfl⟩
theorem timesL_len (ls : List (List Int)) (t : Int) : (timesL ls t).length = ls.length := by simp [timesL]
theorem timesL_at (ls : List (List Int)) (t : Int) (k : Nat) (hk : k < ls.length) : (timesL ls t).getD k [] = (ls.getD k []).map (· * t) := by
  unfold timesL
  rw [List.getD_eq_getElem?_getD, List.getElem?_map, List.getElem?_eq_getElem hk, List.getD_eq_getElem?_getD, List.getElem?_eq_getElem hk]; rfl
theorem inB_of_all {r : List Int} {lo hi : Int} (h : allIn r lo hi = true) {k : Nat} (hk : k < r.length) : lo ≤ r.getD k 0 ∧ r.getD k 0 ≤ hi := by
  have := List.all_eq_true.1 h (r.getD k 0) (by rw [List.getD_eq_getElem?_getD, List.getElem?_eq_getElem hk]; exact List.getElem_mem hk)
  exact inB_iff.1 this
/-- a great factor: too great a corner -/
theorem big_times {ls : List (List Int)} {t : Int} (hp : isPolyB ls = true) (ht : 51 ≤ t) : isPolyB (timesL ls t) = false := by
  cases hq : isPolyB (timesL ls t)
  · rfl
  exfalso
  obtain ⟨h3, h12, hf⟩ := isPoly_parts hp
  obtain ⟨g3, g12, gf⟩ := isPoly_parts hq
  have hz : ∀ k, k < ls.length → pf ls k = (0, 0) := by
    intro k hk
    have a := flat_at hf hk
    have b := flat_at gf (k := k) (by rw [timesL_len]; exact hk)
    rw [timesL_at ls t k hk] at b
    obtain ⟨x, y, e⟩ := rowXY a.1
    unfold pf ptOf
    rw [e] at a b ⊢
    have bx := inB_of_all b.2 (k := 0) (by simp)
    have by' := inB_of_all b.2 (k := 1) (by simp)
    simp at bx by'
    have hx : x = 0 := by
      rcases Int.lt_trichotomy x 0 with g | g | g
      · have := Int.mul_le_mul_of_nonneg_right (show x ≤ -1 by omega) (show 0 ≤ t by omega); omega
      · exact g
      · have := Int.mul_le_mul_of_nonneg_right (show 1 ≤ x by omega) (show 0 ≤ t by omega); omega
    have hy : y = 0 := by
      rcases Int.lt_trichotomy y 0 with g | g | g
      · have := Int.mul_le_mul_of_nonneg_right (show y ≤ -1 by omega) (show 0 ≤ t by omega); omega
      · exact g
      · have := Int.mul_le_mul_of_nonneg_right (show 1 ≤ y by omega) (show 0 ≤ t by omega); omega
    rw [hx, hy]; rfl
  have hL : locB ls.length (pf ls) = true := by
    unfold isPolyB at hp; simp only [Bool.and_eq_true] at hp; exact hp.2.2
  have := ((locB_iff h3).1 hL).least 1 (by omega) (by omega)
  rw [hz 0 (by omega), hz 1 (by omega)] at this
  exact absurd this (by decide)

theorem mul_dil {a t : Int} (ha : -50 ≤ a) (ha' : a ≤ 50) (ht : 1 ≤ t) (ht' : t ≤ 1000) : -50000 ≤ a * t ∧ a * t ≤ 50000 := by
  have h1 := Int.mul_le_mul_of_nonneg_right ha (show 0 ≤ t by omega)
  have h2 := Int.mul_le_mul_of_nonneg_right ha' (show 0 ≤ t by omega)
  omega
end Go.Proofs.YtehhoplenloocaaGreat

/- A polygon's area is at least one half: the plain law. -/
namespace Go.Proofs.YtehhoplenloocaaGreat
open Go.RowKit

theorem area_step (a b c : List Int) : crossI b c - crossI b a + crossI c a = tn (ptOf a) (ptOf b) (ptOf c) := by
  unfold crossI tn crossP subP ptOf; simp; grind
theorem area_fan {ls : List (List Int)} (hl : locB ls.length (pf ls) = true) (h3 : 3 ≤ ls.length) : ∀ k, k + 2 ≤ ls.length →
    (k = 0 → arK ls (k + 1) + crossI (ls.getD (k + 1) []) (ls.getD 0 []) = 0) ∧ (1 ≤ k → 1 ≤ arK ls (k + 1) + crossI (ls.getD (k + 1) []) (ls.getD 0 []))
  | 0, _ => by
    refine ⟨fun _ => ?_, fun h => absurd h (by omega)⟩
    have e : arK ls 1 = 0 + arT ls 0 := rfl
    rw [e]; unfold arT
    rw [show (0 + 1) % ls.length = 1 from Nat.mod_eq_of_lt (by omega)]
    unfold crossI; simp; grind
  | k + 1, h => by
    refine ⟨fun h => absurd h (by omega), fun _ => ?_⟩
    have ih := area_fan hl h3 k (by omega)
    have ha := List.all_eq_true.1 hl (k + 1) (by rw [List.mem_range]; omega)
    have hb := (locAt_iff.1 ha).2.2
    have hc : 0 < tn (pf ls 0) (pf ls (k + 1)) (pf ls (k + 1 + 1)) := by
      rcases hb with h1 | h1 | h1
      · omega
      · omega
      · exact h1
    have e : arK ls (k + 1 + 1) = arK ls (k + 1) + arT ls (k + 1) := rfl
    have es := area_step (ls.getD 0 []) (ls.getD (k + 1) []) (ls.getD (k + 1 + 1) [])
    have et : arT ls (k + 1) = crossI (ls.getD (k + 1) []) (ls.getD (k + 1 + 1) []) := by
      unfold arT; rw [Nat.mod_eq_of_lt (by omega)]
    have ep : tn (pf ls 0) (pf ls (k + 1)) (pf ls (k + 1 + 1)) = tn (ptOf (ls.getD 0 [])) (ptOf (ls.getD (k + 1) [])) (ptOf (ls.getD (k + 1 + 1) [])) := rfl
    rw [ep, ← es] at hc
    rw [e, et]
    by_cases hk : k = 0
    · have := ih.1 hk; omega
    · have := ih.2 (by omega); omega
theorem arV_pos (ls : List (List Int)) (hp : isPolyB ls = true) : 1 ≤ arV ls := by
  obtain ⟨h3, h12, hf⟩ := isPoly_parts hp
  rw [← arL_V ls hp]
  have hl : locB ls.length (pf ls) = true := by
    unfold isPolyB at hp; simp only [Bool.and_eq_true] at hp; exact hp.2.2
  have := (area_fan hl h3 (ls.length - 2) (by omega)).2 (by omega)
  obtain ⟨m, hm⟩ : ∃ m, ls.length = m + 2 := ⟨ls.length - 2, by omega⟩
  unfold arL
  rw [hm] at this ⊢
  simp only [Nat.add_sub_cancel] at this
  have e : arK ls (m + 2) = arK ls (m + 1) + arT ls (m + 1) := rfl
  have et : arT ls (m + 1) = crossI (ls.getD (m + 1) []) (ls.getD 0 []) := by
    unfold arT; rw [hm]; rw [show (m + 1 + 1) % (m + 2) = 0 from Nat.mod_self _]
  rw [e, et]; exact this
end Go.Proofs.YtehhoplenloocaaGreat

/- AtLeastPoints: the plain law and the walks. -/
namespace Go.Proofs.YtehhoplenloocaaGreat
open Go.RowKit
set_option linter.unusedVariables false
set_option linter.unusedSimpArgs false

def alT (ls : List (List Int)) (n : Int) : Nat := ((List.range 1500).find? fun t => decide (n ≤ ehI ls (t : Nat))).getD 0
def alV (ls : List (List Int)) (n : Int) : Int := if isPolyB ls && inB n 0 1000000 then (alT ls n : Int) else -1
theorem alT_eq {ls : List (List Int)} {n : Int} {t : Nat} (ht : t < 1500) (h1 : ∀ j : Nat, j < t → ehI ls j < n) (h2 : n ≤ ehI ls t) : alT ls n = t := by
  unfold alT
  have : (List.range 1500).find? (fun t => decide (n ≤ ehI ls (t : Nat))) = some t := by
    rw [List.find?_range_eq_some]
    refine ⟨by simpa using h2, by rw [List.mem_range]; exact ht, fun j hj => ?_⟩
    have := h1 j hj
    simp; omega
  rw [this]; rfl
theorem eh_big {ls : List (List Int)} (hp : isPolyB ls = true) : 1000000 ≤ ehI ls 1415 := by
  have hB := bdV_bd ls hp
  have hA := arV_pos ls hp
  unfold ehI
  generalize bdV ls = B at *
  generalize arV ls = A at *
  rw [Int.tdiv_eq_ediv_of_nonneg (by omega)]
  omega

end Go.Proofs.YtehhoplenloocaaGreat
