/- The points of a stretched tetrahedron, counted: the walks. -/
import Derived.Test.YtfncikbmdaameaaAll
import Derived.Test.YtfncikbmdaameaaTetH
import Derived.Test.YtfncikbmdaameaaB2
namespace Go.Proofs.Ytfncikbmdaameaa
open Go.RowKit
set_option linter.unusedVariables false
set_option linter.unusedSimpArgs false

theorem allK_in (lo hi : Int) : ∀ k, ∀ r ∈ allK lo hi k, allIn r lo hi = true
  | 0, r, h => by simp [allK] at h; rw [h]; rfl
  | k + 1, r, h => by
    rw [allK, stepL, List.mem_flatMap] at h
    obtain ⟨v, hv, hr⟩ := h
    unfold longer at hr
    rw [List.mem_map] at hr
    obtain ⟨i, hii, rfl⟩ := hr
    rw [List.mem_range] at hii
    have := allK_in lo hi k v hv
    unfold allIn at *
    rw [List.all_append, this]
    simp [inB]; omega
theorem allK_big {t : Int} (h1 : 1 ≤ t) (h4 : t ≤ 4) : ∀ k, k ≤ 3 → (allK 0 (4 * t) k).length ≤ 1000000 := by
  intro k hk
  have e : ∀ k, (allK 0 (4 * t) (k + 1)).length = (allK 0 (4 * t) k).length * (4 * t + 1 - 0).toNat := fun k => by rw [allK, stepL_len]
  have e0 : (allK 0 (4 * t) 0).length = 1 := rfl
  have hc : (4 * t + 1 - 0).toNat ≤ 17 := by omega
  have a1 : (allK 0 (4 * t) 1).length ≤ 17 := by rw [e, e0]; omega
  have a2 : (allK 0 (4 * t) 2).length ≤ 17 * 17 := by rw [e]; exact Nat.mul_le_mul a1 hc
  have a3 : (allK 0 (4 * t) 3).length ≤ 17 * 17 * 17 := by rw [e]; exact Nat.mul_le_mul a2 hc
  match k, hk with
  | 0, _ => rw [e0]; omega
  | 1, _ => omega
  | 2, _ => omega
  | 3, _ => omega
def sumK (g : List Int → Int) (l : List (List Int)) : Nat → Int
  | 0 => 0
  | k + 1 => sumK g l k + g (l.getD k [])
theorem sumK_bd {g : List Int → Int} {l : List (List Int)} (h : ∀ x, 0 ≤ g x ∧ g x ≤ 1) : ∀ k, 0 ≤ sumK g l k ∧ sumK g l k ≤ k
  | 0 => by simp [sumK]
  | k + 1 => by
    have := sumK_bd (l := l) h k
    have := h (l.getD k [])
    rw [sumK]; omega
def fP (ls : List (List Int)) (t : Int) (x : List Int) : Int := placeN (sS ls x t) 4
def gP (ls : List (List Int)) (t pl : Int) (x : List Int) : Int := if pl ≤ fP ls t x then 1 else 0
theorem gP_bd (ls : List (List Int)) (t pl : Int) (x : List Int) : 0 ≤ gP ls t pl x ∧ gP ls t pl x ≤ 1 := by unfold gP; split <;> omega
theorem lat_all (m : Int) : latL [0, 0, 0] [m, m, m] = allK 0 m 3 := rfl
theorem latK_all (m : Int) : ∀ k, k ≤ 3 → latK [0, 0, 0] [m, m, m] k = allK 0 m k := by
  intro k hk
  match k, hk with
  | 0, _ => rfl
  | 1, _ => rfl
  | 2, _ => rfl
  | 3, _ => rfl
theorem fP_bd (ls : List (List Int)) (t : Int) (x : List Int) : fP ls t x = -1 ∨ fP ls t x = 0 ∨ fP ls t x = 1 := by
  unfold fP placeN
  split
  · exact .inr (plc_bd _ _)
  · exact .inl rfl

set_option maxRecDepth 100000 in
set_option maxHeartbeats 8000000 in
theorem tetraPoints_any (ls : List (List Int)) (t pl : Int) (v : Value) (hb : Nat) (w : World) (h : ISSr w hb v ls) (hhb : hb ≤ w.heap.size) (hF : Four 4 ls) (h1 : 1 ≤ t) (h4 : t ≤ 4) :
    Calls Try.prog 158 #[v, .int .i64 t, .int .i64 pl] w fun e w' => e = .returned (.int .i64 (sumK (gP ls t pl) (allK 0 (4 * t) 3) (allK 0 (4 * t) 3).length)) ∧ Below w.heap.size w w' := by
  obtain ⟨hF5, hpr⟩ := hF.times (t := t) (by omega) (by omega)
  have TM := times_any ls t v hb w h hhb (by rw [hF.1]; omega) (by rw [hF.1]; omega) hpr
  have LT := fun W B1 B2 (i1 : IS W B1 B2 (.slice (some ⟨B1, 0, none⟩) 3 3) [0, 0, 0]) v2 (i2 : ISr W W.heap.size v2 [4 * t, 4 * t, 4 * t]) (hB : B2 ≤ W.heap.size) => lattice_any [0, 0, 0] [4 * t, 4 * t, 4 * t] _ v2 W.heap.size W (i1.read.upto hB) i2 (Nat.le_refl _) (Nat.le_refl _) (by simp) (fun k hk => by rw [latK_all _ k hk]; exact allK_big h1 h4 k hk) (fun k hk => by
    match k, hk with
    | 0, _ => simp; omega
    | 1, _ => simp; omega
    | 2, _ => simp; omega)
  rw [lat_all] at LT
  have HR := Lib.hid (allK_row 0 (4 * t) 3)
  have HI := Lib.hid (allK_in 0 (4 * t) 3)
  have hbig := allK_big h1 h4 3 (Nat.le_refl _)
  have HBD := Lib.hid (sumK_bd (l := allK 0 (4 * t) 3) (gP_bd ls t pl))
  have HST := Lib.hid (show ∀ k, sumK (gP ls t pl) (allK 0 (4 * t) 3) (k + 1) = sumK (gP ls t pl) (allK 0 (4 * t) 3) k + gP ls t pl ((allK 0 (4 * t) 3).getD k []) from fun _ => rfl)
  have HG := Lib.hid (show ∀ x, gP ls t pl x = if pl ≤ placeN (sS ls x t) 4 then 1 else 0 from fun _ => rfl)
  have TH := Lib.hid (fun W u vx x hbx (hu : ISSr W hbx u (timesL ls t)) (ix : ISr W hbx vx x) (hbw : hbx ≤ W.heap.size) (hx : x.length = 3 ∧ allIn x (-50000) 50000 = true) => (show Calls Try.prog 155 #[u, vx] W fun e w' => e = .returned (.int .i64 (placeN (sS ls x t) 4)) ∧ Below W.heap.size W w' from by
    rw [← tet_place hF.1 (fun i hi => (hF.getD i hi).1) hx.1 (by omega)]
    exact tetraHas_any (timesL ls t) x u vx hbx W hu ix hbw hF5 hx))
  have HS0 := Lib.hid (show sumK (gP ls t pl) (allK 0 (4 * t) 3) 0 = 0 from rfl)
  have hw := wr64 (4 * t) (by omega)
  obtain ⟨av, cv, rfl, -⟩ := id h
  generalize hL : allK 0 (4 * t) 3 = L at *
  obtain ⟨n, hn⟩ : ∃ n, n = L.length := ⟨_, rfl⟩
  rw [← hn] at hbig ⊢
  have HN := Lib.hid hn
  clear hn h hF hF5 hpr hL
  go_enter Try.func158, Try.ntmps158
  go_wp2_with fail
  refine TM.mono ?_
  rintro e w1 ⟨uq, rfl, kq, c1⟩
  have KQ := Lib.hid kq.read
  have B1 := Lib.hid c1
  clear TM kq c1
  have IA := IS.lit3 w1 w1.heap.size (Nat.le_refl _) 0 0 0
  have IA2 := Lib.hid (IA.keep (below1 _ (.cells #[.int .i64 (4 * t), .int .i64 (4 * t), .int .i64 (4 * t)] 3)) (by simp))
  have IB2 := Lib.hid (IS.lit3 (w1.alloc (.cells #[.int .i64 0, .int .i64 0, .int .i64 0] 3)) w1.heap.size (by simp) (4 * t) (4 * t) (4 * t))
  have B12 := Lib.hid (((Below.refl w1.heap.size w1).alloc (Nat.le_refl _) (.cells #[.int .i64 0, .int .i64 0, .int .i64 0] 3)).alloc (by simp) (.cells #[.int .i64 (4 * t), .int .i64 (4 * t), .int .i64 (4 * t)] 3))
  clear IA
  simp only [World.size_alloc] at IA2 IB2 B12
  go_wp2_with fail
  refine (LT _ _ _ IA2.out _ (IB2.out.read.upto (by simp)) (by simp)).mono ?_
  rintro e w3 ⟨ub, rfl, kb, c3⟩
  have c3' : Below w1.heap.size w1 w3 := B12.out.trans (c3.mono B12.out.size)
  have hz3 := c3'.size
  have KQ3 := Lib.hid ((KQ.out.keep c3' (Nat.le_refl _)).upto hz3)
  have B3 := Lib.hid (B1.out.trans (c3'.mono B1.out.size))
  obtain ⟨ao, co, hov, -, -, hco⟩ := kb.is.read
  rw [← HN.out] at hov
  have HCO := Lib.hid hco
  subst hov
  clear kb c3 c3' hco LT IA2 IB2 B12 KQ B1
  go_wp2
  go_loopw [7, 11, 24] (fun s _ i wr => ∃ (k : Nat) (c : Int), k ≤ n ∧ i = .int .i64 k ∧ s = .int .i64 c ∧ Hid (c = sumK (gP ls t pl) L k) ∧ 0 ≤ c ∧ c ≤ k ∧ Hid (Below w3.heap.size w3 wr)) (fun _ _ i _ => n - (intOf i).toNat)
  case atStart => exact ⟨0, 0, by omega, rfl, rfl, Lib.hid HS0.out.symm, by omega, by omega, Below.refl _ _⟩
  case round =>
    obtain ⟨k, c, hk, rfl, rfl, hc, hc0, hck', hbe⟩ := hrel
    by_cases hlt : k < n
    · have hkl : k < L.length := by rw [← HN.out]; exact hlt
      obtain ⟨bo, oo, V, rfl, hbo, hcc⟩ := HCO.out (by intro e; rw [e] at hkl; exact absurd hkl (Nat.not_lt_zero _))
      have ck := (hbe.out.cell (p := ⟨bo, oo + k, none⟩) hbo).trans (hcc k hkl).1
      have hmem : L.getD k [] ∈ L := by rw [List.getD_eq_getElem?_getD, List.getElem?_eq_getElem hkl]; exact List.getElem_mem hkl
      have hwz := hbe.out.size
      have TC := TH.out wr uq (V k) (L.getD k []) w3.heap.size (KQ3.out.keep hbe.out (Nat.le_refl _)) ((hcc k hkl).2.keep hbe.out (Nat.le_refl _)) hwz ⟨HR.out _ hmem, allIn_wideT (HI.out _ hmem) (by omega) (by omega)⟩
      have HSK := Lib.hid (HST.out k)
      rw [HG.out] at HSK
      clear hmem hcc hkl
      generalize placeN (sS ls (L.getD k []) t) 4 = y at *
      generalize V k = xk at *
      by_cases hy : pl ≤ y
      · have HNX := Lib.hid (show c + 1 = sumK (gP ls t pl) L (k + 1) by rw [HSK.out, if_pos hy, hc.out])
        clear HSK
        go_wp2_with fail
        refine TC.mono ?_
        rintro e w5 ⟨rfl, c5⟩
        have HB5 := Lib.hid (below_then hbe.out hwz c5)
        clear c5 TC
        go_wp2
        go_roundw
        case rel => exact ⟨k + 1, c + 1, by omega, by go_num, rfl, HNX, by omega, by omega, HB5⟩
        case measure => simp [intOf]; omega
      · have HNX := Lib.hid (show c = sumK (gP ls t pl) L (k + 1) by rw [HSK.out, if_neg hy, hc.out, Int.add_zero])
        clear HSK
        go_wp2_with fail
        refine TC.mono ?_
        rintro e w5 ⟨rfl, c5⟩
        have HB5 := Lib.hid (below_then hbe.out hwz c5)
        clear c5 TC
        go_wp2
        go_roundw
        case rel => exact ⟨k + 1, c, by omega, by go_num, rfl, HNX, by omega, by omega, HB5⟩
        case measure => simp [intOf]; omega
    · obtain rfl : k = n := by omega
      have HBB := Lib.hid (B3.out.trans (hbe.out.mono B3.out.size))
      go_wp2
      go_ret
      exact ⟨ret_int hc.out, HBB.out⟩
end Go.Proofs.Ytfncikbmdaameaa
