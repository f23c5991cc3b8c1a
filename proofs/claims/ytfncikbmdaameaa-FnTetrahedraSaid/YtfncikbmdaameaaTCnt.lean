/- The points of a stretched tetrahedron, counted: the model's walk; TetraCount, TetraInner. -/
import Derived.Test.YtfncikbmdaameaaTPts
namespace Go.Proofs.Ytfncikbmdaameaa
open Go.RowKit
set_option linter.unusedVariables false
set_option linter.unusedSimpArgs false

def eP (ls : List (List Int)) (t k : Int) (x : List Int) : Int := if fP ls t x = k then 1 else 0
theorem eP_bd (ls : List (List Int)) (t k : Int) (x : List Int) : 0 ≤ eP ls t k x ∧ eP ls t k x ≤ 1 := by unfold eP; split <;> omega
theorem gP_one (ls : List (List Int)) (t : Int) (L : List (List Int)) : ∀ k, sumK (gP ls t 1) L k = sumK (eP ls t 1) L k
  | 0 => rfl
  | k + 1 => by
    rw [sumK, sumK, gP_one ls t L k]
    have := fP_bd ls t (L.getD k [])
    unfold gP eP
    congr 1
    by_cases e : fP ls t (L.getD k []) = 1
    · rw [if_pos e, if_pos (by omega)]
    · rw [if_neg e, if_neg (by omega)]
theorem gP_zero (ls : List (List Int)) (t : Int) (L : List (List Int)) : ∀ k, sumK (gP ls t 0) L k = sumK (eP ls t 1) L k + sumK (eP ls t 0) L k
  | 0 => rfl
  | k + 1 => by
    rw [sumK, sumK, sumK, gP_zero ls t L k]
    have := fP_bd ls t (L.getD k [])
    unfold gP eP
    rcases this with e | e | e <;> rw [e] <;> simp <;> omega

set_option maxRecDepth 100000 in
set_option maxHeartbeats 8000000 in
theorem l13Count_any (ls : List (List Int)) (t : Int) (v : Value) (hb : Nat) (w : World) (h : ISSr w hb v ls) (hhb : hb ≤ w.heap.size) (hF : Four 4 ls) (h1 : 1 ≤ t) (h4 : t ≤ 4) :
    Calls Try.prog 159 #[v, .int .i64 t] w fun e w' => e = .returned (.tuple #[.int .i64 (sumK (eP ls t 1) (allK 0 (4 * t) 3) (allK 0 (4 * t) 3).length), .int .i64 (sumK (eP ls t 0) (allK 0 (4 * t) 3) (allK 0 (4 * t) 3).length)]) ∧ Below w.heap.size w w' := by
  have LT := l5All_any 3 0 (4 * t) w (by omega) (fun k hk => allK_big h1 h4 k hk) (by omega) (by omega) (by omega)
  have HR := Lib.hid (allK_row 0 (4 * t) 3)
  have HI := Lib.hid (allK_in 0 (4 * t) 3)
  have hbig := allK_big h1 h4 3 (Nat.le_refl _)
  have HST := Lib.hid (show ∀ k j, sumK (eP ls t j) (allK 0 (4 * t) 3) (k + 1) = sumK (eP ls t j) (allK 0 (4 * t) 3) k + (if fP ls t ((allK 0 (4 * t) 3).getD k []) = j then 1 else 0) from fun _ _ => rfl)
  have HP := Lib.hid (fun x => fP_bd ls t x)
  have TH := Lib.hid (fun W vx x hbx (B : Below w.heap.size w W) (ix : ISr W hbx vx x) (hbw : hb ≤ hbx) (hbW : hbx ≤ W.heap.size) (hx : x.length = 3 ∧ allIn x (-1000) 1000 = true) => (show Calls Try.prog 157 #[v, vx, .int .i64 t] W fun e w' => e = .returned (.int .i64 (fP ls t x)) ∧ Below W.heap.size W w' from l13Place_any ls x t v vx hbx W ((h.keep B hhb).upto hbw) ix hbW hF hx (by omega) h4))
  have HS0 := Lib.hid (show ∀ j, sumK (eP ls t j) (allK 0 (4 * t) 3) 0 = 0 from fun _ => rfl)
  have LB0 := fun W => (show Calls Try.prog 112 #[.bool false] W fun e w' => e = .returned (.int .i64 0) ∧ W = w' from l1Bit_any false W)
  have LB1 := fun W => (show Calls Try.prog 112 #[.bool true] W fun e w' => e = .returned (.int .i64 1) ∧ W = w' from l1Bit_any true W)
  have hw := wr64 (4 * t) (by omega)
  obtain ⟨av, cv, rfl, -⟩ := id h
  generalize hL : allK 0 (4 * t) 3 = L at *
  obtain ⟨n, hn⟩ : ∃ n, n = L.length := ⟨_, rfl⟩
  rw [← hn] at hbig ⊢
  have HN := Lib.hid hn
  clear hn h hF hL
  go_enter Try.func159, Try.ntmps159
  go_wp2_with fail
  refine LT.mono ?_
  rintro e w3 ⟨ub, rfl, kb, c3⟩
  have B3 := Lib.hid c3
  have hz3 := c3.size
  obtain ⟨ao, co, hov, -, -, hco⟩ := kb.is.read
  rw [← HN.out] at hov
  have HCO := Lib.hid hco
  subst hov
  clear kb c3 hco LT
  go_wp2
  go_loopw [6, 7, 9, 10] (fun s s2 i _ wr => ∃ (k : Nat) (c c2 : Int), k ≤ n ∧ i = .int .i64 k ∧ s = .int .i64 c ∧ s2 = .int .i64 c2 ∧ Hid (c = sumK (eP ls t 1) L k) ∧ Hid (c2 = sumK (eP ls t 0) L k) ∧ 0 ≤ c ∧ c ≤ k ∧ 0 ≤ c2 ∧ c2 ≤ k ∧ Hid (Below w3.heap.size w3 wr)) (fun _ _ i _ _ => n - (intOf i).toNat)
  case atStart => exact ⟨0, 0, 0, by omega, rfl, rfl, rfl, Lib.hid (HS0.out 1).symm, Lib.hid (HS0.out 0).symm, by omega, by omega, by omega, by omega, Below.refl _ _⟩
  case round =>
    obtain ⟨k, c, c2, hk, rfl, rfl, rfl, hc, hd, hc0, hck', hd0, hdk', hbe⟩ := hrel
    by_cases hlt : k < n
    · have hkl : k < L.length := by rw [← HN.out]; exact hlt
      obtain ⟨bo, oo, V, rfl, hbo, hcc⟩ := HCO.out (by intro e; rw [e] at hkl; exact absurd hkl (Nat.not_lt_zero _))
      have ck := (hbe.out.cell (p := ⟨bo, oo + k, none⟩) hbo).trans (hcc k hkl).1
      have hmem : L.getD k [] ∈ L := by rw [List.getD_eq_getElem?_getD, List.getElem?_eq_getElem hkl]; exact List.getElem_mem hkl
      have hwz := hbe.out.size
      have TC := TH.out wr (V k) (L.getD k []) w3.heap.size (B3.out.trans (hbe.out.mono hz3)) ((hcc k hkl).2.keep hbe.out (Nat.le_refl _)) (Nat.le_trans hhb hz3) hwz ⟨HR.out _ hmem, allIn_wideT (HI.out _ hmem) (by omega) (by omega)⟩
      have HSK := Lib.hid (HST.out k)
      have hy := HP.out (L.getD k [])
      clear hmem hcc hkl
      generalize fP ls t (L.getD k []) = y at *
      generalize V k = xk at *
      rcases hy with rfl | rfl | rfl
      · have HN1 := Lib.hid (show c = sumK (eP ls t 1) L (k + 1) by rw [HSK.out, hc.out]; simp)
        have HN2 := Lib.hid (show c2 = sumK (eP ls t 0) L (k + 1) by rw [HSK.out, hd.out]; simp)
        clear HSK
        go_wp2_with fail
        refine TC.mono ?_
        rintro e w5 ⟨rfl, c5⟩
        have HB5 := Lib.hid (below_then hbe.out hwz c5)
        clear c5 TC
        go_wp2_with (go_at_call 112; first | ((with_reducible refine (LB0 _).mono ?_); rintro e w' ⟨rfl, rfl⟩) | ((with_reducible refine (LB1 _).mono ?_); rintro e w' ⟨rfl, rfl⟩))
        go_roundw
        case rel => exact ⟨k + 1, _, _, by omega, by go_num, rfl, rfl, HN1, HN2, by omega, by omega, by omega, by omega, HB5⟩
        case measure => simp [intOf]; omega
      · have HN1 := Lib.hid (show c = sumK (eP ls t 1) L (k + 1) by rw [HSK.out, hc.out]; simp)
        have HN2 := Lib.hid (show c2 + 1 = sumK (eP ls t 0) L (k + 1) by rw [HSK.out, hd.out]; simp)
        clear HSK
        go_wp2_with fail
        refine TC.mono ?_
        rintro e w5 ⟨rfl, c5⟩
        have HB5 := Lib.hid (below_then hbe.out hwz c5)
        clear c5 TC
        go_wp2_with (go_at_call 112; first | ((with_reducible refine (LB0 _).mono ?_); rintro e w' ⟨rfl, rfl⟩) | ((with_reducible refine (LB1 _).mono ?_); rintro e w' ⟨rfl, rfl⟩))
        go_roundw
        case rel => exact ⟨k + 1, _, _, by omega, by go_num, rfl, rfl, HN1, HN2, by omega, by omega, by omega, by omega, HB5⟩
        case measure => simp [intOf]; omega
      · have HN1 := Lib.hid (show c + 1 = sumK (eP ls t 1) L (k + 1) by rw [HSK.out, hc.out]; simp)
        have HN2 := Lib.hid (show c2 = sumK (eP ls t 0) L (k + 1) by rw [HSK.out, hd.out]; simp)
        clear HSK
        go_wp2_with fail
        refine TC.mono ?_
        rintro e w5 ⟨rfl, c5⟩
        have HB5 := Lib.hid (below_then hbe.out hwz c5)
        clear c5 TC
        go_wp2_with (go_at_call 112; first | ((with_reducible refine (LB0 _).mono ?_); rintro e w' ⟨rfl, rfl⟩) | ((with_reducible refine (LB1 _).mono ?_); rintro e w' ⟨rfl, rfl⟩))
        go_roundw
        case rel => exact ⟨k + 1, _, _, by omega, by go_num, rfl, rfl, HN1, HN2, by omega, by omega, by omega, by omega, HB5⟩
        case measure => simp [intOf]; omega
    · obtain rfl : k = n := by omega
      have HBB := Lib.hid (B3.out.trans (hbe.out.mono hz3))
      have HC := Lib.hid hc.out
      go_wp2
      go_ret2
      exact ⟨by rw [hc.out, hd.out]; rfl, HBB.out⟩
end Go.Proofs.Ytfncikbmdaameaa
