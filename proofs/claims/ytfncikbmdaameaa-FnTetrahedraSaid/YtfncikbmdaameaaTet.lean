/- Tetrahedra: the walks of the program. -/
import Derived.Test.YtfncikbmdaameaaTetM
import Derived.Test.YtfncikbmdaameaaB4
import Derived.Deep.RegionHeld3
import Derived.Deep.RegionWith
namespace Go.Proofs.Ytfncikbmdaameaa
open Go.RowKit
set_option linter.unusedVariables false
set_option linter.unusedSimpArgs false

/-- the calls of a region that takes the determinant of the differences -/
theorem DiffCalls {ls : List (List Int)} {w : World} {hb B : Nat} {v1 v0 : Value} (hF : Four 50000 ls) (i1 : ISSr w hb v1 (ls.drop 1)) (i0 : ISr w hb v0 (ls.getD 0 [])) (hhb : hb ≤ B) :
    (∀ W, Below B w W → B ≤ W.heap.size → Calls Try.prog 162 #[v1, v0] W fun e w' => ∃ u, e = .returned u ∧ OwnL w' W.heap.size u (edgesF ls) ∧ Below W.heap.size W w') :=
  fun W c hB => differences_any (ls.drop 1) (ls.getD 0 []) v1 v0 hb W (i1.keep c hhb) (i0.keep c hhb) (Nat.le_trans hhb hB) (by rw [List.length_drop, hF.1]; omega) (hF.getD 0 (by omega)).1 (allIn_wideT (hF.getD 0 (by omega)).2 (by omega) (by omega))
    (fun i hi => ⟨(hF.drop i hi).1, allIn_wideT (hF.drop i hi).2 (by omega) (by omega)⟩)
theorem DetCall {ls : List (List Int)} (hF : Four 50000 ls) (W : World) (u : Value) (B : Nat) (ku : OwnL W B u (edgesF ls)) :
    Calls Try.prog 161 #[u] W fun e w' => e = .returned (.int .i64 (det3 (edgesF ls))) ∧ Below W.heap.size W w' := by
  rw [← detF_three (edgesF_sq hF)]
  exact det_any 3 (by omega) (edgesF ls) u W.heap.size W ku.is.read (Nat.le_refl _) (edgesF_sq hF)

set_option maxHeartbeats 4000000 in
theorem implIsTetra_any (ls : List (List Int)) (v : Value) (hb : Nat) (w : World) (h : ISSr w hb v ls) (hhb : hb ≤ w.heap.size) :
    Calls Try.prog 92 #[v] w fun e w' => e = .returned (.bool (tetraB ls)) ∧ Below w.heap.size w w' := by
  by_cases h4 : ls.length = 4
  case neg =>
    obtain ⟨a, cap, rfl, -⟩ := id h
    rw [tetraB_len h4]
    have hne : ((ls.length : Int) != 4) = true := by rw [bne_iff_ne]; omega
    clear h
    generalize ls.length = n at *
    go_enter Try.func92, Try.ntmps92
    go_wp2
    go_ret
    exact ⟨rfl, Below.refl _ _⟩
  case pos =>
    obtain ⟨b, off, cap, V, rfl, hbb, hcap, hcell, h1⟩ := h.four h4
    have HC := Lib.hid hcell
    have HL := Lib.hid (fun (i : Nat) => tetraB_row (p := ls) (i := i))
    have HD := Lib.hid (fun hF => DiffCalls (ls := ls) (B := w.heap.size) hF h1 (hcell 0 (by omega)).2 hhb)
    have hc0 := (hcell 0 (by omega)).1
    rw [Nat.add_zero] at hc0
    have H4 := Lib.hid h4
    have hcap1 : ¬ cap = 1 := by omega
    clear h h1 hcell h4
    go_enter Try.func92, Try.ntmps92
    go_wp2
    go_loop [4, 10] (fun _ i => ∃ k : Nat, k ≤ 4 ∧ i = .int .i64 k ∧ Hid (∀ i, i < k → tetRow (ls.getD i []) = true)) (fun _ i => 4 - (intOf i).toNat)
    case atStart => exact ⟨0, by omega, rfl, Lib.hid (fun i hi => absurd hi (Nat.not_lt_zero _))⟩
    case round =>
      obtain ⟨k, hk, rfl, hall⟩ := hrel
      by_cases hlt : k < 4
      · obtain ⟨ck, rk⟩ := HC.out k hlt
        obtain ⟨ar, cr, hvr, -⟩ := id rk
        have AW := allWithin_any (ls.getD k []) (V k) 0 4 hb w rk
        have HBAD := Lib.hid (fun hf => HL.out k (by rw [H4.out]; exact hlt) hf)
        have HR := Lib.hid (show tetRow (ls.getD k []) = (decide ((ls.getD k []).length = 3) && allIn (ls.getD k []) 0 4) from rfl)
        rw [hvr] at AW ck
        have hd : ((ls.getD k []).length = 3 ∧ (((ls.getD k []).length : Int) != 3) = false) ∨ ((ls.getD k []).length ≠ 3 ∧ (((ls.getD k []).length : Int) != 3) = true) := by
          by_cases e : (ls.getD k []).length = 3
          · exact .inl ⟨e, by rw [e]; rfl⟩
          · exact .inr ⟨e, by rw [bne_iff_ne]; omega⟩
        clear rk hvr
        generalize hln : (ls.getD k []).length = m at *
        clear hln
        rcases hd with ⟨rfl, hd⟩ | ⟨hm, hd⟩
        · cases haw : allIn (ls.getD k []) 0 4
          · rw [haw] at AW
            have HB2 := Lib.hid (HBAD.out (by rw [HR.out, haw]; rfl))
            clear haw HBAD HR
            go_wp2_with fail
            refine AW.mono ?_
            rintro e w' ⟨rfl, rfl⟩
            go_wp2
            go_ret
            exact ⟨ret_bool HB2.out.symm, Below.refl _ _⟩
          · rw [haw] at AW
            have HG := Lib.hid (show tetRow (ls.getD k []) = true by rw [HR.out, haw]; rfl)
            clear haw HBAD HR
            go_wp2_with fail
            refine AW.mono ?_
            rintro e w' ⟨rfl, rfl⟩
            go_wp2
            go_round
            case rel => exact ⟨k + 1, by omega, by go_num, Lib.hid (fun i hi => if e : i = k then by rw [e]; exact HG.out else hall.out i (by omega))⟩
            case measure => simp [intOf]; omega
        · have HB2 := Lib.hid (HBAD.out (by rw [HR.out, decide_eq_false hm]; rfl))
          clear HBAD HR hm AW
          go_wp2
          go_ret
          exact ⟨ret_bool HB2.out.symm, Below.refl _ _⟩
      · obtain rfl : k = 4 := by omega
        have HF := Lib.hid ((tet_four H4.out (by rw [H4.out]; exact hall.out)).wide (b := 50000) (by omega))
        have HT := Lib.hid (tetraB_eq H4.out (by rw [H4.out]; exact hall.out))
        have PD := HD.out HF.out
        have PE := fun W u B ku => DetCall HF.out W u B ku
        generalize V 0 = x0 at *
        go_wp2_with fail
        have Bd : Below w.heap.size w w.drew := below_draws _ w 1
        go_region_held3 (fun w' => w'.cell? ⟨b, off, none⟩ = some x0) (first | assumption | exact hc0 | exact z0 | exact y0) (first | (go_at_call 162; (with_reducible refine (PD _ Bd Bd.size).mono ?_); rintro e w2 ⟨u, rfl, ku, c2⟩; have B2 := below_then Bd Bd.size c2; have z0 := (B2.cell (p := ⟨b, off, none⟩) (Nat.lt_of_lt_of_le hbb hhb)).trans hc0) | (go_at_call 161; (with_reducible refine (PE _ _ _ ku).mono ?_); rintro e w3 ⟨rfl, c3⟩; have B3 := below_then B2 B2.size c3; have y0 := (B3.cell (p := ⟨b, off, none⟩) (Nat.lt_of_lt_of_le hbb hhb)).trans hc0))
        go_wp2
        go_ret
        exact ⟨ret_bool HT.out.symm, B3⟩
end Go.Proofs.Ytfncikbmdaameaa
