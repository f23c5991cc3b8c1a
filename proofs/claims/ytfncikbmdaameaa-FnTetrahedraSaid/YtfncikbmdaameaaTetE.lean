/- Tetrahedra: the edges of the model, IsTetra and VolumeSix of the model. -/
import Derived.Test.YtfncikbmdaameaaTetS
namespace Go.Proofs.Ytfncikbmdaameaa
open Go.RowKit
set_option linter.unusedVariables false
set_option linter.unusedSimpArgs false

theorem zip_diff3 {x f : List Int} (hx : x.length = 3) (hf : f.length = 3) : List.zipWith (· - ·) x f = diff3 x f := by
  obtain ⟨a, b, c, rfl⟩ := len3 hx
  obtain ⟨a', b', c', rfl⟩ := len3 hf
  rfl
theorem edgesF_lay {p : List (List Int)} (h : p.length = 4) : edgesF p = [diff3 (p.getD 1 []) (p.getD 0 []), diff3 (p.getD 2 []) (p.getD 0 []), diff3 (p.getD 3 []) (p.getD 0 [])] := by
  obtain ⟨a, b, c, d, rfl⟩ := len4 h
  rfl
theorem ISSr.lit3 {w : World} {hi : Nat} {u1 u2 u3 : Value} {r1 r2 r3 : List Int} (h1 : ISr w hi u1 r1) (h2 : ISr w hi u2 r2) (h3 : ISr w hi u3 r3) (hhi : hi ≤ w.heap.size) :
    ISSr (w.alloc (.cells #[u1, u2, u3] 46)) (w.heap.size + 1) (.slice (some ⟨w.heap.size, 0, none⟩) 3 3) [r1, r2, r3] := by
  have bl := below1 w (.cells #[u1, u2, u3] 46)
  have bk : BK (w.alloc (.cells #[u1, u2, u3] 46)) w.heap.size 0 3 46 (fun i => (#[u1, u2, u3] : Array Value).getD i (.int .i64 0)) := ⟨_, heap_alloc_new w _, fun i hi => by
    match i, hi with
    | 0, _ => rfl
    | 1, _ => rfl
    | 2, _ => rfl⟩
  have hk : ∀ {v : Value} {l : List Int}, ISr w hi v l → ISr (w.alloc (.cells #[u1, u2, u3] 46)) (w.heap.size + 1) v l := fun h => (h.keep bl hhi).upto (by omega)
  refine ⟨_, 3, rfl, Nat.le_refl _, by simp [maxLen], fun _ => ⟨w.heap.size, 0, _, rfl, by omega, fun i hi' => ⟨bk.cell hi', ?_⟩⟩⟩
  match i, hi' with
  | 0, _ => exact hk h1
  | 1, _ => exact hk h2
  | 2, _ => exact hk h3

set_option maxHeartbeats 4000000 in
theorem l13Edges_any (ls : List (List Int)) (v : Value) (hb : Nat) (w : World) (h : ISSr w hb v ls) (hhb : hb ≤ w.heap.size) (hF : Four 50000 ls) :
    Calls Try.prog 165 #[v] w fun e w' => ∃ u, e = .returned u ∧ ISSr w' w'.heap.size u (edgesF ls) ∧ Below w.heap.size w w' := by
  obtain ⟨b, off, cap, V, rfl, hbb, -, hc, -⟩ := h.four hF.1
  obtain ⟨x0, i0⟩ := hc 0 (by omega)
  obtain ⟨x1, i1⟩ := hc 1 (by omega)
  obtain ⟨x2, i2⟩ := hc 2 (by omega)
  obtain ⟨x3, i3⟩ := hc 3 (by omega)
  rw [Nat.add_zero] at x0
  have E1 := Lib.hid (edgesF_lay hF.1)
  have key : ∀ i, i < 4 → ISr w hb (V i) (ls.getD i []) → ∀ W, Below w.heap.size w W → Calls Try.prog 145 #[V i, V 0] W fun e w' => ∃ u, e = .returned u ∧ IS w' W.heap.size w'.heap.size u (diff3 (ls.getD i []) (ls.getD 0 [])) ∧ Below W.heap.size W w' := by
    intro i hi ii W B
    obtain ⟨li, bi⟩ := hF.getD i hi
    obtain ⟨l0, b0⟩ := hF.getD 0 (by omega)
    have := l2Less_any (ls.getD i []) (ls.getD 0 []) (V i) (V 0) hb W (ii.keep B hhb) (i0.keep B hhb) (Nat.le_trans hhb B.size) (by omega) (by omega) (fun k hk => by
      have p := allIn_at bi k hk
      have q := allIn_at b0 k (by omega)
      omega)
    rwa [zip_diff3 li l0] at this
  have P1 := key 1 (by omega) i1
  have P2 := key 2 (by omega) i2
  have P3 := key 3 (by omega) i3
  clear key i0 i1 i2 i3 hc hF h
  generalize V 0 = y0 at *
  generalize V 1 = y1 at *
  generalize V 2 = y2 at *
  generalize V 3 = y3 at *
  have hlt : b < w.heap.size := Nat.lt_of_lt_of_le hbb hhb
  have cc : ∀ W, Below w.heap.size w W → W.cell? ⟨b, off, none⟩ = some y0 ∧ W.cell? ⟨b, off + 1, none⟩ = some y1 ∧ W.cell? ⟨b, off + 2, none⟩ = some y2 ∧ W.cell? ⟨b, off + 3, none⟩ = some y3 := fun W B => ⟨(B.cell (p := ⟨b, off, none⟩) hlt).trans x0, (B.cell (p := ⟨b, off + 1, none⟩) hlt).trans x1, (B.cell (p := ⟨b, off + 2, none⟩) hlt).trans x2, (B.cell (p := ⟨b, off + 3, none⟩) hlt).trans x3⟩
  have CC := Lib.hid cc
  clear cc
  go_enter Try.func165, Try.ntmps165
  go_wp2_with fail
  have Bd : Below w.heap.size w w.drew := below_draws _ w 1
  go_region_held3 (fun w' => w'.cell? ⟨b, off, none⟩ = some y0 ∧ w'.cell? ⟨b, off + 1, none⟩ = some y1 ∧ w'.cell? ⟨b, off + 2, none⟩ = some y2 ∧ w'.cell? ⟨b, off + 3, none⟩ = some y3)
    (first | exact CC.out _ B4 | exact CC.out _ B3 | exact CC.out _ B2 | exact CC.out _ Bd | exact CC.out _ (B4.trans (below_draws _ _ 1)) | exact ⟨x0, x1, x2, x3⟩ | exact CC.out _ (B4.alloc B4.size _))
    (first
      | (go_at_call 145; (with_reducible refine (P1 _ Bd).mono ?_); rintro e w2 ⟨u1, rfl, k1, c2⟩; obtain ⟨a1, p1, rfl, -⟩ := id k1; have K1 := Lib.hid k1; have B2 := below_then Bd Bd.size c2)
      | (go_at_call 145; (with_reducible refine (P2 _ B2).mono ?_); rintro e w3 ⟨u2, rfl, k2, c3⟩; obtain ⟨a2, p2, rfl, -⟩ := id k2; have K2 := Lib.hid k2; have B3 := below_then B2 B2.size c3)
      | (go_at_call 145; (with_reducible refine (P3 _ B3).mono ?_); rintro e w4 ⟨u3, rfl, k3, c4⟩; obtain ⟨a3, p3, rfl, -⟩ := id k3; have K3 := Lib.hid k3; have B4 := below_then B3 B3.size c4))
  have R1 := (K1.out.keep (c3.trans (c4.mono c3.size)) (Nat.le_refl _)).read
  have R2 := (K2.out.keep c4 (Nat.le_refl _)).read
  have hz2 := c3.size
  have hz3 := c4.size
  have HI := Lib.hid (ISSr.lit3 (w := w4) (hi := w4.heap.size) (R1.upto (by omega)) (R2.upto (by omega)) (K3.out.read) (Nat.le_refl _))
  have HB := Lib.hid (B4.alloc B4.size (.cells #[.slice a1 (diff3 (ls.getD 1 []) (ls.getD 0 [])).length p1, .slice a2 (diff3 (ls.getD 2 []) (ls.getD 0 [])).length p2, .slice a3 (diff3 (ls.getD 3 []) (ls.getD 0 [])).length p3] 46))
  go_wp2
  go_ret
  refine ⟨_, rfl, by rw [E1.out, World.size_alloc]; exact HI.out, HB.out⟩

theorem tetRow_lay {r : List Int} (h : r.length = 3) : tetRow r = allIn r 0 4 := by unfold tetRow; rw [decide_eq_true h]; rfl
set_option maxHeartbeats 4000000 in
theorem specIsTetra_any (ls : List (List Int)) (v : Value) (hb : Nat) (w : World) (h : ISSr w hb v ls) (hhb : hb ≤ w.heap.size) :
    Calls Try.prog 93 #[v] w fun e w' => e = .returned (.bool (tetraB ls)) ∧ Below w.heap.size w w' := by
  have hlen : (ls.length : Int) ≤ 9223372036854775807 := by
    obtain ⟨a, cap, -, h1, h2, -⟩ := id h
    unfold maxLen at h2; omega
  have HI := Lib.hid h
  have HTAIL := Lib.hid (fun (h4 : ls.length = 4) (ha : ∀ i, i < ls.length → tetRow (ls.getD i []) = true) => (show (tetraB ls = (det3 (edgesF ls) != 0)) ∧ (∀ W, Below w.heap.size w W → Calls Try.prog 165 #[v] W fun e w' => ∃ u, e = .returned u ∧ ISSr w' w'.heap.size u (edgesF ls) ∧ Below W.heap.size W w') ∧ (∀ W u, ISSr W W.heap.size u (edgesF ls) → Calls Try.prog 164 #[u] W fun e w' => e = .returned (.int .i64 (det3 (edgesF ls))) ∧ Below W.heap.size W w') from by
    have hF := (tet_four h4 ha).wide (b := 50000) (by omega)
    exact ⟨tetraB_eq h4 ha, fun W B => l13Edges_any ls v hb W (h.keep B hhb) (Nat.le_trans hhb B.size) hF, fun W u hu => toBelow (l3Det_any _ u W.heap.size W hu (edgesF_sq hF))⟩))
  have HBAD := Lib.hid (fun (i : Nat) => tetraB_row (p := ls) (i := i))
  have HLEN := Lib.hid (fun (h4 : ls.length ≠ 4) => tetraB_len h4)
  obtain ⟨a, cap, rfl, -, -, hcell⟩ := id h
  have HC := Lib.hid hcell
  clear h hcell
  obtain ⟨n, hn⟩ : ∃ n, n = ls.length := ⟨_, rfl⟩
  rw [← hn] at HC HBAD HLEN HTAIL HI hlen ⊢
  have HN := Lib.hid hn; clear hn
  go_enter Try.func93, Try.ntmps93
  go_wp2
  go_loop [3, 4] (fun k _ => ∃ i : Nat, i ≤ n ∧ k = .int .i64 i ∧ Hid (∀ j, j < i → tetRow (ls.getD j []) = true)) (fun k _ => n - (intOf k).toNat)
  case atStart => exact ⟨0, by omega, rfl, Lib.hid (fun i hi => absurd hi (Nat.not_lt_zero _))⟩
  case round =>
    obtain ⟨k, hk, rfl, hall⟩ := hrel
    by_cases hlt : k < n
    · obtain ⟨b, off, V, rfl, hbb, hcc⟩ := HC.out (by intro e; have := HN.out; rw [e] at this; simp at this; omega)
      obtain ⟨ck, rk⟩ := hcc k hlt
      have HB2 := Lib.hid (HBAD.out k hlt)
      have HR := Lib.hid (show (ls.getD k []).length = 3 → tetRow (ls.getD k []) = allIn (ls.getD k []) 0 4 from tetRow_lay)
      have HR3 := Lib.hid (show (ls.getD k []).length ≠ 3 → tetRow (ls.getD k []) = false from fun e => by unfold tetRow; rw [decide_eq_false e]; rfl)
      generalize hr : ls.getD k [] = r at *
      have HRR := Lib.hid hr; clear hr hcc
      generalize V k = x at *
      by_cases h3 : r.length = 3
      · obtain ⟨br, or', cr, rfl, hbr, y0, y1, y2⟩ := rk.three h3
        have HS := Lib.hid (fun j (hj : j < 3) => allIn_step r 0 4 j (by omega))
        have HFL := Lib.hid (fun j (hj : j < 3) hf => allIn_false r 0 4 j (by omega) hf)
        have HX := Lib.hid (fun j (hj : j < 3) => (show w.cell? ⟨br, or' + j, none⟩ = some (.int .i64 (r.getD j 0)) from match j, hj with
          | 0, _ => y0
          | 1, _ => y1
          | 2, _ => y2))
        have HRA := Lib.hid (HR.out h3)
        have HTK := Lib.hid (show r.take 3 = r by rw [← h3]; exact List.take_length)
        clear rk h3 y0 y1 y2 HR HR3
        go_wp2
        go_loop [4] (fun i => ∃ j : Nat, j ≤ 3 ∧ i = .int .i64 j ∧ Hid (allIn (r.take j) 0 4 = true)) (fun i => 3 - (intOf i).toNat)
        case atStart => exact ⟨0, by omega, rfl, Lib.hid rfl⟩
        case round =>
          obtain ⟨j, hj, rfl, hin⟩ := hrel
          by_cases hjt : j < 3
          · have cx := HX.out j hjt
            have HST := Lib.hid (HS.out j hjt)
            have HFX := Lib.hid (HFL.out j hjt)
            generalize r.getD j 0 = xx at *
            have HI2 := fun w => l1In_any xx 0 4 w
            cases hx : inB xx 0 4
            · rw [hx] at HI2
              have HFIN := Lib.hid (HB2.out (by rw [HRA.out]; exact HFX.out hx))
              clear hx HST HFX
              go_wp2_with (go_at_call 122; (with_reducible refine (HI2 _).mono ?_); rintro e w' ⟨rfl, rfl⟩)
              go_ret
              exact ⟨ret_bool HFIN.out.symm, Below.refl _ _⟩
            · rw [hx] at HI2
              have HNX := Lib.hid (show allIn (r.take (j + 1)) 0 4 = true by rw [HST.out, hin.out, hx]; rfl)
              clear hx HST HFX
              go_wp2_with (go_at_call 122; (with_reducible refine (HI2 _).mono ?_); rintro e w' ⟨rfl, rfl⟩)
              go_round
              case rel => exact ⟨j + 1, by omega, by go_num, HNX⟩
              case measure => simp [intOf]; omega
          · obtain rfl : j = 3 := by omega
            have HG := Lib.hid (show tetRow r = true by rw [HRA.out, ← HTK.out]; exact hin.out)
            go_wp2
            go_round
            case rel => exact ⟨k + 1, by omega, by go_num, Lib.hid (fun i hi => if e : i = k then by rw [e, HRR.out]; exact HG.out else hall.out i (by omega))⟩
            case measure => simp [intOf]; omega
      · obtain ⟨ar, cr, rfl, -⟩ := id rk
        have hne : ((r.length : Int) != 3) = true := by rw [bne_iff_ne]; omega
        have HFIN := Lib.hid (HB2.out (HR3.out h3))
        clear rk h3 HR HR3
        generalize r.length = ln at *
        go_wp2
        go_ret
        exact ⟨ret_bool HFIN.out.symm, Below.refl _ _⟩
    · obtain rfl : k = n := by omega
      by_cases h4 : k = 4
      · obtain ⟨HT, P1, P2⟩ := HTAIL.out h4 hall.out
        have HTT := Lib.hid HT
        subst h4
        clear HT
        go_wp2_with fail
        refine (P1 _ (Below.refl _ _)).mono ?_
        rintro e w2 ⟨u, rfl, ku, c2⟩
        have KU := Lib.hid ku
        clear ku P1
        go_wp2_with fail
        refine (P2 _ _ KU.out).mono ?_
        rintro e w3 ⟨rfl, c3⟩
        have HB3 := Lib.hid (below_then c2 c2.size c3)
        go_wp2
        go_ret
        exact ⟨ret_bool HTT.out.symm, HB3.out⟩
      · have HFIN := Lib.hid (HLEN.out h4)
        have hne : ((k : Int) == 4) = false := by rw [beq_eq_false_iff_ne]; omega
        go_wp2
        go_ret
        exact ⟨ret_bool HFIN.out.symm, Below.refl _ _⟩
end Go.Proofs.Ytfncikbmdaameaa
