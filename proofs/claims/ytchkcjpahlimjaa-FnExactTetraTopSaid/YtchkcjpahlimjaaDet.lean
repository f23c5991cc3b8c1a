/- Determinants by minors: the walk. -/
import Derived.Test.YtchkcjpahlimjaaDetM
import Derived.Test.YtchkcjpahlimjaaGen
namespace Go.Proofs.Ytchkcjpahlimjaa
open Go.RowKit
set_option linter.unusedVariables false
set_option linter.unusedSimpArgs false

theorem detSum_zero {d : List (List Int) → Int} {m : List (List Int)} {k : Nat} (h : (m.getD 0 []).getD k 0 = 0) : detSum d m (k + 1) = detSum d m k := by
  rw [detSum, h]; simp
theorem sgn_step (k : Nat) : -sgnN k = sgnN (k + 1) := by unfold sgnN; split <;> split <;> omega
theorem sgn_bd (k : Nat) : -1 ≤ sgnN k ∧ sgnN k ≤ 1 := by unfold sgnN; split <;> omega

set_option maxHeartbeats 4000000 in
theorem det_any : ∀ (n : Nat), n ≤ 3 → ∀ (m : List (List Int)) (v : Value) (hb : Nat) (w : World), ISSr w hb v m → hb ≤ w.heap.size → SqB n m →
    Calls Try.prog 82 #[v] w fun e w' => e = .returned (.int .i64 (detF n m)) ∧ Below w.heap.size w w' := by
  intro n
  induction n with
  | zero =>
    intro _ m v hb w h hhb hs
    obtain ⟨a, cap, rfl, -, -, -⟩ := id h
    rw [hs.len]
    show Calls _ _ _ _ fun e w' => e = .returned (.int .i64 1) ∧ _
    go_enter Try.func82, Try.ntmps82
    go_wp2
    go_ret
    exact ⟨rfl, Below.refl _ _⟩
  | succ n IH =>
    intro hn m v hb w h hhb hs
    have IH := IH (by omega)
    rcases h.cases with ⟨e, -⟩ | ⟨-, -, b, off, cap, V, rfl, hbb, hcell⟩
    · have := hs.len; rw [e] at this; cases this
    have hm0 := hs.row 0 (by omega)
    obtain ⟨c0, r0⟩ := hcell 0 (by rw [hs.len]; omega)
    rw [Nat.add_zero] at c0
    have hne : ((m.length : Int) == 0) = false := by rw [beq_eq_false_iff_ne, hs.len]; omega
    rw [hs.len] at hne ⊢
    rcases r0.cases with ⟨e, -⟩ | ⟨-, -, br, or', cr, hvr, hbr, hrc⟩
    · have := hm0.1; rw [e] at this; cases this
    rw [hm0.1] at hvr hrc
    have HRC := Lib.hid hrc
    have HM0 := Lib.hid hm0
    have HS := Lib.hid hs
    have HI := Lib.hid h
    have HF := Lib.hid (show detF (n + 1) m = detSum (detF n) m (n + 1) from rfl)
    have HBD := Lib.hid (detSum_bd hs (by omega))
    have HIH := Lib.hid IH
    generalize V 0 = x0 at *
    subst hvr
    rw [hs.len] at HI
    clear hcell hrc hm0 hs h IH r0
    have hn2 : n ≤ 2 := by omega
    obtain ⟨N, hN⟩ : ∃ N, N = n + 1 := ⟨_, rfl⟩
    rw [← hN] at hne c0 HI ⊢
    have hN3 : N ≤ 3 := by omega
    have hpos : 0 < N := by omega
    have HNN := Lib.hid hN
    clear hN hn
    go_enter Try.func82, Try.ntmps82
    go_wp2
    go_loopw [3, 4, 5, 6, 14] (fun s g _ _ i wr => ∃ (k : Nat) (t sg : Int), k ≤ N ∧ i = .int .i64 k ∧ s = .int .i64 t ∧ g = .int .i64 sg ∧ Hid (t = detSum (detF n) m k) ∧ Hid (sg = sgnN k) ∧ -1 ≤ sg ∧ sg ≤ 1 ∧ -6000000000000000 ≤ t ∧ t ≤ 6000000000000000 ∧ Hid (Below w.heap.size w wr)) (fun _ _ _ _ i _ => N - (intOf i).toNat)
    case atStart => exact ⟨0, 0, 1, by omega, rfl, rfl, rfl, Lib.hid rfl, Lib.hid rfl, by omega, by omega, by omega, by omega, Below.refl _ _⟩
    case round =>
      obtain ⟨k, t, sg, hk, rfl, rfl, rfl, ht, hsg, hs1, hs2, ht1, ht2, hbe⟩ := hrel
      by_cases hlt : k < N
      · have hkN : k < n + 1 := by rw [← HNN.out]; exact hlt
        have hck := (hbe.out.cell (p := ⟨br, or' + k, none⟩) (Nat.lt_of_lt_of_le hbr hhb)).trans (HRC.out k hkN)
        have hxb := allIn_at HM0.out.2 k (by rw [HM0.out.1]; exact hkN)
        have MN := minor_any m 0 k N _ hb wr (HI.out.keep hbe.out hhb) (Nat.le_trans hhb hbe.out.size) (by rw [HS.out.len, HNN.out]) (by omega) (by omega) hlt (fun i hi => by rw [(HS.out.row i (by rw [← HS.out.len]; exact hi)).1, HNN.out])
        have HSQ := Lib.hid (HS.out.minor hkN)
        have HZ := Lib.hid (fun (e : (m.getD 0 []).getD k 0 = 0) => detSum_zero (d := detF n) e)
        have HST := Lib.hid (show detSum (detF n) m (k + 1) = t + sg * (m.getD 0 []).getD k 0 * detF n (minorL m 0 k) by rw [detSum, ht.out, hsg.out])
        have hnb := HBD.out (k + 1) hkN
        have hdb := detF_bd n _ HSQ.out
        have hDb : detB n ≤ 20000000000 := by
          rcases (show n = 0 ∨ n = 1 ∨ n = 2 by omega) with e | e | e <;> subst e <;> decide
        have hsx := sgn_mul k _ hxb
        rw [← hsg.out] at hsx
        have hpr := mul_abs (A := 100000) (B := 20000000000) (b := detF n (minorL m 0 k)) hsx.1 hsx.2 (by omega) (by omega) (by omega) (by omega)
        have HSG := Lib.hid (show -sg = sgnN (k + 1) by rw [hsg.out]; exact sgn_step k)
        rw [HST.out] at hnb
        generalize (m.getD 0 []).getD k 0 = x at *
        generalize hml : minorL m 0 k = ml at *
        have HML := Lib.hid hml; clear hml
        clear hkN hsg
        by_cases hx : x = 0
        · have HZ2 := Lib.hid (ht.out.trans (HZ.out hx).symm)
          subst hx
          clear HZ HST hnb hpr MN hdb hDb hsx hxb
          go_wp2
          go_roundw
          case rel => exact ⟨k + 1, t, -sg, by omega, by go_num, rfl, rfl, HZ2, HSG, by omega, by omega, ht1, ht2, hbe⟩
          case measure => simp [intOf]; omega
        · have hx' : (x != 0) = true := by simpa using hx
          generalize hdd : detF n ml = dd at *
          have HDD := Lib.hid hdd; clear hdd
          clear HZ hdb hDb hx
          go_wp2_with fail
          refine MN.mono ?_
          rintro e w2 ⟨u, rfl, ku, c2⟩
          have HK := Lib.hid ku.is.read
          have HB2 := Lib.hid (below_then hbe.out hbe.out.size c2)
          clear ku c2 MN
          go_wp2_with fail
          refine (HIH.out ml u w2.heap.size w2 HK.out (Nat.le_refl _) HSQ.out).mono ?_
          rintro e w3 ⟨rfl, c3⟩
          rw [HDD.out]
          have HB3 := Lib.hid (below_then HB2.out HB2.out.size c3)
          clear c3
          go_wp2
          go_roundw
          case rel => exact ⟨k + 1, _, -sg, by omega, by go_num, rfl, rfl, Lib.hid HST.out.symm, HSG, by omega, by omega, by omega, by omega, HB3⟩
          case measure => simp [intOf]; omega
      · obtain rfl : k = N := by omega
        have HFIN := Lib.hid (show t = detF k m by rw [HNN.out, HF.out, ht.out, HNN.out])
        go_wp2
        go_ret
        exact ⟨ret_int HFIN.out, hbe.out⟩
end Go.Proofs.Ytchkcjpahlimjaa
