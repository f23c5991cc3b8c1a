/- NormalPolygon: the least candidate; the program's walk. -/
import Derived.Test.YtehhoplenloocaaGreatNrmO
import Derived.Test.YtehhoplenloocaaGreatNrmW
import Derived.Test.YtehhoplenloocaaGreatMvP
namespace Go.Proofs.YtehhoplenloocaaGreat
open Go.RowKit
set_option linter.unusedVariables false
set_option linter.unusedSimpArgs false

def stOf (j : Nat) : Int := if j % 2 = 0 then 1 else -1
def cdV (ls : List (List Int)) (j : Nat) : List (List Int) × Bool := hullV (frC ls (j / 2) (stOf j))
def updL (best q : List (List Int)) : List (List Int) := if best = [] then q else if ltLL q best = true then q else best
def bsK (ls : List (List Int)) : Nat → List (List Int)
  | 0 => []
  | j + 1 => updL (bsK ls j) (cdV ls j).1
def okK (ls : List (List Int)) : Nat → Bool
  | 0 => true
  | j + 1 => okK ls j && (cdV ls j).2
def nrV (ls : List (List Int)) : List (List Int) × Bool := if isPolyB ls && okK ls (2 * ls.length) then (bsK ls (2 * ls.length), true) else ([], false)
theorem stOf_or (j : Nat) : stOf j = 1 ∨ stOf j = -1 := by unfold stOf; split <;> simp
theorem nrV_no {ls : List (List Int)} (h : isPolyB ls = false) : nrV ls = ([], false) := by unfold nrV; rw [h]; rfl
theorem okK_down {ls : List (List Int)} {j : Nat} : ∀ {m : Nat}, j ≤ m → okK ls m = true → okK ls j = true
  | 0, h, hm => by rw [Nat.le_zero.1 h]; rfl
  | m + 1, h, hm => by
    rcases Nat.lt_or_ge j (m + 1) with e | e
    · unfold okK at hm
      rw [Bool.and_eq_true] at hm
      exact okK_down (by omega) hm.1
    · have : j = m + 1 := by omega
      rw [this]; exact hm
theorem nrV_bad {ls : List (List Int)} {j : Nat} (hj : j < 2 * ls.length) (h : (cdV ls j).2 = false) : nrV ls = ([], false) := by
  unfold nrV
  rw [if_neg]
  intro e
  rw [Bool.and_eq_true] at e
  have := okK_down (j := j + 1) (by omega) e.2
  unfold okK at this
  rw [h] at this
  simp at this
theorem nrV_yes {ls : List (List Int)} (hp : isPolyB ls = true) (h : okK ls (2 * ls.length) = true) : nrV ls = (bsK ls (2 * ls.length), true) := by unfold nrV; rw [hp, h]; rfl
theorem hullV_ok {ls : List (List Int)} (h : (hullV ls).2 = true) : 3 ≤ (hullV ls).1.length ∧ ∀ r ∈ (hullV ls).1, r.length = 2 := by
  unfold hullV at *
  split at h
  · rename_i h1
    rw [if_pos h1]
    unfold hullOk at h1
    simp only [Bool.and_eq_true] at h1
    refine ⟨?_, fun r hr => ?_⟩
    · have := inB_iff.1 h1.2.2; show 3 ≤ (hullR ls).length; omega
    · have hr : r ∈ hullR ls := hr
      unfold hullR at hr
      obtain ⟨p, -, rfl⟩ := List.mem_map.1 hr
      rfl
  · cases h
theorem bsK_ok {ls : List (List Int)} : ∀ {j : Nat}, okK ls j = true → (1 ≤ j → 1 ≤ (bsK ls j).length) ∧ ∀ r ∈ bsK ls j, r.length = 2
  | 0, _ => ⟨fun h => by omega, fun r hr => by simp [bsK] at hr⟩
  | j + 1, h => by
    unfold okK at h
    rw [Bool.and_eq_true] at h
    obtain ⟨i1, i2⟩ := bsK_ok h.1
    obtain ⟨c1, c2⟩ := hullV_ok h.2
    unfold bsK updL
    split
    · exact ⟨fun _ => by show 1 ≤ (cdV ls j).1.length; unfold cdV; omega, c2⟩
    · rename_i hne
      split
      · exact ⟨fun _ => by show 1 ≤ (cdV ls j).1.length; unfold cdV; omega, c2⟩
      · exact ⟨fun _ => by
          rcases Nat.eq_zero_or_pos (bsK ls j).length with e | e
          · exact absurd (List.length_eq_zero_iff.1 e) hne
          · exact e, i2⟩
/-- the best one so far -/
structure Bst (w : World) (lo : Nat) (v : Value) (ls : List (List Int)) (j : Nat) : Prop where
  ok : okK ls j = true
  isl : ISS w lo w.heap.size v (bsK ls j)
theorem Bst.keep {w w' : World} {lo : Nat} {v : Value} {ls : List (List Int)} {j : Nat} (h : Bst w lo v ls j) (hb : Below w.heap.size w w') : Bst w' lo v ls j := ⟨h.ok, (h.isl.keep hb (Nat.le_refl _)).mono (Nat.le_refl _) hb.size⟩
theorem Bst.take {w : World} {lo a : Nat} {u : Value} {ls : List (List Int)} {j : Nat} (h : okK ls j = true) (hu : ISS w a w.heap.size u (cdV ls j).1) (ha : lo ≤ a) (hc : (cdV ls j).2 = true) (hl : bsK ls j = [] ∨ ltLL (cdV ls j).1 (bsK ls j) = true) : Bst w lo u ls (j + 1) := by
  refine ⟨by unfold okK; rw [h, hc]; rfl, ?_⟩
  have : bsK ls (j + 1) = (cdV ls j).1 := by
    show updL _ _ = _
    unfold updL
    rcases hl with e | e
    · rw [if_pos e]
    · split
      · rfl
      · first | rfl | rw [if_pos e]
  rw [this]; exact hu.mono ha (Nat.le_refl _)
theorem Bst.leave {w : World} {lo : Nat} {v : Value} {ls : List (List Int)} {j : Nat} (h : Bst w lo v ls j) (hc : (cdV ls j).2 = true) (h0 : bsK ls j ≠ []) (hl : ltLL (cdV ls j).1 (bsK ls j) = false) : Bst w lo v ls (j + 1) := by
  refine ⟨by unfold okK; rw [h.ok, hc]; rfl, ?_⟩
  have : bsK ls (j + 1) = bsK ls j := by
    show updL _ _ = _
    unfold updL
    rw [if_neg h0, if_neg (by rw [hl]; simp)]
  rw [this]; exact h.isl
set_option maxRecDepth 100000 in
set_option maxHeartbeats 8000000 in
theorem implNormal_any (ls : List (List Int)) (v : Value) (hb : Nat) (w : World) (h : ISSr w hb v ls) (hhb : hb ≤ w.heap.size) :
    Calls Tryz.prog 12 #[v] w fun e w' => ∃ u, e = .returned (.tuple #[u, .bool (nrV ls).2]) ∧ ISS w' w.heap.size w'.heap.size u (nrV ls).1 ∧ Below w.heap.size w w' := by
  have IP := implIsPolygon_any ls v hb w h hhb
  cases hp : isPolyB ls
  case false =>
    rw [nrV_no hp]
    rw [hp] at IP
    clear h hp
    go_enter Tryz.func12, Tryz.ntmps12
    go_wp2_with (go_at_call 28; (with_reducible refine IP.mono ?_); rintro e w1 ⟨rfl, c1⟩)
    go_ret2
    exact ⟨_, rfl, ISS.nil _ _ _, c1⟩
  rw [hp] at IP
  obtain ⟨h3, h12, -⟩ := isPoly_parts hp
  obtain ⟨n, hn⟩ : ∃ n, n = ls.length := ⟨_, rfl⟩
  have NA := Lib.hid (fun W (B : Below w.heap.size w W) (k : Nat) (hk : k < n) (st : Int) (hs : st = 1 ∨ st = -1) => normalAt_any ls k st v hb W (h.keep B hhb) (Nat.le_trans hhb B.size) hp (by rw [← hn]; exact hk) hs)
  have HBAD := Lib.hid (fun (j : Nat) (hj : j < 2 * n) hc => nrV_bad (ls := ls) (j := j) (by rw [← hn]; exact hj) hc)
  have HYES := Lib.hid (fun (ho : okK ls (2 * n) = true) => by have := nrV_yes hp (by rw [← hn]; exact ho); rw [← hn] at this; exact this : okK ls (2 * n) = true → nrV ls = (bsK ls (2 * n), true))
  obtain ⟨a, cap, rfl, -⟩ := id h
  rw [← hn] at h3 h12 IP NA ⊢
  have hnil := fun (W : World) (a : Option Addr) (n c : Nat) => Lib.run_eql_slice_nil (P := Tryz.prog) W 24 25 a n c 0 0 Tryz.underlying24
  have HBO := Lib.hid (fun j (hj : okK ls j = true) => bsK_ok hj)
  clear h hp hn
  go_enter Tryz.func12, Tryz.ntmps12
  go_wp2_with (go_at_call 28; (with_reducible refine IP.mono ?_); rintro e w1 ⟨rfl, c1⟩)
  have C1 := Lib.hid c1
  clear c1 IP
  go_loopw [4, 5, 7, 8, 9, 15] (fun ov _ _ _ _ i wr => ∃ (k : Nat), k ≤ n ∧ i = .int .i64 k ∧ Hid (Bst wr w.heap.size ov ls (2 * k)) ∧ Hid (k = 0 → ov = .slice none 0 0) ∧ Hid (Below w.heap.size w wr)) (fun _ _ _ _ _ i _ => n - (intOf i).toNat)
  case atStart => exact ⟨0, by omega, rfl, Lib.hid ⟨rfl, ISS.nil _ _ _⟩, Lib.hid (fun _ => rfl), C1⟩
  case round =>
    obtain ⟨k, hk, rfl, hbst, hnil, hbe⟩ := hrel
    by_cases hlt : k < n
    · obtain ⟨wy, hwy⟩ : ∃ wy, wy = wr := ⟨_, rfl⟩
      subst hwy
      have hkn : (k : Int) < (n : Int) := by omega
      have LB := below1 wy (.cells #[.int .i64 1, .int .i64 (-1)] 3)
      have LIT := Lib.hid (show ∀ W, Below (wy.heap.size + 1) (wy.alloc (.cells #[.int .i64 1, .int .i64 (-1)] 3)) W → ∀ s, s < 2 → W.cell? ⟨wy.heap.size, s, none⟩ = some (.int .i64 (stOf s)) from fun W B s hs => by
        rw [B.cell (p := ⟨wy.heap.size, s, none⟩) (Nat.lt_succ_self _)]
        have bk : BK (wy.alloc (.cells #[.int .i64 1, .int .i64 (-1)] 3)) wy.heap.size 0 2 3 (fun i => .int .i64 (stOf i)) := ⟨_, heap_alloc_new wy _, fun i hi => by
          match i, hi with
          | 0, _ => rfl
          | 1, _ => rfl⟩
        have := bk.cell hs
        rw [Nat.zero_add] at this
        exact this)
      have HB1 := Lib.hid (hbst.out.keep LB)
      have BE1 := Lib.hid (hbe.out.alloc hbe.out.size (.cells #[.int .i64 1, .int .i64 (-1)] 3))
      clear hbst hbe LB
      go_wp2_with fail
      go_loopw [4, 7, 8, 9, 20] (fun ov _ _ _ i wr => ∃ (s : Nat), s ≤ 2 ∧ i = .int .i64 s ∧ Hid (Bst wr w.heap.size ov ls (2 * k + s)) ∧ Hid (2 * k + s = 0 → ov = .slice none 0 0) ∧ Hid (Below w.heap.size w wr) ∧ Hid (Below (wy.heap.size + 1) (wy.alloc (.cells #[.int .i64 1, .int .i64 (-1)] 3)) wr)) (fun _ _ _ _ i _ => 2 - (intOf i).toNat)
      case atStart => exact ⟨0, by omega, rfl, HB1, Lib.hid (fun e => hnil.out (by omega)), BE1, Lib.hid (Below.refl _ _)⟩
      case round =>
        obtain ⟨s, hs, rfl, hbst2, hnil2, hbe2, hbl2⟩ := hrel
        by_cases hst : s < 2
        · have hcl := LIT.out _ hbl2.out s hst
          have s0 : (0 : Int) ≤ (s : Int) := by omega
          have s1 : (s : Int) < 2 := by omega
          have st : ((s : Int)).toNat = s := by omega
          have N1 := NA.out wr hbe2.out k hlt (stOf s) (stOf_or s)
          have hj : 2 * k + s < 2 * n := by omega
          have HCD := Lib.hid (show hullV (frC ls k (stOf s)) = cdV ls (2 * k + s) by
            unfold cdV
            have e1 : (2 * k + s) / 2 = k := by omega
            have e2 : stOf (2 * k + s) = stOf s := by unfold stOf; rw [show (2 * k + s) % 2 = s % 2 by omega]
            rw [e1, e2])
          rw [HCD.out] at N1
          have HB2 := Lib.hid (HBAD.out _ hj)
          have hz2 := hbe2.out.size
          have HJE : 2 * k + (s + 1) = (2 * k + s) + 1 := by omega
          have HJE := Lib.hid HJE
          have HO := Lib.hid (hullV_ok (ls := frC ls k (stOf s)))
          rw [HCD.out] at HO
          clear hj HCD
          generalize stOf s = stv at *
          generalize hjj : 2 * k + s = j at *
          have HJJ := Lib.hid hjj
          clear hjj
          cases hc : (cdV ls j).2
          · rw [hc] at N1
            have HR := Lib.hid (HB2.out hc)
            clear hc HO
            go_wp2_with (go_at_call 38; (with_reducible refine N1.mono ?_); rintro e w2 ⟨u2, rfl, k2, c2⟩)
            go_ret2
            rw [HR.out]
            exact ⟨_, rfl, ISS.nil _ _ _, below_then hbe2.out hz2 c2⟩
          · rw [hc] at N1
            obtain ⟨c3, c4⟩ := HO.out hc
            have HC4 := Lib.hid c4
            have HCC := Lib.hid hc
            clear hc HO HB2 c4
            by_cases h0 : j = 0
            · have hz := hnil2.out h0
              subst hz
              have HBN := Lib.hid (show bsK ls j = [] by rw [h0]; rfl)
              go_wp2_with (go_at_call 38; (with_reducible refine N1.mono ?_); rintro e w2 ⟨u2, rfl, k2, c2⟩)
              have B3 := Lib.hid (hbst2.out.keep c2)
              have T3 := Lib.hid (Bst.take B3.out.ok k2 hz2 HCC.out (.inl HBN.out))
              have B4 := Lib.hid (below_then hbe2.out hz2 c2)
              have L4 := Lib.hid (below_then hbl2.out (by have := hbl2.out.size; simp at this; omega) c2)
              clear k2 c2 hbst2 hbe2 hbl2 N1
              go_wp2
              go_roundw
              case rel => exact ⟨s + 1, by omega, by go_num, by rw [HJE.out]; exact T3, Lib.hid (fun e => by have := HJE.out; omega), B4, L4⟩
              case measure => simp [intOf]; omega
            · have hb1 := (HBO.out j hbst2.out.ok).1 (by omega)
              have HB22 := Lib.hid (HBO.out j hbst2.out.ok).2
              have HBN := Lib.hid (show bsK ls j ≠ [] from fun e => by rw [e] at hb1; simp at hb1)
              obtain ⟨-, -, b7, o7, cp7, V7, rfl, -, -⟩ := (hbst2.out.isl.cases).resolve_left (fun e => HBN.out e.1)
              have hp1 := hnil
              go_wp2_with (go_at_call 38; (with_reducible refine N1.mono ?_); rintro e w2 ⟨u2, rfl, k2, c2⟩)
              have B3 := Lib.hid (hbst2.out.keep c2)
              have B4 := Lib.hid (below_then hbe2.out hz2 c2)
              have L4 := Lib.hid (below_then hbl2.out (by have := hbl2.out.size; simp at this; omega) c2)
              have CL := compareLL_any (cdV ls j).1 (bsK ls j) u2 _ w2.heap.size w2.heap.size w2 k2.read B3.out.isl.read (by omega) hb1 HC4.out HB22.out
              have K2 := Lib.hid k2
              cases hlt2 : ltLL (cdV ls j).1 (bsK ls j)
              · rw [hlt2] at CL
                have T3 := Lib.hid (Bst.leave B3.out HCC.out HBN.out hlt2)
                clear k2 c2 hbst2 hbe2 hbl2 N1 hlt2
                go_wp2_with (go_at_call 39; (with_reducible refine CL.mono ?_); rintro e w9 ⟨cc, rfl, hcc, rfl⟩)
                go_roundw
                case rel => exact ⟨s + 1, by omega, by go_num, by rw [HJE.out]; exact T3, Lib.hid (fun e => by have := HJE.out; omega), B4, L4⟩
                case measure => simp [intOf]; omega
              · rw [hlt2] at CL
                have T3 := Lib.hid (Bst.take B3.out.ok k2 hz2 HCC.out (.inr hlt2))
                clear k2 c2 hbst2 hbe2 hbl2 N1 hlt2
                go_wp2_with (go_at_call 39; (with_reducible refine CL.mono ?_); rintro e w9 ⟨cc, rfl, hcc, rfl⟩)
                go_roundw
                case rel => exact ⟨s + 1, by omega, by go_num, by rw [HJE.out]; exact T3, Lib.hid (fun e => by have := HJE.out; omega), B4, L4⟩
                case measure => simp [intOf]; omega
        · obtain rfl : s = 2 := by omega
          have HK := Lib.hid (show 2 * (k + 1) = 2 * k + 2 by omega)
          go_wp2
          go_roundw
          case rel => exact ⟨k + 1, by omega, by go_num, by rw [HK.out]; exact hbst2, Lib.hid (fun e => by omega), hbe2⟩
          case measure => simp [intOf]; omega
    · obtain rfl : k = n := by omega
      have HR := Lib.hid (HYES.out hbst.out.ok)
      have hz := hbe.out.size
      go_wp2
      go_ret2
      rw [HR.out]
      exact ⟨_, rfl, hbst.out.isl, hbe.out⟩
end Go.Proofs.YtehhoplenloocaaGreat
