/- B6: texts in one: TS TSv TSL TST OpenTS. -/
import Derived.Test.YtfncikbmdaameaaB3
import Derived.Test.YtfncikbmdaameaaB1
import Derived.Test.YtfncikbmdaameaaB2
import Derived.Deep.RegionHeld3
import Derived.Deep.Slices
/- Slices of terms that read as lists. -/
namespace Go.Proofs.Ytfncikbmdaameaa
open Go.RowKit
set_option linter.unusedVariables false
set_option linter.unusedSimpArgs false

abbrev TermL := Int × List Int × List (List Int)
def t0 : TermL := (0, [], [])
/-- the cells of n terms from an offset on -/
def TC (w : World) (b off n : Nat) (ts : List TermL) (V2 V3 : Nat → Value) : Prop :=
  ∀ i, i < n → w.cell? ⟨b, off + i * 3, none⟩ = some (.int .i64 (ts.getD i t0).1) ∧ w.cell? ⟨b, off + i * 3 + 1, none⟩ = some (V2 i) ∧ w.cell? ⟨b, off + i * 3 + 2, none⟩ = some (V3 i)
/-- read only -/
def TSr (w : World) (hi : Nat) (v : Value) (ts : List TermL) : Prop :=
  ∃ a cap, v = .slice a ts.length cap ∧ ts.length ≤ cap ∧ cap ≤ maxLen ∧
    (ts ≠ [] → ∃ b off, ∃ V2 V3 : Nat → Value, a = some ⟨b, off, none⟩ ∧ b < hi ∧ TC w b off ts.length ts V2 V3 ∧
      ∀ i, i < ts.length → (-9223372036854775808 ≤ (ts.getD i t0).1 ∧ (ts.getD i t0).1 ≤ 9223372036854775807) ∧ ISr w hi (V2 i) (ts.getD i t0).2.1 ∧ ISSr w hi (V3 i) (ts.getD i t0).2.2)
theorem TSr.cases {w : World} {hi : Nat} {v : Value} {ts : List TermL} (h : TSr w hi v ts) :
    (ts = [] ∧ ∃ a cap, v = .slice a 0 cap) ∨ (0 < ts.length ∧ ts.length ≤ 9223372036854775807 ∧ ∃ b off cap, ∃ V2 V3 : Nat → Value, v = .slice (some ⟨b, off, none⟩) ts.length cap ∧ b < hi ∧ TC w b off ts.length ts V2 V3 ∧
      ∀ i, i < ts.length → (-9223372036854775808 ≤ (ts.getD i t0).1 ∧ (ts.getD i t0).1 ≤ 9223372036854775807) ∧ ISr w hi (V2 i) (ts.getD i t0).2.1 ∧ ISSr w hi (V3 i) (ts.getD i t0).2.2) := by
  obtain ⟨a, cap, hv, h1, h2, h3⟩ := h
  unfold maxLen at h2
  by_cases hl : ts = []
  · subst hl; exact .inl ⟨rfl, a, cap, hv⟩
  · obtain ⟨b, off, V2, V3, rfl, hb, hc⟩ := h3 hl
    exact .inr ⟨List.length_pos_iff.2 hl, by omega, b, off, cap, V2, V3, hv, hb, hc⟩
theorem TC.keep {w w' : World} {b off n B : Nat} {ts : List TermL} {V2 V3 : Nat → Value} (h : TC w b off n ts V2 V3) (hb : Below B w w') (hB : b < B) : TC w' b off n ts V2 V3 := fun i hi =>
  ⟨(hb.cell (p := ⟨b, off + i * 3, none⟩) hB).trans (h i hi).1, (hb.cell (p := ⟨b, off + i * 3 + 1, none⟩) hB).trans (h i hi).2.1, (hb.cell (p := ⟨b, off + i * 3 + 2, none⟩) hB).trans (h i hi).2.2⟩
theorem TSr.keep {w w' : World} {hi B : Nat} {v : Value} {ts : List TermL} (h : TSr w hi v ts) (hb : Below B w w') (hB : hi ≤ B) : TSr w' hi v ts := by
  obtain ⟨a, cap, hv, h1, h2, h3⟩ := h
  refine ⟨a, cap, hv, h1, h2, fun hl => ?_⟩
  obtain ⟨b, off, V2, V3, ha, hb', hc, hr⟩ := h3 hl
  exact ⟨b, off, V2, V3, ha, hb', hc.keep hb (Nat.lt_of_lt_of_le hb' hB), fun i hi => ⟨(hr i hi).1, (hr i hi).2.1.keep hb hB, (hr i hi).2.2.keep hb hB⟩⟩
theorem TSr.upto {w : World} {a b : Nat} {v : Value} {ts : List TermL} (h : TSr w a v ts) (hab : a ≤ b) : TSr w b v ts := by
  obtain ⟨x, cap, h0, h1, h2, h3⟩ := h
  refine ⟨x, cap, h0, h1, h2, fun hne => ?_⟩
  obtain ⟨bb, off, V2, V3, e, hb, hc, hr⟩ := h3 hne
  exact ⟨bb, off, V2, V3, e, Nat.lt_of_lt_of_le hb hab, hc, fun i hi => ⟨(hr i hi).1, (hr i hi).2.1.upto hab, (hr i hi).2.2.upto hab⟩⟩
/-- what a series gives at a point -/
def tbAt (ts : List TermL) (k : Nat) : Bool := termB (ts.getD k t0).1 (ts.getD k t0).2.1 (ts.getD k t0).2.2
def serAll (ts : List TermL) (k : Nat) : Bool := (ts.take k).all fun t => termB t.1 t.2.1 t.2.2
def serSum (ts : List TermL) (x : List Int) : Nat → Int
  | 0 => 0
  | k + 1 => serSum ts x k + termAt (ts.getD k t0).1 (ts.getD k t0).2.1 (ts.getD k t0).2.2 x
def serAt (ts : List TermL) (x : List Int) : Int := if decide (ts.length ≤ 60) && serAll ts ts.length then serSum ts x ts.length else 0

theorem serAll_step (ts : List TermL) (k : Nat) (h : k < ts.length) : serAll ts (k + 1) = (serAll ts k && termB (ts.getD k t0).1 (ts.getD k t0).2.1 (ts.getD k t0).2.2) := by
  unfold serAll
  rw [List.take_succ_eq_append_getElem h, List.all_append, List.getD_eq_getElem?_getD, List.getElem?_eq_getElem h]; simp
theorem serAll_false (ts : List TermL) (k : Nat) (h : k < ts.length) (hf : tbAt ts k = false) : serAll ts ts.length = false := by
  unfold tbAt at hf
  unfold serAll
  rw [List.take_length, List.all_eq_false]
  refine ⟨ts.getD k t0, ?_, by rw [hf]; simp⟩
  rw [List.getD_eq_getElem?_getD, List.getElem?_eq_getElem h]; exact List.getElem_mem h
theorem termAt_bd (s : Int) (U : List Int) (G : List (List Int)) (x : List Int) : -1 ≤ termAt s U G x ∧ termAt s U G x ≤ 1 := by
  unfold termAt
  split
  · rename_i h
    simp only [Bool.and_eq_true] at h
    have := h.1.1.1
    unfold termB at this
    simp only [Bool.and_eq_true, decide_eq_true_eq] at this
    omega
  · omega
theorem serSum_bd (ts : List TermL) (x : List Int) : ∀ k : Nat, -(k : Int) ≤ serSum ts x k ∧ serSum ts x k ≤ (k : Int)
  | 0 => by simp [serSum]
  | k + 1 => by
    have h1 := serSum_bd ts x k
    have h2 := termAt_bd (ts.getD k t0).1 (ts.getD k t0).2.1 (ts.getD k t0).2.2 x
    show _ ≤ serSum ts x k + _ ∧ serSum ts x k + _ ≤ _
    push_cast
    omega

set_option maxRecDepth 100000 in
set_option maxHeartbeats 4000000 in
theorem implSeriesAt_any (ts : List TermL) (x : List Int) (v vx : Value) (hb : Nat) (w : World) (h : TSr w hb v ts) (ix : ISr w hb vx x) (hhb : hb ≤ w.heap.size) :
    Calls Try.prog 103 #[v, vx] w fun e w' => e = .returned (.int .i64 (serAt ts x)) ∧ Below w.heap.size w w' := by
  obtain ⟨a, cap, rfl, -, hm, hcell⟩ := id h
  obtain ⟨n, hn⟩ : ∃ n, n = ts.length := ⟨_, rfl⟩
  by_cases h60 : ts.length ≤ 60
  · rw [← hn] at h60 ⊢
    have HN := Lib.hid hn; clear hn
    have HC := Lib.hid hcell; clear hcell h
    have HX := Lib.hid ix
    go_enter Try.func103, Try.ntmps103
    go_wp2
    go_loopw [5, 13] (fun sv i wr => ∃ k : Nat, k ≤ n ∧ i = .int .i64 k ∧ sv = .int .i64 (serSum ts x k) ∧ Hid (serAll ts k = true) ∧ Hid (Below w.heap.size w wr)) (fun _ i _ => n - (intOf i).toNat)
    case atStart => exact ⟨0, by omega, rfl, rfl, Lib.hid rfl, Below.refl _ _⟩
    case round =>
      obtain ⟨k, hk, rfl, rfl, hall, hbe⟩ := hrel
      by_cases hlt : k < n
      · have hkl : k < ts.length := by rw [← HN.out]; exact hlt
        obtain ⟨b, off, V2, V3, rfl, hbb, hcc, hrr⟩ := HC.out (by intro e; rw [e] at hkl; exact absurd hkl (Nat.not_lt_zero _))
        obtain ⟨c0, c1, c2⟩ := (hcc.keep hbe.out (Nat.lt_of_lt_of_le hbb hhb)) k hkl
        obtain ⟨hsb, hr2, hr3⟩ := hrr k hkl
        have HR2 := Lib.hid (hr2.keep hbe.out hhb)
        have HR3 := Lib.hid (hr3.keep hbe.out hhb)
        have HST := Lib.hid (show serSum ts x (k + 1) = serSum ts x k + termAt (ts.getD k t0).1 (ts.getD k t0).2.1 (ts.getD k t0).2.2 x from rfl)
        have HAL := Lib.hid (serAll_step ts k hkl)
        have HBD := Lib.hid (serSum_bd ts x k)
        have HTB := Lib.hid (show termB (ts.getD k t0).1 (ts.getD k t0).2.1 (ts.getD k t0).2.2 = termB (ts.getD k t0).1 (ts.getD k t0).2.1 (ts.getD k t0).2.2 from rfl)
        conv at HTB => arg 1; lhs; rw [show termB (ts.getD k t0).1 (ts.getD k t0).2.1 (ts.getD k t0).2.2 = tbAt ts k from rfl]
        clear hcc hrr hr2 hr3 hkl
        generalize (ts.getD k t0).1 = s at *
        generalize (ts.getD k t0).2.1 = U at *
        generalize (ts.getD k t0).2.2 = G at *
        generalize V2 k = v2 at *
        generalize V3 k = v3 at *
        have hbz := hbe.out.size
        have HBX := Lib.hid (box3_new wr (.int .i64 s) v2 v3 92)
        have HB1 := Lib.hid (below1 wr (.cells #[.int .i64 s, v2, v3] 92))
        obtain ⟨a2, q2, rfl, -⟩ := id HR2.out
        obtain ⟨a3, q3, rfl, -⟩ := id HR3.out
        go_wp2_with fail
        have CT := implIsTerm_any s U G (.slice a2 U.length q2) (.slice a3 G.length q3) hb _ hsb (HR2.out.keep HB1.out (by omega)) (HR3.out.keep HB1.out (by omega)) (by have := HB1.out.size; omega)
        cases htb : termB s U G
        · rw [htb] at CT
          refine CT.mono ?_
          rintro e w2 ⟨rfl, b2⟩
          have HB2 := Lib.hid (below_then hbe.out hbz (below_then HB1.out HB1.out.size b2))
          have HF := Lib.hid (show serAt ts x = 0 by
            unfold serAt
            rw [serAll_false ts k (by rw [← HN.out]; exact hlt) (HTB.out.trans htb), Bool.and_false]; rfl)
          clear htb CT b2
          go_wp2
          go_ret
          exact ⟨ret_int HF.out.symm, HB2.out⟩
        · rw [htb] at CT
          refine CT.mono ?_
          rintro e w2 ⟨rfl, b2⟩
          have HB2 := Lib.hid (below_then HB1.out HB1.out.size b2)
          have HBE2 := Lib.hid (below_then hbe.out hbz HB2.out)
          have bx2 := HBX.out.keep b2
          have x0 := bx2.c0
          have x1 := bx2.c1
          have x2 := bx2.c2
          have HAL2 := Lib.hid (show serAll ts (k + 1) = true by rw [HAL.out, hall.out, htb]; rfl)
          have CA := implTermAt_any s U G x (.slice a2 U.length q2) (.slice a3 G.length q3) vx hb w2 hsb (HR2.out.keep HB2.out (by omega)) (HR3.out.keep HB2.out (by omega)) (HX.out.keep HBE2.out hhb) (by have := HB2.out.size; omega)
          clear htb CT b2 bx2 HBX
          go_wp2_with fail
          refine CA.mono ?_
          rintro e w3 ⟨rfl, b3⟩
          have HBE3 := Lib.hid (below_then HBE2.out HBE2.out.size b3)
          have ab := termAt_bd s U G x
          have hbd := HBD.out
          obtain ⟨q, hq⟩ : ∃ q, q = termAt s U G x := ⟨_, rfl⟩
          rw [← hq] at HST ab ⊢
          clear hq b3 CA x0 x1 x2
          generalize serSum ts x k = acc at *
          go_wp2
          go_roundw
          case rel => exact ⟨k + 1, by omega, by go_num, by rw [HST.out], HAL2, HBE3⟩
          case measure => simp [intOf]; omega
      · obtain rfl : k = n := by omega
        have HF := Lib.hid (show serAt ts x = serSum ts x k by
          unfold serAt
          rw [← HN.out, hall.out]
          rw [decide_eq_true (by omega)]; rfl)
        go_wp2
        go_ret
        exact ⟨ret_int HF.out.symm, hbe.out⟩
  · have hf : serAt ts x = 0 := by unfold serAt; rw [decide_eq_false h60]; rfl
    rw [hf]
    rw [← hn] at h60 ⊢
    unfold maxLen at hm
    clear hf hcell h ix
    go_enter Try.func103, Try.ntmps103
    go_wp2
    go_ret
    exact ⟨rfl, Below.refl _ _⟩
end Go.Proofs.Ytfncikbmdaameaa

/- Series: the model's points, the values. -/
namespace Go.Proofs.Ytfncikbmdaameaa
open Go.RowKit
set_option linter.unusedVariables false
set_option linter.unusedSimpArgs false

/-- the facts on one element -/
theorem TSr.elem {w wr : World} {hb : Nat} {b off n : Nat} {ts : List TermL} {V2 V3 : Nat → Value} (hcc : TC w b off n ts V2 V3) (hbb : b < hb) (hhb : hb ≤ w.heap.size) (hbe : Below w.heap.size w wr) {k : Nat} (hk : k < n)
    (hr2 : ISr w hb (V2 k) (ts.getD k t0).2.1) (hr3 : ISSr w hb (V3 k) (ts.getD k t0).2.2) :
    (wr.cell? ⟨b, off + k * 3, none⟩ = some (.int .i64 (ts.getD k t0).1) ∧ wr.cell? ⟨b, off + k * 3 + 1, none⟩ = some (V2 k) ∧ wr.cell? ⟨b, off + k * 3 + 2, none⟩ = some (V3 k)) ∧ Hid (ISr wr hb (V2 k) (ts.getD k t0).2.1) ∧ Hid (ISSr wr hb (V3 k) (ts.getD k t0).2.2) :=
  ⟨(hcc.keep hbe (Nat.lt_of_lt_of_le hbb hhb)) k hk, Lib.hid (hr2.keep hbe hhb), Lib.hid (hr3.keep hbe hhb)⟩

set_option maxRecDepth 100000 in
set_option maxHeartbeats 4000000 in
theorem l10All_any (ts : List TermL) (v : Value) (hb : Nat) (w : World) (h : TSr w hb v ts) (hhb : hb ≤ w.heap.size) :
    Calls Try.prog 172 #[v] w fun e w' => e = .returned (.bool (serAll ts ts.length && decide (ts.length ≤ 60))) ∧ Below w.heap.size w w' := by
  obtain ⟨a, cap, rfl, hcap, hm, hcell⟩ := id h
  unfold maxLen at hm
  obtain ⟨n, hn⟩ : ∃ n, n = ts.length := ⟨_, rfl⟩
  rw [← hn] at hcap ⊢
  have HN := Lib.hid hn; clear hn
  have HC := Lib.hid hcell; clear hcell h
  go_enter Try.func172, Try.ntmps172
  go_wp2
  go_loopw [3] (fun i wr => ∃ k : Nat, k ≤ n ∧ i = .int .i64 k ∧ Hid (serAll ts k = true) ∧ Hid (Below w.heap.size w wr)) (fun i _ => n - (intOf i).toNat)
  case atStart => exact ⟨0, by omega, rfl, Lib.hid rfl, Below.refl _ _⟩
  case round =>
    obtain ⟨k, hk, rfl, hall, hbe⟩ := hrel
    by_cases hlt : k < n
    · have hkl : k < ts.length := by rw [← HN.out]; exact hlt
      obtain ⟨b, off, V2, V3, rfl, hbb, hcc, hrr⟩ := HC.out (by intro e; rw [e] at hkl; exact absurd hkl (Nat.not_lt_zero _))
      obtain ⟨hsb, hr2, hr3⟩ := hrr k hkl
      obtain ⟨⟨c0, c1, c2⟩, HR2, HR3⟩ := TSr.elem hcc hbb hhb hbe.out hkl hr2 hr3
      have HAL := Lib.hid (serAll_step ts k hkl)
      have HFF := Lib.hid (serAll_false ts k hkl)
      have HTB := Lib.hid (show termB (ts.getD k t0).1 (ts.getD k t0).2.1 (ts.getD k t0).2.2 = tbAt ts k from rfl)
      clear hcc hrr hr2 hr3 hkl
      generalize (ts.getD k t0).1 = s at *
      generalize (ts.getD k t0).2.1 = U at *
      generalize (ts.getD k t0).2.2 = G at *
      generalize V2 k = v2 at *
      generalize V3 k = v3 at *
      have hbz := hbe.out.size
      obtain ⟨a2, q2, rfl, -⟩ := id HR2.out
      obtain ⟨a3, q3, rfl, -⟩ := id HR3.out
      have CT := specIsTerm_any s U G (.slice a2 U.length q2) (.slice a3 G.length q3) hb wr hsb HR2.out HR3.out (by omega)
      cases htb : termB s U G
      · rw [htb] at CT
        have HF := Lib.hid (HFF.out (by rw [← HTB.out]; exact htb))
        clear htb
        go_wp2_with fail
        refine CT.mono ?_
        rintro e w2 ⟨rfl, b2⟩
        have HB2 := Lib.hid (below_then hbe.out hbz b2)
        clear b2 CT
        go_wp2
        go_ret
        exact ⟨ret_bool (by rw [HN.out, HF.out]; rfl), HB2.out⟩
      · rw [htb] at CT
        have HAL2 := Lib.hid (show serAll ts (k + 1) = true by rw [HAL.out, hall.out, htb]; rfl)
        clear htb
        go_wp2_with fail
        refine CT.mono ?_
        rintro e w2 ⟨rfl, b2⟩
        have HB2 := Lib.hid (below_then hbe.out hbz b2)
        clear b2 CT
        go_wp2
        go_roundw
        case rel => exact ⟨k + 1, by omega, by go_num, HAL2, HB2⟩
        case measure => simp [intOf]; omega
    · obtain rfl : k = n := by omega
      go_wp2
      go_ret
      refine ⟨ret_bool ?_, hbe.out⟩
      rw [hall.out, Bool.true_and]
      rw [Bool.eq_iff_iff, decide_eq_true_eq, decide_eq_true_eq]; omega

set_option maxRecDepth 100000 in
set_option maxHeartbeats 4000000 in
theorem specSeriesAt_any (ts : List TermL) (x : List Int) (v vx : Value) (hb : Nat) (w : World) (h : TSr w hb v ts) (ix : ISr w hb vx x) (hhb : hb ≤ w.heap.size) :
    Calls Try.prog 104 #[v, vx] w fun e w' => e = .returned (.int .i64 (serAt ts x)) ∧ Below w.heap.size w w' := by
  have CL := fun W (B : Below w.heap.size w W) => l10All_any ts v hb W (h.keep B hhb) (by have := B.size; omega)
  obtain ⟨ok, hok⟩ : ∃ ok, ok = (serAll ts ts.length && decide (ts.length ≤ 60)) := ⟨_, rfl⟩
  rw [← hok] at CL
  obtain ⟨a, cap, rfl, hcap, hm, hcell⟩ := id h
  unfold maxLen at hm
  obtain ⟨n, hn⟩ : ∃ n, n = ts.length := ⟨_, rfl⟩
  have HX := Lib.hid ix
  have HC := Lib.hid hcell; clear hcell h
  cases ok with
  | false =>
    have hf : serAt ts x = 0 := by
      unfold serAt
      rw [Bool.and_comm, ← hok]; rfl
    rw [hf]
    rw [← hn] at hcap CL ⊢
    have HN := Lib.hid hn; clear hn
    have HB0 := Lib.hid (Below.refl w.heap.size w)
    clear hok hf
    by_cases h0 : 0 < n
    · go_enter Try.func104, Try.ntmps104
      go_wp2
      refine wp_loop_rounds 1 ?_
      rw [rounds_succ]
      go_wp2_with fail
      refine (CL _ HB0.out).mono ?_
      rintro e w2 ⟨rfl, b2⟩
      go_wp2
      go_ret
      exact ⟨rfl, b2⟩
    · obtain rfl : n = 0 := by omega
      go_enter Try.func104, Try.ntmps104
      go_wp2
      refine wp_loop_rounds 1 ?_
      rw [rounds_succ]
      go_wp2
      go_ret
      exact ⟨rfl, HB0.out⟩
  | true =>
    have hok' := hok
    symm at hok'
    rw [Bool.and_eq_true, decide_eq_true_eq] at hok'
    obtain ⟨hall, h60⟩ := hok'
    have hf : serAt ts x = serSum ts x ts.length := by
      unfold serAt
      rw [Bool.and_comm, ← hok]; rfl
    rw [hf]
    rw [← hn] at hcap h60 CL ⊢
    have HN := Lib.hid hn; clear hn
    clear hok hf hall
    go_enter Try.func104, Try.ntmps104
    go_wp2
    go_loopw [5, 6] (fun sv i wr => ∃ k : Nat, k ≤ n ∧ i = .int .i64 k ∧ sv = .int .i64 (serSum ts x k) ∧ Hid (Below w.heap.size w wr)) (fun _ i _ => n - (intOf i).toNat)
    case atStart => exact ⟨0, by omega, rfl, rfl, Below.refl _ _⟩
    case round =>
      obtain ⟨k, hk, rfl, rfl, hbe⟩ := hrel
      by_cases hlt : k < n
      · have hkl : k < ts.length := by rw [← HN.out]; exact hlt
        obtain ⟨b, off, V2, V3, rfl, hbb, hcc, hrr⟩ := HC.out (by intro e; rw [e] at hkl; exact absurd hkl (Nat.not_lt_zero _))
        obtain ⟨hsb, hr2, hr3⟩ := hrr k hkl
        go_wp2_with fail
        refine (CL _ hbe.out).mono ?_
        rintro e w2 ⟨rfl, b2⟩
        have HB2 := Lib.hid (below_then hbe.out hbe.out.size b2)
        obtain ⟨⟨c0, c1, c2⟩, HR2, HR3⟩ := TSr.elem hcc hbb hhb HB2.out hkl hr2 hr3
        have HST := Lib.hid (show serSum ts x (k + 1) = serSum ts x k + termAt (ts.getD k t0).1 (ts.getD k t0).2.1 (ts.getD k t0).2.2 x from rfl)
        have HBD := Lib.hid (serSum_bd ts x k)
        clear hcc hrr hr2 hr3 hkl b2 hbe
        generalize (ts.getD k t0).1 = s at *
        generalize (ts.getD k t0).2.1 = U at *
        generalize (ts.getD k t0).2.2 = G at *
        generalize V2 k = v2 at *
        generalize V3 k = v3 at *
        have hbz := HB2.out.size
        obtain ⟨a2, q2, rfl, -⟩ := id HR2.out
        obtain ⟨a3, q3, rfl, -⟩ := id HR3.out
        have CA := specTermAt_any s U G x (.slice a2 U.length q2) (.slice a3 G.length q3) vx hb w2 hsb HR2.out HR3.out (HX.out.keep HB2.out hhb) (by omega)
        go_wp2_with fail
        refine CA.mono ?_
        rintro e w3 ⟨rfl, b3⟩
        have HB3 := Lib.hid (below_then HB2.out hbz b3)
        have ab := termAt_bd s U G x
        have hbd := HBD.out
        obtain ⟨q, hq⟩ : ∃ q, q = termAt s U G x := ⟨_, rfl⟩
        rw [← hq] at HST ab ⊢
        clear hq b3 CA
        generalize serSum ts x k = acc at *
        go_wp2
        go_roundw
        case rel => exact ⟨k + 1, by omega, by go_num, by rw [HST.out], HB3⟩
        case measure => simp [intOf]; omega
      · obtain rfl : k = n := by omega
        go_wp2
        go_ret
        exact ⟨rfl, hbe.out⟩

/-- values of series -/
def serVk (ts : List TermL) (a b : Int) : Nat → Int
  | 0 => 0
  | k + 1 => (serVk ts a b k + (termV (ts.getD k t0).1 (ts.getD k t0).2.1 (ts.getD k t0).2.2 a b).1) % 10007
def serVok (ts : List TermL) (a b : Int) (k : Nat) : Prop := ∀ i, i < k → (termV (ts.getD i t0).1 (ts.getD i t0).2.1 (ts.getD i t0).2.2 a b).2 = true
def serV (ts : List TermL) (a b : Int) : Int × Bool :=
  if decide (ts.length ≤ 60) && (List.range ts.length).all (fun i => (termV (ts.getD i t0).1 (ts.getD i t0).2.1 (ts.getD i t0).2.2 a b).2) then (serVk ts a b ts.length, true) else (0, false)
theorem serV_big {ts : List TermL} {a b : Int} (h : ¬ ts.length ≤ 60) : serV ts a b = (0, false) := by unfold serV; rw [decide_eq_false h]; rfl
theorem serV_no {ts : List TermL} {a b : Int} {k : Nat} (hk : k < ts.length) (h : (termV (ts.getD k t0).1 (ts.getD k t0).2.1 (ts.getD k t0).2.2 a b).2 = false) : serV ts a b = (0, false) := by
  unfold serV
  rw [if_neg]
  rw [Bool.and_eq_true, List.all_eq_true]
  intro hh
  have := hh.2 k (List.mem_range.2 hk)
  rw [h] at this; cases this
theorem serV_yes {ts : List TermL} {a b : Int} (h60 : ts.length ≤ 60) (h : serVok ts a b ts.length) : serV ts a b = (serVk ts a b ts.length, true) := by
  unfold serV
  rw [if_pos]
  rw [Bool.and_eq_true, List.all_eq_true]
  exact ⟨decide_eq_true h60, fun i hi => h i (List.mem_range.1 hi)⟩
theorem serVk_bd (ts : List TermL) (a b : Int) : ∀ k, 0 ≤ serVk ts a b k ∧ serVk ts a b k < 10007
  | 0 => by simp [serVk]
  | k + 1 => by rw [serVk]; omega
theorem termV_bd (s : Int) (U : List Int) (G : List (List Int)) (a b : Int) : 0 ≤ (termV s U G a b).1 ∧ (termV s U G a b).1 < 10007 := by
  unfold termV
  split
  · exact tvK_bd s U G a b _
  · simp


end Go.Proofs.Ytfncikbmdaameaa

/- Slices of terms as the laws measure, copy and compare them. -/
namespace Go.Proofs.Ytfncikbmdaameaa
open Go.RowKit
set_option linter.unusedVariables false
set_option linter.unusedSimpArgs false

theorem wrap64_in {n : Int} (h : -9223372036854775808 ≤ n ∧ n ≤ 9223372036854775807) : wrap64 n = n := by unfold wrap64; omega
def sz1 (t : TermL) : Nat := t.2.1.length + totS t.2.2
def totTK (ts : List TermL) : Nat → Nat
  | 0 => ts.length
  | i + 1 => totTK ts i + sz1 (ts.getD i t0)
def totT (ts : List TermL) : Nat := totTK ts ts.length
theorem totTK_mono (ts : List TermL) (i : Nat) : ∀ j, i ≤ j → totTK ts i ≤ totTK ts j
  | 0, h => by have : i = 0 := by omega
               subst this; exact Nat.le_refl _
  | j + 1, h => by
    by_cases e : i = j + 1
    · subst e; exact Nat.le_refl _
    · have := totTK_mono ts i j (by omega)
      rw [show totTK ts (j + 1) = totTK ts j + sz1 (ts.getD j t0) from rfl]; omega
theorem totT_len {ts : List TermL} {B : Nat} (h : totT ts ≤ B) : ts.length ≤ B ∧ ∀ i, i < ts.length → sz1 (ts.getD i t0) ≤ B := by
  unfold totT at h
  refine ⟨Nat.le_trans (totTK_mono ts 0 _ (Nat.zero_le _)) h, fun i hi => ?_⟩
  have h1 := totTK_mono ts (i + 1) _ hi
  rw [show totTK ts (i + 1) = totTK ts i + sz1 (ts.getD i t0) from rfl] at h1
  omega

set_option maxHeartbeats 1000000 in
theorem szTermG_any (s : Int) (U : List Int) (G : List (List Int)) (v1 v2 : Value) (left : Int) (hb : Nat) (w : World) (i1 : ISr w hb v1 U) (i2 : ISSr w hb v2 G) (hhb : hb ≤ w.heap.size) (h0 : 0 ≤ left) (h1 : left ≤ 1048576) :
    Calls Try.prog 111 #[.agg #[.int .i64 s, v1, v2], .int .i64 left] w fun e w' => e = .returned (.int .i64 (szL (U.length + totS G) left)) ∧ Below w.heap.size w w' := by
  have B0 := below1 w (.cells #[.int .i64 s, v1, v2] 101)
  have j1 := i1.keep B0 hhb
  have j2 := i2.keep B0 hhb
  have bx := box3_new w (.int .i64 s) v1 v2 101
  have x0 := bx.c0
  have x1 := bx.c1
  have x2 := bx.c2
  have S1 := szIntS_any U v1 left hb _ j1 h0 h1
  by_cases hc : left < U.length
  · have e1 : szL U.length left = -1 := by unfold szL; rw [if_pos (by omega)]
    rw [e1] at S1
    have e2 : szL (U.length + totS G) left = -1 := by unfold szL; rw [if_pos (by omega)]
    rw [e2]
    clear e1 e2
    go_enter Try.func111, Try.ntmps111
    go_wp2_with (go_at_call 173; (with_reducible refine S1.mono ?_); rintro e w' ⟨rfl, rfl⟩)
    go_ret
    exact ⟨rfl, B0⟩
  · have e1 : szL U.length left = left - (U.length : Int) := by unfold szL; rw [if_neg (by omega)]
    rw [e1] at S1
    clear e1
    have S2 := szIntSS_any G v2 (left - (U.length : Int)) hb _ j2 (by omega) (by omega)
    have hu : (0 : Int) ≤ left - (U.length : Int) := by omega
    by_cases h2 : (U.length + totS G : Nat) ≤ left
    · have e2 : szL (totS G) (left - (U.length : Int)) = left - (U.length : Int) - totS G := by unfold szL; rw [if_neg (by omega)]
      have e3 : szL (U.length + totS G) left = left - (U.length : Int) - totS G := by unfold szL; rw [if_neg (by omega)]; omega
      rw [e2] at S2
      rw [e3]
      have hr : 0 ≤ left - (U.length : Int) - totS G := by omega
      clear e2 e3
      generalize left - (U.length : Int) - totS G = r at *
      generalize hm : left - (U.length : Int) = m at *
      clear hm hc h2
      go_enter Try.func111, Try.ntmps111
      go_wp2_with (first | (go_at_call 173; (with_reducible refine S1.mono ?_); rintro e w' ⟨rfl, rfl⟩) | (go_at_call 174; (with_reducible refine S2.mono ?_); rintro e w' ⟨rfl, rfl⟩))
      go_ret
      exact ⟨rfl, B0⟩
    · have e2 : szL (totS G) (left - (U.length : Int)) = -1 := by unfold szL; rw [if_pos (by omega)]
      have e3 : szL (U.length + totS G) left = -1 := by unfold szL; rw [if_pos (by omega)]
      rw [e2] at S2
      rw [e3]
      clear e2 e3
      generalize hm : left - (U.length : Int) = m at *
      clear hm hc h2
      go_enter Try.func111, Try.ntmps111
      go_wp2_with (first | (go_at_call 173; (with_reducible refine S1.mono ?_); rintro e w' ⟨rfl, rfl⟩) | (go_at_call 174; (with_reducible refine S2.mono ?_); rintro e w' ⟨rfl, rfl⟩))
      go_ret
      exact ⟨rfl, B0⟩

set_option maxRecDepth 100000 in
set_option maxHeartbeats 4000000 in
theorem szTermS_any (ts : List TermL) (v : Value) (left : Int) (hb : Nat) (w : World) (h : TSr w hb v ts) (h0 : 0 ≤ left) (h1 : left ≤ 1048576) (hhb : hb ≤ w.heap.size) :
    Calls Try.prog 17 #[v, .int .i64 left] w fun e w' => e = .returned (.int .i64 (szL (totT ts) left)) ∧ Below w.heap.size w w' := by
  obtain ⟨a, cap, rfl, hcap, hm, hcell⟩ := id h
  unfold maxLen at hm
  obtain ⟨n, hn⟩ : ∃ n, n = ts.length := ⟨_, rfl⟩
  rw [← hn] at hcap ⊢
  by_cases hbig : left < n
  · have e : szL (totT ts) left = -1 := by
      have := totTK_mono ts 0 ts.length (Nat.zero_le _)
      unfold szL totT; rw [if_pos]
      rw [show totTK ts 0 = ts.length from rfl] at this; omega
    rw [e]
    have wq := wr64 (left - (n : Int)) (by omega)
    have wq2 := wrap64_in (n := left - (n : Int)) (by omega)
    have hneg : left - (n : Int) < 0 := by omega
    clear e hcell hn h
    go_enter Try.func17, Try.ntmps17
    go_wp2
    go_ret
    exact ⟨rfl, Below.refl _ _⟩
  · have HN := Lib.hid hn; clear hn
    have HC := Lib.hid hcell; clear hcell h
    have ht0 : totTK ts 0 = n := HN.out.symm
    have wq := wr64 (left - (n : Int)) (by omega)
    have wq2 := wrap64_in (n := left - (n : Int)) (by omega)
    have hneg : ¬ left - (n : Int) < 0 := by omega
    have HT0 := Lib.hid ht0
    clear ht0
    go_enter Try.func17, Try.ntmps17
    go_wp2
    go_loopw [1, 5] (fun m i wr => ∃ (k : Nat) (r : Int), k ≤ n ∧ i = .int .i64 k ∧ m = .int .i64 r ∧ 0 ≤ r ∧ r ≤ 1048576 ∧ Hid (r = left - totTK ts k) ∧ Hid (Below w.heap.size w wr)) (fun _ i _ => n - (intOf i).toNat)
    case atStart => exact ⟨0, left - n, by omega, rfl, rfl, by omega, by omega, Lib.hid (by rw [HT0.out]), Below.refl _ _⟩
    case round =>
      obtain ⟨k, r, hk, rfl, rfl, hr0, hr1, hr, hbe⟩ := hrel
      by_cases hlt : k < n
      · have hkl : k < ts.length := by rw [← HN.out]; exact hlt
        obtain ⟨b, off, V2, V3, rfl, hbb, hcc, hrr⟩ := HC.out (by intro e; rw [e] at hkl; exact absurd hkl (Nat.not_lt_zero _))
        obtain ⟨hsb, hr2, hr3⟩ := hrr k hkl
        obtain ⟨c0, c1, c2⟩ := (hcc.keep hbe.out (Nat.lt_of_lt_of_le hbb hhb)) k hkl
        have HR2 := Lib.hid (hr2.keep hbe.out hhb)
        have HR3 := Lib.hid (hr3.keep hbe.out hhb)
        have HST := Lib.hid (show totTK ts (k + 1) = totTK ts k + ((ts.getD k t0).2.1.length + totS (ts.getD k t0).2.2) from rfl)
        have HMO := Lib.hid (totTK_mono ts (k + 1) ts.length hkl)
        clear hcc hrr hr2 hr3 hkl
        generalize (ts.getD k t0).1 = s at *
        generalize (ts.getD k t0).2.1 = U at *
        generalize (ts.getD k t0).2.2 = G at *
        generalize V2 k = v2 at *
        generalize V3 k = v3 at *
        have hbz := hbe.out.size
        obtain ⟨a2, q2, rfl, -⟩ := id HR2.out
        obtain ⟨a3, q3, rfl, -⟩ := id HR3.out
        have CT := szTermG_any s U G (.slice a2 U.length q2) (.slice a3 G.length q3) r hb wr HR2.out HR3.out (by omega) hr0 hr1
        obtain ⟨z, hz⟩ : ∃ z, z = U.length + totS G := ⟨_, rfl⟩
        rw [← hz] at CT HST
        clear hz
        by_cases hle : r < (z : Int)
        · have e1 : szL z r = -1 := by unfold szL; rw [if_pos hle]
          rw [e1] at CT
          have HF := Lib.hid (show szL (totT ts) left = -1 by
            unfold szL totT
            rw [if_pos]
            have := HMO.out; have := HST.out; have := hr.out
            omega)
          clear e1
          go_wp2_with fail
          refine CT.mono ?_
          rintro e w2 ⟨rfl, b2⟩
          have HB2 := Lib.hid (below_then hbe.out hbz b2)
          clear b2 CT
          go_wp2
          go_ret
          exact ⟨ret_int HF.out.symm, HB2.out⟩
        · have e1 : szL z r = r - z := by unfold szL; rw [if_neg hle]
          rw [e1] at CT
          have hr2 : 0 ≤ r - (z : Int) := by omega
          have hr3 : r - (z : Int) ≤ 1048576 := by omega
          have HR4 := Lib.hid (show r - (z : Int) = left - totTK ts (k + 1) by have := HST.out; have := hr.out; omega)
          clear e1 hle
          generalize r - (z : Int) = r' at *
          go_wp2_with fail
          refine CT.mono ?_
          rintro e w2 ⟨rfl, b2⟩
          have HB2 := Lib.hid (below_then hbe.out hbz b2)
          clear b2 CT
          go_wp2
          go_roundw
          case rel => exact ⟨k + 1, r', by omega, by go_num, rfl, hr2, hr3, HR4, HB2⟩
          case measure => simp [intOf]; omega
      · obtain rfl : k = n := by omega
        have HF := Lib.hid (show szL (totT ts) left = r by
          unfold szL totT
          rw [← HN.out, if_neg (by have := hr.out; omega), hr.out])
        go_wp2
        go_ret
        exact ⟨ret_int HF.out.symm, hbe.out⟩
end Go.Proofs.Ytfncikbmdaameaa

/- Slices of terms that the laws lay anew. -/
namespace Go.Proofs.Ytfncikbmdaameaa
open Go.RowKit
set_option linter.unusedVariables false
set_option linter.unusedSimpArgs false

/-- three cells an element -/
def trV (f0 f2 f3 : Nat → Value) : Nat → Value := fun j => if j % 3 = 0 then f0 (j / 3) else if j % 3 = 1 then f2 (j / 3) else f3 (j / 3)
theorem trV_0 (f0 f2 f3 : Nat → Value) (i : Nat) : trV f0 f2 f3 (i * 3) = f0 i := by
  unfold trV; rw [if_pos (by omega)]; congr 1; omega
theorem trV_1 (f0 f2 f3 : Nat → Value) (i : Nat) : trV f0 f2 f3 (i * 3 + 1) = f2 i := by
  unfold trV; rw [if_neg (by omega), if_pos (by omega)]; congr 1; omega
theorem trV_2 (f0 f2 f3 : Nat → Value) (i : Nat) : trV f0 f2 f3 (i * 3 + 2) = f3 i := by
  unfold trV; rw [if_neg (by omega), if_neg (by omega)]; congr 1; omega
theorem tri_put (f0 f2 f3 : Nat → Value) (k : Nat) (x0 x2 x3 : Value) : ∀ j,
    (if j = k * 3 + 2 then x3 else if j = k * 3 + 1 then x2 else if j = k * 3 then x0 else trV f0 f2 f3 j) = trV (fun i => if i = k then x0 else f0 i) (fun i => if i = k then x2 else f2 i) (fun i => if i = k then x3 else f3 i) j := by
  intro j
  unfold trV
  by_cases e2 : j = k * 3 + 2
  · subst e2
    dsimp only
    rw [if_pos rfl, if_neg (by omega), if_neg (by omega), if_pos (by omega)]
  · rw [if_neg e2]
    by_cases e1 : j = k * 3 + 1
    · subst e1
      dsimp only
      rw [if_pos rfl, if_neg (by omega), if_pos (by omega), if_pos (by omega)]
    · rw [if_neg e1]
      by_cases e0 : j = k * 3
      · subst e0
        dsimp only
        rw [if_pos rfl, if_pos (by omega), if_pos (by omega)]
      · rw [if_neg e0]
        have hne : ∀ r, j % 3 = r → r < 3 → j / 3 ≠ k := by
          intro r hr h3 e
          have := Nat.div_add_mod j 3
          omega
        dsimp only
        by_cases h0 : j % 3 = 0
        · rw [if_pos h0, if_pos h0, if_neg (hne 0 h0 (by omega))]
        · rw [if_neg h0, if_neg h0]
          by_cases h1 : j % 3 = 1
          · rw [if_pos h1, if_pos h1, if_neg (hne 1 h1 (by omega))]
          · rw [if_neg h1, if_neg h1, if_neg (hne (j % 3) rfl (by omega))]
/-- element i lies in p i .. p (i + 1): its shift in p i .. q i, its generators behind -/
def TEl (w : World) (t : TermL) (v2 v3 : Value) (p q r : Nat) : Prop := p ≤ q ∧ q ≤ r ∧ (-9223372036854775808 ≤ t.1 ∧ t.1 ≤ 9223372036854775807) ∧ IS w p q v2 t.2.1 ∧ ISS w q r v3 t.2.2
theorem TEl.of_blocks {w w' : World} {t : TermL} {v2 v3 : Value} {p q r : Nat} (h : TEl w t v2 v3 p q r) (hb : ∀ b, p ≤ b → b < r → b < w.heap.size → w'.heap[b]? = w.heap[b]?) : TEl w' t v2 v3 p q r := by
  obtain ⟨h1, h2, h3, h4, h5⟩ := h
  exact ⟨h1, h2, h3, h4.of_blocks fun b k1 k2 k3 => hb b k1 (by omega) k3, h5.of_blocks fun b k1 k2 k3 => hb b (by omega) k2 k3⟩
theorem TEl.keep {w w' : World} {t : TermL} {v2 v3 : Value} {p q r B : Nat} (h : TEl w t v2 v3 p q r) (hb : Below B w w') (hB : r ≤ B) : TEl w' t v2 v3 p q r :=
  h.of_blocks fun b _ h2 _ => hb.block b (by omega)
theorem TEl.setOther {w : World} {t : TermL} {v2 v3 : Value} {p q r : Nat} (h : TEl w t v2 v3 p q r) {a : Addr} (ha : a.block < p ∨ r ≤ a.block) (u : Value) : TEl (w.setCell a u) t v2 v3 p q r :=
  h.of_blocks fun b h1 h2 h3 => Below.heap_setCell w a u b (by omega)
/-- terms that may be written: every element lies in a stretch of its own -/
def TS (w : World) (lo hi : Nat) (v : Value) (ts : List TermL) : Prop :=
  ∃ a cap, v = .slice a ts.length cap ∧ ts.length ≤ cap ∧ cap ≤ maxLen ∧
    (ts ≠ [] → ∃ b off, ∃ V2 V3 : Nat → Value, ∃ p q r : Nat → Nat, a = some ⟨b, off, none⟩ ∧ lo ≤ b ∧ b < hi ∧ BK w b off (ts.length * 3) 92 (trV (fun i => .int .i64 (ts.getD i t0).1) V2 V3) ∧
      (∀ i, i < ts.length → (lo ≤ p i ∧ r i ≤ hi) ∧ (b < p i ∨ r i ≤ b) ∧ TEl w (ts.getD i t0) (V2 i) (V3 i) (p i) (q i) (r i)) ∧ ∀ i j, i < j → j < ts.length → r i ≤ p j)
theorem TS.nil (w : World) (lo hi : Nat) : TS w lo hi (.slice none 0 0) [] := ⟨none, 0, rfl, Nat.le_refl _, Nat.zero_le _, fun h => absurd rfl h⟩
theorem TS.read {w : World} {lo hi : Nat} {v : Value} {ts : List TermL} (h : TS w lo hi v ts) : TSr w hi v ts := by
  obtain ⟨a, cap, hv, h1, h2, h3⟩ := h
  refine ⟨a, cap, hv, h1, h2, fun hl => ?_⟩
  obtain ⟨b, off, V2, V3, p, q, r, rfl, hb1, hb2, hbk, hel, -⟩ := h3 hl
  refine ⟨b, off, V2, V3, rfl, hb2, fun i hi => ⟨?_, ?_, ?_⟩, fun i hi => ?_⟩
  · have := hbk.cell (i := i * 3) (by omega); rwa [trV_0] at this
  · have := hbk.cell (i := i * 3 + 1) (by omega); rw [trV_1] at this; rw [Nat.add_assoc]; exact this
  · have := hbk.cell (i := i * 3 + 2) (by omega); rw [trV_2] at this; rw [Nat.add_assoc]; exact this
  · obtain ⟨⟨-, m1⟩, -, e1, e2, e3, e4, e5⟩ := hel i hi
    exact ⟨e3, e4.read.upto (by omega), e5.read.upto (by omega)⟩
theorem TS.of_blocks {w w' : World} {lo hi : Nat} {v : Value} {ts : List TermL} (h : TS w lo hi v ts) (hb : ∀ b, lo ≤ b → b < hi → b < w.heap.size → w'.heap[b]? = w.heap[b]?) : TS w' lo hi v ts := by
  obtain ⟨a, cap, hv, h1, h2, h3⟩ := h
  refine ⟨a, cap, hv, h1, h2, fun hl => ?_⟩
  obtain ⟨b, off, V2, V3, p, q, r, rfl, hb1, hb2, hbk, hel, hd⟩ := h3 hl
  refine ⟨b, off, V2, V3, p, q, r, rfl, hb1, hb2, hbk.of_block (hb b hb1 hb2 hbk.lt), fun i hi => ⟨(hel i hi).1, (hel i hi).2.1, (hel i hi).2.2.of_blocks fun k k1 k2 k3 => hb k ?_ ?_ k3⟩, hd⟩
  · have := (hel i hi).1; omega
  · have := (hel i hi).1; omega
theorem TS.keep {w w' : World} {lo hi B : Nat} {v : Value} {ts : List TermL} (h : TS w lo hi v ts) (hb : Below B w w') (hB : hi ≤ B) : TS w' lo hi v ts :=
  h.of_blocks fun b _ h2 _ => hb.block b (by omega)
theorem TS.only {w w' : World} {lo hi lo2 hi2 : Nat} {v : Value} {ts : List TermL} (h : TS w lo2 hi2 v ts) (ho : Only lo hi w w') (hd : hi2 ≤ lo ∨ hi ≤ lo2) : TS w' lo2 hi2 v ts :=
  h.of_blocks fun b h1 h2 h3 => ho.block b h3 (by omega)
theorem TS.mono {w : World} {lo hi lo' hi' : Nat} {v : Value} {ts : List TermL} (h : TS w lo hi v ts) (h1 : lo' ≤ lo) (h2 : hi ≤ hi') : TS w lo' hi' v ts := by
  obtain ⟨a, cap, hv, g1, g2, g3⟩ := h
  refine ⟨a, cap, hv, g1, g2, fun hl => ?_⟩
  obtain ⟨b, off, V2, V3, p, q, r, rfl, hb1, hb2, hbk, hel, hd⟩ := g3 hl
  exact ⟨b, off, V2, V3, p, q, r, rfl, by omega, by omega, hbk, fun i hi => ⟨by have := (hel i hi).1; omega, (hel i hi).2⟩, hd⟩
theorem info_term : (Try.prog.info? 92).map (fun i => (i.zero, i.size, i.bytes)) = some (some (.agg #[.int .i64 0, .slice none 0 0, .slice none 0 0]), 3, 56) := by kernel_rfl
theorem made3 (w : World) (n : Nat) : BK (w.alloc (.cells (madeCells #[.int .i64 0, .slice none 0 0, .slice none 0 0] (n * 3)) 92)) w.heap.size 0 (n * 3) 92 (trV (fun _ => .int .i64 0) (fun _ => .slice none 0 0) (fun _ => .slice none 0 0)) := by
  refine ⟨_, heap_alloc_new w _, fun i hi => ?_⟩
  rw [Nat.zero_add]
  unfold trV madeCells
  have hi3 : i % 3 = 0 ∨ i % 3 = 1 ∨ i % 3 = 2 := by omega
  rcases hi3 with h | h | h <;> simp [hi, h]

set_option maxRecDepth 100000 in
set_option maxHeartbeats 8000000 in
theorem toTermS_any (ts : List TermL) (v : Value) (hi : Nat) (w : World) (h : TSr w hi v ts) (hh : hi ≤ w.heap.size) (hl : totT ts ≤ 1048576) :
    Calls Try.prog 19 #[v] w fun e w' => ∃ v', e = .returned v' ∧ TS w' w.heap.size w'.heap.size v' ts ∧ Below w.heap.size w w' ∧ w.heap.size ≤ w'.heap.size := by
  obtain ⟨hln, hle⟩ := totT_len hl
  obtain ⟨n, hn⟩ : ∃ n, n = ts.length := ⟨_, rfl⟩
  have hmk : (Instr.makeSlice 34 (.int .i64 (n : Int)) (.int .i64 (n : Int))).run Try.prog w = .ok (.slice (some ⟨w.heap.size, 0, none⟩) n n) (w.alloc (.cells (madeCells #[.int .i64 0, .slice none 0 0, .slice none 0 0] (n * 3)) 92)) := by
    obtain ⟨i, hi, hz, hs, hb⟩ := info_parts info_term
    have := run_make (P := Try.prog) w 34 92 i _ Try.underlying34 hi hz .i64 .i64 n n (by omega) (Int.le_refl _) (by rw [hb]; omega) (by omega)
    rw [hs] at this
    simpa [Value.cells] using this
  have HNEW := Lib.hid (made3 w n)
  have HBEL := Lib.hid (below1 w (.cells (madeCells #[.int .i64 0, .slice none 0 0, .slice none 0 0] (n * 3)) 92))
  obtain ⟨a, cap, rfl, hcap, hm, hcell⟩ := id h
  unfold maxLen at hm
  rw [← hn] at hcap hln ⊢
  have HN := Lib.hid hn; clear hn
  have HC := Lib.hid hcell; clear hcell h
  have HLE := Lib.hid hle; clear hle
  go_enter Try.func19, Try.ntmps19
  go_wp2
  clear hmk
  go_loopw [4] (fun i wr => ∃ (k : Nat) (V0 V2 V3 : Nat → Value) (p q : Nat → Nat), k ≤ n ∧ i = .int .i64 k ∧ Hid (BK wr w.heap.size 0 (n * 3) 92 (trV V0 V2 V3)) ∧ Hid (∀ j, j < k → V0 j = .int .i64 (ts.getD j t0).1) ∧ Hid (∀ j, j < k → TEl wr (ts.getD j t0) (V2 j) (V3 j) (p j) (q j) (p (j + 1))) ∧
    Hid (p 0 = w.heap.size + 1 ∧ p k = wr.heap.size) ∧ Hid (Below w.heap.size w wr)) (fun i _ => n - (intOf i).toNat)
  case atStart => exact ⟨0, _, _, _, fun _ => w.heap.size + 1, fun _ => 0, by omega, rfl, HNEW, Lib.hid (fun j hj => absurd hj (Nat.not_lt_zero _)), Lib.hid (fun j hj => absurd hj (Nat.not_lt_zero _)), Lib.hid ⟨rfl, by simp⟩, HBEL⟩
  case round =>
    obtain ⟨k, V0, V2, V3, p, q, hk, rfl, hbk, hv0, hel, hp, hbe⟩ := hrel
    by_cases hlt : k < n
    · have hkl : k < ts.length := by rw [← HN.out]; exact hlt
      obtain ⟨b, off, S2, S3, rfl, hbb, hcc, hrr⟩ := HC.out (by intro e; rw [e] at hkl; exact absurd hkl (Nat.not_lt_zero _))
      obtain ⟨hsb, hr2, hr3⟩ := hrr k hkl
      obtain ⟨c0, c1, c2⟩ := (hcc.keep hbe.out (Nat.lt_of_lt_of_le hbb hh)) k hkl
      have HR2 := Lib.hid (hr2.keep hbe.out hh)
      have HR3 := Lib.hid (hr3.keep hbe.out hh)
      have HSZ := Lib.hid (show (ts.getD k t0).2.1.length + totS (ts.getD k t0).2.2 ≤ 1048576 from HLE.out k hkl)
      have HEL := Lib.hid (show ∀ w' v2 v3 a b c, TEl w' ((ts.getD k t0).1, (ts.getD k t0).2.1, (ts.getD k t0).2.2) v2 v3 a b c → TEl w' (ts.getD k t0) v2 v3 a b c from fun _ _ _ _ _ _ h => h)
      have HV0 := Lib.hid (show Value.int .i64 (ts.getD k t0).1 = .int .i64 (ts.getD k t0).1 from rfl)
      conv at HV0 => arg 1; rhs; rw [show (ts.getD k t0).1 = id (ts.getD k t0).1 from rfl]
      have HV0' := Lib.hid (show ∀ z, z = (ts.getD k t0).1 → Value.int .i64 z = .int .i64 (ts.getD k t0).1 from fun z hz => by rw [hz])
      clear hcc hrr hr2 hr3 hkl HV0 HV0'
      have HS0 := Lib.hid (show ∃ s, s = (ts.getD k t0).1 from ⟨_, rfl⟩)
      obtain ⟨s, hs⟩ := HS0.out
      have HSS := Lib.hid hs
      rw [← hs] at hsb c0 HEL
      clear hs HS0
      generalize (ts.getD k t0).2.1 = U at *
      generalize (ts.getD k t0).2.2 = G at *
      generalize S2 k = v2 at *
      generalize S3 k = v3 at *
      have hbz := hbe.out.size
      have hsl := totS_len (ls := G) (B := 1048576) (by have := HSZ.out; omega)
      have CT := toTerm_any s U G v2 v3 hi wr HR2.out HR3.out (by omega) (by have := HSZ.out; omega) hsl.1 hsl.2
      obtain ⟨a2, q2, rfl, -⟩ := id HR2.out
      obtain ⟨a3, q3, rfl, -⟩ := id HR3.out
      go_wp2_with fail
      refine CT.mono ?_
      rintro e w2 ⟨u1, u2, rfl, k1, k2, b2, s2⟩
      have hp2 := hp.out.2
      have hw0 : w.heap.size < wr.heap.size := by have := hbk.out.lt; exact this
      have hbk2 := hbk.out.of_block (b2.block w.heap.size hw0)
      have HBE2 := Lib.hid (below_then hbe.out hbz b2)
      have HNE := Lib.hid (show TEl w2 (ts.getD k t0) u1 u2 wr.heap.size (wr.heap.size + 4) w2.heap.size from HEL.out _ _ _ _ _ _ ⟨by omega, by omega, hsb, k1.mono (by omega) (Nat.le_refl _), by rw [s2]; exact k2⟩)
      have HOE := Lib.hid (show ∀ j, j < k → TEl w2 (ts.getD j t0) (V2 j) (V3 j) (p j) (q j) (p (j + 1)) from fun j hj => (hel.out j hj).keep b2 (by
        have hm := OwnL.mono (p := p) (n := k) (fun i hi => Nat.le_trans (hel.out i hi).1 (hel.out i hi).2.1) (j + 1) k hj (Nat.le_refl _)
        omega))
      obtain ⟨b1', d1, rfl, -⟩ := id k1
      obtain ⟨b2', d2, rfl, -⟩ := id k2
      have x0 := hbk2.cell (i := k * 3) (by omega)
      have x1 := hbk2.cell (i := k * 3 + 1) (by omega)
      have x2 := hbk2.cell (i := k * 3 + 2) (by omega)
      rw [Nat.zero_add] at x0 x1 x2
      have f0 := hbk2.frozen (k * 3)
      have f1 := hbk2.frozen (k * 3 + 1)
      have f2 := hbk2.frozen (k * 3 + 2)
      rw [trV_0] at x0
      rw [trV_1] at x1
      rw [trV_2] at x2
      have HBK2 := Lib.hid ((((hbk2.set (k := k * 3) (by omega) (.int .i64 s)).set (k := k * 3 + 1) (by omega) (.slice b1' U.length d1)).set (k := k * 3 + 2) (by omega) (.slice b2' G.length d2)).congr (fun i hi => tri_put _ _ _ k (.int .i64 s) (.slice b1' U.length d1) (.slice b2' G.length d2) i))
      have HS2 := Lib.hid (show w.heap.size < wr.heap.size ∧ w2.heap.size = wr.heap.size + 5 + G.length from ⟨hw0, s2⟩)
      clear hbk2 b2 s2 CT k1 k2 hw0 hsl hp2
      generalize V0 k = y0 at *
      generalize V2 k = y2 at *
      generalize V3 k = y3 at *
      simp only [Nat.zero_add] at HBK2
      have HB3 := Lib.hid ((((HBE2.out.setCell (p := ⟨w.heap.size, k * 3, none⟩) (Nat.le_refl _) (.int .i64 s)).setCell (p := ⟨w.heap.size, k * 3 + 1, none⟩) (Nat.le_refl _) (.slice b1' U.length d1)).setCell (p := ⟨w.heap.size, k * 3 + 2, none⟩) (Nat.le_refl _) (.slice b2' G.length d2)))
      have HSO := Lib.hid (fun (t : TermL) (x y : Value) (a b c : Nat) (h : TEl w2 t x y a b c) (ha : w.heap.size < a) => ((h.setOther (a := ⟨w.heap.size, k * 3, none⟩) (.inl ha) (.int .i64 s)).setOther (a := ⟨w.heap.size, k * 3 + 1, none⟩) (.inl ha) (.slice b1' U.length d1)).setOther (a := ⟨w.heap.size, k * 3 + 2, none⟩) (.inl ha) (.slice b2' G.length d2))
      go_wp2_with fail
      go_roundw
      case rel =>
        have hp0 := hp.out
        refine ⟨k + 1, _, _, _, fun j => if j ≤ k then p j else w2.heap.size, fun j => if j = k then wr.heap.size + 4 else q j, by omega, by go_num, HBK2, Lib.hid (fun j hj => ?_), Lib.hid (fun j hj => ?_), Lib.hid ⟨?_, ?_⟩, HB3⟩
        · by_cases e : j = k
          · subst e; rw [if_pos rfl, HSS.out]
          · rw [if_neg e]; exact hv0.out j (by omega)
        · by_cases e : j = k
          · subst e
            dsimp only
            have hw := HS2.out.1
            rw [if_pos rfl, if_pos rfl, if_pos rfl, if_pos (Nat.le_refl j), if_neg (show ¬ j + 1 ≤ j by omega), hp0.2]
            exact HSO.out _ _ _ _ _ _ HNE.out hw
          · have hm := OwnL.mono (p := p) (n := k) (fun i hi => Nat.le_trans (hel.out i hi).1 (hel.out i hi).2.1) 0 j (Nat.zero_le _) (by omega)
            dsimp only
            rw [if_neg e, if_neg e, if_neg e, if_pos (show j ≤ k by omega), if_pos (show j + 1 ≤ k by omega)]
            exact HSO.out _ _ _ _ _ _ (HOE.out j (by omega)) (by omega)
        · dsimp only; rw [if_pos (Nat.zero_le _)]; exact hp0.1
        · dsimp only; rw [if_neg (by omega)]; simp
      case measure => simp [intOf]; omega
    · obtain rfl : k = n := by omega
      go_wp2
      go_ret
      refine ⟨_, rfl, ⟨some ⟨w.heap.size, 0, none⟩, k, by rw [← HN.out]; rfl, by rw [← HN.out]; exact Nat.le_refl _, by unfold maxLen; omega, fun hl => ⟨w.heap.size, 0, V2, V3, p, q, fun i => p (i + 1), rfl, Nat.le_refl _, hbk.out.lt, ?_, ?_, ?_⟩⟩, hbe.out, hbe.out.size⟩
      · rw [← HN.out]
        refine hbk.out.congr fun j hj => ?_
        unfold trV
        by_cases e : j % 3 = 0
        · rw [if_pos e, if_pos e]; exact hv0.out (j / 3) (by omega)
        · rw [if_neg e, if_neg e]
      · intro i hi
        rw [← HN.out] at hi
        have hm := OwnL.mono (p := p) (n := k) (fun i hi => Nat.le_trans (hel.out i hi).1 (hel.out i hi).2.1)
        have h0 := hm 0 i (Nat.zero_le _) (by omega)
        have h1 := hm (i + 1) k hi (Nat.le_refl _)
        have hp1 := hp.out.1
        have hp2 := hp.out.2
        exact ⟨⟨by omega, by dsimp only; omega⟩, .inl (by omega), hel.out i hi⟩
      · intro i j hij hj
        rw [← HN.out] at hj
        exact OwnL.mono (p := p) (n := k) (fun i hi => Nat.le_trans (hel.out i hi).1 (hel.out i hi).2.1) (i + 1) j hij (by omega)

set_option maxRecDepth 100000 in
set_option maxHeartbeats 8000000 in
theorem eqTermS_any (ts : List TermL) (v1 v2 : Value) (h1 h2 : Nat) (w : World) (i1 : TSr w h1 v1 ts) (i2 : TSr w h2 v2 ts) (hb1 : h1 ≤ w.heap.size) (hb2 : h2 ≤ w.heap.size) :
    Calls Try.prog 21 #[v1, v2] w fun e w' => e = .returned (.bool true) ∧ Below w.heap.size w w' := by
  obtain ⟨a, cap, rfl, hcap, hm, hcell⟩ := id i1
  obtain ⟨a', cap', rfl, hcap', hm', hcell'⟩ := id i2
  unfold maxLen at hm hm'
  obtain ⟨n, hn⟩ : ∃ n, n = ts.length := ⟨_, rfl⟩
  rw [← hn] at hcap hcap' ⊢
  have HN := Lib.hid hn; clear hn
  have HC := Lib.hid hcell; clear hcell i1
  have HC' := Lib.hid hcell'; clear hcell' i2
  go_enter Try.func21, Try.ntmps21
  go_wp2
  go_loopw [5] (fun i wr => ∃ k : Nat, k ≤ n ∧ i = .int .i64 k ∧ Hid (Below w.heap.size w wr)) (fun i _ => n - (intOf i).toNat)
  case atStart => exact ⟨0, by omega, rfl, Below.refl _ _⟩
  case round =>
    obtain ⟨k, hk, rfl, hbe⟩ := hrel
    by_cases hlt : k < n
    · have hkl : k < ts.length := by rw [← HN.out]; exact hlt
      have hne : ts ≠ [] := by intro e; rw [e] at hkl; exact absurd hkl (Nat.not_lt_zero _)
      obtain ⟨b, off, V2, V3, rfl, hbb, hcc, hrr⟩ := HC.out hne
      obtain ⟨b', off', V2', V3', rfl, hbb', hcc', hrr'⟩ := HC'.out hne
      obtain ⟨hsb, hr2, hr3⟩ := hrr k hkl
      obtain ⟨-, hr2', hr3'⟩ := hrr' k hkl
      obtain ⟨c0, c1, c2⟩ := (hcc.keep hbe.out (Nat.lt_of_lt_of_le hbb hb1)) k hkl
      obtain ⟨d0, d1, d2⟩ := (hcc'.keep hbe.out (Nat.lt_of_lt_of_le hbb' hb2)) k hkl
      have HR2 := Lib.hid (hr2.keep hbe.out hb1)
      have HR3 := Lib.hid (hr3.keep hbe.out hb1)
      have HR2' := Lib.hid (hr2'.keep hbe.out hb2)
      have HR3' := Lib.hid (hr3'.keep hbe.out hb2)
      clear hcc hrr hr2 hr3 hcc' hrr' hr2' hr3' hkl hne
      generalize (ts.getD k t0).1 = s at *
      generalize (ts.getD k t0).2.1 = U at *
      generalize (ts.getD k t0).2.2 = G at *
      generalize V2 k = v2 at *
      generalize V3 k = v3 at *
      generalize V2' k = v2' at *
      generalize V3' k = v3' at *
      have hbz := hbe.out.size
      have hgb : b < wr.heap.size := by omega
      have hgb' : b' < wr.heap.size := by omega
      have CT := eqTerm_any s U G v2 v3 v2' v3' h1 h2 wr.drew HR2.out HR3.out HR2'.out HR3'.out (by show h1 ≤ wr.heap.size; omega) (by show h2 ≤ wr.heap.size; omega)
      have hi1 : (0 : Int) ≤ (k : Int) := by omega
      have hi2 : (k : Int) < (n : Int) := by omega
      go_wp2_with fail
      go_region_held3 (fun w' => w'.cell? ⟨b, off + k * 3, none⟩ = some (.int .i64 s) ∧ w'.cell? ⟨b, off + k * 3 + 1, none⟩ = some v2 ∧ w'.cell? ⟨b, off + k * 3 + 2, none⟩ = some v3 ∧ w'.cell? ⟨b', off' + k * 3, none⟩ = some (.int .i64 s) ∧ w'.cell? ⟨b', off' + k * 3 + 1, none⟩ = some v2' ∧ w'.cell? ⟨b', off' + k * 3 + 2, none⟩ = some v3')
        (go_keep)
        (first
          | (go_at_call 114; (with_reducible refine CT.mono ?_); rintro e w3 ⟨rfl, b3⟩
             have B3 := Lib.hid (show Below wr.heap.size wr w3 from (below_draws _ wr 1).trans b3)
             have q0 := (B3.out.cell (p := ⟨b, off + k * 3, none⟩) hgb).trans c0
             have q1 := (B3.out.cell (p := ⟨b, off + k * 3 + 1, none⟩) hgb).trans c1
             have q2 := (B3.out.cell (p := ⟨b, off + k * 3 + 2, none⟩) hgb).trans c2
             have q3 := (B3.out.cell (p := ⟨b', off' + k * 3, none⟩) hgb').trans d0
             have q4 := (B3.out.cell (p := ⟨b', off' + k * 3 + 1, none⟩) hgb').trans d1
             have q5 := (B3.out.cell (p := ⟨b', off' + k * 3 + 2, none⟩) hgb').trans d2))
      have HBE := Lib.hid (below_then hbe.out hbz B3.out)
      clear b3 q0 q1 q2 q3 q4 q5 c0 c1 c2 d0 d1 d2 CT
      go_wp2
      go_roundw
      case rel => exact ⟨k + 1, by omega, by go_num, HBE⟩
      case measure => simp [intOf]; omega
    · obtain rfl : k = n := by omega
      go_wp2
      go_ret
      exact ⟨rfl, hbe.out⟩
end Go.Proofs.Ytfncikbmdaameaa

/- What comes in: slices of terms. -/
namespace Go.Proofs.Ytfncikbmdaameaa
open Go.ChangeShapes Go.WideShapes Go.ChangeAt Go.RowKit Go.Joins
set_option linter.unusedVariables false
set_option linter.unusedSimpArgs false

set_option maxRecDepth 100000 in
theorem openTermElem {H : Type} {enc : TypeId × Value → H} {W : World} {n : Nat} {cs : List Value} {y : DataW H × List MemPlace}
    (hf : DataW.trod enc Try.prog W 0 (fun _ => true) true n 101 cs = some y) (hl : cs.length = 3) : ∃ t : TermL, ∃ v2 v3, cs = [.int .i64 t.1, v2, v3] ∧ (-9223372036854775808 ≤ t.1 ∧ t.1 ≤ 9223372036854775807) ∧ ISr W W.heap.size v2 t.2.1 ∧ ISSr W W.heap.size v3 t.2.2 := by
  obtain ⟨y0, y1, y2, k, -, -, h0, h1, h2⟩ := Go.Deep.trod_struct3 Try.underlying101 hf
  match cs, hl with
  | [c0, c1, c2], _ =>
    have e0 : Try.prog.cellsOf 3 = 1 := by kernel_rfl
    have e1 : Try.prog.cellsOf 46 = 1 := by kernel_rfl
    have e2 : Try.prog.cellsOf 24 = 1 := by kernel_rfl
    simp only [e0, e1, e2] at h0 h1 h2
    obtain ⟨z, ez, rfl, wn⟩ := DataW.trod_int Try.underlying3 h0
    obtain ⟨l1, j1⟩ := openIntsCell (v := c1) (by simpa using h1)
    obtain ⟨l2, j2⟩ := openIntssCells (v := c2) (by simpa using h2)
    simp at ez
    subst ez
    exact ⟨(z, l1, l2), c1, c2, rfl, bounds_i64 wn, j1, j2⟩
set_option maxRecDepth 100000 in
theorem openTerms {H : Type} {enc : TypeId × Value → H} {W : World} {base : Nat} {v : Value} {d : DataW H} {p : List MemPlace}
    (hv : Value.okWide Try.prog W .any base 31 v) (h : DataW.Trod enc Try.prog W 0 (fun _ => true) true 31 v d p) : ∃ ts, TSr W W.heap.size v ts := by
  obtain ⟨a0, len0, cap0, rfl⟩ := okWide_slice Try.underlying31 hv
  obtain ⟨fuel, hf⟩ := h
  rcases Go.Deep.open_slice Try.underlying31 (by simpa [Value.cells] using hf) with ⟨hcs, _⟩ | ⟨a, len, cap, m, n, D, Pl, hcs, hb, hl, hm, hmm, hx, hel⟩
  · simp at hcs
    obtain ⟨rfl, rfl, rfl⟩ := hcs
    exact ⟨[], none, 0, rfl, Nat.le_refl _, Nat.zero_le _, fun h => absurd rfl h⟩
  · simp at hcs
    obtain ⟨rfl, rfl, rfl⟩ := hcs
    have hc3 : Try.prog.cellsOf 101 = 3 := by kernel_rfl
    rw [hc3] at hel
    simp only [if_true] at hmm
    have each : ∀ i, i < len0 → ∃ q : TermL × Value × Value, (W.cell? (a.add (i * 3)) = some (.int .i64 q.1.1) ∧ W.cell? (a.add (i * 3 + 1)) = some q.2.1 ∧ W.cell? (a.add (i * 3 + 2)) = some q.2.2) ∧
        (-9223372036854775808 ≤ q.1.1 ∧ q.1.1 ≤ 9223372036854775807) ∧ ISr W W.heap.size q.2.1 q.1.2.1 ∧ ISSr W W.heap.size q.2.2 q.1.2.2 := by
      intro i hi
      obtain ⟨cs', h1, h2⟩ := hel i (by omega)
      obtain ⟨_, hlen, hcell⟩ := World.cells?_some h1
      obtain ⟨t, v2, v3, rfl, k1, k2, k3⟩ := openTermElem h2 hlen
      have e0 := hcell 0 (by omega)
      have e1 := hcell 1 (by omega)
      have e2 := hcell 2 (by omega)
      rw [Go.Deep.add_add] at e0 e1 e2
      exact ⟨(t, v2, v3), ⟨by simpa using e0, by simpa using e1, by simpa using e2⟩, k1, k2, k3⟩
    obtain ⟨q, hq⟩ := Go.Deep.choose_lt each
    refine ⟨(List.range len0).map fun i => (q i).1, some a, cap0, by simp, by simpa using hl, hm, fun hne => ?_⟩
    have hpos : 0 < len0 := by
      rcases Nat.eq_zero_or_pos len0 with h0 | h0
      · subst h0; simp at hne
      · exact h0
    obtain ⟨b, off, spot⟩ := a
    have hc0 := (hq 0 hpos).1.1
    have hspot : spot = none := by simpa [Addr.add] using World.cell?_spot hc0
    subst hspot
    have ha : ∀ (i : Nat), (⟨b, off, none⟩ : Addr).add i = ⟨b, off + i, none⟩ := by
      intro i; simp only [Addr.add]; split <;> simp_all
    have hget : ∀ i, i < len0 → ((List.range len0).map fun i => (q i).1).getD i t0 = (q i).1 := fun i hi => by
      rw [List.getD_eq_getElem?_getD]; simp [hi]
    refine ⟨b, off, fun i => (q i).2.1, fun i => (q i).2.2, rfl, by simpa [Addr.add] using World.block_lt_of_cell? _ _ hc0, fun i hi => ?_, fun i hi => ?_⟩
    · have hi : i < len0 := by simpa using hi
      rw [hget i hi]
      obtain ⟨⟨h1, h2, h3⟩, -⟩ := hq i hi
      rw [ha] at h1 h2 h3
      exact ⟨h1, by rw [Nat.add_assoc]; exact h2, by rw [Nat.add_assoc]; exact h3⟩
    · have hi : i < len0 := by simpa using hi
      rw [hget i hi]
      exact (hq i hi).2
end Go.Proofs.Ytfncikbmdaameaa
