/- B6: texts in one: TS TSv TSL TST OpenTS. -/
import Derived.Test.YtehhoplenloocaaB3
import Derived.Test.YtehhoplenloocaaB1
import Derived.Test.YtehhoplenloocaaB2
import Derived.Deep.RegionHeld3
import Derived.Deep.Slices
/- Slices of terms that read as lists. -/
namespace Go.Proofs.Ytehhoplenloocaa
open Go.RowKit
set_option linter.unusedVariables false
set_option linter.unusedSimpArgs false

abbrev TermL := Int × List Int × List (List Int)
def t0 : TermL := (0, [], [])
/-- the cells of n terms from an offset on -/
def TC (w : World) (b off n : Nat) (ts : List TermL) (V2 V3 : Nat → Value) : Prop :=
  ∀ i, i < n → w.cell? ⟨b, off + i * 3, none⟩ = some (.int .i64 (ts.getD i t0).1) ∧ w.cell? ⟨b, off + i * 3 + 1, none⟩ = some (V2 i) ∧ w.cell? ⟨b, off + i * 3 + 2, none⟩ = some (V3 i)
/-- read only -/
def TSr (w : World) (hi : Nat) (v : Value) (ts : List TermL) : Prop :=
  ∃ a cap, v = .slice a ts.length cap ∧ ts.length ≤ cap ∧ cap ≤ maxLen ∧
    (ts ≠ [] → ∃ b off, ∃ V2 V3 : Nat → Value, a = some ⟨b, off, none⟩ ∧ b < hi ∧ TC w b off ts.length ts V2 V3 ∧
      ∀ i, i < ts.length → (-9223372036854775808 ≤ (ts.getD i t0).1 ∧ (ts.getD i t0).1 ≤ 9223372036854775807) ∧ ISr w hi (V2 i) (ts.getD i t0).2.1 ∧ ISSr w hi (V3 i) (ts.getD i t0).2.2)
theorem TSr.cases {w : World} {hi : Nat} {v : Value} {ts : List TermL} (h : TSr w hi v ts) :
    (ts = [] ∧ ∃ a cap, v = .slice a 0 cap) ∨ (0 < ts.length ∧ ts.length ≤ 9223372036854775807 ∧ ∃ b off cap, ∃ V2 V3 : Nat → Value, v = .slice (some ⟨b, off, none⟩) ts.length cap ∧ b < hi ∧ TC w b off ts.length ts V2 V3 ∧
      ∀ i, i < ts.length → (-9223372036854775808 ≤ (ts.getD i t0).1 ∧ (ts.getD i t0).1 ≤ 9223372036854775807) ∧ ISr w hi (V2 i) (ts.getD i t0).2.1 ∧ ISSr w hi (V3 i) (ts.getD i t0).2.2) := by
  obtain ⟨a, cap, hv, h1, h2, h3⟩ := h
  unfold maxLen at h2
  by_cases hl : ts = []
  · subst hl; exact .inl ⟨rfl, a, cap, hv⟩
  · obtain ⟨b, off, V2, V3, rfl, hb, hc⟩ := h3 hl
    exact .inr ⟨List.length_pos_iff.2 hl, by omega, b, off, cap, V2, V3, hv, hb, hc⟩
theorem TC.keep {w w' : World} {b off n B : Nat} {ts : List TermL} {V2 V3 : Nat → Value} (h : TC w b off n ts V2 V3) (hb : Below B w w') (hB : b < B) : TC w' b off n ts V2 V3 := fun i hi =>
  ⟨(hb.cell (p := ⟨b, off + i * 3, none⟩) hB).trans (h i hi).1, (hb.cell (p := ⟨b, off + i * 3 + 1, none⟩) hB).trans (h i hi).2.1, (hb.cell (p := ⟨b, off + i * 3 + 2, none⟩) hB).trans (h i hi).2.2⟩
theorem TSr.keep {w w' : World} {hi B : Nat} {v : Value} {ts : List TermL} (h : TSr w hi v ts) (hb : Below B w w') (hB : hi ≤ B) : TSr w' hi v ts := by
  obtain ⟨a, cap, hv, h1, h2, h3⟩ := h
  refine ⟨a, cap, hv, h1, h2, fun hl => ?_⟩
  obtain ⟨b, off, V2, V3, ha, hb', hc, hr⟩ := h3 hl
  exact ⟨b, off, V2, V3, ha, hb', hc.keep hb (Nat.lt_of_lt_of_le hb' hB), fun i hi => ⟨(hr i hi).1, (hr i hi).2.1.keep hb hB, (hr i hi).2.2.keep hb hB⟩⟩
theorem TSr.upto {w : World} {a b : Nat} {v : Value} {ts : List TermL} (h : TSr w a v ts) (hab : a ≤ b) : TSr w b v ts := by
  obtain ⟨x, cap, h0, h1, h2, h3⟩ := h
  refine ⟨x, cap, h0, h1, h2, fun hne => ?_⟩
  obtain ⟨bb, off, V2, V3, e, hb, hc, hr⟩ := h3 hne
  exact ⟨bb, off, V2, V3, e, Nat.lt_of_lt_of_le hb hab, hc, fun i hi => ⟨(hr i hi).1, (hr i hi).2.1.upto hab, (hr i hi).2.2.upto hab⟩⟩
/-- what a series gives at a point -/
def tbAt (ts : List TermL) (k : Nat) : Bool := termB (ts.getD k t0).1 (ts.getD k t0).2.1 (ts.getD k t0).2.2
def serAll (ts : List TermL) (k : Nat) : Bool := (ts.take k).all fun t => termB t.1 t.2.1 t.2.2
def serSum (ts : List TermL) (x : List Int) : Nat → Int
  | 0 => 0
  | k + 1 => serSum ts x k + termAt (ts.getD k t0).1 (ts.getD k t0).2.1 (ts.getD k t0).2.2 x
def serAt (ts : List TermL) (x : List Int) : Int := if decide (ts.length ≤ 60) && serAll ts ts.length then serSum ts x ts.length else 0

theorem serAll_step (ts : List TermL) (k : Nat) (h : k < ts.length) : serAll ts (k + 1) = (serAll ts k && termB (ts.getD k t0).1 (ts.getD k t0).2.1 (ts.getD k t0).2.2) := by
  unfold serAll
  rw [List.take_succ_eq_append_getElem h, List.all_append, List.getD_eq_getElem?_getD, List.getElem?_eq_getElem h]; simp
theorem serAll_false (ts : List TermL) (k : Nat) (h : k < ts.length) (hf : tbAt ts k = false) : serAll ts ts.length = false := by
  unfold tbAt at hf
  unfold serAll
  rw [List.take_length, List.all_eq_false]
  refine ⟨ts.getD k t0, ?_, by rw [hf]; simp⟩
  rw [List.getD_eq_getElem?_getD, List.getElem?_eq_getElem h]; exact List.getElem_mem h
theorem termAt_bd (s : Int) (U : List Int) (G : List (List Int)) (x : List Int) : -1 ≤ termAt s U G x ∧ termAt s U G x ≤ 1 := by
  unfold termAt
  split
  · rename_i h
    simp only [Bool.and_eq_true] at h
    have := h.1.1.1
    unfold termB at this
    simp only [Bool.and_eq_true, decide_eq_true_eq] at this
    omega
  · omega
theorem serSum_bd (ts : List TermL) (x : List Int) : ∀ k : Nat, -(k : Int) ≤ serSum ts x k ∧ serSum ts x k ≤ (k : Int)
  | 0 => by simp [serSum]
  | k + 1 => by
    have h1 := serSum_bd ts x k
    have h2 := termAt_bd (ts.getD k t0).1 (ts.getD k t0).2.1 (ts.getD k t0).2.2 x
    show _ ≤ serSum ts x k + _ ∧ serSum ts x k + _ ≤ _
    push_cast
    omega

end Go.Proofs.Ytehhoplenloocaa

/- Series: the model's points, the values. -/
namespace Go.Proofs.Ytehhoplenloocaa
open Go.RowKit
set_option linter.unusedVariables false
set_option linter.unusedSimpArgs false

/-- the facts on one element -/
theorem TSr.elem {w wr : World} {hb : Nat} {b off n : Nat} {ts : List TermL} {V2 V3 : Nat → Value} (hcc : TC w b off n ts V2 V3) (hbb : b < hb) (hhb : hb ≤ w.heap.size) (hbe : Below w.heap.size w wr) {k : Nat} (hk : k < n)
    (hr2 : ISr w hb (V2 k) (ts.getD k t0).2.1) (hr3 : ISSr w hb (V3 k) (ts.getD k t0).2.2) :
    (wr.cell? ⟨b, off + k * 3, none⟩ = some (.int .i64 (ts.getD k t0).1) ∧ wr.cell? ⟨b, off + k * 3 + 1, none⟩ = some (V2 k) ∧ wr.cell? ⟨b, off + k * 3 + 2, none⟩ = some (V3 k)) ∧ Hid (ISr wr hb (V2 k) (ts.getD k t0).2.1) ∧ Hid (ISSr wr hb (V3 k) (ts.getD k t0).2.2) :=
  ⟨(hcc.keep hbe (Nat.lt_of_lt_of_le hbb hhb)) k hk, Lib.hid (hr2.keep hbe hhb), Lib.hid (hr3.keep hbe hhb)⟩



/-- values of series -/
def serVk (ts : List TermL) (a b : Int) : Nat → Int
  | 0 => 0
  | k + 1 => (serVk ts a b k + (termV (ts.getD k t0).1 (ts.getD k t0).2.1 (ts.getD k t0).2.2 a b).1) % 10007
def serVok (ts : List TermL) (a b : Int) (k : Nat) : Prop := ∀ i, i < k → (termV (ts.getD i t0).1 (ts.getD i t0).2.1 (ts.getD i t0).2.2 a b).2 = true
def serV (ts : List TermL) (a b : Int) : Int × Bool :=
  if decide (ts.length ≤ 60) && (List.range ts.length).all (fun i => (termV (ts.getD i t0).1 (ts.getD i t0).2.1 (ts.getD i t0).2.2 a b).2) then (serVk ts a b ts.length, true) else (0, false)
theorem serV_big {ts : List TermL} {a b : Int} (h : ¬ ts.length ≤ 60) : serV ts a b = (0, false) := by unfold serV; rw [decide_eq_false h]; rfl
theorem serV_no {ts : List TermL} {a b : Int} {k : Nat} (hk : k < ts.length) (h : (termV (ts.getD k t0).1 (ts.getD k t0).2.1 (ts.getD k t0).2.2 a b).2 = false) : serV ts a b = (0, false) := by
  unfold serV
  rw [if_neg]
  rw [Bool.and_eq_true, List.all_eq_true]
  intro hh
  have := hh.2 k (List.mem_range.2 hk)
  rw [h] at this; cases this
theorem serV_yes {ts : List TermL} {a b : Int} (h60 : ts.length ≤ 60) (h : serVok ts a b ts.length) : serV ts a b = (serVk ts a b ts.length, true) := by
  unfold serV
  rw [if_pos]
  rw [Bool.and_eq_true, List.all_eq_true]
  exact ⟨decide_eq_true h60, fun i hi => h i (List.mem_range.1 hi)⟩
theorem serVk_bd (ts : List TermL) (a b : Int) : ∀ k, 0 ≤ serVk ts a b k ∧ serVk ts a b k < 10007
  | 0 => by simp [serVk]
  | k + 1 => by rw [serVk]; omega
theorem termV_bd (s : Int) (U : List Int) (G : List (List Int)) (a b : Int) : 0 ≤ (termV s U G a b).1 ∧ (termV s U G a b).1 < 10007 := by
  unfold termV
  split
  · exact tvK_bd s U G a b _
  · simp

set_option maxRecDepth 100000 in
set_option maxHeartbeats 4000000 in
theorem implSeriesValue_any (ts : List TermL) (v : Value) (a0 b0 : Int) (hb : Nat) (w : World) (h : TSr w hb v ts) (hhb : hb ≤ w.heap.size) :
    Calls Try.prog 48 #[v, .int .i64 a0, .int .i64 b0] w fun e w' => e = .returned (.tuple #[.int .i64 (serV ts a0 b0).1, .bool (serV ts a0 b0).2]) ∧ Below w.heap.size w w' := by
  obtain ⟨a, cap, rfl, hcap, hm, hcell⟩ := id h
  unfold maxLen at hm
  obtain ⟨n, hn⟩ : ∃ n, n = ts.length := ⟨_, rfl⟩
  by_cases h60 : ts.length ≤ 60
  · have HYES := Lib.hid (serV_yes (a := a0) (b := b0) h60)
    rw [← hn] at hcap h60 HYES ⊢
    have HN := Lib.hid hn; clear hn
    have HC := Lib.hid hcell; clear hcell h
    go_enter Try.func48, Try.ntmps48
    go_wp2
    go_loopw [8, 18] (fun sv i wr => ∃ k : Nat, k ≤ n ∧ i = .int .i64 k ∧ sv = .int .i64 (serVk ts a0 b0 k) ∧ Hid (serVok ts a0 b0 k) ∧ Hid (Below w.heap.size w wr)) (fun _ i _ => n - (intOf i).toNat)
    case atStart => exact ⟨0, by omega, rfl, rfl, Lib.hid (fun i hi => absurd hi (Nat.not_lt_zero _)), Below.refl _ _⟩
    case round =>
      obtain ⟨k, hk, rfl, rfl, hall, hbe⟩ := hrel
      by_cases hlt : k < n
      · have hkl : k < ts.length := by rw [← HN.out]; exact hlt
        obtain ⟨b, off, V2, V3, rfl, hbb, hcc, hrr⟩ := HC.out (by intro e; rw [e] at hkl; exact absurd hkl (Nat.not_lt_zero _))
        obtain ⟨hsb, hr2, hr3⟩ := hrr k hkl
        obtain ⟨⟨c0, c1, c2⟩, HR2, HR3⟩ := TSr.elem hcc hbb hhb hbe.out hkl hr2 hr3
        have HST := Lib.hid (show serVk ts a0 b0 (k + 1) = (serVk ts a0 b0 k + (termV (ts.getD k t0).1 (ts.getD k t0).2.1 (ts.getD k t0).2.2 a0 b0).1) % 10007 from rfl)
        have HNO := Lib.hid (serV_no (a := a0) (b := b0) hkl)
        have HOK := Lib.hid (show (termV (ts.getD k t0).1 (ts.getD k t0).2.1 (ts.getD k t0).2.2 a0 b0).2 = true → serVok ts a0 b0 (k + 1) from fun h0 i hi => by
          by_cases e : i = k
          · subst e; exact h0
          · exact hall.out i (by omega))
        have hv1 := serVk_bd ts a0 b0 k
        clear hcc hrr hr2 hr3 hkl
        generalize (ts.getD k t0).1 = s at *
        generalize (ts.getD k t0).2.1 = U at *
        generalize (ts.getD k t0).2.2 = G at *
        generalize V2 k = v2 at *
        generalize V3 k = v3 at *
        have hv2 := termV_bd s U G a0 b0
        have hbz := hbe.out.size
        have HB1 := Lib.hid (below1 wr (.cells #[.int .i64 s, v2, v3] 50))
        obtain ⟨a2, q2, rfl, -⟩ := id HR2.out
        obtain ⟨a3, q3, rfl, -⟩ := id HR3.out
        have CT := implTermValue_any s U G (.slice a2 U.length q2) (.slice a3 G.length q3) a0 b0 hb _ hsb (HR2.out.keep HB1.out (by omega)) (HR3.out.keep HB1.out (by omega)) (by have := HB1.out.size; omega)
        generalize termV s U G a0 b0 = pp at *
        obtain ⟨q, ok⟩ := pp
        dsimp only at *
        generalize serVk ts a0 b0 k = acc at *
        go_wp2_with fail
        refine CT.mono ?_
        rintro e w2 ⟨rfl, b2⟩
        have HB2 := Lib.hid (below_then hbe.out hbz (below_then HB1.out HB1.out.size b2))
        clear b2 CT HB1
        cases ok with
        | false =>
          have HF := Lib.hid (HNO.out rfl)
          go_wp2
          go_ret2
          exact ⟨ret_pts HF.out, HB2.out⟩
        | true =>
          have HO2 := Lib.hid (HOK.out rfl)
          have hmod : (acc + q).tmod 10007 = (acc + q) % 10007 := Int.tmod_eq_emod_of_nonneg (by omega)
          go_wp2
          go_roundw
          case rel => exact ⟨k + 1, by omega, by go_num, by rw [HST.out], HO2, HB2⟩
          case measure => simp [intOf]; omega
      · obtain rfl : k = n := by omega
        have HF := Lib.hid (HYES.out hall.out)
        go_wp2
        go_ret2
        exact ⟨ret_pts HF.out, hbe.out⟩
  · have hf := serV_big (a := a0) (b := b0) h60
    rw [hf]
    rw [← hn] at h60 hcap ⊢
    clear hf hcell h
    go_enter Try.func48, Try.ntmps48
    go_wp2
    go_ret2
    exact ⟨rfl, Below.refl _ _⟩

set_option maxRecDepth 100000 in
set_option maxHeartbeats 4000000 in
theorem specSeriesValue_any (ts : List TermL) (v : Value) (a0 b0 : Int) (hb : Nat) (w : World) (h : TSr w hb v ts) (hhb : hb ≤ w.heap.size) :
    Calls Try.prog 49 #[v, .int .i64 a0, .int .i64 b0] w fun e w' => e = .returned (.tuple #[.int .i64 (serV ts a0 b0).1, .bool (serV ts a0 b0).2]) ∧ Below w.heap.size w w' := by
  obtain ⟨a, cap, rfl, hcap, hm, hcell⟩ := id h
  unfold maxLen at hm
  obtain ⟨n, hn⟩ : ∃ n, n = ts.length := ⟨_, rfl⟩
  by_cases h60 : ts.length ≤ 60
  · have HYES := Lib.hid (serV_yes (a := a0) (b := b0) h60)
    rw [← hn] at hcap h60 HYES ⊢
    have HN := Lib.hid hn; clear hn
    have HC := Lib.hid hcell; clear hcell h
    go_enter Try.func49, Try.ntmps49
    go_wp2
    go_loopw [8, 9] (fun sv i wr => ∃ k : Nat, k ≤ n ∧ i = .int .i64 k ∧ sv = .int .i64 (serVk ts a0 b0 k) ∧ Hid (serVok ts a0 b0 k) ∧ Hid (Below w.heap.size w wr)) (fun _ i _ => n - (intOf i).toNat)
    case atStart => exact ⟨0, by omega, rfl, rfl, Lib.hid (fun i hi => absurd hi (Nat.not_lt_zero _)), Below.refl _ _⟩
    case round =>
      obtain ⟨k, hk, rfl, rfl, hall, hbe⟩ := hrel
      by_cases hlt : k < n
      · have hkl : k < ts.length := by rw [← HN.out]; exact hlt
        obtain ⟨b, off, V2, V3, rfl, hbb, hcc, hrr⟩ := HC.out (by intro e; rw [e] at hkl; exact absurd hkl (Nat.not_lt_zero _))
        obtain ⟨hsb, hr2, hr3⟩ := hrr k hkl
        obtain ⟨⟨c0, c1, c2⟩, HR2, HR3⟩ := TSr.elem hcc hbb hhb hbe.out hkl hr2 hr3
        have HST := Lib.hid (show serVk ts a0 b0 (k + 1) = (serVk ts a0 b0 k + (termV (ts.getD k t0).1 (ts.getD k t0).2.1 (ts.getD k t0).2.2 a0 b0).1) % 10007 from rfl)
        have HNO := Lib.hid (serV_no (a := a0) (b := b0) hkl)
        have HOK := Lib.hid (show (termV (ts.getD k t0).1 (ts.getD k t0).2.1 (ts.getD k t0).2.2 a0 b0).2 = true → serVok ts a0 b0 (k + 1) from fun h0 i hi => by
          by_cases e : i = k
          · subst e; exact h0
          · exact hall.out i (by omega))
        have hv1 := serVk_bd ts a0 b0 k
        clear hcc hrr hr2 hr3 hkl
        generalize (ts.getD k t0).1 = s at *
        generalize (ts.getD k t0).2.1 = U at *
        generalize (ts.getD k t0).2.2 = G at *
        generalize V2 k = v2 at *
        generalize V3 k = v3 at *
        have hv2 := termV_bd s U G a0 b0
        have hbz := hbe.out.size
        obtain ⟨a2, q2, rfl, -⟩ := id HR2.out
        obtain ⟨a3, q3, rfl, -⟩ := id HR3.out
        have CT := specTermValue_any s U G (.slice a2 U.length q2) (.slice a3 G.length q3) a0 b0 hb wr hsb HR2.out HR3.out (by omega)
        generalize termV s U G a0 b0 = pp at *
        obtain ⟨q, ok⟩ := pp
        dsimp only at *
        generalize serVk ts a0 b0 k = acc at *
        go_wp2_with fail
        refine CT.mono ?_
        rintro e w2 ⟨rfl, b2⟩
        have HB2 := Lib.hid (below_then hbe.out hbz b2)
        clear b2 CT
        cases ok with
        | false =>
          have HF := Lib.hid (HNO.out rfl)
          go_wp2
          go_ret2
          exact ⟨ret_pts HF.out, HB2.out⟩
        | true =>
          have HO2 := Lib.hid (HOK.out rfl)
          have hmod : (acc + q).tmod 10007 = (acc + q) % 10007 := Int.tmod_eq_emod_of_nonneg (by omega)
          go_wp2
          go_roundw
          case rel => exact ⟨k + 1, by omega, by go_num, by rw [HST.out], HO2, HB2⟩
          case measure => simp [intOf]; omega
      · obtain rfl : k = n := by omega
        have HF := Lib.hid (HYES.out hall.out)
        go_wp2
        go_ret2
        exact ⟨ret_pts HF.out, hbe.out⟩
  · have hf := serV_big (a := a0) (b := b0) h60
    rw [hf]
    rw [← hn] at h60 hcap ⊢
    clear hf hcell h
    go_enter Try.func49, Try.ntmps49
    go_wp2
    go_ret2
    exact ⟨rfl, Below.refl _ _⟩
end Go.Proofs.Ytehhoplenloocaa

/- Slices of terms as the laws measure, copy and compare them. -/
namespace Go.Proofs.Ytehhoplenloocaa
open Go.RowKit
set_option linter.unusedVariables false
set_option linter.unusedSimpArgs false

theorem wrap64_in {n : Int} (h : -9223372036854775808 ≤ n ∧ n ≤ 9223372036854775807) : wrap64 n = n := by unfold wrap64; omega
def sz1 (t : TermL) : Nat := t.2.1.length + totS t.2.2
def totTK (ts : List TermL) : Nat → Nat
  | 0 => ts.length
  | i + 1 => totTK ts i + sz1 (ts.getD i t0)
def totT (ts : List TermL) : Nat := totTK ts ts.length
theorem totTK_mono (ts : List TermL) (i : Nat) : ∀ j, i ≤ j → totTK ts i ≤ totTK ts j
  | 0, h => by have : i = 0 := by omega
               subst this; exact Nat.le_refl _
  | j + 1, h => by
    by_cases e : i = j + 1
    · subst e; exact Nat.le_refl _
    · have := totTK_mono ts i j (by omega)
      rw [show totTK ts (j + 1) = totTK ts j + sz1 (ts.getD j t0) from rfl]; omega
theorem totT_len {ts : List TermL} {B : Nat} (h : totT ts ≤ B) : ts.length ≤ B ∧ ∀ i, i < ts.length → sz1 (ts.getD i t0) ≤ B := by
  unfold totT at h
  refine ⟨Nat.le_trans (totTK_mono ts 0 _ (Nat.zero_le _)) h, fun i hi => ?_⟩
  have h1 := totTK_mono ts (i + 1) _ hi
  rw [show totTK ts (i + 1) = totTK ts i + sz1 (ts.getD i t0) from rfl] at h1
  omega

end Go.Proofs.Ytehhoplenloocaa

/- Slices of terms that the laws lay anew. -/
namespace Go.Proofs.Ytehhoplenloocaa
open Go.RowKit
set_option linter.unusedVariables false
set_option linter.unusedSimpArgs false

/-- three cells an element -/
def trV (f0 f2 f3 : Nat → Value) : Nat → Value := fun j => if j % 3 = 0 then f0 (j / 3) else if j % 3 = 1 then f2 (j / 3) else f3 (j / 3)
theorem trV_0 (f0 f2 f3 : Nat → Value) (i : Nat) : trV f0 f2 f3 (i * 3) = f0 i := by
  unfold trV; rw [if_pos (by omega)]; congr 1; omega
theorem trV_1 (f0 f2 f3 : Nat → Value) (i : Nat) : trV f0 f2 f3 (i * 3 + 1) = f2 i := by
  unfold trV; rw [if_neg (by omega), if_pos (by omega)]; congr 1; omega
theorem trV_2 (f0 f2 f3 : Nat → Value) (i : Nat) : trV f0 f2 f3 (i * 3 + 2) = f3 i := by
  unfold trV; rw [if_neg (by omega), if_neg (by omega)]; congr 1; omega
theorem tri_put (f0 f2 f3 : Nat → Value) (k : Nat) (x0 x2 x3 : Value) : ∀ j,
    (if j = k * 3 + 2 then x3 else if j = k * 3 + 1 then x2 else if j = k * 3 then x0 else trV f0 f2 f3 j) = trV (fun i => if i = k then x0 else f0 i) (fun i => if i = k then x2 else f2 i) (fun i => if i = k then x3 else f3 i) j := by
  intro j
  unfold trV
  by_cases e2 : j = k * 3 + 2
  · subst e2
    dsimp only
    rw [if_pos rfl, if_neg (by omega), if_neg (by omega), if_pos (by omega)]
  · rw [if_neg e2]
    by_cases e1 : j = k * 3 + 1
    · subst e1
      dsimp only
      rw [if_pos rfl, if_neg (by omega), if_pos (by omega), if_pos (by omega)]
    · rw [if_neg e1]
      by_cases e0 : j = k * 3
      · subst e0
        dsimp only
        rw [if_pos rfl, if_pos (by omega), if_pos (by omega)]
      · rw [if_neg e0]
        have hne : ∀ r, j % 3 = r → r < 3 → j / 3 ≠ k := by
          intro r hr h3 e
          have := Nat.div_add_mod j 3
          omega
        dsimp only
        by_cases h0 : j % 3 = 0
        · rw [if_pos h0, if_pos h0, if_neg (hne 0 h0 (by omega))]
        · rw [if_neg h0, if_neg h0]
          by_cases h1 : j % 3 = 1
          · rw [if_pos h1, if_pos h1, if_neg (hne 1 h1 (by omega))]
          · rw [if_neg h1, if_neg h1, if_neg (hne (j % 3) rfl (by omega))]
/-- element i lies in p i .. p (i + 1): its shift in p i .. q i, its generators behind -/
def TEl (w : World) (t : TermL) (v2 v3 : Value) (p q r : Nat) : Prop := p ≤ q ∧ q ≤ r ∧ (-9223372036854775808 ≤ t.1 ∧ t.1 ≤ 9223372036854775807) ∧ IS w p q v2 t.2.1 ∧ ISS w q r v3 t.2.2
theorem TEl.of_blocks {w w' : World} {t : TermL} {v2 v3 : Value} {p q r : Nat} (h : TEl w t v2 v3 p q r) (hb : ∀ b, p ≤ b → b < r → b < w.heap.size → w'.heap[b]? = w.heap[b]?) : TEl w' t v2 v3 p q r := by
  obtain ⟨h1, h2, h3, h4, h5⟩ := h
  exact ⟨h1, h2, h3, h4.of_blocks fun b k1 k2 k3 => hb b k1 (by omega) k3, h5.of_blocks fun b k1 k2 k3 => hb b (by omega) k2 k3⟩
theorem TEl.keep {w w' : World} {t : TermL} {v2 v3 : Value} {p q r B : Nat} (h : TEl w t v2 v3 p q r) (hb : Below B w w') (hB : r ≤ B) : TEl w' t v2 v3 p q r :=
  h.of_blocks fun b _ h2 _ => hb.block b (by omega)
theorem TEl.setOther {w : World} {t : TermL} {v2 v3 : Value} {p q r : Nat} (h : TEl w t v2 v3 p q r) {a : Addr} (ha : a.block < p ∨ r ≤ a.block) (u : Value) : TEl (w.setCell a u) t v2 v3 p q r :=
  h.of_blocks fun b h1 h2 h3 => Below.heap_setCell w a u b (by omega)
/-- terms that may be written: every element lies in a stretch of its own -/
def TS (w : World) (lo hi : Nat) (v : Value) (ts : List TermL) : Prop :=
  ∃ a cap, v = .slice a ts.length cap ∧ ts.length ≤ cap ∧ cap ≤ maxLen ∧
    (ts ≠ [] → ∃ b off, ∃ V2 V3 : Nat → Value, ∃ p q r : Nat → Nat, a = some ⟨b, off, none⟩ ∧ lo ≤ b ∧ b < hi ∧ BK w b off (ts.length * 3) 50 (trV (fun i => .int .i64 (ts.getD i t0).1) V2 V3) ∧
      (∀ i, i < ts.length → (lo ≤ p i ∧ r i ≤ hi) ∧ (b < p i ∨ r i ≤ b) ∧ TEl w (ts.getD i t0) (V2 i) (V3 i) (p i) (q i) (r i)) ∧ ∀ i j, i < j → j < ts.length → r i ≤ p j)
theorem TS.nil (w : World) (lo hi : Nat) : TS w lo hi (.slice none 0 0) [] := ⟨none, 0, rfl, Nat.le_refl _, Nat.zero_le _, fun h => absurd rfl h⟩
theorem TS.read {w : World} {lo hi : Nat} {v : Value} {ts : List TermL} (h : TS w lo hi v ts) : TSr w hi v ts := by
  obtain ⟨a, cap, hv, h1, h2, h3⟩ := h
  refine ⟨a, cap, hv, h1, h2, fun hl => ?_⟩
  obtain ⟨b, off, V2, V3, p, q, r, rfl, hb1, hb2, hbk, hel, -⟩ := h3 hl
  refine ⟨b, off, V2, V3, rfl, hb2, fun i hi => ⟨?_, ?_, ?_⟩, fun i hi => ?_⟩
  · have := hbk.cell (i := i * 3) (by omega); rwa [trV_0] at this
  · have := hbk.cell (i := i * 3 + 1) (by omega); rw [trV_1] at this; rw [Nat.add_assoc]; exact this
  · have := hbk.cell (i := i * 3 + 2) (by omega); rw [trV_2] at this; rw [Nat.add_assoc]; exact this
  · obtain ⟨⟨-, m1⟩, -, e1, e2, e3, e4, e5⟩ := hel i hi
    exact ⟨e3, e4.read.upto (by omega), e5.read.upto (by omega)⟩
theorem TS.of_blocks {w w' : World} {lo hi : Nat} {v : Value} {ts : List TermL} (h : TS w lo hi v ts) (hb : ∀ b, lo ≤ b → b < hi → b < w.heap.size → w'.heap[b]? = w.heap[b]?) : TS w' lo hi v ts := by
  obtain ⟨a, cap, hv, h1, h2, h3⟩ := h
  refine ⟨a, cap, hv, h1, h2, fun hl => ?_⟩
  obtain ⟨b, off, V2, V3, p, q, r, rfl, hb1, hb2, hbk, hel, hd⟩ := h3 hl
  refine ⟨b, off, V2, V3, p, q, r, rfl, hb1, hb2, hbk.of_block (hb b hb1 hb2 hbk.lt), fun i hi => ⟨(hel i hi).1, (hel i hi).2.1, (hel i hi).2.2.of_blocks fun k k1 k2 k3 => hb k ?_ ?_ k3⟩, hd⟩
  · have := (hel i hi).1; omega
  · have := (hel i hi).1; omega
theorem TS.keep {w w' : World} {lo hi B : Nat} {v : Value} {ts : List TermL} (h : TS w lo hi v ts) (hb : Below B w w') (hB : hi ≤ B) : TS w' lo hi v ts :=
  h.of_blocks fun b _ h2 _ => hb.block b (by omega)
theorem TS.only {w w' : World} {lo hi lo2 hi2 : Nat} {v : Value} {ts : List TermL} (h : TS w lo2 hi2 v ts) (ho : Only lo hi w w') (hd : hi2 ≤ lo ∨ hi ≤ lo2) : TS w' lo2 hi2 v ts :=
  h.of_blocks fun b h1 h2 h3 => ho.block b h3 (by omega)
theorem TS.mono {w : World} {lo hi lo' hi' : Nat} {v : Value} {ts : List TermL} (h : TS w lo hi v ts) (h1 : lo' ≤ lo) (h2 : hi ≤ hi') : TS w lo' hi' v ts := by
  obtain ⟨a, cap, hv, g1, g2, g3⟩ := h
  refine ⟨a, cap, hv, g1, g2, fun hl => ?_⟩
  obtain ⟨b, off, V2, V3, p, q, r, rfl, hb1, hb2, hbk, hel, hd⟩ := g3 hl
  exact ⟨b, off, V2, V3, p, q, r, rfl, by omega, by omega, hbk, fun i hi => ⟨by have := (hel i hi).1; omega, (hel i hi).2⟩, hd⟩
theorem info_term : (Try.prog.info? 50).map (fun i => (i.zero, i.size, i.bytes)) = some (some (.agg #[.int .i64 0, .slice none 0 0, .slice none 0 0]), 3, 56) := by kernel_rfl
theorem made3 (w : World) (n : Nat) : BK (w.alloc (.cells (madeCells #[.int .i64 0, .slice none 0 0, .slice none 0 0] (n * 3)) 50)) w.heap.size 0 (n * 3) 50 (trV (fun _ => .int .i64 0) (fun _ => .slice none 0 0) (fun _ => .slice none 0 0)) := by
  refine ⟨_, heap_alloc_new w _, fun i hi => ?_⟩
  rw [Nat.zero_add]
  unfold trV madeCells
  have hi3 : i % 3 = 0 ∨ i % 3 = 1 ∨ i % 3 = 2 := by omega
  rcases hi3 with h | h | h <;> simp [hi, h]


end Go.Proofs.Ytehhoplenloocaa

/- What comes in: slices of terms. -/
namespace Go.Proofs.Ytehhoplenloocaa
open Go.ChangeShapes Go.WideShapes Go.ChangeAt Go.RowKit Go.Joins
set_option linter.unusedVariables false
set_option linter.unusedSimpArgs false

end Go.Proofs.Ytehhoplenloocaa
