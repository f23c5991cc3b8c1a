/- The cursor of the draws: what is known of it, and the walks that move it on. -/
import Derived.Test.YtehhoplenloocaaGreatB1
import Derived.Test.YtehhoplenloocaaGreatB3
import Derived.Test.YtehhoplenloocaaGreatB2
namespace Go.Proofs.YtehhoplenloocaaGreat
open Go.RowKit
set_option linter.unusedVariables false
set_option linter.unusedSimpArgs false

/-- v reads as bytes in w, through a block below hi -/
def ISb (w : World) (hi : Nat) (v : Value) (l : List Int) : Prop :=
  ∃ a cap, v = .slice a l.length cap ∧ l.length ≤ cap ∧ cap ≤ maxLen ∧
    (l ≠ [] → ∃ b off, a = some ⟨b, off, none⟩ ∧ b < hi ∧ ∀ i, i < l.length → w.cell? ⟨b, off + i, none⟩ = some (.int .u8 (l.getD i 0)))
theorem ISb.keep {w w' : World} {hi B : Nat} {v : Value} {l : List Int} (h : ISb w hi v l) (hb : Below B w w') (hB : hi ≤ B) : ISb w' hi v l := by
  obtain ⟨a, cap, hv, h1, h2, h3⟩ := h
  exact ⟨a, cap, hv, h1, h2, fun hl => let ⟨b, off, ha, hb', hc⟩ := h3 hl; ⟨b, off, ha, hb', fun i hi => (hb.cell (p := ⟨b, off + i, none⟩) (Nat.lt_of_lt_of_le hb' hB)).trans (hc i hi)⟩⟩
theorem ISb.grown {w w' : World} {hi p : Nat} {v : Value} {l : List Int} (h : ISb w hi v l) (hg : w.grownBy w' (some p)) (hp : hi ≤ p) (hw : hi ≤ w.heap.size) : ISb w' hi v l := by
  obtain ⟨a, cap, hv, h1, h2, h3⟩ := h
  exact ⟨a, cap, hv, h1, h2, fun hl => let ⟨b, off, ha, hb', hc⟩ := h3 hl; ⟨b, off, ha, hb', fun i hi => (World.cell?_of_block (a := ⟨b, off + i, none⟩) (hg.block b (by omega) (by intro e; injection e with e; omega))).trans (hc i hi)⟩⟩
/-- the cursor in block p: the bytes below hb -/
def Cur (w : World) (p hb : Nat) : Prop :=
  ∃ (v : Value) (l : List Int) (i h : Int), w.heap[p]? = some (.cells #[v, .int .i64 i, .int .i64 h] 62 (0, 0)) ∧ ISb w hb v l ∧ 0 ≤ i ∧ i ≤ l.length ∧ hb ≤ p
def curP (p : Nat) : Value := .pointer (some ⟨p, 0, none⟩)
theorem blk3_cells {w : World} {p : Nat} {a b c : Value} {t : TypeId} {f : Nat × Nat} (h : w.heap[p]? = some (.cells #[a, b, c] t f)) :
    w.cell? ⟨p, 0, none⟩ = some a ∧ w.cell? ⟨p, 1, none⟩ = some b ∧ w.cell? ⟨p, 2, none⟩ = some c ∧ p < w.heap.size := by
  refine ⟨by simp [World.cell?, h], by simp [World.cell?, h], by simp [World.cell?, h], ?_⟩
  rcases Nat.lt_or_ge p w.heap.size with h' | h'
  · exact h'
  · rw [Array.getElem?_eq_none h'] at h; cases h
theorem blk_frozen {w : World} {p : Nat} {cs : Array Value} {t : TypeId} (h : w.heap[p]? = some (.cells cs t (0, 0))) (i : Nat) : w.frozen? ⟨p, i, none⟩ = false := by simp [World.frozen?, h]
theorem blk3_set1 {w : World} {p : Nat} {a b c : Value} {t : TypeId} {f : Nat × Nat} (h : w.heap[p]? = some (.cells #[a, b, c] t f)) (x : Value) : (w.setCell ⟨p, 1, none⟩ x).heap[p]? = some (.cells #[a, x, c] t f) := by
  simp [World.setCell, Array.getElem?_modify, h]
theorem blk3_set2 {w : World} {p : Nat} {a b c : Value} {t : TypeId} {f : Nat × Nat} (h : w.heap[p]? = some (.cells #[a, b, c] t f)) (x : Value) : (w.setCell ⟨p, 2, none⟩ x).heap[p]? = some (.cells #[a, b, x] t f) := by
  simp [World.setCell, Array.getElem?_modify, h]
theorem grown_set {w w1 : World} {p : Nat} (h : w.grownBy w1 (some p)) (k : Nat) (x : Value) : w.grownBy (w1.setCell ⟨p, k, none⟩ x) (some p) :=
  ⟨h.os, h.tape, h.output, by simpa using h.size, fun i hi hne => by
    rw [Below.heap_setCell _ _ _ _ (by intro e; apply hne; rw [e])]; exact h.block i hi hne⟩
theorem grown_draws {w w1 : World} {r : Option Nat} (h : w.grownBy w1 r) (d : Nat) : w.grownBy (w1.drewN d) r := ⟨h.os, h.tape, h.output, h.size, h.block⟩

theorem and255 (n : Int) : bits .and .i64 n 255 = n % 256 := by
  have h255 : (BitVec.ofInt 64 255).toNat = 2 ^ 8 - 1 := by decide
  have key : (BitVec.ofInt 64 n &&& BitVec.ofInt 64 255).toNat = (n % ((2 ^ 64 : Nat) : Int)).toNat % 2 ^ 8 := by
    rw [BitVec.toNat_and, BitVec.toNat_ofInt, h255, Nat.and_two_pow_sub_one_eq_mod]
  show IntKind.i64.wrap ((BitVec.ofInt 64 n &&& BitVec.ofInt 64 255).toNat : Nat) = n % 256
  rw [key, IntKind.wrap_i64]
  omega
theorem ISb.world {w w' : World} {hi : Nat} {v : Value} {l : List Int} (h : ISb w hi v l) (hh : w'.heap = w.heap) : ISb w' hi v l := by
  obtain ⟨a, cap, hv, h1, h2, h3⟩ := h
  exact ⟨a, cap, hv, h1, h2, fun hl => let ⟨b, off, ha, hb', hc⟩ := h3 hl; ⟨b, off, ha, hb', fun i hi => by rw [← hc i hi]; simp [World.cell?, hh]⟩⟩

set_option maxRecDepth 100000 in
set_option maxHeartbeats 4000000 in
theorem l1Byte_any (p hb : Nat) (w : World) (h : Cur w p hb) :
    Calls Tryz.prog 101 #[curP p] w fun e w' => ∃ x, e = .returned (.int .i64 x) ∧ 0 ≤ x ∧ x ≤ 255 ∧ Cur w' p hb ∧ w.grownBy w' (some p) := by
  obtain ⟨v, l, i, h0, hblk, hv, hi0, hil, hbp⟩ := h
  obtain ⟨c0, c1, c2, hps⟩ := blk3_cells hblk
  have f0 := blk_frozen hblk 2
  unfold curP
  go_enter Tryz.func101, Tryz.ntmps101
  go_wp2
  generalize wrap64 (wrap64 (h0 * 6364136223846793005) + 1442695040888963407) = h1
  have HB1 := Lib.hid (blk3_set2 hblk (.int .i64 h1))
  have HG1 := Lib.hid (grown_set (World.grownBy.refl w (some p)) 2 (.int .i64 h1))
  have HV1 := Lib.hid (hv.grown HG1.out hbp (by omega))
  generalize w.setCell ⟨p, 2, none⟩ (.int .i64 h1) = w1 at *
  clear c0 c1 c2 hblk hv f0
  obtain ⟨c0, c1, c2, -⟩ := blk3_cells HB1.out
  go_quiet (fail)
  generalize hx1 : bits BinOp.and IntKind.i64 (bits BinOp.xor IntKind.i64 (h1 / 8589934592) (h1 / 35184372088832)) 255 = x1
  have hx1' : 0 ≤ x1 ∧ x1 ≤ 255 := by rw [and255] at hx1; omega
  clear hx1
  have HB2 := Lib.hid (show (w1.drewN nq).heap[p]? = _ from HB1.out)
  have HG2 := Lib.hid (grown_draws HG1.out nq)
  have HV2 := Lib.hid (HV1.out.world (w' := w1.drewN nq) rfl)
  have hs2 : p < (w1.drewN nq).heap.size := (blk3_cells HB2.out).2.2.2
  generalize w1.drewN nq = w2 at *
  clear c0 c1 c2 HB1 HG1 HV1
  obtain ⟨c0, c1, c2, -⟩ := blk3_cells HB2.out
  obtain ⟨av, cv, rfl, hcap, hmax, hcell⟩ := id HV2.out
  unfold maxLen at hmax
  by_cases hlt : i < (l.length : Int)
  · obtain ⟨b, off, rfl, hbb, hcc⟩ := hcell (by intro e; rw [e] at hlt; simp at hlt; omega)
    obtain ⟨k, rfl⟩ : ∃ k : Nat, i = k := ⟨i.toNat, by omega⟩
    have hck := hcc k (by omega)
    generalize l.getD k 0 = y at *
    have HL := Lib.hid (show ((k : Int) + 1 ≤ l.length) by omega)
    have hll : (l.length : Int) ≤ 9223372036854775807 := by omega
    generalize hn : l.length = n at *
    have HN := Lib.hid hn
    clear hcc hcell hn
    go_wp2
    go_quiet (fail)
    have HB3 := Lib.hid (show (w2.drewN nq).heap[p]? = _ from HB2.out)
    have HG3 := Lib.hid (grown_draws HG2.out nq)
    have HV3 := Lib.hid (HV2.out.world (w' := w2.drewN nq) rfl)
    have hck3 : (w2.drewN nq).cell? _ = _ := hck
    generalize w2.drewN nq = w3 at *
    clear c0 c1 c2 HB2 HG2 HV2 hck
    obtain ⟨c0, c1, c2, -⟩ := blk3_cells HB3.out
    go_wp2
    go_quiet (fail)
    generalize hx2 : bits BinOp.and IntKind.i64 (wrap64 (x1 + wrap64 y)) 255 = x2
    have hx2' : 0 ≤ x2 ∧ x2 ≤ 255 := by rw [and255] at hx2; omega
    clear hx2
    have HB4 := Lib.hid (show (w3.drewN nq).heap[p]? = _ from HB3.out)
    have HG4 := Lib.hid (grown_draws HG3.out nq)
    have HV4 := Lib.hid (HV3.out.world (w' := w3.drewN nq) rfl)
    generalize w3.drewN nq = w4 at *
    clear c0 c1 c2 HB3 HG3 HV3 hck3
    obtain ⟨c0, c1, c2, -⟩ := blk3_cells HB4.out
    have f1 := blk_frozen HB4.out 1
    have HB5 := Lib.hid (blk3_set1 HB4.out (.int .i64 ((k : Int) + 1)))
    have HG5 := Lib.hid (grown_set HG4.out 1 (.int .i64 ((k : Int) + 1)))
    have HV5 := Lib.hid (HV4.out.grown (grown_set (World.grownBy.refl w4 (some p)) 1 (.int .i64 ((k : Int) + 1))) hbp (by have := (blk3_cells HB4.out).2.2.2; omega))
    go_wp2
    go_ret
    exact ⟨x2, rfl, hx2'.1, hx2'.2, ⟨_, l, (k : Int) + 1, h1, HB5.out, HV5.out, by omega, by rw [HN.out]; exact HL.out, hbp⟩, HG5.out⟩
  · have HL := Lib.hid hil
    generalize hn : l.length = n at *
    have HN := Lib.hid hn
    clear hcell hn
    go_wp2
    go_quiet (fail)
    have HB3 := Lib.hid (show (w2.drewN nq).heap[p]? = _ from HB2.out)
    have HG3 := Lib.hid (grown_draws HG2.out nq)
    have HV3 := Lib.hid (HV2.out.world (w' := w2.drewN nq) rfl)
    generalize w2.drewN nq = w3 at *
    clear c0 c1 c2 HB2 HG2 HV2
    go_wp2
    go_ret
    exact ⟨x1, rfl, hx1'.1, hx1'.2, ⟨_, l, i, h1, HB3.out, HV3.out, hi0, by rw [HN.out]; exact HL.out, hbp⟩, HG3.out⟩

theorem grown_trans {w w1 w2 : World} {p : Nat} (h : w.grownBy w1 (some p)) (h2 : w1.grownBy w2 (some p)) : w.grownBy w2 (some p) :=
  ⟨h2.os.trans h.os, h2.tape.trans h.tape, h2.output.trans h.output, Nat.le_trans h.size h2.size, fun k hk hne => (h2.block k (Nat.lt_of_lt_of_le hk h.size) hne).trans (h.block k hk hne)⟩
set_option maxHeartbeats 4000000 in
theorem l1Below_any (p hb : Nat) (n : Int) (w : World) (h : Cur w p hb) (h1 : 1 ≤ n) (h2 : n ≤ 2147483647) :
    Calls Tryz.prog 56 #[curP p, .int .i64 n] w fun e w' => ∃ x, e = .returned (.int .i64 x) ∧ 0 ≤ x ∧ x < n ∧ Cur w' p hb ∧ w.grownBy w' (some p) := by
  have B1 := l1Byte_any p hb w h
  by_cases hs : n ≤ 256
  · unfold curP at *
    go_enter Tryz.func56, Tryz.ntmps56
    go_wp2_with fail
    refine B1.mono ?_
    rintro e w1 ⟨x, rfl, hx0, hx1, hc1, hg1⟩
    have q1 := Int.emod_nonneg x (show n ≠ 0 by omega)
    have q2 := Int.emod_lt_of_pos x (show 0 < n by omega)
    have HC := Lib.hid hc1
    have HG := Lib.hid hg1
    clear hc1 hg1 B1
    go_wp2
    go_ret
    exact ⟨_, rfl, q1, q2, HC.out, HG.out⟩
  · unfold curP at *
    go_enter Tryz.func56, Tryz.ntmps56
    go_wp2_with fail
    refine B1.mono ?_
    rintro e w1 ⟨x, rfl, hx0, hx1, hc1, hg1⟩
    have HG1 := Lib.hid hg1
    have B2 := l1Byte_any p hb w1 hc1
    clear hg1 B1 hc1 h
    unfold curP at *
    go_wp2_with fail
    refine B2.mono ?_
    rintro e w2 ⟨y, rfl, hy0, hy1, hc2, hg2⟩
    have HG2 := Lib.hid (grown_trans HG1.out hg2)
    have B3 := l1Byte_any p hb w2 hc2
    clear hg2 B2 HG1 hc2
    unfold curP at *
    go_wp2_with fail
    refine B3.mono ?_
    rintro e w3 ⟨z, rfl, hz0, hz1, hc3, hg3⟩
    have HG3 := Lib.hid (grown_trans HG2.out hg3)
    have B4 := l1Byte_any p hb w3 hc3
    clear hg3 B3 HG2 hc3
    unfold curP at *
    go_wp2_with fail
    refine B4.mono ?_
    rintro e w4 ⟨u, rfl, hu0, hu1, hc4, hg4⟩
    have HG4 := Lib.hid (grown_trans HG3.out hg4)
    have HC := Lib.hid hc4
    clear hg4 B4 HG3 hc4
    have q1 := Int.emod_nonneg (x * 16777216 + y * 65536 + z * 256 + u) (show n ≠ 0 by omega)
    have q2 := Int.emod_lt_of_pos (x * 16777216 + y * 65536 + z * 256 + u) (show 0 < n by omega)
    go_wp2
    go_ret
    exact ⟨_, rfl, q1, q2, HC.out, HG4.out⟩
set_option maxHeartbeats 4000000 in
theorem l1Once_any (p hb : Nat) (n : Int) (w : World) (h : Cur w p hb) (h1 : 1 ≤ n) (h2 : n ≤ 2147483647) :
    Calls Tryz.prog 44 #[curP p, .int .i64 n] w fun e w' => ∃ b : Bool, e = .returned (.bool b) ∧ Cur w' p hb ∧ w.grownBy w' (some p) := by
  have B1 := l1Below_any p hb n w h h1 h2
  unfold curP at *
  go_enter Tryz.func44, Tryz.ntmps44
  go_wp2_with fail
  refine B1.mono ?_
  rintro e w1 ⟨x, rfl, hx0, hx1, hc1, hg1⟩
  have HC := Lib.hid hc1
  have HG := Lib.hid hg1
  clear hc1 hg1 B1 h
  go_wp2
  go_ret
  exact ⟨_, rfl, HC.out, HG.out⟩
theorem IS.cur {w w' : World} {lo hi p : Nat} {v : Value} {l : List Int} (h : IS w lo hi v l) (hg : w.grownBy w' (some p)) (hp : p < lo ∨ hi ≤ p) : IS w' lo hi v l :=
  h.of_blocks fun b h1 h2 h3 => hg.block b h3 (by intro e; injection e with e; omega)
theorem Cur.below {w w' : World} {p hb B : Nat} (h : Cur w p hb) (hB : Below B w w') (hp : p < B) : Cur w' p hb := by
  obtain ⟨v, l, i, x, h1, h2, h3, h4, h5⟩ := h
  exact ⟨v, l, i, x, (hB.block p hp).trans h1, h2.keep hB (by omega), h3, h4, h5⟩
theorem Cur.lt {w : World} {p hb : Nat} (h : Cur w p hb) : p < w.heap.size := by
  obtain ⟨v, l, i, x, h1, -⟩ := h
  exact (blk3_cells h1).2.2.2
theorem grown_below {w w' : World} {p B : Nat} (h : w.grownBy w' (some p)) (hB : B ≤ w.heap.size) (hp : B ≤ p) : Below B w w' :=
  ⟨h.os, h.tape, h.output, h.size, fun k hk => h.block k (by omega) (by intro e; injection e with e; omega)⟩
set_option maxHeartbeats 4000000 in
theorem l1PickInt_any (p hb hi : Nat) (l : List Int) (v : Value) (w : World) (h : Cur w p hb) (hl : l ≠ []) (hl2 : l.length ≤ 1000) (hv : ∀ w', w.grownBy w' (some p) → ISr w' hi v l) :
    Calls Tryz.prog 100 #[curP p, v] w fun e w' => ∃ x, e = .returned (.int .i64 x) ∧ x ∈ l ∧ Cur w' p hb ∧ w.grownBy w' (some p) := by
  have hpos := List.length_pos_iff.2 hl
  have B1 := l1Below_any p hb l.length w h (by omega) (by omega)
  obtain ⟨a, cap, rfl, -, -, hcell⟩ := hv w (World.grownBy.refl _ _)
  obtain ⟨b, off, rfl, -, -⟩ := hcell hl
  have HV := Lib.hid hv
  clear hcell hv
  generalize hn : l.length = n at *
  have HN := Lib.hid hn
  clear hn
  unfold curP at *
  go_enter Tryz.func100, Tryz.ntmps100
  go_wp2_with fail
  refine B1.mono ?_
  rintro e w1 ⟨x, rfl, hx0, hx1, hc1, hg1⟩
  obtain ⟨k, rfl⟩ : ∃ k : Nat, x = k := ⟨x.toNat, by omega⟩
  obtain ⟨a', cap', e1, -, -, hcell⟩ := HV.out w1 hg1
  obtain ⟨b', off', e2, -, hcc⟩ := hcell hl
  rw [e2] at e1
  injection e1 with e1 _ _
  injection e1 with e1
  injection e1 with e1 e3 _
  subst e1 e3
  have hck := hcc k (by rw [HN.out]; omega)
  have HM := Lib.hid (show l.getD k 0 ∈ l by rw [List.getD_eq_getElem?_getD, List.getElem?_eq_getElem (by rw [HN.out]; omega)]; exact List.getElem_mem _)
  have HC := Lib.hid hc1
  have HG := Lib.hid hg1
  generalize l.getD k 0 = y at *
  clear hc1 hg1 B1 h hcell hcc HV hl hpos e2 HN
  go_wp2
  go_ret
  exact ⟨_, rfl, HM.out, HC.out, HG.out⟩
set_option maxRecDepth 100000 in
set_option maxHeartbeats 4000000 in
theorem l1New_any (v : Value) (l : List Int) (hb : Nat) (w : World) (h : ISb w hb v l) (hhb : hb ≤ w.heap.size) :
    Calls Tryz.prog 25 #[v] w fun e w' => e = .returned (curP w.heap.size) ∧ Cur w' w.heap.size hb ∧ Below w.heap.size w w' ∧ w'.heap.size = w.heap.size + 1 := by
  have HI := Lib.hid (fun (x : Int) => (show Cur (w.alloc (.cells #[v, .int .i64 0, .int .i64 x] 62)) w.heap.size hb from
    ⟨v, l, 0, x, heap_alloc_new w _, h.keep (below1 w _) hhb, Int.le_refl _, by omega, hhb⟩))
  obtain ⟨a, cap, rfl, hcap, hmax, hcell⟩ := id h
  unfold maxLen at hmax
  have hll : (l.length : Int) ≤ 9223372036854775807 := by omega
  have HC := Lib.hid (fun (k : Nat) (hk : k < l.length) => hcell (by intro e; rw [e] at hk; simp at hk))
  clear hcell h hmax hcap
  generalize hn : l.length = n at *
  have HN := Lib.hid hn
  clear hn
  unfold curP
  go_enter Tryz.func25, Tryz.ntmps25
  go_wp2
  go_loop [3, 4] (fun s i => ∃ (k : Nat) (x : Int), k ≤ n ∧ i = .int .i64 k ∧ s = .int .i64 x) (fun _ i => n - (intOf i).toNat)
  case atStart => exact ⟨0, _, by omega, rfl, rfl⟩
  case round =>
    obtain ⟨k, x, hk, rfl, rfl⟩ := hrel
    by_cases hlt : k < n
    · obtain ⟨b, off, rfl, -, hcc⟩ := HC.out k hlt
      have hck := hcc k hlt
      generalize l.getD k 0 = y at *
      clear hcc
      by_cases h4 : k < 4000
      · go_wp2
        go_round
        case rel => exact ⟨k + 1, _, by omega, by go_num, rfl⟩
        case measure => simp [intOf]; omega
      · go_wp2
        go_ret
        exact ⟨rfl, HI.out _, below1 _ _, by simp⟩
    · obtain rfl : k = n := by omega
      go_wp2
      go_ret
      exact ⟨rfl, HI.out _, below1 _ _, by simp⟩
set_option maxHeartbeats 1000000 in
theorem big_any (v : Value) (l : List Int) (hb : Nat) (w : World) (h : ISb w hb v l) :
    Calls Tryz.prog 4 #[v] w fun e w' => e = .returned (.bool (decide (1048576 < l.length))) ∧ w = w' := by
  obtain ⟨a, cap, rfl, hcap, hmax, -⟩ := id h
  unfold maxLen at hmax
  have hll : (l.length : Int) ≤ 9223372036854775807 := by omega
  clear h hcap hmax
  generalize l.length = n at *
  go_enter Tryz.func4, Tryz.ntmps4
  go_wp2
  go_ret
  exact ⟨ret_bool (by rw [decide_eq_decide]; omega), rfl⟩
theorem grown_alloc {w w1 : World} {r : Option Nat} (h : w.grownBy w1 r) (o : Obj) : w.grownBy (w1.alloc o) r :=
  ⟨h.os, h.tape, h.output, by have := h.size; simp; omega, fun k hk hne => (Below.heap_alloc _ _ _ (Nat.lt_of_lt_of_le hk h.size)).trans (h.block k hk hne)⟩
theorem IS.lit (w : World) (l : List Int) (hl : l.length ≤ 1000) : IS (w.alloc (.cells (ivs l).toArray 3)) w.heap.size (w.heap.size + 1) (.slice (some ⟨w.heap.size, 0, none⟩) l.length l.length) l := by
  refine IS.of_BK (l := l) ⟨_, heap_alloc_new w _, fun i hi => ?_⟩ (Nat.le_refl _) (by unfold maxLen; omega) (Nat.le_refl _) (by omega)
  rw [Nat.zero_add]
  simp [ivs, hi]
/-- a number is picked out of a list that is written out -/
theorem pick_lit (p hb : Nat) (l : List Int) (w : World) (h : Cur w p hb) (hl : l ≠ []) (hl2 : l.length ≤ 1000) :
    Calls Tryz.prog 100 #[curP p, .slice (some ⟨w.heap.size, 0, none⟩) l.length l.length] (w.alloc (.cells (ivs l).toArray 3)) fun e w' => ∃ x, e = .returned (.int .i64 x) ∧ x ∈ l ∧ Cur w' p hb ∧ w.grownBy w' (some p) := by
  have hi := IS.lit w l hl2
  have hp := h.lt
  refine (l1PickInt_any p hb _ l _ (w.alloc (.cells (ivs l).toArray 3)) (h.below (below1 w _) hp) hl hl2 fun w' hg => (hi.cur hg (.inl hp)).read).mono ?_
  rintro e w' ⟨x, he, hx, hc, hg⟩
  exact ⟨x, he, hx, hc, grown_trans (grown_alloc (World.grownBy.refl w (some p)) _) hg⟩
end Go.Proofs.YtehhoplenloocaaGreat
