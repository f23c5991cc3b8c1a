/- normalAt: the program's walk. -/
import Derived.Test.YtehhoplenloocaaGreatNrmI
import Derived.Test.YtehhoplenloocaaGreatNrmP
import Derived.Deep.RegionHeld3
import Derived.BigQuiet
namespace Go.Proofs.YtehhoplenloocaaGreat
open Go.RowKit
set_option linter.unusedVariables false
set_option linter.unusedSimpArgs false

theorem poly_two {ls : List (List Int)} (hp : isPolyB ls = true) {k : Nat} (hk : k < ls.length) : Two 50 (ls.getD k []) := by
  obtain ⟨h3, h12, hf⟩ := isPoly_parts hp
  exact flat_at hf hk
theorem two_prim {v : List Int} (h : Two 100 v) : Two 100 (primQ v) := by
  refine ⟨by rw [primQ_len, h.1], ?_⟩
  have hb := primQ_bd (l := v) (M := 100) (fun k hk => allIn_at h.2 k hk)
  unfold allIn
  rw [List.all_eq_true]
  intro x hx
  obtain ⟨i, hi, rfl⟩ := List.getElem_of_mem hx
  have := hb i hi
  rw [List.getD_eq_getElem?_getD, List.getElem?_eq_getElem hi] at this
  exact inB_iff.2 this
/-- the index of a neighbor, as the code reckons it -/
theorem nb_idx {n k : Nat} (hn : 3 ≤ n) (hk : k < n) {st : Int} (hs : st = 1 ∨ st = -1) : ((k : Int) + n + st).tmod n = (nbI n k st : Int) ∧ 0 ≤ (k : Int) + n + st := by
  unfold nbI
  rcases hs with rfl | rfl
  · rw [if_pos rfl]
    refine ⟨?_, by omega⟩
    rw [Int.tmod_eq_emod_of_nonneg (by omega)]
    have : ((k : Int) + n + 1) = (((k + 1) + n : Nat) : Int) := by omega
    rw [this, ← Int.natCast_emod, Nat.add_mod_right]
  · rw [if_neg (by omega)]
    refine ⟨?_, by omega⟩
    rw [Int.tmod_eq_emod_of_nonneg (by omega)]
    have : ((k : Int) + n + -1) = ((k + n - 1 : Nat) : Int) := by omega
    rw [this, ← Int.natCast_emod]
theorem ISr.up {w : World} {hi hi' : Nat} {v : Value} {l : List Int} (h : ISr w hi v l) (hh : hi ≤ hi') : ISr w hi' v l := by
  obtain ⟨a, cap, hv, h1, h2, h3⟩ := h
  exact ⟨a, cap, hv, h1, h2, fun hl => let ⟨b, off, ha, hb', hc⟩ := h3 hl; ⟨b, off, ha, by omega, hc⟩⟩
theorem cell_box (w : World) (x : Value) (t : Nat) : (w.alloc (.cells #[x] t)).cell? ⟨w.heap.size, 0, none⟩ = some x := BK.cell (n := 1) (f := fun _ => x) (t := t) ⟨_, heap_alloc_new w _, fun i hi => by rw [Nat.lt_one_iff.1 hi]; rfl⟩ (i := 0) (by omega)
theorem IS.two {w : World} {lo hi : Nat} {v : Value} {l : List Int} (h : IS w lo hi v l) (hl : l.length = 2) :
    ∃ b off cap, v = .slice (some ⟨b, off, none⟩) 2 cap ∧ lo ≤ b ∧ b < hi ∧ w.cell? ⟨b, off, none⟩ = some (.int .i64 (l.getD 0 0)) ∧ w.cell? ⟨b, off + 1, none⟩ = some (.int .i64 (l.getD 1 0)) := by
  rcases h.cases with ⟨rfl, -⟩ | ⟨-, -, b, off, cap, rfl, -, -, hlo, hb, hc⟩
  · simp at hl
  · exact ⟨b, off, cap, by rw [hl], hlo, hb, hc.cell (i := 0) (by omega), hc.cell (i := 1) (by omega)⟩
theorem cell_own {w w1 w9 : World} {B b o : Nat} {v x : Value} {ls : List (List Int)} {o1 o2 : Obj} (hown : OwnL w B v ls) (h2 : w.heap.size ≤ b) (hb : b < w1.heap.size) (hg : ((w1.alloc o1).alloc o2).grownBy w9 v.ownBlock) (hx : w1.cell? ⟨b, o, none⟩ = some x) : w9.cell? ⟨b, o, none⟩ = some x := by
  have hne : some b ≠ v.ownBlock := fun e => by have := hown.lt b e.symm; omega
  have e := hg.block b (by simp; omega) hne
  rw [World.cell?_of_block (w := (w1.alloc o1).alloc o2) e]
  exact ((below1 (w1.alloc o1) o2).cell (p := ⟨b, o, none⟩) (by simp; omega)).trans (((below1 w1 o1).cell (p := ⟨b, o, none⟩) hb).trans hx)
set_option maxRecDepth 100000 in
set_option maxHeartbeats 4000000 in
theorem normalAt_any (ls : List (List Int)) (k : Nat) (st : Int) (v : Value) (hb : Nat) (w : World) (h : ISSr w hb v ls) (hhb : hb ≤ w.heap.size) (hp : isPolyB ls = true) (hk : k < ls.length) (hs : st = 1 ∨ st = -1) :
    Calls Tryz.prog 38 #[v, .int .i64 k, .int .i64 st] w fun e w' => ∃ u, e = .returned (.tuple #[u, .bool (hullV (frC ls k st)).2]) ∧ ISS w' w.heap.size w'.heap.size u (hullV (frC ls k st)).1 ∧ Below w.heap.size w w' := by
  obtain ⟨i0, hi0, hz0, hz1, hz2⟩ := info_parts info_ints
  have HI0 := Lib.hid hi0; clear hi0
  have HZ0 := Lib.hid hz0; clear hz0
  have HZ1 := Lib.hid hz1; clear hz1
  have HZ2 := Lib.hid hz2; clear hz2
  obtain ⟨h3, h12, hf⟩ := isPoly_parts hp
  obtain ⟨n, hn⟩ : ∃ n, n = ls.length := ⟨_, rfl⟩
  obtain ⟨i1, hi1⟩ : ∃ i, i = nbI n k st := ⟨_, rfl⟩
  obtain ⟨i2, hi2⟩ : ∃ i, i = nbI n k (-st) := ⟨_, rfl⟩
  obtain ⟨b, off, cap, V, rfl, hbb, hcell⟩ := (h.cases).resolve_left (fun e => by rw [e.1] at h3; simp at h3) |>.2.2
  have hi1l : i1 < n := by rw [hi1]; exact nbI_lt (by omega) _
  have hi2l : i2 < n := by rw [hi2]; exact nbI_lt (by omega) _
  rw [← hn] at h3 h12 hk hcell ⊢
  have q1 := nb_idx (n := n) h3 hk hs
  have q2 := nb_idx (n := n) h3 hk (st := -st) (by omega)
  rw [← hi1] at q1
  rw [← hi2] at q2
  have BA := poly_two hp (k := k) (by omega)
  have BB := poly_two hp (k := i1) (by omega)
  have BC := poly_two hp (k := i2) (by omega)
  obtain ⟨hg1, hg2, hpos, hul⟩ := cU_facts hp (by rw [← hn]; exact hk) hs
  have HCU := Lib.hid (show cU ls k st = primQ (minusI (ls.getD i1 []) (ls.getD k [])) by unfold cU; rw [← hn, ← hi1])
  have HCC := Lib.hid (show cC ls k st = ls.getD i2 [] by unfold cC; rw [← hn, ← hi2])
  have HFE := Lib.hid (fun (ww : List Int) hw => frL_eq hp (by rw [← hn]; exact hk) hs (w := ww) hw)
  have HPT := Lib.hid (fun j (hj : j < n) => poly_two hp (k := j) (by omega))
  have HN := Lib.hid hn
  rw [← hn, ← hi1] at hg1
  rw [HCC.out] at hpos
  have HHC := Lib.hid hcell
  obtain ⟨ca, ra⟩ := hcell k hk
  obtain ⟨cb, rb⟩ := hcell i1 hi1l
  obtain ⟨cc, rc⟩ := hcell i2 hi2l
  obtain ⟨aa, ea, hva, -⟩ := id ra
  obtain ⟨ab, eb, hvb, -⟩ := id rb
  obtain ⟨ac, ec, hvc, -⟩ := id rc
  rw [BA.1] at hva
  rw [BB.1] at hvb
  rw [BC.1] at hvc
  rw [hva] at ca ra
  rw [hvb] at cb rb
  rw [hvc] at cc rc
  have ga1 : IntKind.i64.wrap ((k : Int) + n) = (k : Int) + n := wr64 _ (by omega)
  have ga2 : IntKind.i64.wrap ((k : Int) + n + st) = (k : Int) + n + st := wr64 _ (by omega)
  have ga3 : IntKind.i64.wrap ((k : Int) + n - st) = (k : Int) + n + -st := by rw [show (k : Int) + n - st = (k : Int) + n + -st by omega]; exact wr64 _ (by omega)
  have gb1 : ((k : Int) + n + st) % n = (i1 : Int) := by rw [← Int.tmod_eq_emod_of_nonneg q1.2]; exact q1.1
  have gb2 : ((k : Int) + n + -st) % n = (i2 : Int) := by rw [← Int.tmod_eq_emod_of_nonneg q2.2]; exact q2.1
  have gc1 := q1.1
  have gc2 := q2.1
  have gd1 : IntKind.i64.wrap (i1 : Int) = (i1 : Int) := wr64 _ (by omega)
  have gd2 : IntKind.i64.wrap (i2 : Int) = (i2 : Int) := wr64 _ (by omega)
  have n0 : ¬ n = 0 := by omega
  have j0 : (0 : Int) ≤ (k : Int) := by omega
  have j1 : (0 : Int) ≤ (i1 : Int) := by omega
  have j2 : (0 : Int) ≤ (i2 : Int) := by omega
  have l0 : (k : Int) < (n : Int) := by omega
  have l1 : (i1 : Int) < (n : Int) := by omega
  have l2 : (i2 : Int) < (n : Int) := by omega
  have t0 : ((k : Int)).toNat = k := by omega
  have t1 : ((i1 : Int)).toNat = i1 := by omega
  have t2 : ((i2 : Int)).toNat = i2 := by omega
  have CA := Lib.hid ca
  have CB := Lib.hid cb
  have CC := Lib.hid cc
  have RA := Lib.hid ra
  have RB := Lib.hid rb
  have RC := Lib.hid rc
  have hbw : b < w.heap.size := by omega
  have f0 := below1 w (.cells #[.int .i64 st] 3)
  have x1 := (f0.cell (p := ⟨b, off + k, none⟩) hbw).trans ca
  have x2 := (f0.cell (p := ⟨b, off + i1, none⟩) hbw).trans cb
  have x3 := (f0.cell (p := ⟨b, off + i2, none⟩) hbw).trans cc
  have x4 : (w.alloc (.cells #[.int .i64 st] 3)).cell? ⟨w.heap.size, 0, none⟩ = some (.int .i64 st) := BK.cell (n := 1) (f := fun _ => .int .i64 st) (t := 3) ⟨_, heap_alloc_new w _, fun i hi => by rw [Nat.lt_one_iff.1 hi]; rfl⟩ (i := 0) (by omega)
  clear h hp hf hn hi1 hi2 hcell hva hvb hvc ca cb cc ra rb rc q1 q2 f0
  go_enter Tryz.func38, Tryz.ntmps38
  go_wp2_with fail
  go_region_held3 (fun (w' : World) => (w'.cell? ⟨b, off + k, none⟩ = some (.slice aa 2 ea) ∧ w'.cell? ⟨b, off + i1, none⟩ = some (.slice ab 2 eb)) ∧ w'.cell? ⟨b, off + i2, none⟩ = some (.slice ac 2 ec) ∧ w'.cell? ⟨w.heap.size, 0, none⟩ = some (.int .i64 st))
    (first | exact ⟨⟨x1, x2⟩, x3, x4⟩ | go_keep) (fail)
  obtain ⟨wa, hwa⟩ : ∃ wa, wa = ((w.alloc (.cells #[.int .i64 st] 3)).alloc (.cells #[.slice aa 2 ea] 25)).drew := ⟨_, rfl⟩
  have A1 : wa.cell? ⟨w.heap.size, 0, none⟩ = some (.int .i64 st) := by rw [hwa]; exact ((below1 (w.alloc (.cells #[.int .i64 st] 3)) (.cells #[.slice aa 2 ea] 25)).cell (p := ⟨w.heap.size, 0, none⟩) (by simp)).trans x4
  have A2 : wa.cell? ⟨w.heap.size + 1, 0, none⟩ = some (.slice aa 2 ea) := by rw [hwa]; exact BK.cell (n := 1) (f := fun _ => .slice aa 2 ea) (t := 25) ⟨_, by have := heap_alloc_new (w.alloc (.cells #[.int .i64 st] 3)) (.cells #[.slice aa 2 ea] 25); rw [World.size_alloc] at this; exact this, fun i hi => by rw [Nat.lt_one_iff.1 hi]; rfl⟩ (i := 0) (by omega)
  have SA : wa.heap.size = w.heap.size + 2 := by rw [hwa]; simp
  have B1 : Below w.heap.size w wa := by rw [hwa]; exact ((below1 w _).alloc (by simp) _).trans (below_draws _ _ 1)
  rw [← hwa]
  clear hwa x1 x2 x3 x4
  have MI := minus_any (ls.getD i1 []) (ls.getD k []) _ _ hb wa (RB.out.keep B1 hhb) (RA.out.keep B1 hhb) (by omega) BB.1 BA.1 (by have := BB.at; have := BA.at; omega) (by have := BB.at; have := BA.at; omega)
  have bv : Two 100 (minusI (ls.getD i1 []) (ls.getD k [])) := BB.minus BA rfl
  have hv0 := bv.at.1
  have hv1 := bv.at.2
  have BU : Two 100 (cU ls k st) := by rw [HCU.out]; exact two_prim bv
  go_wp2_with fail
  with_reducible refine MI.mono ?_
  rintro e w1 ⟨u1, rfl, k1, c1⟩
  have B2 := below_then B1 B1.size c1
  have PR := implPrim_any ((ls.getD i1 []).getD 0 0 - (ls.getD k []).getD 0 0) ((ls.getD i1 []).getD 1 0 - (ls.getD k []).getD 1 0) u1 w1.heap.size w1 k1.read (Nat.le_refl _) (by have := BB.at; have := BA.at; omega) (by have := BB.at; have := BA.at; omega) hg1
  clear k1 MI
  go_wp2_with fail
  with_reducible refine PR.mono ?_
  rintro e w2 ⟨u2, rfl, k2, c2⟩
  have k2 : IS w2 w1.heap.size w2.heap.size u2 (cU ls k st) := by rw [HCU.out]; exact k2
  have B3 := below_then B2 B2.size c2
  have C2 := below_then c1 c1.size c2
  have HU2 := hul
  obtain ⟨au, cu, hu2, -⟩ := id k2
  rw [hul] at hu2
  subst hu2
  have AL := below1 w2 (.cells #[.slice au 2 cu] 25)
  have xu := cell_box w2 (.slice au 2 cu) 25
  have hsz : (w2.alloc (.cells #[.slice au 2 cu] 25)).heap.size = w2.heap.size + 1 := by simp
  have PT := partnerH_any ((cU ls k st).getD 0 0) ((cU ls k st).getD 1 0) (.slice au 2 cu) w2.heap.size (w2.alloc (.cells #[.slice au 2 cu] 25)) (by rw [← two_form hul]; exact k2.read.keep AL (Nat.le_refl _)) (by omega) BU.at.1 BU.at.2 hg2
  clear PR
  go_wp2_with fail
  with_reducible refine PT.mono ?_
  rintro e w4 ⟨u4, c, d, rfl, hdet, hc, hd, k4, c4⟩
  clear PT
  rw [hsz] at c4 k4
  obtain ⟨aw, cw, rfl, -⟩ := id k4
  have s1 := c1.size
  have s2 := c2.size
  have s4 := c4.size
  have AL4 := below1 w4 (.cells #[.slice aw 2 cw] 25)
  have xw := cell_box w4 (.slice aw 2 cw) 25
  obtain ⟨w5, hw5⟩ : ∃ w5, w5 = w4.alloc (.cells #[.slice aw 2 cw] 25) := ⟨_, rfl⟩
  have D4 : Below w2.heap.size w2 w4 := AL.trans (c4.mono (by omega))
  have D5 : Below w2.heap.size w2 w5 := by rw [hw5]; exact D4.trans (AL4.mono (by omega))
  have CA5 : Below wa.heap.size wa w5 := below_then C2 C2.size D5
  have B5 : Below w.heap.size w w5 := below_then B3 B3.size D5
  have s5 : w5.heap.size = w4.heap.size + 1 := by rw [hw5]; simp
  have P1 : w5.cell? ⟨w.heap.size, 0, none⟩ = some (.int .i64 st) := (CA5.cell (p := ⟨w.heap.size, 0, none⟩) (by show w.heap.size < wa.heap.size; omega)).trans A1
  have P2 : w5.cell? ⟨w.heap.size + 1, 0, none⟩ = some (.slice aa 2 ea) := (CA5.cell (p := ⟨w.heap.size + 1, 0, none⟩) (by show w.heap.size + 1 < wa.heap.size; omega)).trans A2
  have P3 : w5.cell? ⟨w2.heap.size, 0, none⟩ = some (.slice au 2 cu) := by
    rw [hw5]
    refine (AL4.cell (p := ⟨w2.heap.size, 0, none⟩) (by show w2.heap.size < w4.heap.size; omega)).trans ?_
    exact (c4.cell (p := ⟨w2.heap.size, 0, none⟩) (by show w2.heap.size < w2.heap.size + 1; omega)).trans xu
  have P4 : w5.cell? ⟨w4.heap.size, 0, none⟩ = some (.slice aw 2 cw) := by rw [hw5]; exact xw
  have IA5 : ISr w5 w5.heap.size (.slice aa 2 ea) (ls.getD k []) := (RA.out.keep B5 hhb).up (by omega)
  have IU5 : ISr w5 w5.heap.size (.slice au 2 cu) (cU ls k st) := (k2.read.keep D5 (Nat.le_refl _)).up (by omega)
  have IW5 : ISr w5 w5.heap.size (.slice aw 2 cw) [c, d] := by rw [hw5]; exact (k4.read.keep AL4 (Nat.le_refl _)).up (by simp)
  have BW : Two 100 [c, d] := Two.of hc hd
  have HFR := Lib.hid (HFE.out [c, d] (by unfold crossI; exact hdet))
  have CLO := Lib.hid (fun W (B : Below w5.heap.size w5 W) (x : List Int) (vx : Value) (ix : ISr W w5.heap.size vx x) (bx : Two 50 x) => split_any x (ls.getD k []) (cU ls k st) [c, d] st vx (.slice aa 2 ea) (.slice au 2 cu) (.slice aw 2 cw) (w.heap.size + 1) w4.heap.size w.heap.size w2.heap.size w5.heap.size W ix (IA5.keep B (Nat.le_refl _)) (IU5.keep B (Nat.le_refl _)) (IW5.keep B (Nat.le_refl _)) B.size
    ((B.cell (p := ⟨w.heap.size + 1, 0, none⟩) (by show w.heap.size + 1 < w5.heap.size; omega)).trans P2) ((B.cell (p := ⟨w4.heap.size, 0, none⟩) (by show w4.heap.size < w5.heap.size; omega)).trans P4) ((B.cell (p := ⟨w.heap.size, 0, none⟩) (by show w.heap.size < w5.heap.size; omega)).trans P1) ((B.cell (p := ⟨w2.heap.size, 0, none⟩) (by show w2.heap.size < w5.heap.size; omega)).trans P3)
    (by have := B.size; omega) (by have := B.size; omega) (by have := B.size; omega) (by have := B.size; omega) bx BA BU BW hs)
  have HB5 := Lib.hid B5
  have Q6 := CLO.out w5 (Below.refl _ _) (ls.getD i2 []) _ ((RC.out.keep B5 hhb).up (by omega)) BC
  go_wp2_with fail
  rw [← hw5]
  clear hw5 P1 P2 P3 P4 IA5 IU5 IW5 k2 k4 c1 c2 c4 AL AL4 xu xw D4 D5 CA5 B1 B2 B3 A1 A2 hsz ga1 ga2 ga3 gb1 gb2 gc1 gc2 gd1 gd2 RA RB CA CB CC SA
  with_reducible refine Q6.mono ?_
  rintro e w6 ⟨u6, rfl, k6, c6⟩
  obtain ⟨b6, o6, cp6, rfl, hb6, z60, z61⟩ := k6.read.two rfl
  simp only [List.getD_cons_zero, List.getD_cons_succ] at z60 z61
  have P7 := (BC.minus BA (N := 100) rfl).cross BW (by omega) (N := 20000) rfl
  have Q7 := BU.cross (BC.minus BA (N := 100) rfl) (by omega) (N := 20000) rfl
  have HMS := Lib.hid (show ∀ z : Int, -20000 ≤ z → z ≤ 20000 → -20000 ≤ st * z ∧ st * z ≤ 20000 from fun z h1 h2 => by rcases hs with e | e <;> rw [e] <;> omega)
  have HR2 := Lib.hid (fun (x : List Int) (hx : Two 50 x) => (And.intro ((hx.minus BA (N := 100) rfl).cross BW (by omega) (N := 20000) rfl) (BU.cross (hx.minus BA (N := 100) rfl) (by omega) (N := 20000) rfl)))
  have HF1 := Lib.hid (show frL ls k st [c, d] = ls.map (frR (cU ls k st) [c, d] st (ls.getD k []) (ls.getD i2 [])) by unfold frL; rw [HCC.out])
  have HF2 := Lib.hid (show ∀ x, frR (cU ls k st) [c, d] st (ls.getD k []) (ls.getD i2 []) x = [crossI (minusI x (ls.getD k [])) [c, d] - crossI (minusI (ls.getD i2 []) (ls.getD k [])) [c, d] / (st * crossI (cU ls k st) (minusI (ls.getD i2 []) (ls.getD k []))) * (st * crossI (cU ls k st) (minusI x (ls.getD k []))), st * crossI (cU ls k st) (minusI x (ls.getD k []))] from fun x => rfl)
  generalize frR (cU ls k st) [c, d] st (ls.getD k []) (ls.getD i2 []) = F at *
  have hq7 : 1 ≤ st * crossI (cU ls k st) (minusI (ls.getD i2 []) (ls.getD k [])) ∧ st * crossI (cU ls k st) (minusI (ls.getD i2 []) (ls.getD k [])) ≤ 20000 := ⟨by omega, (HMS.out _ Q7.1 Q7.2).2⟩
  generalize crossI (minusI (ls.getD i2 []) (ls.getD k [])) [c, d] = p7 at *
  generalize st * crossI (cU ls k st) (minusI (ls.getD i2 []) (ls.getD k [])) = q7 at *
  have hsh : -20000 ≤ p7 / q7 ∧ p7 / q7 ≤ 20000 := by
    have e1 := Int.mul_ediv_add_emod p7 q7
    have e2 := Int.emod_nonneg p7 (show q7 ≠ 0 by omega)
    have e3 := Int.emod_lt_of_pos p7 (show 0 < q7 by omega)
    constructor
    · rw [Int.le_ediv_iff_mul_le (by omega)]
      have : 20000 * q7 ≥ 20000 * 1 := Int.mul_le_mul_of_nonneg_left hq7.1 (by omega)
      omega
    · have h9 : p7 < 20001 * q7 := by
        have : 20001 * q7 ≥ 20001 * 1 := Int.mul_le_mul_of_nonneg_left hq7.1 (by omega)
        omega
      have := Int.ediv_lt_of_lt_mul (by omega) h9
      omega
  have DW := fun W => down_any p7 q7 W (by omega) (by omega) (by omega) (by omega)
  generalize p7 / q7 = sh at *
  have B6 := below_then (Below.refl _ w5) (Nat.le_refl _) c6
  clear k6 c6 Q6 HFE HCU HCC
  go_wp2_with fail
  go_quiet ((go_at_call 82; exact quiet_eq (DW _)))
  clear z60 z61 DW
  generalize hw7 : w6.drewN nq = w7 at *
  have B7 : Below w5.heap.size w5 w7 := by rw [← hw7]; exact B6.trans (below_draws _ _ _)
  have HB7 := Lib.hid B7
  have HZ7 := Lib.hid (show w5.heap.size ≤ w7.heap.size from B7.size)
  clear hw7 B6 B7 hq7 P7 Q7
  go_wp2_with fail
  go_loopw [18, 20, 21, 70] (fun ov _ _ i wr => ∃ (j : Nat) (acc : List (List Int)), j ≤ n ∧ i = .int .i64 j ∧ acc.length ≤ j ∧ Hid (acc = (ls.take j).map F) ∧ Hid (OwnL wr w5.heap.size ov acc) ∧ Hid (Below w5.heap.size w5 wr)) (fun _ _ _ i _ => n - (intOf i).toNat)
  case atStart => exact ⟨0, [], by omega, rfl, Nat.le_refl _, Lib.hid (by simp), Lib.hid (OwnL.nil w7 _ HZ7.out), HB7⟩
  case round =>
    obtain ⟨j, acc, hj, rfl, hal, hacc, hown, hbe⟩ := hrel
    have BX := below_then HB5.out HB5.out.size hbe.out
    by_cases hlt : j < n
    · have hkl : j < ls.length := by rw [← HN.out]; exact hlt
      have ck := (BX.cell (p := ⟨b, off + j, none⟩) hbw).trans (HHC.out j hlt).1
      have QJ := CLO.out wr hbe.out (ls.getD j []) (V j) (((HHC.out j hlt).2.keep BX hhb).up (by have := HB5.out.size; omega)) (HPT.out j hlt)
      have HE : (ls.take j).map F ++ [F (ls.getD j [])] = (ls.take (j + 1)).map F := map_snocL F ls j hkl
      rw [← hacc.out, HF2.out] at HE
      have R2 := HR2.out (ls.getD j []) (HPT.out j hlt)
      have R3 := HMS.out _ R2.2.1 R2.2.2
      have R1 := R2.1
      clear R2
      generalize crossI (minusI (ls.getD j []) (ls.getD k [])) [c, d] = p at *
      generalize st * crossI (cU ls k st) (minusI (ls.getD j []) (ls.getD k [])) = q at *
      have HE := Lib.hid HE
      have hbs := hbe.out.size
      clear hkl
      have hkn : (j : Int) < (n : Int) := by omega
      have hk0 : (0 : Int) ≤ (j : Int) := by omega
      have hkt : ((j : Int)).toNat = j := by omega
      have hsq : -400000000 ≤ sh * q ∧ sh * q ≤ 400000000 := by
        have h1 : sh.natAbs * q.natAbs ≤ 20000 * 20000 := Nat.mul_le_mul (by omega) (by omega)
        rw [← Int.natAbs_mul] at h1
        omega
      have g1 := wr64 (sh * q) (by omega)
      have g2 := wr64 (p - sh * q) (by omega)
      go_wp2_with fail
      with_reducible refine QJ.mono ?_
      rintro e w3 ⟨u3, rfl, k3, c3⟩
      obtain ⟨b3, o3, cp3, rfl, hlo3, hb3, z0, z1⟩ := k3.two rfl
      simp only [List.getD_cons_zero, List.getD_cons_succ] at z0 z1
      clear k3 QJ
      have y0 : w3.drew.cell? ⟨b3, o3, none⟩ = some (.int .i64 p) := z0
      have y1 : w3.drew.cell? ⟨b3, o3 + 1, none⟩ = some (.int .i64 q) := z1
      have bd4 : Below wr.heap.size wr w3 := c3
      have G5 := below1 w3 (.cells #[.int .i64 (p - sh * q), .int .i64 q] 3)
      have bd5 := below_then bd4 bd4.size G5
      obtain ⟨VV, pp, hpt8⟩ := hown.out.part bd5
      have HN6 := heap_alloc_new (w3.alloc (.cells #[.int .i64 (p - sh * q), .int .i64 q] 3)) (.cells #[.slice (some ⟨w3.heap.size, 0, none⟩) 2 2] 25)
      rw [World.size_alloc] at HN6
      have B4 := below_then hbe.out hbe.out.size bd4
      have hz4 := B4.size
      go_wp2_with fail
      go_region_held3 (fun w' => w'.cell? ⟨b3, o3, none⟩ = some (.int .i64 p) ∧ w'.cell? ⟨b3, o3 + 1, none⟩ = some (.int .i64 q))
        (first | exact ⟨y0, y1⟩ | exact ⟨y8, y9⟩ | go_keep)
        (first
          | (refine step_append_lies _ (by rfl) _ _ _ (by with_reducible rfl) w5.heap.size 25 i0 _ 1 24 Tryz.underlying24 HI0.out HZ0.out HZ1.out HZ2.out rfl (by omega) u18 acc.length _ (by rfl) (hpt8.alloc _) ⟨w3.heap.size + 1, 0, none⟩ 1 1 [.slice (some ⟨w3.heap.size, 0, none⟩) 2 2] (by rfl) (by rfl) (World.news_of_block HN6) (by simp [Value.oneCell']) (by omega) (by unfold maxLen; omega) (by omega) (by simp; omega) (w3.heap.size + 1 + 1) (by simp) ?_; intro gg cap1 w9 hown1 hgrow hat hlt9; have hgrow := grown_undrew hgrow; have BE := OwnLp.below (B4.alloc B4.size (.cells #[.int .i64 (p - sh * q), .int .i64 q] 3)) (by simp; omega) _ hgrow hpt8 (Nat.le_refl _); have y8 := cell_own hown.out hlo3 hb3 hgrow z0; have y9 := cell_own hown.out hlo3 hb3 hgrow z1))
      have K1 := IS.lit2 w3 w3.heap.size (Nat.le_refl _) (p - sh * q) q
      have HO := Lib.hid (hpt8.push K1 bd4.size (Nat.le_succ _) (by simp) hgrow hown1)
      have HBE := Lib.hid BE
      clear hown1 hgrow hat hlt9 hpt8 HN6 K1 BE G5 bd5 bd4 B4 y0 y1 y8 y9 c3 z0 z1
      go_wp2
      go_roundw
      case rel => exact ⟨j + 1, _, by omega, by go_num, by simp; omega, HE, HO, HBE⟩
      case measure => simp [intOf]; omega
    · obtain rfl : j = n := by omega
      have hfin : acc = frC ls k st := by rw [← HFR.out, HF1.out, hacc.out, HN.out, List.take_length]
      subst hfin
      have hfl : (frC ls k st).length = ls.length := by unfold frC frL; simp
      have HU := implHullOf_any (frC ls k st) _ wr.heap.size wr hown.out.is.read (Nat.le_refl _) (by rw [hfl, ← HN.out]; omega) (by rw [hfl, ← HN.out]; omega)
      clear hfl
      go_wp2_with (go_at_call 30; (with_reducible refine HU.mono ?_); rintro e w9 ⟨u9, rfl, k9, c9⟩)
      go_ret2
      exact ⟨_, rfl, k9.mono BX.size (Nat.le_refl _), below_then BX BX.size c9⟩
end Go.Proofs.YtehhoplenloocaaGreat
