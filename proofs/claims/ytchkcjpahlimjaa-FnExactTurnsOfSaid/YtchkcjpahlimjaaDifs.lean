/- Lists of rows that are made by appending: copies, differences. -/
import Derived.Test.YtchkcjpahlimjaaOwnL
import Derived.Test.YtchkcjpahlimjaaVec2
import Derived.Deep.AppendLies
namespace Go.Proofs.Ytchkcjpahlimjaa
open Go.RowKit
set_option linter.unusedVariables false
set_option linter.unusedSimpArgs false

theorem take_snocL (ls : List (List Int)) (k : Nat) (h : k < ls.length) : ls.take k ++ [ls.getD k []] = ls.take (k + 1) := by
  rw [List.take_succ_eq_append_getElem h, List.getD_eq_getElem?_getD, List.getElem?_eq_getElem h]; rfl
theorem map_snocL {α : Type} (f : List Int → α) (ls : List (List Int)) (k : Nat) (h : k < ls.length) : (ls.take k).map f ++ [f (ls.getD k [])] = (ls.take (k + 1)).map f := by
  rw [← take_snocL ls k h, List.map_append]; rfl

set_option maxHeartbeats 1000000 in
theorem copyPoints_any (ls : List (List Int)) (v : Value) (hb : Nat) (w : World) (h : ISSr w hb v ls) (hhb : hb ≤ w.heap.size) (hl : ls.length ≤ 100000) (hr : ∀ i, i < ls.length → (ls.getD i []).length ≤ 1000000) :
    Calls Try.prog 111 #[v] w fun e w' => ∃ u, e = .returned u ∧ OwnL w' w.heap.size u ls ∧ Below w.heap.size w w' := by
  obtain ⟨i0, hi0, hz0, hz1, hz2⟩ := info_parts info_ints
  have HI0 := Lib.hid hi0; clear hi0
  have HZ0 := Lib.hid hz0; clear hz0
  have HZ1 := Lib.hid hz1; clear hz1
  have HZ2 := Lib.hid hz2; clear hz2
  obtain ⟨n, hn⟩ : ∃ n, n = ls.length := ⟨_, rfl⟩
  obtain ⟨a, cap, rfl, -, -, hcell⟩ := id h
  rw [← hn] at hl ⊢
  have HN := Lib.hid hn; clear hn
  have HC := Lib.hid hcell; clear hcell h
  have HR := Lib.hid hr; clear hr
  go_enter Try.func111, Try.ntmps111
  go_wp2
  go_loopw [3, 5, 8] (fun ov _ i wr => ∃ (k : Nat) (acc : List (List Int)), k ≤ n ∧ i = .int .i64 k ∧ acc.length ≤ k ∧ Hid (acc = ls.take k) ∧ Hid (OwnL wr w.heap.size ov acc) ∧ Hid (Below w.heap.size w wr)) (fun _ _ i _ => n - (intOf i).toNat)
  case atStart => exact ⟨0, [], by omega, rfl, Nat.le_refl _, Lib.hid (by simp), OwnL.nil w _ (Nat.le_refl _), Below.refl _ _⟩
  case round =>
    obtain ⟨k, acc, hk, rfl, hal, hacc, hown, hbe⟩ := hrel
    by_cases hlt : k < n
    · have hkl : k < ls.length := by rw [← HN.out]; exact hlt
      obtain ⟨b, off, V0, rfl, hbb, hcc⟩ := HC.out (by intro e; rw [e] at hkl; exact absurd hkl (Nat.not_lt_zero _))
      have hck := (hbe.out.cell (p := ⟨b, off + k, none⟩) (Nat.lt_of_lt_of_le hbb hhb)).trans (hcc k hkl).1
      have hrow := (hcc k hkl).2.keep hbe.out hhb
      have HE := Lib.hid (take_snocL ls k hkl)
      rw [← hacc.out] at HE
      have CP := copyInts_any (ls.getD k []) (V0 k) hb wr hrow (HR.out k hkl)
      have hbs := hbe.out.size
      clear hcc hkl hrow
      generalize ls.getD k [] = r at *
      generalize V0 k = xk at *
      go_wp2_with fail
      refine CP.mono ?_
      rintro e w2 ⟨u, rfl, ku, c2⟩
      have HK := Lib.hid ku.is
      obtain ⟨V, p, hpt⟩ := hown.out.part c2
      have HPT := Lib.hid hpt
      have HB2 := Lib.hid (below_then hbe.out hbs c2)
      have hs2 := c2.size
      obtain ⟨au, cu, rfl⟩ := ku.form
      clear hpt ku c2 CP
      go_wp2_with (at_builtin; refine wpList_append_own _ rfl _ _ 26 rfl w.heap.size 22 i0 (.slice none 0 0) 1 24 Try.underlying26 HI0.out HZ0.out HZ1.out HZ2.out rfl (by decide) _ _ _ rfl (HPT.out.alloc _) ⟨w2.heap.size, 0, none⟩ 1 1 [.slice au r.length cu] rfl rfl ?c1 ?c2 ?c3 ?c4 ?c5 ?_)
      case c1 => exact cell_one_new _ _ _
      case c2 => first | rfl | (intro u hu; simp at hu; subst hu; rfl)
      case c3 => unfold maxLen; omega
      case c4 => omega
      case c5 => first | omega | (simp; omega)
      intro v2 w3 hown2 hgrow _
      have HO := Lib.hid (HPT.out.push HK.out (Nat.le_refl _) hs2 (Nat.le_refl _) hgrow hown2)
      have HBE := Lib.hid (OwnLp.below HB2.out (by omega) _ hgrow HPT.out (Nat.le_refl _))
      clear hown2 hgrow
      go_wp2
      go_roundw
      case rel => exact ⟨k + 1, _, by omega, by go_num, by simp; omega, HE, HO, HBE⟩
      case measure => simp [intOf]; omega
    · obtain rfl : k = n := by omega
      have hfin : acc = ls := by rw [hacc.out, HN.out, List.take_length]
      subst hfin
      go_wp2
      go_ret
      exact ⟨_, rfl, hown.out, hbe.out⟩

/-- the difference of two points of space -/
def diff3 (x f : List Int) : List Int := [x.getD 0 0 - f.getD 0 0, x.getD 1 0 - f.getD 1 0, x.getD 2 0 - f.getD 2 0]
theorem IS.lit3 (w : World) (B : Nat) (h : B ≤ w.heap.size) (x y z : Int) : IS (w.alloc (.cells #[.int .i64 x, .int .i64 y, .int .i64 z] 3)) B (w.heap.size + 1) (.slice (some ⟨w.heap.size, 0, none⟩) 3 3) [x, y, z] := by
  refine IS.of_BK (l := [x, y, z]) ⟨_, heap_alloc_new w _, fun i hi => ?_⟩ (Nat.le_refl _) (by simp [maxLen]) h (by omega)
  match i, hi with
  | 0, _ => rfl
  | 1, _ => rfl
  | 2, _ => rfl
theorem ISr.three {w : World} {hi : Nat} {v : Value} {l : List Int} (h : ISr w hi v l) (hl : l.length = 3) :
    ∃ b off cap, v = .slice (some ⟨b, off, none⟩) 3 cap ∧ b < hi ∧ w.cell? ⟨b, off, none⟩ = some (.int .i64 (l.getD 0 0)) ∧ w.cell? ⟨b, off + 1, none⟩ = some (.int .i64 (l.getD 1 0)) ∧ w.cell? ⟨b, off + 2, none⟩ = some (.int .i64 (l.getD 2 0)) := by
  rcases h.cases with ⟨rfl, -⟩ | ⟨-, -, b, off, cap, rfl, hb, hc⟩
  · simp at hl
  · rw [hl]
    exact ⟨b, off, cap, rfl, hb, by have := hc 0 (by omega); rwa [Nat.add_zero] at this, hc 1 (by omega), hc 2 (by omega)⟩
set_option maxHeartbeats 2000000 in
theorem differences_any (ls : List (List Int)) (f : List Int) (v vf : Value) (hb : Nat) (w : World) (h : ISSr w hb v ls) (hf : ISr w hb vf f) (hhb : hb ≤ w.heap.size) (hl : ls.length ≤ 100000) (lf : f.length = 3) (bf : allIn f (-1000000) 1000000 = true)
    (hr : ∀ i, i < ls.length → (ls.getD i []).length = 3 ∧ allIn (ls.getD i []) (-1000000) 1000000 = true) :
    Calls Try.prog 83 #[v, vf] w fun e w' => ∃ u, e = .returned u ∧ OwnL w' w.heap.size u (ls.map (diff3 · f)) ∧ Below w.heap.size w w' := by
  obtain ⟨i0, hi0, hz0, hz1, hz2⟩ := info_parts info_ints
  have HI0 := Lib.hid hi0; clear hi0
  have HZ0 := Lib.hid hz0; clear hz0
  have HZ1 := Lib.hid hz1; clear hz1
  have HZ2 := Lib.hid hz2; clear hz2
  obtain ⟨n, hn⟩ : ∃ n, n = ls.length := ⟨_, rfl⟩
  obtain ⟨a, cap, rfl, -, -, hcell⟩ := id h
  obtain ⟨bf', of, cf, rfl, hbf, f0, f1, f2⟩ := hf.three lf
  have g0 := allIn_at bf 0 (by omega)
  have g1 := allIn_at bf 1 (by omega)
  have g2 := allIn_at bf 2 (by omega)
  rw [← hn] at hl ⊢
  have HN := Lib.hid hn; clear hn
  have HC := Lib.hid hcell; clear hcell h hf bf
  have HR := Lib.hid hr; clear hr
  have HF := Lib.hid (And.intro f0 (And.intro f1 f2)); clear f0 f1 f2
  have HD := Lib.hid (show ∀ r : List Int, diff3 r f = [r.getD 0 0 - f.getD 0 0, r.getD 1 0 - f.getD 1 0, r.getD 2 0 - f.getD 2 0] from fun r => rfl)
  generalize f.getD 0 0 = y0 at *
  generalize f.getD 1 0 = y1 at *
  generalize f.getD 2 0 = y2 at *
  go_enter Try.func83, Try.ntmps83
  go_wp2
  go_loopw [5, 7, 10] (fun ov _ i wr => ∃ (k : Nat) (acc : List (List Int)), k ≤ n ∧ i = .int .i64 k ∧ acc.length ≤ k ∧ Hid (acc = (ls.take k).map (diff3 · f)) ∧ Hid (OwnL wr w.heap.size ov acc) ∧ Hid (Below w.heap.size w wr)) (fun _ _ i _ => n - (intOf i).toNat)
  case atStart => exact ⟨0, [], by omega, rfl, Nat.le_refl _, Lib.hid (by simp), OwnL.nil w _ (Nat.le_refl _), Below.refl _ _⟩
  case round =>
    obtain ⟨k, acc, hk, rfl, hal, hacc, hown, hbe⟩ := hrel
    by_cases hlt : k < n
    · have hkl : k < ls.length := by rw [← HN.out]; exact hlt
      obtain ⟨b, off, V0, rfl, hbb, hcc⟩ := HC.out (by intro e; rw [e] at hkl; exact absurd hkl (Nat.not_lt_zero _))
      have hck := (hbe.out.cell (p := ⟨b, off + k, none⟩) (Nat.lt_of_lt_of_le hbb hhb)).trans (hcc k hkl).1
      have hrow := (hcc k hkl).2.keep hbe.out hhb
      have HE := Lib.hid (map_snocL (diff3 · f) ls k hkl)
      rw [← hacc.out, HD.out] at HE
      obtain ⟨l3, b3⟩ := HR.out k hkl
      have x0b := allIn_at b3 0 (by omega)
      have x1b := allIn_at b3 1 (by omega)
      have x2b := allIn_at b3 2 (by omega)
      obtain ⟨br, or', cr, hvr, hbr, x0, x1, x2⟩ := hrow.three l3
      have q0 := (hbe.out.cell (p := ⟨bf', of, none⟩) (Nat.lt_of_lt_of_le hbf hhb)).trans HF.out.1
      have q1 := (hbe.out.cell (p := ⟨bf', of + 1, none⟩) (Nat.lt_of_lt_of_le hbf hhb)).trans HF.out.2.1
      have q2 := (hbe.out.cell (p := ⟨bf', of + 2, none⟩) (Nat.lt_of_lt_of_le hbf hhb)).trans HF.out.2.2
      have hbs := hbe.out.size
      clear hcc hkl hrow l3 b3
      generalize (ls.getD k []).getD 0 0 = z0 at *
      generalize (ls.getD k []).getD 1 0 = z1 at *
      generalize (ls.getD k []).getD 2 0 = z2 at *
      generalize V0 k = xk at *
      subst hvr
      have e0 := wr64 (z0 - y0) (by omega)
      have e1 := wr64 (z1 - y1) (by omega)
      have e2 := wr64 (z2 - y2) (by omega)
      have cR := below1 wr (.cells #[.int .i64 (z0 - y0), .int .i64 (z1 - y1), .int .i64 (z2 - y2)] 3)
      obtain ⟨V, p, hpt⟩ := hown.out.part cR
      have HPT := Lib.hid hpt
      have HK := Lib.hid (IS.lit3 wr wr.heap.size (Nat.le_refl _) (z0 - y0) (z1 - y1) (z2 - y2))
      have HB2 := Lib.hid (below_then hbe.out hbs cR)
      have ow := hown.out.lt
      have ag : u5.ownBlock ≠ some br := fun e => by have := (ow br e).1; omega
      have af : u5.ownBlock ≠ some bf' := fun e => by have := (ow bf' e).1; omega
      have lg := World.block_lt_of_cell? wr _ x0
      have lf' := World.block_lt_of_cell? wr _ q0
      have lg1 : br < wr.heap.size := lg
      have lf1 : bf' < wr.heap.size := lf'
      clear cR hpt ow x0b x1b x2b
      go_wp2_with fail
      go_region_held3 (fun w' => w'.cell? ⟨br, or', none⟩ = some (.int .i64 z0) ∧ w'.cell? ⟨br, or' + 1, none⟩ = some (.int .i64 z1) ∧ w'.cell? ⟨br, or' + 2, none⟩ = some (.int .i64 z2) ∧ w'.cell? ⟨bf', of, none⟩ = some (.int .i64 y0) ∧ w'.cell? ⟨bf', of + 1, none⟩ = some (.int .i64 y1) ∧ w'.cell? ⟨bf', of + 2, none⟩ = some (.int .i64 y2))
        (first
          | go_keep
          | (go_split_ands
             refine ⟨?_, ?_, ?_, ?_, ?_, ?_⟩
             · (rw [hgrow.cell_far _ (by simp; omega) (Ne.symm ag)]; assumption)
             · (rw [hgrow.cell_far _ (by simp; omega) (Ne.symm ag)]; assumption)
             · (rw [hgrow.cell_far _ (by simp; omega) (Ne.symm ag)]; assumption)
             · (rw [hgrow.cell_far _ (by simp; omega) (Ne.symm af)]; assumption)
             · (rw [hgrow.cell_far _ (by simp; omega) (Ne.symm af)]; assumption)
             · (rw [hgrow.cell_far _ (by simp; omega) (Ne.symm af)]; assumption)))
        ((refine step_append_lies _ (by rfl) _ _ _ (by rfl) w.heap.size 22 i0 _ 1 24 Try.underlying26 HI0.out HZ0.out HZ1.out HZ2.out rfl (by omega) u5 acc.length _ (by rfl) ((HPT.out.alloc _).drew)
            ⟨wr.heap.size + 1, 0, none⟩ 1 1 [.slice (some ⟨wr.heap.size, 0, none⟩) 3 3] (by rfl) (by rfl) (World.news_of_block (cs := #[.slice (some ⟨wr.heap.size, 0, none⟩) 3 3]) (t := 22) (fr := (0, 0)) (by have g := heap_alloc_new (wr.alloc (.cells #[.int .i64 (z0 - y0), .int .i64 (z1 - y1), .int .i64 (z2 - y2)] 3)) (.cells #[.slice (some ⟨wr.heap.size, 0, none⟩) 3 3] 22); rw [World.size_alloc] at g; exact g)) (by simp [Value.oneCell'])
            (by omega) (by unfold maxLen; omega) (by omega) (by simp; omega) (wr.heap.size + 2) (by simp) ?_; intro gg cap w1 hown1 hgrow hat hlt))
      have HO := Lib.hid (HPT.out.push HK.out (Nat.le_refl _) (by omega) (by simp) (grown_undrew hgrow) hown1)
      have HBE := Lib.hid (OwnLp.below HB2.out (by simp; omega) _ (grown_undrew hgrow) HPT.out (Nat.le_refl _))
      clear hown1 hgrow e0 e1 e2 hat hlt lg lf' ag af x0 x1 x2 q0 q1 q2
      go_wp2
      go_roundw
      case rel => exact ⟨k + 1, _, by omega, by go_num, by simp; omega, HE, HO, HBE⟩
      case measure => simp [intOf]; omega
    · obtain rfl : k = n := by omega
      have hfin : acc = ls.map (diff3 · f) := by rw [hacc.out, HN.out, List.take_length]
      subst hfin
      go_wp2
      go_ret
      exact ⟨_, rfl, hown.out, hbe.out⟩
end Go.Proofs.Ytchkcjpahlimjaa
