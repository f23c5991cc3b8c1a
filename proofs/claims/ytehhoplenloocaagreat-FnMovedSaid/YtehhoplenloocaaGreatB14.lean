/- B14: texts in one: Pts7 PolN PolW DilN. -/
import Derived.Test.YtehhoplenloocaaGreatB11
import Derived.Test.YtehhoplenloocaaGreatB2
import Derived.Deep.AppendLies
import Derived.Test.YtehhoplenloocaaGreatB12
/- The whole points of a polygon: the walk of l7Points. -/
namespace Go.Proofs.YtehhoplenloocaaGreat
open Go Go.RowKit
set_option linter.unusedVariables false
set_option linter.unusedSimpArgs false

def loF (ls : List (List Int)) : Nat → Int
  | 0 => (ls.getD 0 []).getD 1 0
  | k + 1 => min (loF ls k) ((ls.getD k []).getD 1 0)
def hiF (ls : List (List Int)) : Nat → Int
  | 0 => (ls.getD 0 []).getD 1 0
  | k + 1 => max (hiF ls k) ((ls.getD k []).getD 1 0)
def laF (ls : List (List Int)) : Nat → Int
  | 0 => (ls.getD 0 []).getD 0 0
  | k + 1 => max (laF ls k) ((ls.getD k []).getD 0 0)
def fiF (ls : List (List Int)) : Int := (ls.getD 0 []).getD 0 0
def cel7 (ls : List (List Int)) (x y : Int) : List (List Int) := if 0 ≤ plV ls [x, y] then [[x, y]] else []
def row7 (ls : List (List Int)) (x lo : Int) : Nat → List (List Int)
  | 0 => []
  | j + 1 => row7 ls x lo j ++ cel7 ls x (lo + j)
def col7 (ls : List (List Int)) (lo : Int) (m : Nat) : Nat → List (List Int)
  | 0 => []
  | i + 1 => col7 ls lo m i ++ row7 ls (fiF ls + i) lo m
def polL (ls : List (List Int)) : List (List Int) := col7 ls (loF ls ls.length) (hiF ls ls.length - loF ls ls.length + 1).toNat (laF ls ls.length - fiF ls + 1).toNat
theorem row7_len (ls : List (List Int)) (x lo : Int) : ∀ j, (row7 ls x lo j).length ≤ j
  | 0 => Nat.le_refl _
  | j + 1 => by
    have := row7_len ls x lo j
    have c : (cel7 ls x (lo + j)).length ≤ 1 := by unfold cel7; split <;> simp
    rw [row7, List.length_append]; omega
theorem col7_len (ls : List (List Int)) (lo : Int) (m : Nat) : ∀ i, (col7 ls lo m i).length ≤ i * m
  | 0 => Nat.zero_le _
  | i + 1 => by
    have := col7_len ls lo m i
    have c := row7_len ls (fiF ls + i) lo m
    rw [col7, List.length_append, Nat.succ_mul]; omega
theorem ext_bd {ls : List (List Int)} (h3 : 3 ≤ ls.length) (hf : flatB ls 50 = true) : ∀ k, k ≤ ls.length → (-50 ≤ loF ls k ∧ loF ls k ≤ 50) ∧ (-50 ≤ hiF ls k ∧ hiF ls k ≤ 50) ∧ (-50 ≤ laF ls k ∧ laF ls k ≤ 50) ∧ loF ls k ≤ hiF ls k ∧ fiF ls ≤ laF ls k
  | 0, _ => by
    obtain ⟨l, a⟩ := flat_at hf (k := 0) (by omega)
    have a0 := allIn_at a 0 (by omega)
    have a1 := allIn_at a 1 (by omega)
    unfold loF hiF laF fiF; omega
  | k + 1, hk => by
    have ih := ext_bd h3 hf k (by omega)
    obtain ⟨l, a⟩ := flat_at hf (k := k) (by omega)
    have a0 := allIn_at a 0 (by omega)
    have a1 := allIn_at a 1 (by omega)
    unfold loF hiF laF; omega

end Go.Proofs.YtehhoplenloocaaGreat

/- The whole points of a polygon are counted: plain law. -/
namespace Go.Proofs.YtehhoplenloocaaGreat
set_option linter.unusedVariables false
set_option linter.unusedSimpArgs false

theorem row7_mem (ls : List (List Int)) (x lo : Int) (r : List Int) : ∀ j, r ∈ row7 ls x lo j ↔ ∃ b : Nat, b < j ∧ 0 ≤ plV ls [x, lo + b] ∧ r = [x, lo + b]
  | 0 => by simp [row7]
  | j + 1 => by
    rw [row7, List.mem_append, row7_mem ls x lo r j]
    unfold cel7
    constructor
    · rintro (⟨b, h1, h2, h3⟩ | h)
      · exact ⟨b, by omega, h2, h3⟩
      · split at h
        · rename_i hp
          exact ⟨j, by omega, hp, List.mem_singleton.1 h⟩
        · cases h
    · rintro ⟨b, h1, h2, h3⟩
      by_cases e : b = j
      · subst e
        right
        rw [if_pos h2, h3]; exact List.mem_singleton.2 rfl
      · exact .inl ⟨b, by omega, h2, h3⟩
theorem col7_mem (ls : List (List Int)) (lo : Int) (m : Nat) (r : List Int) : ∀ i, r ∈ col7 ls lo m i ↔ ∃ a : Nat, a < i ∧ r ∈ row7 ls (fiF ls + a) lo m
  | 0 => by simp [col7]
  | i + 1 => by
    rw [col7, List.mem_append, col7_mem ls lo m r i]
    constructor
    · rintro (⟨a, h1, h2⟩ | h)
      · exact ⟨a, by omega, h2⟩
      · exact ⟨i, by omega, h⟩
    · rintro ⟨a, h1, h2⟩
      by_cases e : a = i
      · subst e; exact .inr h2
      · exact .inl ⟨a, by omega, h2⟩
theorem row7_nodup (ls : List (List Int)) (x lo : Int) : ∀ j, (row7 ls x lo j).Nodup
  | 0 => List.nodup_nil
  | j + 1 => by
    rw [row7, List.nodup_append]
    refine ⟨row7_nodup ls x lo j, by unfold cel7; split <;> simp, fun r h1 s h2 e => ?_⟩
    subst e
    obtain ⟨b, hb, -, rfl⟩ := (row7_mem ls x lo r j).1 h1
    unfold cel7 at h2
    split at h2
    · have := List.mem_singleton.1 h2
      simp at this
      omega
    · cases h2
theorem col7_nodup (ls : List (List Int)) (lo : Int) (m : Nat) : ∀ i, (col7 ls lo m i).Nodup
  | 0 => List.nodup_nil
  | i + 1 => by
    rw [col7, List.nodup_append]
    refine ⟨col7_nodup ls lo m i, row7_nodup _ _ _ _, fun r h1 s h2 e => ?_⟩
    subst e
    obtain ⟨a, ha, h3⟩ := (col7_mem ls lo m r i).1 h1
    obtain ⟨b, -, -, e1⟩ := (row7_mem ls _ lo r m).1 h3
    obtain ⟨c, -, -, e2⟩ := (row7_mem ls _ lo r m).1 h2
    rw [e1] at e2
    simp at e2
    omega
theorem plS_nn (ls : List (List Int)) (c : List Int) : ∀ k, 0 ≤ plS ls c k
  | 0 => by unfold plS; omega
  | k + 1 => by
    have := plS_nn ls c k
    unfold plS; split <;> omega
theorem plV_nn {ls : List (List Int)} (h3 : 3 ≤ ls.length) (c : List Int) : 0 ≤ plV ls c ↔ inF (pf ls) (ls.length - 1) (ptOf c) := by
  have e : 0 ≤ plV ls c ↔ ∀ j, j < ls.length → 0 ≤ tnE ls c j := by
    unfold plV
    cases h : ngK ls c ls.length
    · unfold ngK at h
      rw [List.any_eq_false] at h
      refine ⟨fun _ j hj => ?_, fun _ => plS_nn _ _ _⟩
      have := h j (List.mem_range.2 hj)
      simpa using this
    · unfold ngK at h
      rw [List.any_eq_true] at h
      obtain ⟨j, hj, hn⟩ := h
      refine ⟨fun h => by simp at h, fun h => ?_⟩
      have := h j (List.mem_range.1 hj)
      simp at hn
      omega
  rw [e]
  constructor
  · intro h
    refine ⟨fun i hi => ?_, ?_⟩
    · have := h i (by omega)
      unfold tnE at this
      rwa [Nat.mod_eq_of_lt (by omega)] at this
    · have := h (ls.length - 1) (by omega)
      unfold tnE at this
      rwa [show (ls.length - 1 + 1) % ls.length = 0 by rw [Nat.sub_add_cancel (by omega), Nat.mod_self]] at this
  · rintro ⟨h1, h2⟩ j hj
    unfold tnE
    by_cases e : j = ls.length - 1
    · subst e
      rw [show (ls.length - 1 + 1) % ls.length = 0 by rw [Nat.sub_add_cancel (by omega), Nat.mod_self]]
      exact h2
    · rw [Nat.mod_eq_of_lt (by omega)]
      exact h1 j (by omega)
theorem ext_at (ls : List (List Int)) : ∀ k i, i < k → loF ls k ≤ (pf ls i).2 ∧ (pf ls i).2 ≤ hiF ls k ∧ (pf ls i).1 ≤ laF ls k
  | 0, i, h => by omega
  | k + 1, i, h => by
    by_cases e : i = k
    · subst e
      have e1 : (pf ls i).2 = (ls.getD i []).getD 1 0 := rfl
      have e2 : (pf ls i).1 = (ls.getD i []).getD 0 0 := rfl
      rw [e1, e2]
      unfold loF hiF laF; omega
    · have := ext_at ls k i (by omega)
      unfold loF hiF laF; omega
/-- twice the whole points of a polygon -/
theorem pol_count {ls : List (List Int)} (hp : isPolyB ls = true) : 2 * ((polL ls).length : Int) = 2 + arL ls + bdL ls := by
  obtain ⟨⟨h3, h12⟩, hf, ht⟩ := poly_parts hp
  have hx := ext_bd h3 hf ls.length (Nat.le_refl _)
  have hloc : Loc ls.length (pf ls) := by
    unfold isPolyB at hp
    rw [Bool.and_eq_true, Bool.and_eq_true] at hp
    exact (locB_iff h3).1 hp.2.2
  have key : ∀ r, r ∈ polL ls ↔ r.length = 2 ∧ inF (pf ls) (ls.length - 1) (ptOf r) := fun r => by
    unfold polL
    rw [col7_mem]
    constructor
    · rintro ⟨a, ha, h⟩
      obtain ⟨b, hb, h1, rfl⟩ := (row7_mem ls _ _ r _).1 h
      exact ⟨rfl, (plV_nn h3 _).1 h1⟩
    · rintro ⟨hl, hi⟩
      have f := fun A B C hc => fan_lin ht A B C hc (ls.length - 1) (by omega) (by omega) (ptOf r) hi
      have a1 := f 1 0 (-fiF ls) (fun i hi => by
        have : fiF ls ≤ (pf ls i).1 := by
          by_cases e : i = 0
          · subst e; exact Int.le_refl _
          · have := hloc.least i (by omega) hi
            have e0 : (pf ls 0).1 = fiF ls := rfl
            unfold ltP at this
            omega
        omega)
      have a2 := f (-1) 0 (laF ls ls.length) (fun i hi => by have := ext_at ls ls.length i hi; omega)
      have a3 := f 0 1 (-loF ls ls.length) (fun i hi => by have := ext_at ls ls.length i hi; omega)
      have a4 := f 0 (-1) (hiF ls ls.length) (fun i hi => by have := ext_at ls ls.length i hi; omega)
      obtain ⟨x, y, rfl⟩ := lenE2 hl
      have ex : (ptOf [x, y]).1 = x := rfl
      have ey : (ptOf [x, y]).2 = y := rfl
      rw [ex, ey] at a1 a2 a3 a4
      have e1 : fiF ls + ((x - fiF ls).toNat : Int) = x := by omega
      have e2 : loF ls ls.length + ((y - loF ls ls.length).toNat : Int) = y := by omega
      refine ⟨(x - fiF ls).toNat, by omega, (row7_mem ls _ _ _ _).2 ⟨(y - loF ls ls.length).toNat, by omega, ?_, ?_⟩⟩
      · rw [e1, e2]; exact (plV_nn h3 _).2 hi
      · rw [e1, e2]
  have hn : ((polL ls).map ptOf).Nodup := by
    rw [List.nodup_iff_pairwise_ne, List.pairwise_map]
    refine List.Pairwise.imp_of_mem (fun {r s} hr hs hne e => hne ?_) (List.nodup_iff_pairwise_ne.1 (col7_nodup ls _ _ _))
    obtain ⟨x, y, rfl⟩ := lenE2 ((key r).1 hr).1
    obtain ⟨x', y', rfl⟩ := lenE2 ((key s).1 hs).1
    injection e with e1 e2
    have e1 : x = x' := e1
    have e2 : y = y' := e2
    rw [e1, e2]
  have := poly_pick hp hn fun z => by
    rw [List.mem_map]
    constructor
    · rintro ⟨r, hr, rfl⟩; exact ((key r).1 hr).2
    · intro hz
      exact ⟨[z.1, z.2], (key _).2 ⟨rfl, hz⟩, rfl⟩
  rwa [List.length_map] at this
end Go.Proofs.YtehhoplenloocaaGreat

/- spec.AreaTwice and spec.PolygonPoints: the walks. -/
namespace Go.Proofs.YtehhoplenloocaaGreat
open Go.RowKit
set_option linter.unusedVariables false
set_option linter.unusedSimpArgs false

def polV (ls : List (List Int)) : List (List Int) := if isPolyB ls && decide (arL ls ≤ 2000) then polL ls else []
set_option maxRecDepth 100000 in
set_option maxHeartbeats 1000000 in
theorem specAreaTwice_any (ls : List (List Int)) (v : Value) (hb : Nat) (w : World) (h : ISSr w hb v ls) (hhb : hb ≤ w.heap.size) :
    Calls Tryz.prog 21 #[v] w fun e w' => e = .returned (.int .i64 (arV ls)) ∧ Below w.heap.size w w' := by
  have IP := specIsPolygon_any ls v hb w h hhb
  cases hp : isPolyB ls
  · have e : arV ls = -1 := by unfold arV; rw [hp]; rfl
    rw [hp] at IP
    rw [e]
    clear h
    go_enter Tryz.func21, Tryz.ntmps21
    go_wp2_with (first
      | (go_at_call 31; (with_reducible refine IP.mono ?_); rintro e w1 ⟨rfl, c1⟩)
      | fail)
    go_ret
    exact ⟨rfl, c1⟩
  · have e : arV ls = arL ls := by unfold arV; rw [hp]; rfl
    obtain ⟨h3, h12, hf⟩ := isPoly_parts hp
    rw [hp] at IP
    rw [e]
    have HH := Lib.hid h
    clear h
    go_enter Tryz.func21, Tryz.ntmps21
    go_wp2_with (first
      | (go_at_call 31; (with_reducible refine IP.mono ?_); rintro e w1 ⟨rfl, c1⟩; have AR := toBelow (l7Area_any ls v hb w1 (HH.out.keep c1 hhb) h12 hf))
      | (go_at_call 51; (with_reducible refine AR.mono ?_); rintro e w2 ⟨rfl, c2⟩)
      | fail)
    go_ret
    exact ⟨rfl, c1.trans (c2.mono c1.size)⟩
theorem ownL_down {w : World} {B B' : Nat} {v : Value} {ls : List (List Int)} (h : OwnL w B v ls) (hb : B' ≤ B) : OwnL w B' v ls := by
  obtain ⟨V, p, h1, h2, h3⟩ := h
  exact ⟨V, p, World.ownsRow.mono h1 hb, by omega, h3⟩
end Go.Proofs.YtehhoplenloocaaGreat

/- The plain law of the statement on dilated polygons. -/
namespace Go.Proofs.YtehhoplenloocaaGreat
set_option linter.unusedVariables false
set_option linter.unusedSimpArgs false

theorem times_getD (ls : List (List Int)) (t : Int) {i : Nat} (hi : i < ls.length) : (timesL ls t).getD i [] = (ls.getD i []).map (· * t) := by
  unfold timesL
  rw [List.getD_eq_getElem?_getD, List.getElem?_map, List.getElem?_eq_getElem hi, List.getD_eq_getElem?_getD, List.getElem?_eq_getElem hi]; rfl
theorem mul_getD (r : List Int) (t : Int) (j : Nat) : (r.map (· * t)).getD j 0 = r.getD j 0 * t := by
  rw [List.getD_eq_getElem?_getD, List.getElem?_map, List.getD_eq_getElem?_getD]
  cases r[j]? with
  | none => simp
  | some x => rfl
theorem arK_times {ls : List (List Int)} (h3 : 3 ≤ ls.length) (t : Int) : ∀ k, k ≤ ls.length → arK (timesL ls t) k = t * t * arK ls k
  | 0, _ => by unfold arK; simp
  | k + 1, hk => by
    have ih := arK_times h3 t k (by omega)
    have hl : (timesL ls t).length = ls.length := by simp [timesL]
    have hy : (k + 1) % ls.length < ls.length := Nat.mod_lt _ (by omega)
    have e : arT (timesL ls t) k = t * t * arT ls k := by
      unfold arT crossI
      rw [hl, times_getD ls t (show k < ls.length by omega), times_getD ls t hy, mul_getD, mul_getD, mul_getD, mul_getD]
      grind
    rw [arK, arK, ih, e]; grind
theorem sd_times {ls : List (List Int)} (hf : flatB ls 50 = true) (h3 : 3 ≤ ls.length) {t : Int} (ht : 1 ≤ t) {k : Nat} (hk : k < ls.length) : sdI (timesL ls t) k = t * sdI ls k := by
  have hl : (timesL ls t).length = ls.length := by simp [timesL]
  have hy : (k + 1) % ls.length < ls.length := Nat.mod_lt _ (by omega)
  obtain ⟨l1, -⟩ := flat_at hf hk
  obtain ⟨l2, -⟩ := flat_at hf hy
  unfold sdI
  rw [hl, times_getD ls t hk, times_getD ls t hy, sd_gP (by simpa using l1) (by simpa using l2), sd_gP l1 l2]
  unfold gP ptOf
  dsimp only
  rw [mul_getD, mul_getD, mul_getD, mul_getD, ← Int.sub_mul, ← Int.sub_mul, Int.gcd_mul_right, Int.natCast_mul]
  have : ((t.natAbs : Nat) : Int) = t := by omega
  rw [this, Int.mul_comm]
theorem bdK_times {ls : List (List Int)} (hf : flatB ls 50 = true) (h3 : 3 ≤ ls.length) {t : Int} (ht : 1 ≤ t) : ∀ k, k ≤ ls.length → bdK (timesL ls t) k = t * bdK ls k
  | 0, _ => by unfold bdK; simp
  | k + 1, hk => by
    rw [bdK, bdK, bdK_times hf h3 ht k (by omega), sd_times hf h3 ht (by omega)]; grind
theorem two_tdiv (k : Int) : (2 * k).tdiv 2 = k := by rw [Int.mul_comm]; exact Int.mul_tdiv_cancel k (by omega)
section
variable {ls : List (List Int)} (hp : isPolyB ls = true)
include hp
theorem arV_of : arV ls = arL ls := by unfold arV; rw [if_pos hp]
theorem bdV_of : bdV ls = bdL ls := by unfold bdV; rw [if_pos hp]
theorem inV_of : inV ls = (arL ls - bdL ls + 2).tdiv 2 := by unfold inV; rw [if_pos hp]
/-- what the dilated polygon is -/
theorem dil_law {t : Int} (ht : 1 ≤ t) (hq : isPolyB (timesL ls t) = true) : arL (timesL ls t) = t * t * arL ls ∧ ehI ls t = (polL (timesL ls t)).length ∧ ehI ls (-t) = inV (timesL ls t) := by
  obtain ⟨h3, h12, hf⟩ := isPoly_parts hp
  have hl : (timesL ls t).length = ls.length := by simp [timesL]
  have ha : arL (timesL ls t) = t * t * arL ls := by unfold arL; rw [hl]; exact arK_times h3 t _ (Nat.le_refl _)
  have hb : bdL (timesL ls t) = t * bdL ls := by unfold bdL; rw [hl]; exact bdK_times hf h3 ht _ (Nat.le_refl _)
  have hc := pol_count hq
  refine ⟨ha, ?_, ?_⟩
  · unfold ehI
    rw [arV_of hp, bdV_of hp, show 2 + bdL ls * t + arL ls * t * t = 2 * ((polL (timesL ls t)).length : Int) by rw [hc, ha, hb]; grind, two_tdiv]
  · unfold ehI
    rw [arV_of hp, bdV_of hp, inV_of hq, ha, hb]
    congr 1
    grind
theorem top_sum : 1 + (ehI ls 1 - 3) + inV ls = arV ls := by
  obtain ⟨k, hk⟩ := poly_even hp
  unfold ehI
  rw [arV_of hp, bdV_of hp, inV_of hp, show 2 + bdL ls * 1 + arL ls * 1 * 1 = 2 * (k : Int) by rw [hk]; grind, show arL ls - bdL ls + 2 = 2 * (arL ls + 2 - (k : Int)) by omega, two_tdiv, two_tdiv]
  omega
end
theorem al_law {ls : List (List Int)} {n : Int} (h : 0 < alV ls n) : isPolyB ls = true ∧ n ≤ ehI ls (alV ls n) ∧ ehI ls (alV ls n - 1) < n := by
  unfold alV at h ⊢
  by_cases hc : (isPolyB ls && inB n 0 1000000) = true
  · rw [if_pos hc] at h ⊢
    rw [Bool.and_eq_true] at hc
    refine ⟨hc.1, ?_⟩
    unfold alT at h ⊢
    cases hf : (List.range 1500).find? fun t => decide (n ≤ ehI ls (t : Nat)) with
    | none => rw [hf] at h; simp at h
    | some t =>
      rw [hf] at h
      have h : 0 < ((t : Nat) : Int) := h
      obtain ⟨g1, g2, g3⟩ := List.find?_range_eq_some.1 hf
      have g4 := g3 (t - 1) (by omega)
      have e : ((t - 1 : Nat) : Int) = (t : Int) - 1 := by omega
      rw [e] at g4
      simp at g1 g4
      exact ⟨g1, g4⟩
  · rw [if_neg hc] at h; omega
end Go.Proofs.YtehhoplenloocaaGreat
