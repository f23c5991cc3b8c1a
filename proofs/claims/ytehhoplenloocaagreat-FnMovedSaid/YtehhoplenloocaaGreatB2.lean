/- B2: texts in one: Cone ConeL TSS ConeT ConeN OpenC MkC Vec Vec2 OwnL. -/
import Derived.Test.YtehhoplenloocaaGreatB1
import Derived.Deep.RegionHeld3
import Derived.Deep.AppendLies
import Derived.Deep.Upon
/- Cones: the walks of IsCone. -/
namespace Go.Proofs.YtehhoplenloocaaGreat
open Go.RowKit
set_option linter.unusedVariables false
set_option linter.unusedSimpArgs false

def coneB (U V : List Int) : Bool := ptB U 30 && ptB V 30 && decide (gcdL U = 1) && decide (gcdL V = 1) && decide (0 < crossI U V)
theorem coneB_of {U V : List Int} (h : coneB U V = true) : ptB U 30 = true ∧ ptB V 30 = true ∧ gcdL U = 1 ∧ gcdL V = 1 ∧ 0 < crossI U V := by
  simpa [coneB, and_assoc] using h
theorem allIn_mono {l : List Int} {a b c d : Int} (h : allIn l a b = true) (h1 : c ≤ a) (h2 : b ≤ d) : allIn l c d = true := by
  unfold allIn at *
  rw [List.all_eq_true] at *
  intro x hx
  have := inB_iff.1 (h x hx)
  exact inB_iff.2 ⟨by omega, by omega⟩
theorem pt_gcd_bd {l : List Int} {m : Int} (h : ptB l m = true) : ∀ k, k < l.length → -m ≤ l.getD k 0 ∧ l.getD k 0 ≤ m := allIn_at (ptB_len h).2


theorem coneB_ray (U V : List Int) : coneB U V = (rayB U && rayB V && decide (0 < crossI U V)) := by
  unfold coneB rayB
  cases ptB U 30 <;> cases ptB V 30 <;> cases decide (gcdL U = 1) <;> simp

end Go.Proofs.YtehhoplenloocaaGreat

/- Cones as the laws copy and compare them. -/
namespace Go.Proofs.YtehhoplenloocaaGreat
open Go.RowKit
set_option linter.unusedVariables false
set_option linter.unusedSimpArgs false

/-- a box of two cells that may be written -/
structure Box2 (w : World) (n : Nat) (x y : Value) : Prop where
  lt : n < w.heap.size
  c0 : w.cell? ⟨n, 0, none⟩ = some x
  c1 : w.cell? ⟨n, 1, none⟩ = some y
  f0 : w.frozen? ⟨n, 0, none⟩ = false
  f1 : w.frozen? ⟨n, 1, none⟩ = false
theorem box2_new (w : World) (x y : Value) (t : TypeId) : Box2 (w.alloc (.cells #[x, y] t)) w.heap.size x y :=
  ⟨by simp, by rw [World.cell?_alloc_at _ _ _ _ rfl]; rfl, by rw [World.cell?_alloc_at _ _ _ _ rfl]; rfl, World.frozen?_alloc_at _ _ _ _ rfl, World.frozen?_alloc_at _ _ _ _ rfl⟩
theorem Box2.keep {w w1 : World} {n : Nat} {x y : Value} (h : Box2 w n x y) (hb : Below w.heap.size w w1) : Box2 w1 n x y :=
  ⟨Nat.lt_of_lt_of_le h.lt hb.size, (hb.cell h.lt).trans h.c0, (hb.cell h.lt).trans h.c1, (hb.frozen h.lt).trans h.f0, (hb.frozen h.lt).trans h.f1⟩
theorem Box2.other {w : World} {n : Nat} {x y : Value} (h : Box2 w n x y) {a : Addr} (ha : a.block ≠ n) (u : Value) : Box2 (w.setCell a u) n x y :=
  ⟨by simpa using h.lt, by rw [World.cell?_setCell_other]; exact h.c0; (intro e; apply ha; rw [e]), by rw [World.cell?_setCell_other]; exact h.c1; (intro e; apply ha; rw [e]), by rw [World.frozen?_setCell]; exact h.f0, by rw [World.frozen?_setCell]; exact h.f1⟩
theorem Box2.set0 {w : World} {n : Nat} {x y : Value} (h : Box2 w n x y) (u : Value) : Box2 (w.setCell ⟨n, 0, none⟩ u) n u y :=
  ⟨by simpa using h.lt, World.cell?_setCell_same w _ _ h.c0, by rw [World.cell?_setCell_other]; exact h.c1; (intro e; injection e with _ e _; cases e), by rw [World.frozen?_setCell]; exact h.f0, by rw [World.frozen?_setCell]; exact h.f1⟩
theorem Box2.set1 {w : World} {n : Nat} {x y : Value} (h : Box2 w n x y) (u : Value) : Box2 (w.setCell ⟨n, 1, none⟩ u) n x u :=
  ⟨by simpa using h.lt, by rw [World.cell?_setCell_other]; exact h.c0; (intro e; injection e with _ e _; cases e), World.cell?_setCell_same w _ _ h.c1, by rw [World.frozen?_setCell]; exact h.f0, by rw [World.frozen?_setCell]; exact h.f1⟩
theorem IS.setOther {w : World} {lo hi : Nat} {v : Value} {l : List Int} (h : IS w lo hi v l) {a : Addr} (ha : a.block < lo ∨ hi ≤ a.block) (u : Value) : IS (w.setCell a u) lo hi v l :=
  h.of_blocks fun b h1 h2 h3 => Below.heap_setCell w a u b (by omega)


/-- what is left of the bound on sizes -/
def szTot (n : Nat) : Int := if n ≤ 1048576 then 1048576 - n else -1

end Go.Proofs.YtehhoplenloocaaGreat

/- Slices of slices as the laws copy and measure them. -/
namespace Go.Proofs.YtehhoplenloocaaGreat
open Go.RowKit
set_option linter.unusedVariables false
set_option linter.unusedSimpArgs false

theorem info_ints : (Tryz.prog.info? 25).map (fun i => (i.zero, i.size, i.bytes)) = some (some (.slice none 0 0), 1, 24) := by kernel_rfl
theorem rowIs_block {w w' : World} {b n : Nat} {t : TypeId} {f : Nat → Value} (h : w.rowIs b t n f) (e : w'.heap[b]? = w.heap[b]?) : w'.rowIs b t n f := by
  obtain ⟨c, h1, h2⟩ := h
  exact ⟨c, e.trans h1, h2⟩
theorem rowIs_put {w : World} {b n k : Nat} {t : TypeId} {V : Nat → Value} {z : Value} (h : w.rowIs b t n (fun j => if j < k then V j else z)) (u : Value) :
    (w.setCell ⟨b, k, none⟩ u).rowIs b t n (fun j => if j < k + 1 then (fun j => if j = k then u else V j) j else z) := by
  refine (h.set k u).congr fun j _ => ?_
  by_cases e : j = k
  · subst e; simp
  · by_cases e2 : j < k
    · simp [e, e2, show j < k + 1 by omega]
    · simp [e, e2, show ¬ j < k + 1 by omega]
theorem ISS.of_rows {w : World} {b n lo hi : Nat} {V : Nat → Value} {z : Value} {ls : List (List Int)} (h : w.rowIs b 25 n (fun j => if j < n then V j else z)) (hn : n = ls.length) (hm : n ≤ maxLen)
    (hr : ∀ j, j < n → IS w (b + 1 + j) (b + 1 + j + 1) (V j) (ls.getD j [])) (hlo : lo ≤ b) (hhi : b + 1 + n ≤ hi) : ISS w lo hi (.slice (some ⟨b, 0, none⟩) n n) ls := by
  subst hn
  refine ⟨_, _, rfl, Nat.le_refl _, hm, fun _ => ⟨b, 0, V, rfl, hlo, by omega, (BK.of_rowIs h).congr (fun i hi => by simp [hi]), fun i hi => (hr i hi).mono (by omega) (by omega), fun i j hij hj => ?_⟩⟩
  rcases (hr j hj).blk with h0 | ⟨bj, e1, l1, u1, -⟩
  · exact .inl h0
  · right
    rcases (hr i (by omega)).blk with h0 | ⟨bi, e2, l2, u2, -⟩
    · rw [e1, h0]; simp
    · rw [e1, e2]; intro e; injection e with e; omega

/-- the rows and their cells, up to row k -/
def totK (ls : List (List Int)) : Nat → Nat
  | 0 => ls.length
  | i + 1 => totK ls i + (ls.getD i []).length
theorem totK_mono (ls : List (List Int)) (i : Nat) : ∀ j, i ≤ j → totK ls i ≤ totK ls j
  | 0, h => by have : i = 0 := by omega
               subst this; exact Nat.le_refl _
  | j + 1, h => by
    by_cases e : i = j + 1
    · subst e; exact Nat.le_refl _
    · have := totK_mono ls i j (by omega)
      rw [show totK ls (j + 1) = totK ls j + (ls.getD j []).length from rfl]; omega
def totS (ls : List (List Int)) : Nat := totK ls ls.length
theorem totS_len {ls : List (List Int)} {B : Nat} (h : totS ls ≤ B) : ls.length ≤ B ∧ ∀ i, i < ls.length → (ls.getD i []).length ≤ B := by
  unfold totS at h
  refine ⟨Nat.le_trans (totK_mono ls 0 _ (Nat.zero_le _)) h, fun i hi => ?_⟩
  have h1 := totK_mono ls (i + 1) _ hi
  rw [show totK ls (i + 1) = totK ls i + (ls.getD i []).length from rfl] at h1
  omega

end Go.Proofs.YtehhoplenloocaaGreat

/- Cones as the laws copy them. -/
namespace Go.Proofs.YtehhoplenloocaaGreat
open Go.RowKit
set_option linter.unusedVariables false
set_option linter.unusedSimpArgs false

end Go.Proofs.YtehhoplenloocaaGreat

/- Cones: the walks of IsVector and InCone. -/
namespace Go.Proofs.YtehhoplenloocaaGreat
open Go.RowKit
set_option linter.unusedVariables false
set_option linter.unusedSimpArgs false

def vecB (l : List Int) : Bool := inB l.length 1 3 && allIn l (-1000) 1000
def inC (U V X : List Int) : Bool := coneB U V && vecB X && decide (X.length = 2) && decide (0 ≤ crossI U X) && decide (0 ≤ crossI X V)

set_option maxHeartbeats 1000000 in
theorem implIsVector_any (l : List Int) (v : Value) (hb : Nat) (w : World) (h : ISr w hb v l) :
    Calls Tryz.prog 122 #[v] w fun e w' => e = .returned (.bool (vecB l)) ∧ ∃ d, w' = w.drewN d := by
  have H1 := allWithin_any l v (-1000) 1000 hb w h
  obtain ⟨a, cap, rfl, -, -, -⟩ := h
  have hw := within_any l.length 1 3
  cases h1 : inB l.length 1 3
  · have hv : vecB l = false := by simp [vecB, h1]
    rw [hv]
    simp only [h1] at hw
    clear hv h1 H1
    generalize l.length = n at *
    go_enter Tryz.func122, Tryz.ntmps122
    go_wp2_with (go_at_call 58; (with_reducible refine (hw _).mono ?_); rintro e w' ⟨rfl, rfl⟩)
    go_ret
    exact ⟨rfl, 0, rfl⟩
  · have hv : vecB l = allIn l (-1000) 1000 := by simp [vecB, h1]
    rw [hv]
    simp only [h1] at hw
    clear hv h1
    generalize allIn l (-1000) 1000 = r at *
    generalize l.length = n at *
    go_enter Tryz.func122, Tryz.ntmps122
    go_wp2_with (first | (go_at_call 58; (with_reducible refine (hw _).mono ?_); rintro e w' ⟨rfl, rfl⟩) | (go_at_call 93; (with_reducible refine H1.mono ?_); rintro e w' ⟨rfl, rfl⟩))
    go_ret
    exact ⟨rfl, 0, rfl⟩

set_option maxHeartbeats 1000000 in
theorem specIsVector_any (l : List Int) (v : Value) (hb : Nat) (w : World) (h : ISr w hb v l) :
    Calls Tryz.prog 50 #[v] w fun e w' => e = .returned (.bool (vecB l)) ∧ ∃ d, w' = w.drewN d := by
  have H1 := l2Small_any l v 1000 hb w h (by omega) (by omega)
  obtain ⟨a, cap, rfl, -, -, -⟩ := h
  have hw := l1In_any l.length 1 3
  cases h1 : inB l.length 1 3
  · have hv : vecB l = false := by simp [vecB, h1]
    rw [hv]
    simp only [h1] at hw
    clear hv h1 H1
    generalize l.length = n at *
    go_enter Tryz.func50, Tryz.ntmps50
    go_wp2_with (go_at_call 64; (with_reducible refine (hw _).mono ?_); rintro e w' ⟨rfl, rfl⟩)
    go_ret
    exact ⟨rfl, 0, rfl⟩
  · have hv : vecB l = allIn l (-1000) 1000 := by simp [vecB, h1]
    rw [hv]
    simp only [h1] at hw
    clear hv h1
    generalize allIn l (-1000) 1000 = r at *
    generalize l.length = n at *
    go_enter Tryz.func50, Tryz.ntmps50
    go_wp2_with (first | (go_at_call 64; (with_reducible refine (hw _).mono ?_); rintro e w' ⟨rfl, rfl⟩) | (go_at_call 96; (with_reducible refine H1.mono ?_); rintro e w' ⟨rfl, d, rfl⟩))
    go_ret
    exact ⟨rfl, _, rfl⟩



end Go.Proofs.YtehhoplenloocaaGreat

/- What comes in: cones, read off the statement's own form. -/
namespace Go.Proofs.YtehhoplenloocaaGreat
open Go.ChangeShapes Go.WideShapes Go.ChangeAt Go.RowKit Go.Joins
set_option linter.unusedVariables false
set_option linter.unusedSimpArgs false

/-- a cone that may be read -/
def ConeR (w : World) (hi : Nat) (v : Value) (x : List Int × List Int) : Prop := ∃ v1 v2, v = .agg #[v1, v2] ∧ ISr w hi v1 x.1 ∧ ISr w hi v2 x.2

set_option maxRecDepth 100000 in
theorem openIntsCell {H : Type} {enc : TypeId × Value → H} {W : World} {v : Value} {n : Nat} {y : DataW H × List MemPlace}
    (hf : DataW.trod enc Tryz.prog W 0 (fun _ => true) true n 25 [v] = some y) : ∃ l, ISr W W.heap.size v l := by
  obtain ⟨d, p⟩ := y
  rcases open_ints Tryz.underlying25 Tryz.underlying3 (by kernel_rfl) hf with ⟨hcs, _⟩ | ⟨x, l, c, zs, hcs, _, hl, hm, hz, _, hcell, hwz⟩
  · simp at hcs
    subst hcs
    exact ⟨[], none, 0, rfl, Nat.le_refl _, Nat.zero_le _, fun h => absurd rfl h⟩
  · simp at hcs
    subst hcs
    have hzl : zs.length = c := by simpa using hz
    have hlen : (zs.take l).length = l := by rw [List.length_take, hzl]; omega
    refine ⟨zs.take l, some x, c, by rw [hlen], by rw [hlen]; exact hl, hm, fun hne => ?_⟩
    obtain ⟨b, off, spot⟩ := x
    have hpos : 0 < l := by
      rcases Nat.eq_zero_or_pos l with h0 | h0
      · subst h0; simp at hne
      · exact h0
    have hc0 := hcell 0 (by omega)
    have hspot : spot = none := by simpa [Addr.add] using World.cell?_spot hc0
    subst hspot
    refine ⟨b, off, rfl, by simpa [Addr.add] using World.block_lt_of_cell? _ _ hc0, fun i hi => ?_⟩
    rw [hlen] at hi
    have hci := hcell i (by omega)
    have e : (zs.take l).getD i 0 = zs.getD i 0 := by
      rw [List.getD_eq_getElem?_getD, List.getD_eq_getElem?_getD, List.getElem?_take_of_lt hi]
    rw [e]
    have ha : (⟨b, off, none⟩ : Addr).add i = ⟨b, off + i, none⟩ := by
      simp only [Addr.add]; split <;> simp_all
    rw [ha] at hci; exact hci

end Go.Proofs.YtehhoplenloocaaGreat

/- Marking cones. -/
namespace Go.Proofs.YtehhoplenloocaaGreat
open Go.RowKit
set_option linter.unusedVariables false
set_option linter.unusedSimpArgs false

/-- two slices of the call's own, in blocks of their own -/
def ConeO (w : World) (lo hi : Nat) (u1 u2 : Value) (U V : List Int) : Prop := IS w lo hi u1 U ∧ IS w lo hi u2 V ∧ (blkOf u2 = none ∨ blkOf u2 ≠ blkOf u1)
theorem ConeO.fstR {w : World} {lo hi : Nat} {u1 u2 : Value} {U V : List Int} (h : ConeO w lo hi u1 u2 U V) : ISr w hi u1 U := h.1.read
theorem ConeO.sndR {w : World} {lo hi : Nat} {u1 u2 : Value} {U V : List Int} (h : ConeO w lo hi u1 u2 U V) : ISr w hi u2 V := h.2.1.read
theorem ConeO.nil (w : World) (lo hi : Nat) : ConeO w lo hi (.slice none 0 0) (.slice none 0 0) [] [] := ⟨IS.nil _ _ _, IS.nil _ _ _, .inl rfl⟩
theorem ConeO.keep {w w' : World} {lo hi B : Nat} {u1 u2 : Value} {U V : List Int} (h : ConeO w lo hi u1 u2 U V) (hb : Below B w w') (hB : hi ≤ B) : ConeO w' lo hi u1 u2 U V := ⟨h.1.keep hb hB, h.2.1.keep hb hB, h.2.2⟩
theorem ConeO.only {w w' : World} {lo hi lo2 hi2 : Nat} {u1 u2 : Value} {U V : List Int} (h : ConeO w lo2 hi2 u1 u2 U V) (ho : Only lo hi w w') (hd : hi2 ≤ lo ∨ hi ≤ lo2) : ConeO w' lo2 hi2 u1 u2 U V := ⟨h.1.only ho hd, h.2.1.only ho hd, h.2.2⟩

theorem IS.disj {w : World} {a b c d : Nat} {u1 u2 : Value} {U V : List Int} (h1 : IS w a b u1 U) (h2 : IS w c d u2 V) (h : b ≤ c ∨ d ≤ a) : blkOf u2 = none ∨ blkOf u2 ≠ blkOf u1 := by
  rcases h2.blkIn with h0 | ⟨x, e, l1, l2, -⟩
  · exact .inl h0
  · right
    rcases h1.blkIn with h0 | ⟨y, e', m1, m2, -⟩
    · rw [e, h0]; simp
    · rw [e, e']; intro g; injection g with g; omega
theorem ConeO.of {w : World} {a b c d lo hi : Nat} {u1 u2 : Value} {U V : List Int} (h1 : IS w a b u1 U) (h2 : IS w c d u2 V) (h : b ≤ c ∨ d ≤ a) (ha : lo ≤ a) (hb : b ≤ hi) (hc : lo ≤ c) (hd : d ≤ hi) : ConeO w lo hi u1 u2 U V :=
  ⟨h1.mono ha hb, h2.mono hc hd, IS.disj h1 h2 h⟩
theorem Box2.only {w w' : World} {n lo hi : Nat} {x y : Value} (h : Box2 w n x y) (ho : Only lo hi w w') (hn : n < lo ∨ hi ≤ n) : Box2 w' n x y := by
  have e := ho.block n h.lt hn
  exact ⟨Nat.lt_of_lt_of_le h.lt ho.size, (World.cell?_of_block (w := w) e).trans h.c0, (World.cell?_of_block (w := w) e).trans h.c1, (World.frozen?_of_block (w := w) e).trans h.f0, (World.frozen?_of_block (w := w) e).trans h.f1⟩
theorem Only.base {B lo hi : Nat} {w w1 w2 : World} (h : Below B w w1) (ho : Only lo hi w1 w2) (hB : B ≤ lo) (hlo : lo ≤ w1.heap.size) : Below B w w2 := h.trans ((ho.below hlo).mono hB)

end Go.Proofs.YtehhoplenloocaaGreat

/- Vectors: sums, differences, multiples, copies: the walks. -/
namespace Go.Proofs.YtehhoplenloocaaGreat
open Go.RowKit
set_option linter.unusedVariables false
set_option linter.unusedSimpArgs false

theorem mul_bd6 {a b : Int} (ha : -1000000 ≤ a) (ha' : a ≤ 1000000) (hb : -1000000 ≤ b) (hb' : b ≤ 1000000) : -1000000000000 ≤ a * b ∧ a * b ≤ 1000000000000 := by
  rcases Int.le_total 0 b with h | h
  · have := mul_bd2 (a := a) (b := b) (M := 1000000) (N := 1000000) ha ha' h hb' (by omega); omega
  · have := mul_bd2 (a := a) (b := -b) (M := 1000000) (N := 1000000) ha ha' (by omega) (by omega) (by omega)
    rw [Int.mul_neg] at this; omega

/-- the cells of a list of whole numbers -/
def ivs (l : List Int) : List Value := l.map (Value.int .i64)
/-- v is a slice of the call's own, from block B on, that reads as l and may grow -/
def OwnI (w : World) (B : Nat) (v : Value) (l : List Int) : Prop := w.ownsRow B 3 1 v l.length (ivs l)
theorem OwnI.alloc {w : World} {B : Nat} {v : Value} {l : List Int} (h : OwnI w B v l) (o : Obj) : (w.alloc o).ownsRow B 3 1 v l.length (ivs l) := World.ownsRow.alloc h o
theorem OwnI.push {w : World} {B : Nat} {v : Value} {l : List Int} {x : Int} (h : w.ownsRow B 3 1 v (l.length + 1) (ivs l ++ [.int .i64 x])) : OwnI w B v (l ++ [x]) := by
  unfold OwnI; rw [List.length_append]; unfold ivs at h ⊢; rw [List.map_append]; exact h
theorem OwnI.is {w : World} {B : Nat} {v : Value} {l : List Int} (h : OwnI w B v l) : IS w B w.heap.size v l := IS.of_owned h
theorem OwnI.lit0 (w : World) (B : Nat) (h : B ≤ w.heap.size) : OwnI (w.alloc (.cells #[] 3)) B (.slice (some ⟨w.heap.size, 0, none⟩) 0 0) [] := World.ownsRow_lit w #[] 0 h (by simp [maxLen]) rfl
theorem OwnI.nil (w : World) (B : Nat) : OwnI w B (.slice none 0 0) [] := ⟨rfl, .inl ⟨rfl, rfl⟩⟩
theorem OwnI.draws {w : World} {B : Nat} {v : Value} {l : List Int} (h : OwnI w B v l) (d : Nat) : OwnI (w.drewN d) B v l := h
/-- behind an append of one number -/
theorem OwnI.below {w w1 w2 : World} {B B0 : Nat} {v : Value} {l : List Int} (hbe : Below B w w1) (hB : B ≤ w1.heap.size) (o : Obj) (hg : (w1.alloc o).grownBy w2 v.ownBlock) (hown : OwnI w1 B0 v l) (hB0 : B ≤ B0) : Below B w w2 :=
  (hbe.alloc hB o).grown hg (by simp; omega) fun k hk => Nat.le_trans hB0 (World.ownsRow.lt hown k hk).1
theorem grown_undrew {w w' : World} {row : Option Nat} (h : w.drew.grownBy w' row) : w.grownBy w' row := ⟨h.os, h.tape, h.output, h.size, h.block⟩
theorem map_step (f : Int → Int) (l : List Int) (k : Nat) (h : k < l.length) : (l.take k).map f ++ [f (l.getD k 0)] = (l.take (k + 1)).map f := by
  rw [List.take_succ_eq_append_getElem h, List.map_append, List.getD_eq_getElem?_getD, List.getElem?_eq_getElem h]; rfl
theorem zip_step (f : Int → Int → Int) (a b : List Int) (k : Nat) (h : k < a.length) (h' : k < b.length) : List.zipWith f (a.take k) (b.take k) ++ [f (a.getD k 0) (b.getD k 0)] = List.zipWith f (a.take (k + 1)) (b.take (k + 1)) := by
  rw [List.take_succ_eq_append_getElem h, List.take_succ_eq_append_getElem h', List.zipWith_append (by simp; omega), List.getD_eq_getElem?_getD, List.getD_eq_getElem?_getD, List.getElem?_eq_getElem h, List.getElem?_eq_getElem h']; rfl

theorem zip_full (f : Int → Int → Int) : ∀ (a b : List Int), List.zipWith f a (b.take a.length) = List.zipWith f a b
  | [], b => by simp
  | x :: a, [] => by simp
  | x :: a, y :: b => by simp [zip_full f a b]

set_option maxHeartbeats 1000000 in
theorem l2Scale_any (l : List Int) (v : Value) (m : Int) (hb : Nat) (w : World) (h : ISr w hb v l) (hhb : hb ≤ w.heap.size) (hl : l.length ≤ 1000000) (hp : ∀ k, k < l.length → -9223372036854775808 ≤ l.getD k 0 * m ∧ l.getD k 0 * m ≤ 9223372036854775807) :
    Calls Tryz.prog 36 #[v, .int .i64 m] w fun e w' => ∃ v', e = .returned v' ∧ IS w' w.heap.size w'.heap.size v' (l.map (· * m)) ∧ Below w.heap.size w w' := by
  obtain ⟨i0, hi0, hz0, hz1, hz2⟩ := info_parts info_int
  have HI0 := Lib.hid hi0; clear hi0
  have HZ0 := Lib.hid hz0; clear hz0
  have HZ1 := Lib.hid hz1; clear hz1
  have HZ2 := Lib.hid hz2; clear hz2
  obtain ⟨n, hn⟩ : ∃ n, n = l.length := ⟨_, rfl⟩
  obtain ⟨a, cap, rfl, -, -, hcell⟩ := id h
  rw [← hn] at hl ⊢
  have HN := Lib.hid hn; clear hn
  have HC := Lib.hid hcell; clear hcell h
  have HP := Lib.hid hp; clear hp
  go_enter Tryz.func36, Tryz.ntmps36
  go_wp2
  go_loopw [5, 6] (fun ov i wr => ∃ (k : Nat) (acc : List Int), k ≤ n ∧ i = .int .i64 k ∧ acc.length ≤ k ∧ Hid (acc = (l.take k).map (· * m)) ∧ Hid (OwnI wr w.heap.size ov acc) ∧ Hid (Below w.heap.size w wr)) (fun _ i _ => n - (intOf i).toNat)
  case atStart => exact ⟨0, [], by omega, rfl, Nat.le_refl _, Lib.hid (by simp), OwnI.lit0 w _ (Nat.le_refl _), below1 _ _⟩
  case round =>
    obtain ⟨k, acc, hk, rfl, hal, hacc, hown, hbe⟩ := hrel
    by_cases hlt : k < n
    · have hkl : k < l.length := by rw [← HN.out]; exact hlt
      obtain ⟨b, off, rfl, hbb, hcc⟩ := HC.out (by intro e; rw [e] at hkl; exact absurd hkl (Nat.not_lt_zero _))
      have hck := (hbe.out.cell (p := ⟨b, off + k, none⟩) (Nat.lt_of_lt_of_le hbb hhb)).trans (hcc k hkl)
      have hpk := HP.out k hkl
      have HE := Lib.hid (map_step (· * m) l k hkl)
      rw [← hacc.out] at HE
      clear hcc hkl
      generalize l.getD k 0 = x at *
      have hbs := hbe.out.size
      go_wp2_with (at_builtin; refine wpList_append_own _ rfl _ _ 25 rfl w.heap.size 3 i0 (.int .i64 0) 1 8 Tryz.underlying25 HI0.out HZ0.out HZ1.out HZ2.out rfl (by decide) _ _ _ rfl (hown.out.alloc _) ⟨wr.heap.size, 0, none⟩ 1 1 [.int .i64 (x * m)] rfl rfl ?c1 ?c2 ?c3 ?c4 ?c5 ?_)
      case c1 => exact cell_one_new _ _ _
      case c2 => first | rfl | (intro u hu; simp at hu; subst hu; rfl)
      case c3 => unfold maxLen; omega
      case c4 => omega
      case c5 => first | omega | (simp; omega)
      intro v2 w2 hown2 hgrow _
      have HO := Lib.hid (OwnI.push hown2); clear hown2
      have HBE := Lib.hid (OwnI.below hbe.out hbs _ hgrow hown.out (Nat.le_refl _))
      clear hgrow
      go_wp2
      go_roundw
      case rel => exact ⟨k + 1, _, by omega, by go_num, by simp; omega, HE, HO, HBE⟩
      case measure => simp [intOf]; omega
    · obtain rfl : k = n := by omega
      have hfin : acc = l.map (· * m) := by rw [hacc.out, HN.out, List.take_length]
      subst hfin
      go_wp2
      go_ret
      exact ⟨_, rfl, hown.out.is, hbe.out⟩
set_option maxHeartbeats 1000000 in
theorem l2Less_any (l l' : List Int) (v v' : Value) (hb : Nat) (w : World) (h : ISr w hb v l) (h' : ISr w hb v' l') (hhb : hb ≤ w.heap.size) (hl : l.length ≤ 1000000) (hll : l.length ≤ l'.length) (hp : ∀ k, k < l.length → -9223372036854775808 ≤ l.getD k 0 - l'.getD k 0 ∧ l.getD k 0 - l'.getD k 0 ≤ 9223372036854775807) :
    Calls Tryz.prog 85 #[v, v'] w fun e w' => ∃ u, e = .returned u ∧ IS w' w.heap.size w'.heap.size u (List.zipWith (· - ·) l l') ∧ Below w.heap.size w w' := by
  obtain ⟨i0, hi0, hz0, hz1, hz2⟩ := info_parts info_int
  have HI0 := Lib.hid hi0; clear hi0
  have HZ0 := Lib.hid hz0; clear hz0
  have HZ1 := Lib.hid hz1; clear hz1
  have HZ2 := Lib.hid hz2; clear hz2
  obtain ⟨n, hn⟩ : ∃ n, n = l.length := ⟨_, rfl⟩
  obtain ⟨n', hn'⟩ : ∃ n, n = l'.length := ⟨_, rfl⟩
  obtain ⟨a, cap, rfl, -, -, hcell⟩ := id h
  obtain ⟨a', cap', rfl, -, hm', hcell'⟩ := id h'
  rw [← hn] at hl hll ⊢
  rw [← hn'] at hll ⊢
  have HN := Lib.hid hn; clear hn
  have HN' := Lib.hid hn'; clear hn'
  have HC := Lib.hid hcell; clear hcell h
  have HC' := Lib.hid hcell'; clear hcell' h' hm'
  have HP := Lib.hid hp; clear hp
  go_enter Tryz.func85, Tryz.ntmps85
  go_wp2
  go_loopw [5, 6] (fun ov i wr => ∃ (k : Nat) (acc : List Int), k ≤ n ∧ i = .int .i64 k ∧ acc.length ≤ k ∧ Hid (acc = List.zipWith (· - ·) (l.take k) (l'.take k)) ∧ Hid (OwnI wr w.heap.size ov acc) ∧ Hid (Below w.heap.size w wr)) (fun _ i _ => n - (intOf i).toNat)
  case atStart => exact ⟨0, [], by omega, rfl, Nat.le_refl _, Lib.hid (by simp), OwnI.lit0 w _ (Nat.le_refl _), below1 _ _⟩
  case round =>
    obtain ⟨k, acc, hk, rfl, hal, hacc, hown, hbe⟩ := hrel
    by_cases hlt : k < n
    · have hkl : k < l.length := by rw [← HN.out]; exact hlt
      have hkl' : k < l'.length := by rw [← HN'.out]; omega
      obtain ⟨b, off, rfl, hbb, hcc⟩ := HC.out (by intro e; rw [e] at hkl; exact absurd hkl (Nat.not_lt_zero _))
      obtain ⟨b', off', rfl, hbb', hcc'⟩ := HC'.out (by intro e; rw [e] at hkl'; exact absurd hkl' (Nat.not_lt_zero _))
      have hck := (hbe.out.cell (p := ⟨b, off + k, none⟩) (Nat.lt_of_lt_of_le hbb hhb)).trans (hcc k hkl)
      have hck' := (hbe.out.cell (p := ⟨b', off' + k, none⟩) (Nat.lt_of_lt_of_le hbb' hhb)).trans (hcc' k hkl')
      have hpk := HP.out k hkl
      have HE := Lib.hid (zip_step (· - ·) l l' k hkl hkl')
      rw [← hacc.out] at HE
      clear hcc hcc' hkl hkl'
      generalize l.getD k 0 = x at *
      generalize l'.getD k 0 = y at *
      have hbs := hbe.out.size
      have hi1 : (0 : Int) ≤ (k : Int) := by omega
      have hi2 : (k : Int) < (n : Int) := by omega
      have hi3 : (k : Int) < (n' : Int) := by omega
      go_wp2_with fail
      have lg := World.block_lt_of_cell? wr _ hck
      have lg' := World.block_lt_of_cell? wr _ hck'
      have ag : u5.ownBlock ≠ some b := fun e => by have := (World.ownsRow.lt hown.out b e).1; omega
      have ag' : u5.ownBlock ≠ some b' := fun e => by have := (World.ownsRow.lt hown.out b' e).1; omega
      have hw := wr64 (x - y) hpk
      go_region_held3 (fun w' => w'.cell? ⟨b, off + k, none⟩ = some (.int .i64 x) ∧ w'.cell? ⟨b', off' + k, none⟩ = some (.int .i64 y))
        (first
          | go_keep
          | (go_split_ands
             refine ⟨?_, ?_⟩
             · (rw [hgrow.cell_far _ (by simp; omega) (Ne.symm ag)]; assumption)
             · (rw [hgrow.cell_far _ (by simp; omega) (Ne.symm ag')]; assumption)))
        ((refine step_append_lies _ (by rfl) _ _ _ (by rfl) w.heap.size 3 i0 _ 1 8 Tryz.underlying25 HI0.out HZ0.out HZ1.out HZ2.out rfl (by omega) u5 acc.length (ivs acc) (by rfl) ((hown.out.alloc _).drew)
            ⟨wr.heap.size, 0, none⟩ 1 1 [.int .i64 (x - y)] (by rfl) (by rfl) (World.news_of_block (cs := #[.int .i64 (x - y)]) (t := 3) (fr := (0, 0)) (heap_alloc_new wr _)) (by simp [Value.oneCell'])
            (by omega) (by unfold maxLen; omega) (by omega) (by simp; omega) (wr.heap.size + 1) (by simp) ?_; intro gg cap w1 hown1 hgrow hat hlt))
      have HO := Lib.hid (OwnI.push hown1); clear hown1
      have HBE := Lib.hid (OwnI.below hbe.out hbs _ (grown_undrew hgrow) hown.out (Nat.le_refl _))
      clear hgrow hw hat hlt lg lg' ag ag'
      go_wp2
      go_roundw
      case rel => exact ⟨k + 1, _, by omega, by go_num, by simp; omega, HE, HO, HBE⟩
      case measure => simp [intOf]; omega
    · obtain rfl : k = n := by omega
      have hfin : acc = List.zipWith (· - ·) l l' := by
        rw [hacc.out, HN.out, List.take_length]
        exact zip_full _ _ _
      subst hfin
      go_wp2
      go_ret
      exact ⟨_, rfl, hown.out.is, hbe.out⟩
set_option maxHeartbeats 1000000 in
theorem l2Add_any (l l' : List Int) (v v' : Value) (hb : Nat) (w : World) (h : ISr w hb v l) (h' : ISr w hb v' l') (hhb : hb ≤ w.heap.size) (hl : l.length ≤ 1000000) (hll : l.length ≤ l'.length) (hp : ∀ k, k < l.length → -9223372036854775808 ≤ l.getD k 0 + l'.getD k 0 ∧ l.getD k 0 + l'.getD k 0 ≤ 9223372036854775807) :
    Calls Tryz.prog 66 #[v, v'] w fun e w' => ∃ u, e = .returned u ∧ IS w' w.heap.size w'.heap.size u (List.zipWith (· + ·) l l') ∧ Below w.heap.size w w' := by
  obtain ⟨i0, hi0, hz0, hz1, hz2⟩ := info_parts info_int
  have HI0 := Lib.hid hi0; clear hi0
  have HZ0 := Lib.hid hz0; clear hz0
  have HZ1 := Lib.hid hz1; clear hz1
  have HZ2 := Lib.hid hz2; clear hz2
  obtain ⟨n, hn⟩ : ∃ n, n = l.length := ⟨_, rfl⟩
  obtain ⟨n', hn'⟩ : ∃ n, n = l'.length := ⟨_, rfl⟩
  obtain ⟨a, cap, rfl, -, -, hcell⟩ := id h
  obtain ⟨a', cap', rfl, -, hm', hcell'⟩ := id h'
  rw [← hn] at hl hll ⊢
  rw [← hn'] at hll ⊢
  have HN := Lib.hid hn; clear hn
  have HN' := Lib.hid hn'; clear hn'
  have HC := Lib.hid hcell; clear hcell h
  have HC' := Lib.hid hcell'; clear hcell' h' hm'
  have HP := Lib.hid hp; clear hp
  go_enter Tryz.func66, Tryz.ntmps66
  go_wp2
  go_loopw [5, 6] (fun ov i wr => ∃ (k : Nat) (acc : List Int), k ≤ n ∧ i = .int .i64 k ∧ acc.length ≤ k ∧ Hid (acc = List.zipWith (· + ·) (l.take k) (l'.take k)) ∧ Hid (OwnI wr w.heap.size ov acc) ∧ Hid (Below w.heap.size w wr)) (fun _ i _ => n - (intOf i).toNat)
  case atStart => exact ⟨0, [], by omega, rfl, Nat.le_refl _, Lib.hid (by simp), OwnI.lit0 w _ (Nat.le_refl _), below1 _ _⟩
  case round =>
    obtain ⟨k, acc, hk, rfl, hal, hacc, hown, hbe⟩ := hrel
    by_cases hlt : k < n
    · have hkl : k < l.length := by rw [← HN.out]; exact hlt
      have hkl' : k < l'.length := by rw [← HN'.out]; omega
      obtain ⟨b, off, rfl, hbb, hcc⟩ := HC.out (by intro e; rw [e] at hkl; exact absurd hkl (Nat.not_lt_zero _))
      obtain ⟨b', off', rfl, hbb', hcc'⟩ := HC'.out (by intro e; rw [e] at hkl'; exact absurd hkl' (Nat.not_lt_zero _))
      have hck := (hbe.out.cell (p := ⟨b, off + k, none⟩) (Nat.lt_of_lt_of_le hbb hhb)).trans (hcc k hkl)
      have hck' := (hbe.out.cell (p := ⟨b', off' + k, none⟩) (Nat.lt_of_lt_of_le hbb' hhb)).trans (hcc' k hkl')
      have hpk := HP.out k hkl
      have HE := Lib.hid (zip_step (· + ·) l l' k hkl hkl')
      rw [← hacc.out] at HE
      clear hcc hcc' hkl hkl'
      generalize l.getD k 0 = x at *
      generalize l'.getD k 0 = y at *
      have hbs := hbe.out.size
      have hi1 : (0 : Int) ≤ (k : Int) := by omega
      have hi2 : (k : Int) < (n : Int) := by omega
      have hi3 : (k : Int) < (n' : Int) := by omega
      go_wp2_with fail
      have lg := World.block_lt_of_cell? wr _ hck
      have lg' := World.block_lt_of_cell? wr _ hck'
      have ag : u5.ownBlock ≠ some b := fun e => by have := (World.ownsRow.lt hown.out b e).1; omega
      have ag' : u5.ownBlock ≠ some b' := fun e => by have := (World.ownsRow.lt hown.out b' e).1; omega
      have hw := wr64 (x + y) hpk
      go_region_held3 (fun w' => w'.cell? ⟨b, off + k, none⟩ = some (.int .i64 x) ∧ w'.cell? ⟨b', off' + k, none⟩ = some (.int .i64 y))
        (first
          | go_keep
          | (go_split_ands
             refine ⟨?_, ?_⟩
             · (rw [hgrow.cell_far _ (by simp; omega) (Ne.symm ag)]; assumption)
             · (rw [hgrow.cell_far _ (by simp; omega) (Ne.symm ag')]; assumption)))
        ((refine step_append_lies _ (by rfl) _ _ _ (by rfl) w.heap.size 3 i0 _ 1 8 Tryz.underlying25 HI0.out HZ0.out HZ1.out HZ2.out rfl (by omega) u5 acc.length (ivs acc) (by rfl) ((hown.out.alloc _).drew)
            ⟨wr.heap.size, 0, none⟩ 1 1 [.int .i64 (x + y)] (by rfl) (by rfl) (World.news_of_block (cs := #[.int .i64 (x + y)]) (t := 3) (fr := (0, 0)) (heap_alloc_new wr _)) (by simp [Value.oneCell'])
            (by omega) (by unfold maxLen; omega) (by omega) (by simp; omega) (wr.heap.size + 1) (by simp) ?_; intro gg cap w1 hown1 hgrow hat hlt))
      have HO := Lib.hid (OwnI.push hown1); clear hown1
      have HBE := Lib.hid (OwnI.below hbe.out hbs _ (grown_undrew hgrow) hown.out (Nat.le_refl _))
      clear hgrow hw hat hlt lg lg' ag ag'
      go_wp2
      go_roundw
      case rel => exact ⟨k + 1, _, by omega, by go_num, by simp; omega, HE, HO, HBE⟩
      case measure => simp [intOf]; omega
    · obtain rfl : k = n := by omega
      have hfin : acc = List.zipWith (· + ·) l l' := by
        rw [hacc.out, HN.out, List.take_length]
        exact zip_full _ _ _
      subst hfin
      go_wp2
      go_ret
      exact ⟨_, rfl, hown.out.is, hbe.out⟩
end Go.Proofs.YtehhoplenloocaaGreat

/- Vectors: differences of points, products, comparing. -/
namespace Go.Proofs.YtehhoplenloocaaGreat
open Go.RowKit
set_option linter.unusedVariables false
set_option linter.unusedSimpArgs false

theorem bit_any {f : FuncId} : True := trivial
def bitI (b : Bool) : Int := if b then 1 else 0
set_option maxHeartbeats 400000 in
theorem l1Bit_any (b : Bool) (w : World) :
    Calls Tryz.prog 57 #[.bool b] w fun e w' => e = .returned (.int .i64 (bitI b)) ∧ w = w' := by
  cases b
  all_goals
    go_enter Tryz.func57, Tryz.ntmps57
    go_wp2
    go_ret
    exact ⟨rfl, rfl⟩

/-- the difference of two points of the plane -/
def minusI (a b : List Int) : List Int := [a.getD 0 0 - b.getD 0 0, a.getD 1 0 - b.getD 1 0]
theorem two_list {a : List Int} (h : a.length = 2) : a = [a.getD 0 0, a.getD 1 0] := by
  match a, h with
  | [x, y], _ => rfl
theorem minusI_zip {a b : List Int} (ha : a.length = 2) (hb : b.length = 2) : List.zipWith (· - ·) a b = minusI a b := by
  rw [two_list ha, two_list hb]; rfl
theorem minusI_len (a b : List Int) : (minusI a b).length = 2 := rfl
theorem IS.lit2 (w : World) (B : Nat) (h : B ≤ w.heap.size) (x y : Int) : IS (w.alloc (.cells #[.int .i64 x, .int .i64 y] 3)) B (w.heap.size + 1) (.slice (some ⟨w.heap.size, 0, none⟩) 2 2) [x, y] := by
  refine IS.of_BK (l := [x, y]) ⟨_, heap_alloc_new w _, fun i hi => ?_⟩ (Nat.le_refl _) (by simp [maxLen]) h (by omega)
  match i, hi with
  | 0, _ => rfl
  | 1, _ => rfl
theorem IS.world {w w' : World} {lo hi : Nat} {v : Value} {l : List Int} (h : IS w lo hi v l) (hh : w'.heap = w.heap) : IS w' lo hi v l :=
  h.of_blocks fun b _ _ _ => by rw [hh]

set_option maxHeartbeats 1000000 in
theorem minus_any (a b : List Int) (va vb : Value) (hb : Nat) (w : World) (ia : ISr w hb va a) (ib : ISr w hb vb b) (hhb : hb ≤ w.heap.size) (la : a.length = 2) (lb : b.length = 2)
    (p0 : -9223372036854775808 ≤ a.getD 0 0 - b.getD 0 0 ∧ a.getD 0 0 - b.getD 0 0 ≤ 9223372036854775807) (p1 : -9223372036854775808 ≤ a.getD 1 0 - b.getD 1 0 ∧ a.getD 1 0 - b.getD 1 0 ≤ 9223372036854775807) :
    Calls Tryz.prog 78 #[va, vb] w fun e w' => ∃ u, e = .returned u ∧ IS w' w.heap.size w'.heap.size u (minusI a b) ∧ Below w.heap.size w w' := by
  obtain ⟨b1, o1, c1, rfl, h1, x0, x1⟩ := ia.two la
  obtain ⟨b2, o2, c2, rfl, h2, y0, y1⟩ := ib.two lb
  clear ia ib la lb
  unfold minusI
  generalize a.getD 0 0 = a0 at *
  generalize a.getD 1 0 = a1 at *
  generalize b.getD 0 0 = b0 at *
  generalize b.getD 1 0 = bq at *
  have e1 := wr64 (a0 - b0) p0
  have e2 := wr64 (a1 - bq) p1
  have HIS := Lib.hid (IS.lit2 w w.heap.size (Nat.le_refl _) (a0 - b0) (a1 - bq))
  have HBE := Lib.hid (below1 w (.cells #[.int .i64 (a0 - b0), .int .i64 (a1 - bq)] 3))
  have l1 : b1 < w.heap.size := by omega
  have l2 : b2 < w.heap.size := by omega
  go_enter Tryz.func78, Tryz.ntmps78
  go_wp2_with fail
  go_region_held3 (fun w' => w'.cell? ⟨b1, o1, none⟩ = some (.int .i64 a0) ∧ w'.cell? ⟨b1, o1 + 1, none⟩ = some (.int .i64 a1) ∧ w'.cell? ⟨b2, o2, none⟩ = some (.int .i64 b0) ∧ w'.cell? ⟨b2, o2 + 1, none⟩ = some (.int .i64 bq)) (go_keep) (fail)
  go_wp2
  go_ret
  exact ⟨_, rfl, by simp; exact HIS.out.world rfl, HBE.out.trans (by first | exact Below.refl _ _ | exact below_draws _ _ 1)⟩

/-- the sum of the products of the first k numbers -/
def dotK (a b : List Int) : Nat → Int
  | 0 => 0
  | k + 1 => dotK a b k + a.getD k 0 * b.getD k 0
def dotI (a b : List Int) : Int := dotK a b a.length
theorem dotK_bd {a b : List Int} (ha : allIn a (-1000000000) 1000000000 = true) (hb : allIn b (-1000000000) 1000000000 = true) (hl : a.length ≤ b.length) : ∀ k, k ≤ a.length → -((k : Int) * 1000000000000000000) ≤ dotK a b k ∧ dotK a b k ≤ (k : Int) * 1000000000000000000
  | 0, _ => by simp [dotK]
  | k + 1, h => by
    have h1 := dotK_bd ha hb hl k (by omega)
    have h2 := allIn_at ha k (by omega)
    have h3 := allIn_at hb k (by omega)
    have h4 := mul_bd4 h2.1 h2.2 h3.1 h3.2
    rw [dotK]; omega
set_option maxHeartbeats 1000000 in
theorem dot_any (a b : List Int) (va vb : Value) (ha hb : Nat) (w : World) (ia : ISr w ha va a) (ib : ISr w hb vb b) (hl : a.length ≤ b.length) (h4 : a.length ≤ 4)
    (ba : allIn a (-1000000000) 1000000000 = true) (bb : allIn b (-1000000000) 1000000000 = true) :
    Calls Tryz.prog 29 #[va, vb] w fun e w' => e = .returned (.int .i64 (dotI a b)) ∧ ∃ d, w' = w.drewN d := by
  have hbd := dotK_bd ba bb hl
  have hpa := allIn_at ba
  have hpb := allIn_at bb
  obtain ⟨n, hn⟩ : ∃ n, n = a.length := ⟨_, rfl⟩
  obtain ⟨n', hn'⟩ : ∃ n, n = b.length := ⟨_, rfl⟩
  obtain ⟨aa, cap, rfl, -, -, hcell⟩ := id ia
  obtain ⟨ab, cap', rfl, -, hm', hcell'⟩ := id ib
  unfold maxLen at hm'
  rw [← hn] at hl h4 ⊢
  rw [← hn'] at hl ⊢
  have HN := Lib.hid hn; clear hn
  have HN' := Lib.hid hn'; clear hn'
  have HC := Lib.hid hcell; clear hcell ia
  have HC' := Lib.hid hcell'; clear hcell' ib hm'
  have HBD := Lib.hid hbd; clear hbd
  have HPA := Lib.hid hpa; clear hpa ba
  have HPB := Lib.hid hpb; clear hpb bb
  go_enter Tryz.func29, Tryz.ntmps29
  go_wp2
  go_loopw [5, 6, 9] (fun s _ i wr => ∃ (d k : Nat) (t : Int), k ≤ n ∧ i = .int .i64 k ∧ s = .int .i64 t ∧ Hid (t = dotK a b k) ∧ Hid (wr = w.drewN d)) (fun _ _ i _ => n - (intOf i).toNat)
  case atStart => exact ⟨0, 0, 0, by omega, rfl, rfl, Lib.hid rfl, Lib.hid rfl⟩
  case round =>
    obtain ⟨d, k, t, hk, rfl, rfl, ht, HW⟩ := hrel
    by_cases hlt : k < n
    · have hkl : k < a.length := by rw [← HN.out]; exact hlt
      have hkl' : k < b.length := by rw [← HN'.out]; omega
      obtain ⟨b1, o1, rfl, -, hcc⟩ := HC.out (by intro e; rw [e] at hkl; exact absurd hkl (Nat.not_lt_zero _))
      obtain ⟨b2, o2, rfl, -, hcc'⟩ := HC'.out (by intro e; rw [e] at hkl'; exact absurd hkl' (Nat.not_lt_zero _))
      have hck : wr.cell? ⟨b1, o1 + k, none⟩ = some (.int .i64 (a.getD k 0)) := by rw [HW.out]; exact hcc k hkl
      have hck' : wr.cell? ⟨b2, o2 + k, none⟩ = some (.int .i64 (b.getD k 0)) := by rw [HW.out]; exact hcc' k hkl'
      have h1 := HPA.out k hkl
      have h2 := HPB.out k hkl'
      have h3 := mul_bd4 h1.1 h1.2 h2.1 h2.2
      have h5 := HBD.out k (by omega)
      rw [← ht.out] at h5
      have HE := Lib.hid (show t + a.getD k 0 * b.getD k 0 = dotK a b (k + 1) by rw [dotK, ← ht.out])
      clear hcc hcc' hkl hkl' h1 h2
      generalize a.getD k 0 = x at *
      generalize b.getD k 0 = y at *
      have g0 : k ≤ 4 := by omega
      have g1 : -5000000000000000000 ≤ t + x * y ∧ t + x * y ≤ 5000000000000000000 := by omega
      have e1 := wr64 (x * y) (by omega)
      have e2 := wr64 (t + x * y) (by omega)
      have i1 : (0 : Int) ≤ (k : Int) := by omega
      have i2 : (k : Int) < (n : Int) := by omega
      have i3 : (k : Int) < (n' : Int) := by omega
      clear h5 h3
      go_wp2
      go_quiet (fail)
      go_wp2
      go_roundw
      case rel => exact ⟨d + nq, k + 1, _, by omega, by go_num, rfl, HE, Lib.hid (by rw [HW.out, World.drewN_drewN])⟩
      case measure => simp [intOf]; omega
    · obtain rfl : k = n := by omega
      have HF := Lib.hid (show t = dotI a b by rw [dotI, ← HN.out]; exact ht.out)
      go_wp2
      go_ret
      exact ⟨ret_int HF.out, _, HW.out⟩

set_option maxHeartbeats 1000000 in
theorem l2Same_any (l1 l2 : List Int) (v1 v2 : Value) (h1 h2 : Nat) (w : World) (i1 : ISr w h1 v1 l1) (i2 : ISr w h2 v2 l2) :
    Calls Tryz.prog 88 #[v1, v2] w fun e w' => e = .returned (.bool (decide (l1 = l2))) ∧ ∃ d, w' = w.drewN d := by
  obtain ⟨n, hn⟩ : ∃ n, n = l1.length := ⟨_, rfl⟩
  obtain ⟨n', hn'⟩ : ∃ n, n = l2.length := ⟨_, rfl⟩
  obtain ⟨aa, cap, rfl, hc, hm, hcell⟩ := id i1
  obtain ⟨ab, cap', rfl, hc', hm', hcell'⟩ := id i2
  unfold maxLen at hm hm'
  rw [← hn, ← hn'] at ⊢
  rw [← hn] at hc
  rw [← hn'] at hc'
  have hb1 : n ≤ 9223372036854775807 := by omega
  have hb2 : n' ≤ 9223372036854775807 := by omega
  have HN := Lib.hid hn; clear hn
  have HN' := Lib.hid hn'; clear hn'
  have HC := Lib.hid hcell; clear hcell i1
  have HC' := Lib.hid hcell'; clear hcell' i2 hm' hm hc hc'
  by_cases hle : n = n'
  case neg =>
    have HF := Lib.hid (show decide (l1 = l2) = false by rw [decide_eq_false_iff_not]; intro e; exact hle (by rw [HN.out, HN'.out, e]))
    have hb : ((n : Int) != (n' : Int)) = true := by rw [bne_iff_ne]; omega
    clear hle
    go_enter Tryz.func88, Tryz.ntmps88
    go_wp2
    go_ret
    exact ⟨ret_bool HF.out.symm, 0, rfl⟩
  subst hle
  go_enter Tryz.func88, Tryz.ntmps88
  go_wp2
  go_loopw [5] (fun i wr => ∃ (d k : Nat), k ≤ n ∧ i = .int .i64 k ∧ Hid (l1.take k = l2.take k) ∧ Hid (wr = w.drewN d)) (fun i _ => n - (intOf i).toNat)
  case atStart => exact ⟨0, 0, by omega, rfl, Lib.hid rfl, Lib.hid rfl⟩
  case round =>
    obtain ⟨d, k, hk, rfl, hE, HW⟩ := hrel
    by_cases hlt : k < n
    · have hkl : k < l1.length := by rw [← HN.out]; exact hlt
      have hkl' : k < l2.length := by rw [← HN'.out]; omega
      obtain ⟨b1, o1, rfl, -, hcc⟩ := HC.out (by intro e; rw [e] at hkl; exact absurd hkl (Nat.not_lt_zero _))
      obtain ⟨b2, o2, rfl, -, hcc'⟩ := HC'.out (by intro e; rw [e] at hkl'; exact absurd hkl' (Nat.not_lt_zero _))
      have hck : wr.cell? ⟨b1, o1 + k, none⟩ = some (.int .i64 (l1.getD k 0)) := by rw [HW.out]; exact hcc k hkl
      have hck' : wr.cell? ⟨b2, o2 + k, none⟩ = some (.int .i64 (l2.getD k 0)) := by rw [HW.out]; exact hcc' k hkl'
      have i1 : (0 : Int) ≤ (k : Int) := by omega
      have i2 : (k : Int) < (n : Int) := by omega
      by_cases he : l1.getD k 0 = l2.getD k 0
      · have HS := Lib.hid (take_eq_step hkl hkl' hE.out he)
        clear hkl hkl' hcc hcc'
        rw [← he] at hck'
        clear he
        generalize l1.getD k 0 = x at *
        have hxx : (x != x) = false := by simp
        go_wp2
        go_quiet (fail)
        go_wp2
        go_roundw
        case rel => exact ⟨d + nq, k + 1, by omega, by go_num, HS, Lib.hid (by rw [HW.out, World.drewN_drewN])⟩
        case measure => simp [intOf]; omega
      · have HF := Lib.hid (ne_of_getD he)
        clear hkl hkl' hcc hcc'
        generalize l1.getD k 0 = x at *
        generalize l2.getD k 0 = y at *
        have hxy : (x != y) = true := by simpa using he
        go_wp2
        go_quiet (fail)
        go_wp2
        go_ret
        exact ⟨ret_bool HF.out.symm, d + nq, by rw [HW.out, World.drewN_drewN]⟩
    · obtain rfl : k = n := by omega
      have e1 := hE.out
      rw [HN.out, List.take_length, ← HN.out, HN'.out, List.take_length] at e1
      have HF := Lib.hid (show decide (l1 = l2) = true by rw [decide_eq_true_eq]; exact e1)
      clear e1
      go_wp2
      go_ret
      exact ⟨ret_bool HF.out.symm, _, HW.out⟩
end Go.Proofs.YtehhoplenloocaaGreat

/- Appending: numbers out of whatever slice, and rows. -/
namespace Go.Proofs.YtehhoplenloocaaGreat
open Go.RowKit
set_option linter.unusedVariables false
set_option linter.unusedSimpArgs false

theorem OwnI.form {w : World} {B : Nat} {v : Value} {l : List Int} (h : OwnI w B v l) : ∃ a cap, v = .slice a l.length cap := by
  rcases h.2 with ⟨rfl, h0⟩ | ⟨g, cap, cur, rfl, -⟩
  · exact ⟨none, 0, by rw [h0]⟩
  · exact ⟨_, _, rfl⟩
theorem OwnI.own {w : World} {B : Nat} {v : Value} {l : List Int} {n : Nat} {xs : List Value} (h : w.ownsRow B 3 1 v n xs) (hn : n = l.length) (hx : xs = ivs l) : OwnI w B v l := by
  subst hn hx; exact h
theorem OwnI.kept {w w' : World} {B : Nat} {v : Value} {l : List Int} (h : OwnI w B v l) (hb : Below w.heap.size w w') : OwnI w' B v l :=
  World.ownsRow.kept h (row := none) ⟨hb.os, hb.tape, hb.output, hb.size, fun k hk _ => hb.block k hk⟩ (by cases v.ownBlock <;> simp)
theorem ivs_append (a b : List Int) : ivs (a ++ b) = ivs a ++ ivs b := by unfold ivs; rw [List.map_append]
theorem ivs_len (a : List Int) : (ivs a).length = a.length := by unfold ivs; simp

/-- numbers are appended out of a slice that may be read -/
theorem run_append_I {w : World} {B hi : Nat} {v vx : Value} {acc l : List Int} (ty : TypeId) (hown : OwnI w B v acc) (hsrc : ISr w hi vx l) (h63 : acc.length + l.length ≤ 1000000000) (hB : B ≤ w.heap.size) :
    ∃ a cap w', (Builtin.append_ #[25, 25] ty #[v, vx]).run Tryz.prog w = .ok (.slice a (acc ++ l).length cap) w' ∧ OwnI w' B (.slice a (acc ++ l).length cap) (acc ++ l) ∧ w.grownBy w' v.ownBlock := by
  obtain ⟨i0, hi0, hz0, hz1, hz2⟩ := info_parts info_int
  rcases hsrc.cases with ⟨rfl, a, cap, rfl⟩ | ⟨hpos, hlen, b, off, cap, rfl, hbb, hcell⟩
  · obtain ⟨a', cap', rfl⟩ := hown.form
    have hle : acc.length ≤ cap' := by
      rcases hown.2 with ⟨e, h0⟩ | ⟨g, c, cur, e, -, -, hn, -⟩
      · injection e with _ e2 e3; omega
      · injection e with _ e2 e3; omega
    refine ⟨a', cap', w, ?_, by rw [List.append_nil]; exact hown, World.grownBy.refl _ _⟩
    rw [List.append_nil]
    refine run_append_nothing w 25 25 ty 3 i0 Tryz.underlying25 hi0 a' acc.length cap' hle _ ⟨.inl ⟨_, Tryz.underlying25⟩, fun w' => by simp [Builtin.lenOf], ?_, ?_, by simp, by simp⟩
    · cases a <;> simp [Builtin.firstCells, loadCells, loadCellsFrom]
    · cases a <;> simp [Builtin.firstCells, loadCells, loadCellsFrom]
  · obtain ⟨v', w', hr, h2, h3, h4⟩ := run_append_own (P := Tryz.prog) w B 25 ty 3 i0 (.int .i64 0) 1 8 Tryz.underlying25 hi0 hz0 hz1 hz2 rfl (by decide) v acc.length (ivs acc) hown ⟨b, off, none⟩ l.length cap (ivs l) (by rw [ivs_len, Nat.mul_one])
      (fun j u hj => by
        have hjl : j < l.length := by
          have := (List.getElem?_eq_some_iff.1 hj).1
          rwa [ivs_len] at this
        have e : u = .int .i64 (l.getD j 0) := by
          unfold ivs at hj
          rw [List.getElem?_map, List.getElem?_eq_getElem hjl] at hj
          simp at hj
          rw [← hj, List.getD_eq_getElem?_getD, List.getElem?_eq_getElem hjl]; rfl
        rw [e]
        have ha : (⟨b, off, none⟩ : Addr).add j = ⟨b, off + j, none⟩ := by simp only [Addr.add]; split <;> simp_all
        rw [ha]; exact hcell j hjl)
      (fun u hu => by unfold ivs at hu; simp at hu; obtain ⟨x, -, rfl⟩ := hu; rfl)
      (by unfold maxLen; omega) (by omega) hB
    have ho : OwnI w' B v' (acc ++ l) := OwnI.own h2 (by simp) (by rw [ivs_append])
    obtain ⟨a, cap', rfl⟩ := ho.form
    exact ⟨a, cap', w', hr, ho, h3⟩
theorem wp_append_I {o : Oper} {act : Act} {K : Act → World → Prop} {Q : Exit → Act → World → Prop} {w : World} (s x : Operand)
    (ho : o.op = .call { callee := .builtin .append, args := #[s, x], argTypes := #[25, 25] })
    {B hi : Nat} {v vx : Value} {acc l : List Int} (hs : act.eval s = v) (hx : act.eval x = vx) (hown : OwnI w B v acc) (hsrc : ISr w hi vx l) (h63 : acc.length + l.length ≤ 1000000000) (hB : B ≤ w.heap.size)
    (h : ∀ a cap w', OwnI w' B (.slice a (acc ++ l).length cap) (acc ++ l) → w.grownBy w' v.ownBlock → K (act.put o.dst (.slice a (acc ++ l).length cap)) w') : o.wp Tryz.prog act w K Q := by
  obtain ⟨a, cap, w', hr, h2, h3⟩ := run_append_I o.type hown hsrc h63 hB
  unfold Oper.wp execOp
  simp only [ho, resolve, invoke, builtin, Sem.run_bind, Sem.run_pure, Result.andThen_ok, List.map_toArray, List.map_cons, List.map_nil, hs, hx, hr]
  exact h a cap w' h2 h3
theorem wpList_append_I {ops : Array Oper} {rest : List Oper} {o : Oper} {act : Act} {Q : Exit → Act → World → Prop} {w : World} (hgd : o.guard = none) (s x : Operand)
    (ho : o.op = .call { callee := .builtin .append, args := #[s, x], argTypes := #[25, 25] })
    {B hi : Nat} {v vx : Value} {acc l : List Int} (hs : act.eval s = v) (hx : act.eval x = vx) (hown : OwnI w B v acc) (hsrc : ISr w hi vx l) (h63 : acc.length + l.length ≤ 1000000000) (hB : B ≤ w.heap.size)
    (h : ∀ a cap w', OwnI w' B (.slice a (acc ++ l).length cap) (acc ++ l) → w.grownBy w' v.ownBlock → wpList Tryz.prog ops Q rest (act.put o.dst (.slice a (acc ++ l).length cap)) w') : wpList Tryz.prog ops Q (o :: rest) act w :=
  wpList_plain hgd fun _ hK => wp_append_I s x ho hs hx hown hsrc h63 hB fun a cap w' h2 h3 => hK _ _ (h a cap w' h2 h3)
/-- at a step of a region that draws its order; the length a letter -/
theorem step_append_I {ops : Array Oper} {o : Oper} {act : Act} {K : Act → World → Prop} {Q : Exit → Act → World → Prop} {E : Prop} {w : World} (hgd : o.guard = none) (s x : Operand)
    (ho : o.op = .call { callee := .builtin .append, args := #[s, x], argTypes := #[25, 25] })
    {B hi : Nat} {v vx : Value} {acc l : List Int} (hs : act.eval s = v) (hx : act.eval x = vx) (hown : OwnI w B v acc) (hsrc : ISr w hi vx l) (h63 : acc.length + l.length ≤ 1000000000) (hB : B ≤ w.heap.size)
    (h : ∀ a n cap w', Hid (n = (acc ++ l).length) → OwnI w' B (.slice a n cap) (acc ++ l) → w.grownBy w' v.ownBlock → K (act.put o.dst (.slice a n cap)) w') : if Region.wanted o (yielded ops act.tmps) = true then Oper.wp Tryz.prog o act w K Q else E := by
  have hw : Region.wanted o (yielded ops act.tmps) = true := by simp [Region.wanted, hgd]
  rw [if_pos hw]
  exact wp_append_I s x ho hs hx hown hsrc h63 hB fun a cap w' h1 h2 => h a _ cap w' (Lib.hid rfl) h1 h2

set_option maxHeartbeats 1000000 in
theorem copyInts_any (l : List Int) (v : Value) (hb : Nat) (w : World) (h : ISr w hb v l) (hl : l.length ≤ 1000000) :
    Calls Tryz.prog 62 #[v] w fun e w' => ∃ u, e = .returned u ∧ OwnI w' w.heap.size u l ∧ Below w.heap.size w w' := by
  go_enter Tryz.func62, Tryz.ntmps62
  go_wp2_with (at_builtin; refine wpList_append_I rfl _ _ rfl rfl rfl (OwnI.nil w w.heap.size) h (by simp; omega) (Nat.le_refl _) ?_)
  intro a cap w1 hown hg
  have HO := Lib.hid hown
  have HB := Lib.hid ((Below.refl w.heap.size w).grown hg (Nat.le_refl _) (fun k hk => by cases hk))
  clear hown hg
  go_wp2
  go_ret
  exact ⟨_, rfl, HO.out, HB.out⟩

/-! ### rows -/
/-- v is a slice of the call's own, from block B on, of rows that lie in stretches of their own -/
def OwnL (w : World) (B : Nat) (v : Value) (ls : List (List Int)) : Prop :=
  ∃ (V : Nat → Value) (p : Nat → Nat), w.ownsRow B 25 1 v ls.length ((List.range ls.length).map V) ∧ B ≤ p 0 ∧ p ls.length ≤ w.heap.size ∧ ∀ i, i < ls.length → p i ≤ p (i + 1) ∧ IS w (p i) (p (i + 1)) (V i) (ls.getD i [])
theorem OwnL.nil (w : World) (B : Nat) (hB : B ≤ w.heap.size) : OwnL w B (.slice none 0 0) [] := ⟨fun _ => .slice none 0 0, fun _ => B, ⟨rfl, .inl ⟨rfl, rfl⟩⟩, Nat.le_refl _, hB, fun i hi => absurd hi (Nat.not_lt_zero _)⟩
theorem OwnL.lit0 (w : World) (B : Nat) (h : B ≤ w.heap.size) : OwnL (w.alloc (.cells #[] 25)) B (.slice (some ⟨w.heap.size, 0, none⟩) 0 0) [] := ⟨fun _ => .slice none 0 0, fun _ => B, World.ownsRow_lit w #[] 0 h (by simp [maxLen]) rfl, Nat.le_refl _, by simp; omega, fun i hi => absurd hi (Nat.not_lt_zero _)⟩
theorem OwnL.mono {p : Nat → Nat} {n : Nat} (h : ∀ i, i < n → p i ≤ p (i + 1)) : ∀ i j, i ≤ j → j ≤ n → p i ≤ p j
  | i, 0, hij, _ => by have : i = 0 := by omega
                       subst this; exact Nat.le_refl _
  | i, j + 1, hij, hj => by
    by_cases e : i = j + 1
    · subst e; exact Nat.le_refl _
    · exact Nat.le_trans (OwnL.mono h i j (by omega) (by omega)) (h j (by omega))
theorem OwnL.kept {w w' : World} {B : Nat} {v : Value} {ls : List (List Int)} (h : OwnL w B v ls) (hb : Below w.heap.size w w') : OwnL w' B v ls := by
  obtain ⟨V, p, h1, h2, h3, h4⟩ := h
  refine ⟨V, p, World.ownsRow.kept h1 (row := none) ⟨hb.os, hb.tape, hb.output, hb.size, fun k hk _ => hb.block k hk⟩ (by cases v.ownBlock <;> simp), h2, Nat.le_trans h3 hb.size, fun i hi => ⟨(h4 i hi).1, (h4 i hi).2.keep hb ?_⟩⟩
  exact Nat.le_trans (OwnL.mono (fun i hi => (h4 i hi).1) (i + 1) ls.length hi (Nat.le_refl _)) h3
theorem OwnL.draws {w : World} {B : Nat} {v : Value} {ls : List (List Int)} (h : OwnL w B v ls) (d : Nat) : OwnL (w.drewN d) B v ls := h
theorem OwnL.lt {w : World} {B : Nat} {v : Value} {ls : List (List Int)} (h : OwnL w B v ls) : ∀ k, v.ownBlock = some k → B ≤ k ∧ k < w.heap.size := by
  obtain ⟨V, p, h1, -⟩ := h; exact World.ownsRow.lt h1
/-- the outer block holds slices, so no row lies in it -/
theorem own_type {w : World} {B : Nat} {v : Value} {n : Nat} {xs : List Value} (h : w.ownsRow B 25 1 v n xs) : ∀ g, v.ownBlock = some g → ∃ c e fr, w.heap[g]? = some (.cells c e fr) ∧ e ≠ 3 := by
  intro g hg
  rcases h.2 with ⟨rfl, -⟩ | ⟨b, cap, cur, rfl, -, hh, -⟩
  · simp [Value.ownBlock] at hg
  · simp [Value.ownBlock] at hg
    subst hg
    exact ⟨cur, _, _, hh, by decide⟩
/-- a row is appended: 'o' the block that held it, in the world w1 -/
theorem OwnL.push {w1 w2 : World} {B lo hi : Nat} {v v' vr : Value} {ls : List (List Int)} {r : List Int} {o : Obj} (V : Nat → Value) (p : Nat → Nat) (h1 : w1.ownsRow B 25 1 v ls.length ((List.range ls.length).map V)) (h2 : B ≤ p 0) (h3 : p ls.length ≤ lo) (h4 : ∀ i, i < ls.length → p i ≤ p (i + 1) ∧ IS w1 (p i) (p (i + 1)) (V i) (ls.getD i []))
    (hr : IS w1 lo hi vr r) (hlh : lo ≤ hi) (hhi : hi ≤ w1.heap.size) (hg : (w1.alloc o).grownBy w2 v.ownBlock) (hown : w2.ownsRow B 25 1 v' (ls.length + 1) ((List.range ls.length).map V ++ [vr])) : OwnL w2 B v' (ls ++ [r]) := by
  have hty : ∀ g, v.ownBlock = some g → ∃ c e fr, (w1.alloc o).heap[g]? = some (.cells c e fr) ∧ e ≠ 3 := by
    intro g hg'
    obtain ⟨c, e, fr, h, h'⟩ := own_type h1 g hg'
    exact ⟨c, e, fr, by rw [Below.heap_alloc _ _ _ ((World.ownsRow.lt h1 g hg').2)]; exact h, h'⟩
  have b1 := below1 w1 o
  refine ⟨fun i => if i < ls.length then V i else vr, fun i => if i ≤ ls.length then p i else hi, ?_, ?_, ?_, ?_⟩
  · rw [List.length_append, List.length_singleton, List.range_succ, List.map_append]
    have e : (List.range ls.length).map (fun i => if i < ls.length then V i else vr) = (List.range ls.length).map V := List.map_congr_left fun i hi => by rw [if_pos (List.mem_range.1 hi)]
    rw [e]; simpa using hown
  · dsimp only; rw [if_pos (Nat.zero_le _)]; exact h2
  · dsimp only; rw [List.length_append, List.length_singleton, if_neg (by omega)]
    have := hg.size; simp at this; omega
  · intro i hi'
    rw [List.length_append, List.length_singleton] at hi'
    by_cases e : i < ls.length
    · dsimp only
      rw [if_pos (show i ≤ ls.length by omega), if_pos (show i + 1 ≤ ls.length by omega)]
      refine ⟨(h4 i e).1, ?_⟩
      show IS w2 _ _ (if i < ls.length then V i else vr) _
      rw [if_pos e, List.getD_eq_getElem?_getD, List.getElem?_append_left e, ← List.getD_eq_getElem?_getD]
      have hle := OwnL.mono (fun i hi => (h4 i hi).1) (i + 1) ls.length e (Nat.le_refl _)
      exact ((h4 i e).2.keep b1 (by omega)).grown_type hg hty
    · obtain rfl : i = ls.length := by omega
      dsimp only
      rw [if_pos (Nat.le_refl _), if_neg (by omega)]
      refine ⟨by omega, ?_⟩
      show IS w2 _ _ (if ls.length < ls.length then V ls.length else vr) _
      rw [if_neg (Nat.lt_irrefl _), List.getD_eq_getElem?_getD, List.getElem?_append_right (Nat.le_refl _)]
      simp only [Nat.sub_self, List.getElem?_cons_zero, Option.getD_some]
      exact ((hr.keep b1 hhi).grown_type hg hty).mono h3 (Nat.le_refl _)
theorem OwnL.is {w : World} {B : Nat} {v : Value} {ls : List (List Int)} (h : OwnL w B v ls) : ISS w B w.heap.size v ls := by
  obtain ⟨V, p, h1, h2, h3, h4⟩ := h
  rcases h1.2 with ⟨rfl, h0⟩ | ⟨g, cap, cur, rfl, hg, hh, hn, hc, hs, ht⟩
  · have : ls = [] := List.length_eq_zero_iff.1 h0
    subst this; exact ISS.nil _ _ _
  · refine ⟨_, _, rfl, hn, hc, fun hl => ⟨g, 0, V, rfl, hg, ?_, ⟨cur, hh, fun i hi => ?_⟩, fun i hi => ?_, fun i j hij hj => ?_⟩⟩
    · exact World.ownsRow.lt h1 g rfl |>.2
    · rw [Nat.zero_add, ← Array.getElem?_toList]
      have e1 : (cur.toList.take (ls.length * 1))[i]? = ((List.range ls.length).map V)[i]? := by rw [ht]
      rw [List.getElem?_take_of_lt (by omega)] at e1
      rw [e1]; simp [hi]
    · have m1 := OwnL.mono (fun i hi => (h4 i hi).1) 0 i (Nat.zero_le _) (by omega)
      have m2 := OwnL.mono (fun i hi => (h4 i hi).1) (i + 1) ls.length hi (Nat.le_refl _)
      exact (h4 i hi).2.mono (by omega) (by omega)
    · rcases (h4 j hj).2.blk with h0 | ⟨bj, e1, l1, u1, -⟩
      · exact .inl h0
      · right
        rcases (h4 i (by omega)).2.blk with h0 | ⟨bi, e2, l2, u2, -⟩
        · rw [e1, h0]; simp
        · have := OwnL.mono (fun i hi => (h4 i hi).1) (i + 1) j (by omega) (by omega)
          rw [e1, e2]; intro e; injection e with e; omega
theorem OwnL.below {w w1 w2 : World} {B B0 : Nat} {v : Value} {ls : List (List Int)} (hbe : Below B w w1) (hB : B ≤ w1.heap.size) (o : Obj) (hg : (w1.alloc o).grownBy w2 v.ownBlock) (hown : OwnL w1 B0 v ls) (hB0 : B ≤ B0) : Below B w w2 :=
  (hbe.alloc hB o).grown hg (by simp; omega) fun k hk => Nat.le_trans hB0 (hown.lt k hk).1
/-- the same, laid open, its rows below m -/
def OwnLp (w : World) (B : Nat) (v : Value) (ls : List (List Int)) (V : Nat → Value) (p : Nat → Nat) (m : Nat) : Prop :=
  w.ownsRow B 25 1 v ls.length ((List.range ls.length).map V) ∧ B ≤ p 0 ∧ p ls.length ≤ m ∧ ∀ i, i < ls.length → p i ≤ p (i + 1) ∧ IS w (p i) (p (i + 1)) (V i) (ls.getD i [])
theorem OwnL.part {w w' : World} {B : Nat} {v : Value} {ls : List (List Int)} (h : OwnL w B v ls) (hb : Below w.heap.size w w') : ∃ V p, OwnLp w' B v ls V p w.heap.size := by
  obtain ⟨V, p, h1, h2, h3, h4⟩ := h
  refine ⟨V, p, World.ownsRow.kept h1 (row := none) ⟨hb.os, hb.tape, hb.output, hb.size, fun k hk _ => hb.block k hk⟩ (by cases v.ownBlock <;> simp), h2, h3, fun i hi => ⟨(h4 i hi).1, (h4 i hi).2.keep hb ?_⟩⟩
  exact Nat.le_trans (OwnL.mono (fun i hi => (h4 i hi).1) (i + 1) ls.length hi (Nat.le_refl _)) h3
theorem OwnLp.alloc {w : World} {B : Nat} {v : Value} {ls : List (List Int)} {V : Nat → Value} {p : Nat → Nat} {m : Nat} (h : OwnLp w B v ls V p m) (o : Obj) : (w.alloc o).ownsRow B 25 1 v ls.length ((List.range ls.length).map V) := World.ownsRow.alloc h.1 o
theorem OwnLp.push {w1 w2 : World} {B lo hi m : Nat} {v v' vr : Value} {ls : List (List Int)} {r : List Int} {o : Obj} {V : Nat → Value} {p : Nat → Nat} (h : OwnLp w1 B v ls V p m)
    (hr : IS w1 lo hi vr r) (hm : m ≤ lo) (hlh : lo ≤ hi) (hhi : hi ≤ w1.heap.size) (hg : (w1.alloc o).grownBy w2 v.ownBlock) (hown : w2.ownsRow B 25 1 v' (ls.length + 1) ((List.range ls.length).map V ++ [vr])) : OwnL w2 B v' (ls ++ [r]) :=
  OwnL.push V p h.1 h.2.1 (Nat.le_trans h.2.2.1 hm) h.2.2.2 hr hlh hhi hg hown
theorem OwnLp.below {w w1 w2 : World} {B B0 m : Nat} {v : Value} {ls : List (List Int)} {V : Nat → Value} {p : Nat → Nat} (hbe : Below B w w1) (hB : B ≤ w1.heap.size) (o : Obj) (hg : (w1.alloc o).grownBy w2 v.ownBlock) (hown : OwnLp w1 B0 v ls V p m) (hB0 : B ≤ B0) : Below B w w2 :=
  (hbe.alloc hB o).grown hg (by simp; omega) fun k hk => Nat.le_trans hB0 (World.ownsRow.lt hown.1 k hk).1
end Go.Proofs.YtehhoplenloocaaGreat
