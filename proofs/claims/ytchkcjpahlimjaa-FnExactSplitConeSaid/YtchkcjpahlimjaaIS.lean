/- Slices of whole numbers that read as lists: what is known of a value in a world, and the smallest functions on them. -/
import Derived.Test.YtchkcjpahlimjaaNum
import Derived.Deep.QuietTactic
import Derived.BigQuiet
import Derived.Deep.OwnRows
namespace Go.Proofs.Ytchkcjpahlimjaa
open Go.RowKit
set_option linter.unusedVariables false
set_option linter.unusedSimpArgs false

theorem quiet_eq {P : Program} {f : FuncId} {args : Array Value} {w : World} {n : Nat} {v : Value}
    (h : Calls P f args (w.drewN n) fun e w' => e = .returned v ∧ w.drewN n = w') : Calls P f args (w.drewN n) fun e w'' => e = .returned v ∧ ∃ m, w'' = w.drewN m :=
  h.mono fun _ _ ⟨he, hm⟩ => ⟨he, n, hm.symm⟩
/-- read only: v reads as l in w, through a block below hi -/
def ISr (w : World) (hi : Nat) (v : Value) (l : List Int) : Prop :=
  ∃ a cap, v = .slice a l.length cap ∧ l.length ≤ cap ∧ cap ≤ maxLen ∧
    (l ≠ [] → ∃ b off, a = some ⟨b, off, none⟩ ∧ b < hi ∧ ∀ i, i < l.length → w.cell? ⟨b, off + i, none⟩ = some (.int .i64 (l.getD i 0)))
/-- a block of cells of type t, not frozen, n of them from off on known by their index -/
def BK (w : World) (b off n : Nat) (t : TypeId) (f : Nat → Value) : Prop := ∃ cs : Array Value, w.heap[b]? = some (.cells cs t (0, 0)) ∧ ∀ i, i < n → cs[off + i]? = some (f i)
theorem BK.cell {w : World} {b off n : Nat} {t : TypeId} {f : Nat → Value} (h : BK w b off n t f) {i : Nat} (hi : i < n) : w.cell? ⟨b, off + i, none⟩ = some (f i) := by
  obtain ⟨cs, h1, h2⟩ := h; simp [World.cell?, h1, h2 i hi]
theorem BK.frozen {w : World} {b off n : Nat} {t : TypeId} {f : Nat → Value} (h : BK w b off n t f) (i : Nat) : w.frozen? ⟨b, i, none⟩ = false := by
  obtain ⟨cs, h1, h2⟩ := h; simp [World.frozen?, h1]
theorem BK.lt {w : World} {b off n : Nat} {t : TypeId} {f : Nat → Value} (h : BK w b off n t f) : b < w.heap.size := by
  obtain ⟨cs, h1, h2⟩ := h
  rcases Nat.lt_or_ge b w.heap.size with h' | h'
  · exact h'
  · rw [Array.getElem?_eq_none h'] at h1; cases h1
theorem BK.congr {w : World} {b off n : Nat} {t : TypeId} {f g : Nat → Value} (h : BK w b off n t f) (e : ∀ i, i < n → f i = g i) : BK w b off n t g := by
  obtain ⟨cs, h1, h2⟩ := h; exact ⟨cs, h1, fun i hi => by rw [← e i hi]; exact h2 i hi⟩
theorem BK.of_block {w w' : World} {b off n : Nat} {t : TypeId} {f : Nat → Value} (h : BK w b off n t f) (e : w'.heap[b]? = w.heap[b]?) : BK w' b off n t f := by
  obtain ⟨cs, h1, h2⟩ := h; exact ⟨cs, e.trans h1, h2⟩
theorem BK.set {w : World} {b off n : Nat} {t : TypeId} {f : Nat → Value} (h : BK w b off n t f) {k : Nat} (hk : k < n) (x : Value) : BK (w.setCell ⟨b, off + k, none⟩ x) b off n t (fun i => if i = k then x else f i) := by
  obtain ⟨cs, h1, h2⟩ := h
  refine ⟨cs.setIfInBounds (off + k) x, by simp [World.setCell, Array.getElem?_modify, h1], fun i hi => ?_⟩
  rw [Array.getElem?_setIfInBounds]
  by_cases e : i = k
  · subst e
    have hlt : off + i < cs.size := by
      rcases Nat.lt_or_ge (off + i) cs.size with h' | h'
      · exact h'
      · have := h2 i hi; rw [Array.getElem?_eq_none h'] at this; cases this
    simp [hlt]
  · rw [if_neg (fun h => e (by omega))]
    show cs[off + i]? = some (if i = k then x else f i)
    rw [if_neg e]; exact h2 i hi
theorem BK.keep {w w' : World} {b off n B : Nat} {t : TypeId} {f : Nat → Value} (h : BK w b off n t f) (hb : Below B w w') (hB : b < B) : BK w' b off n t f := h.of_block (hb.block b hB)
theorem BK.of_rowIs {w : World} {b n : Nat} {t : TypeId} {f : Nat → Value} (h : w.rowIs b t n f) : BK w b 0 n t f := by
  obtain ⟨cs, h1, _, h2⟩ := h; exact ⟨cs, h1, fun i hi => by rw [Nat.zero_add]; exact h2 i hi⟩

/-- v reads as l in w, through a block from lo on and below hi, and may be written -/
def IS (w : World) (lo hi : Nat) (v : Value) (l : List Int) : Prop :=
  ∃ a cap, v = .slice a l.length cap ∧ l.length ≤ cap ∧ cap ≤ maxLen ∧
    (l ≠ [] → ∃ b off, a = some ⟨b, off, none⟩ ∧ lo ≤ b ∧ b < hi ∧ BK w b off l.length 3 (fun i => .int .i64 (l.getD i 0)))

theorem IS.read {w : World} {lo hi : Nat} {v : Value} {l : List Int} (h : IS w lo hi v l) : ISr w hi v l := by
  obtain ⟨a, cap, hv, h1, h2, h3⟩ := h
  exact ⟨a, cap, hv, h1, h2, fun hl => let ⟨b, off, ha, _, hb', hc⟩ := h3 hl; ⟨b, off, ha, hb', fun i hi => hc.cell hi⟩⟩
theorem ISr.cases {w : World} {hi : Nat} {v : Value} {l : List Int} (h : ISr w hi v l) :
    (l = [] ∧ ∃ a cap, v = .slice a 0 cap) ∨ (0 < l.length ∧ l.length ≤ 9223372036854775807 ∧ ∃ b off cap, v = .slice (some ⟨b, off, none⟩) l.length cap ∧ b < hi ∧ ∀ i, i < l.length → w.cell? ⟨b, off + i, none⟩ = some (.int .i64 (l.getD i 0))) := by
  obtain ⟨a, cap, hv, h1, h2, h3⟩ := h
  unfold maxLen at h2
  by_cases hl : l = []
  · subst hl; exact .inl ⟨rfl, a, cap, hv⟩
  · obtain ⟨b, off, rfl, hb, hc⟩ := h3 hl
    exact .inr ⟨List.length_pos_iff.2 hl, by omega, b, off, cap, hv, hb, hc⟩
theorem IS.cases {w : World} {lo hi : Nat} {v : Value} {l : List Int} (h : IS w lo hi v l) :
    (l = [] ∧ ∃ a cap, v = .slice a 0 cap) ∨ (0 < l.length ∧ l.length ≤ 9223372036854775807 ∧ ∃ b off cap, v = .slice (some ⟨b, off, none⟩) l.length cap ∧ l.length ≤ cap ∧ cap ≤ maxLen ∧ lo ≤ b ∧ b < hi ∧ BK w b off l.length 3 (fun i => .int .i64 (l.getD i 0))) := by
  obtain ⟨a, cap, hv, h1, h2, h3⟩ := h
  by_cases hl : l = []
  · subst hl; exact .inl ⟨rfl, a, cap, hv⟩
  · obtain ⟨b, off, rfl, hb, hb', hc⟩ := h3 hl
    exact .inr ⟨List.length_pos_iff.2 hl, by unfold maxLen at h2; omega, b, off, cap, hv, h1, h2, hb, hb', hc⟩
theorem ISr.keep {w w' : World} {hi B : Nat} {v : Value} {l : List Int} (h : ISr w hi v l) (hb : Below B w w') (hB : hi ≤ B) : ISr w' hi v l := by
  obtain ⟨a, cap, hv, h1, h2, h3⟩ := h
  exact ⟨a, cap, hv, h1, h2, fun hl => let ⟨b, off, ha, hb', hc⟩ := h3 hl; ⟨b, off, ha, hb', fun i hi => (hb.cell (p := ⟨b, off + i, none⟩) (Nat.lt_of_lt_of_le hb' hB)).trans (hc i hi)⟩⟩
theorem IS.of_blocks {w w' : World} {lo hi : Nat} {v : Value} {l : List Int} (h : IS w lo hi v l) (hb : ∀ b, lo ≤ b → b < hi → b < w.heap.size → w'.heap[b]? = w.heap[b]?) : IS w' lo hi v l := by
  obtain ⟨a, cap, hv, h1, h2, h3⟩ := h
  exact ⟨a, cap, hv, h1, h2, fun hl => let ⟨b, off, ha, hb1, hb', hc⟩ := h3 hl; ⟨b, off, ha, hb1, hb', hc.of_block (hb b hb1 hb' hc.lt)⟩⟩
theorem IS.keep {w w' : World} {lo hi B : Nat} {v : Value} {l : List Int} (h : IS w lo hi v l) (hb : Below B w w') (hB : hi ≤ B) : IS w' lo hi v l :=
  h.of_blocks fun b _ h2 _ => hb.block b (by omega)
theorem IS.mono {w : World} {lo hi lo' hi' : Nat} {v : Value} {l : List Int} (h : IS w lo hi v l) (h1 : lo' ≤ lo) (h2 : hi ≤ hi') : IS w lo' hi' v l := by
  obtain ⟨a, cap, hv, g1, g2, g3⟩ := h
  exact ⟨a, cap, hv, g1, g2, fun hl => let ⟨b, off, ha, hb1, hb', hc⟩ := g3 hl; ⟨b, off, ha, by omega, by omega, hc⟩⟩
theorem IS.draws {w : World} {lo hi : Nat} {v : Value} {l : List Int} (h : IS w lo hi v l) (n : Nat) : IS (w.drewN n) lo hi v l := h
theorem ISr.draws {w : World} {hi : Nat} {v : Value} {ls : List Int} (h : ISr w hi v ls) (n : Nat) : ISr (w.drewN n) hi v ls := h
theorem IS.nil (w : World) (lo hi : Nat) : IS w lo hi (.slice none 0 0) [] := ⟨none, 0, rfl, Nat.le_refl _, Nat.zero_le _, fun h => absurd rfl h⟩
theorem IS.of_BK {w : World} {lo hi b off cap : Nat} {l : List Int} (h : BK w b off l.length 3 (fun i => .int .i64 (l.getD i 0))) (hc : l.length ≤ cap) (hm : cap ≤ maxLen) (hlo : lo ≤ b) (hhi : b < hi) : IS w lo hi (.slice (some ⟨b, off, none⟩) l.length cap) l :=
  ⟨_, _, rfl, hc, hm, fun _ => ⟨b, off, rfl, hlo, hhi, h⟩⟩
/-- what the call itself has made -/
theorem IS.of_owned {w : World} {B : Nat} {v : Value} {l : List Int} (h : w.ownsRow B 3 1 v l.length (l.map (Value.int .i64))) : IS w B w.heap.size v l := by
  obtain ⟨h1, h2⟩ := h
  rcases h2 with ⟨rfl, h0⟩ | ⟨g, cap, cur, rfl, hg, hh, hn, hc, hs, ht⟩
  · have : l = [] := List.length_eq_zero_iff.1 h0
    subst this; exact IS.nil _ _ _
  · have hbk : BK w g 0 l.length 3 (fun i => .int .i64 (l.getD i 0)) := ⟨cur, hh, fun i hi => by
      rw [Nat.zero_add, ← Array.getElem?_toList]
      have e1 : (cur.toList.take (l.length * 1))[i]? = (l.map (Value.int .i64))[i]? := by rw [ht]
      rw [List.getElem?_take_of_lt (by omega)] at e1
      rw [e1, List.getElem?_map, List.getElem?_eq_getElem hi]
      show _ = some (Value.int .i64 (l.getD i 0))
      rw [List.getD_eq_getElem?_getD, List.getElem?_eq_getElem hi]; rfl⟩
    exact IS.of_BK hbk hn hc hg hbk.lt

def allIn (l : List Int) (lo hi : Int) : Bool := l.all fun x => inB x lo hi
theorem allIn_step (l : List Int) (lo hi : Int) (k : Nat) (h : k < l.length) : allIn (l.take (k + 1)) lo hi = (allIn (l.take k) lo hi && inB (l.getD k 0) lo hi) := by
  unfold allIn
  rw [List.take_succ_eq_append_getElem h, List.all_append, List.getD_eq_getElem?_getD, List.getElem?_eq_getElem h]; simp
theorem allIn_false (l : List Int) (lo hi : Int) (k : Nat) (h : k < l.length) (hf : inB (l.getD k 0) lo hi = false) : allIn l lo hi = false := by
  unfold allIn
  rw [List.all_eq_false]
  refine ⟨l.getD k 0, ?_, by rw [hf]; simp⟩
  rw [List.getD_eq_getElem?_getD, List.getElem?_eq_getElem h]; exact List.getElem_mem h

set_option maxHeartbeats 1000000 in
theorem allWithin_any (l : List Int) (v : Value) (lo hi : Int) (hb : Nat) (w : World) (h : ISr w hb v l) :
    Calls Try.prog 81 #[v, .int .i64 lo, .int .i64 hi] w fun e w' => e = .returned (.bool (allIn l lo hi)) ∧ w = w' := by
  rcases h.cases with ⟨rfl, a, cap, rfl⟩ | ⟨hpos, hlen, b, off, cap, rfl, hbb, hcell⟩
  · go_enter Try.func81, Try.ntmps81
    go_wp2
    refine wp_loop_rounds 1 ?_
    rw [rounds_succ]
    go_wp2
    go_ret
    exact ⟨rfl, rfl⟩
  · obtain ⟨n, hn⟩ : ∃ n, n = l.length := ⟨_, rfl⟩
    rw [← hn] at hlen hpos ⊢
    have HN := Lib.hid hn; clear hn
    have HC := Lib.hid hcell; clear hcell
    go_enter Try.func81, Try.ntmps81
    go_wp2
    go_loop [8, 11] (fun x i => ∃ k : Nat, k ≤ n ∧ i = .int .i64 k ∧ allIn (l.take k) lo hi = true) (fun _ i => n - (intOf i).toNat)
    case atStart => exact ⟨0, by omega, rfl, rfl⟩
    case round =>
      obtain ⟨k, hk, rfl, hall⟩ := hrel
      have HA := Lib.hid hall; clear hall
      by_cases hlt : k < n
      · have hl : k < l.length := by rw [← HN.out]; exact hlt
        have hck := HC.out k hl
        have hst := allIn_step l lo hi k hl
        have hfl := allIn_false l lo hi k hl
        have HS := Lib.hid hst; clear hst
        have HF := Lib.hid hfl; clear hfl hl
        generalize l.getD k 0 = x at *
        cases hx : inB x lo hi
        · have HX := Lib.hid hx
          go_wp2_with (go_at_call 87; (with_reducible refine (within_any _ _ _ _).mono ?_); rintro e w' ⟨rfl, rfl⟩)
          go_ret
          exact ⟨ret_bool (HF.out HX.out).symm, rfl⟩
        · have HX := Lib.hid hx
          go_wp2_with (go_at_call 87; (with_reducible refine (within_any _ _ _ _).mono ?_); rintro e w' ⟨rfl, rfl⟩)
          go_round
          case rel => exact ⟨k + 1, by omega, by go_num, by rw [HS.out, HA.out, HX.out]; rfl⟩
          case measure => simp [intOf]; omega
      · obtain rfl : k = n := by omega
        go_wp2
        go_ret
        refine ⟨ret_bool ?_, rfl⟩
        have := HA.out
        rw [HN.out, List.take_length] at this
        exact this.symm
end Go.Proofs.Ytchkcjpahlimjaa
