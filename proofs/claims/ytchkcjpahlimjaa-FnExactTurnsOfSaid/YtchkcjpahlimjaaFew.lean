/- The least numbers of coins, and the greatest sum that cannot be paid. No program in sight. -/
import Derived.Test.YtchkcjpahlimjaaGap
import Derived.Test.YtchkcjpahlimjaaMath
namespace Go.Proofs.Ytchkcjpahlimjaa
set_option linter.unusedVariables false

/-- one coin more is looked at -/
def bstep (t : List Int) (n : Nat) (b c : Int) : Int :=
  if c ≤ n ∧ 0 ≤ t.getD ((n : Int) - c).toNat 0 ∧ (b < 0 ∨ t.getD ((n : Int) - c).toNat 0 + 1 < b) then t.getD ((n : Int) - c).toNat 0 + 1 else b
def fbest (l t : List Int) (n : Nat) : Int := l.foldl (bstep t n) (-1)
/-- the least numbers of coins up to n; -1 where there is no way -/
def fwT (l : List Int) : Nat → List Int
  | 0 => [0]
  | n + 1 => fwT l n ++ [fbest l (fwT l n) (n + 1)]
theorem fwT_len (l : List Int) : ∀ n, (fwT l n).length = n + 1
  | 0 => rfl
  | n + 1 => by unfold fwT; rw [List.length_append, fwT_len l n]; rfl
theorem fwT_getD (l : List Int) (n : Nat) : ∀ N, n ≤ N → (fwT l N).getD n 0 = (fwT l n).getD n 0
  | 0, h => by have : n = 0 := by omega
               subst this; rfl
  | N + 1, h => by
    by_cases e : n = N + 1
    · subst e; rfl
    · rw [← fwT_getD l n N (by omega)]
      show (fwT l N ++ _).getD n 0 = _
      rw [List.getD_eq_getElem?_getD, List.getD_eq_getElem?_getD, List.getElem?_append_left (by rw [fwT_len]; omega)]
theorem fwT_last (l : List Int) (n : Nat) : (fwT l (n + 1)).getD (n + 1) 0 = fbest l (fwT l n) (n + 1) := by
  show (fwT l n ++ _).getD (n + 1) 0 = _
  rw [List.getD_eq_getElem?_getD, List.getElem?_append_right (by rw [fwT_len]; omega), fwT_len]; simp
theorem bstep_bd {t : List Int} {n : Nat} {b c : Int} (hb : -1 ≤ b ∧ b ≤ n) (hc : 1 ≤ c) (ht : ∀ i : Nat, i < n → -1 ≤ t.getD i 0 ∧ t.getD i 0 ≤ i) : -1 ≤ bstep t n b c ∧ bstep t n b c ≤ n := by
  unfold bstep
  split
  · rename_i h
    have := ht ((n : Int) - c).toNat (by omega)
    omega
  · exact hb
theorem fold_bd {t : List Int} {n : Nat} (ht : ∀ i : Nat, i < n → -1 ≤ t.getD i 0 ∧ t.getD i 0 ≤ i) : ∀ (l : List Int) (b : Int), (∀ c ∈ l, 1 ≤ c) → -1 ≤ b ∧ b ≤ n → -1 ≤ l.foldl (bstep t n) b ∧ l.foldl (bstep t n) b ≤ n
  | [], b, _, hb => hb
  | c :: l, b, hl, hb => fold_bd ht l _ (fun c' h' => hl c' (by simp [h'])) (bstep_bd hb (hl c (by simp)) ht)
theorem fwT_bd {l : List Int} (hl : ∀ c ∈ l, 1 ≤ c) : ∀ N n : Nat, n ≤ N → -1 ≤ (fwT l N).getD n 0 ∧ (fwT l N).getD n 0 ≤ n
  | 0, n, h => by have : n = 0 := by omega
                  subst this; simp [fwT]
  | N + 1, n, h => by
    by_cases e : n = N + 1
    · subst e
      rw [fwT_last]
      exact fold_bd (fun i hi => fwT_bd hl N i (by omega)) l _ hl ⟨by omega, by omega⟩
    · rw [fwT_getD l n (N + 1) h, ← fwT_getD l n N (by omega)]
      exact fwT_bd hl N n (by omega)
theorem fold_keep {t : List Int} {n : Nat} : ∀ (l : List Int) (b : Int), 0 ≤ b → 0 ≤ l.foldl (bstep t n) b
  | [], b, hb => hb
  | c :: l, b, hb => by
    refine fold_keep l _ ?_
    unfold bstep; split <;> omega
theorem fold_some {t : List Int} {n : Nat} : ∀ (l : List Int) (b : Int), (∃ c, c ∈ l ∧ c ≤ n ∧ 0 ≤ t.getD ((n : Int) - c).toNat 0) → 0 ≤ l.foldl (bstep t n) b
  | [], b, h => by obtain ⟨c, hc, _⟩ := h; simp at hc
  | c :: l, b, h => by
    obtain ⟨d, hd, h1, h2⟩ := h
    rcases List.mem_cons.1 hd with e | hd
    · subst e
      refine fold_keep l _ ?_
      unfold bstep
      split
      · omega
      · omega
    · exact fold_some l _ ⟨d, hd, h1, h2⟩
theorem few_nonneg {l : List Int} (hl : ∀ c ∈ l, 1 ≤ c) : ∀ (k n : Nat), rk (l.map Int.toNat) k n → 0 ≤ (fwT l n).getD n 0
  | 0, n, h => by have : n = 0 := h
                  subst this; simp [fwT]
  | k + 1, n, h => by
    rcases h with h | ⟨c, hc, hle, h⟩
    · exact few_nonneg hl k n h
    · obtain ⟨d, hd, rfl⟩ := List.mem_map.1 hc
      have hd1 := hl d hd
      have ih := few_nonneg hl k _ h
      cases n with
      | zero => omega
      | succ n =>
        rw [fwT_last]
        refine fold_some l _ ⟨d, hd, by omega, ?_⟩
        have e : (((n + 1 : Nat) : Int) - d).toNat = n + 1 - d.toNat := by omega
        rw [e, fwT_getD l _ n (by omega)]
        exact ih

def gcdL (l : List Int) : Int := l.foldl gcdI 0
theorem gcdL_fold : ∀ (l : List Int) (g : Nat), (∀ c ∈ l, 1 ≤ c) → l.foldl gcdI (g : Int) = ((l.map Int.toNat).foldl Nat.gcd g : Nat)
  | [], g, _ => rfl
  | c :: l, g, hl => by
    have hc := hl c (by simp)
    have e : gcdI (g : Int) c = ((Nat.gcd g c.toNat : Nat) : Int) := by
      unfold gcdI Int.gcd
      rw [show c.natAbs = c.toNat from by omega]; rfl
    show l.foldl gcdI (gcdI g c) = _
    rw [e, gcdL_fold l _ (fun c' h' => hl c' (by simp [h']))]; rfl
theorem gcd_dvd_fold : ∀ (L : List Nat) (g : Nat), L.foldl Nat.gcd g ∣ g
  | [], g => Nat.dvd_refl _
  | c :: L, g => Nat.dvd_trans (gcd_dvd_fold L _) (Nat.gcd_dvd_left g c)
theorem gcdL_one {l : List Int} (hl : ∀ c ∈ l, 1 ≤ c) (hne : l ≠ []) (hg : gcdL l ≤ 1) : gcdN (l.map Int.toNat) = 1 := by
  have h := gcdL_fold l 0 hl
  unfold gcdL at hg
  have h' : l.foldl gcdI 0 = (gcdN (l.map Int.toNat) : Nat) := h
  rw [h'] at hg
  have hpos : gcdN (l.map Int.toNat) ≠ 0 := by
    cases l with
    | nil => exact absurd rfl hne
    | cons c l =>
      have hc := hl c (by simp)
      intro h0
      have hd : gcdN ((c :: l).map Int.toNat) ∣ c.toNat := by
        unfold gcdN
        simp only [List.map_cons, List.foldl_cons, Nat.gcd_zero_left]
        exact gcd_dvd_fold _ _
      rw [h0] at hd
      have := Nat.eq_zero_of_zero_dvd hd
      omega
  omega
theorem few_far {l : List Int} (hl : ∀ c ∈ l, 1 ≤ c ∧ c ≤ 30) (hne : l ≠ []) (hg : gcdL l ≤ 1) (n : Nat) (hn : 870 ≤ n) : 0 ≤ (fwT l n).getD n 0 := by
  cases l with
  | nil => exact absurd rfl hne
  | cons c l =>
    have hc := hl c (by simp)
    obtain ⟨k, hk⟩ := reach_all (L := (c :: l).map Int.toNat) (a := c.toNat) (by simp) (by
      intro d hd
      obtain ⟨x, hx, rfl⟩ := List.mem_map.1 hd
      have := hl x hx; omega) (gcdL_one (fun x hx => (hl x hx).1) hne hg) n hn
    exact few_nonneg (fun x hx => (hl x hx).1) k n hk

/-- the greatest number below n without a way, or -1 -/
def gapD (l : List Int) : Nat → Int
  | 0 => -1
  | n + 1 => if (fwT l n).getD n 0 < 0 then n else gapD l n
theorem gapD_far {l : List Int} (hl : ∀ c ∈ l, 1 ≤ c ∧ c ≤ 30) (hne : l ≠ []) (hg : gcdL l ≤ 1) : ∀ d, gapD l (870 + d) = gapD l 870
  | 0 => rfl
  | d + 1 => by
    show (if (fwT l (870 + d)).getD (870 + d) 0 < 0 then _ else gapD l (870 + d)) = _
    rw [if_neg (by have := few_far hl hne hg (870 + d) (by omega); omega), gapD_far hl hne hg d]
theorem gapD_bd (l : List Int) : ∀ n, -1 ≤ gapD l n ∧ gapD l n < n
  | 0 => by simp [gapD]
  | n + 1 => by have := gapD_bd l n; unfold gapD; split <;> omega
end Go.Proofs.Ytchkcjpahlimjaa
