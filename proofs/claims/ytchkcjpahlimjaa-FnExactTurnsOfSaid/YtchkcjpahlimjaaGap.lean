/- Coins without a common divisor reach every sum from 870 on. No program in sight. -/
namespace Go.Proofs.Ytchkcjpahlimjaa
set_option linter.unusedVariables false

/-- n is a sum of at most k coins -/
def rk (L : List Nat) : Nat → Nat → Prop
  | 0, n => n = 0
  | k + 1, n => rk L k n ∨ ∃ c, c ∈ L ∧ c ≤ n ∧ rk L k (n - c)
theorem rk_zero (L : List Nat) : ∀ k, rk L k 0
  | 0 => rfl
  | k + 1 => .inl (rk_zero L k)
theorem rk_add {L : List Nat} {c : Nat} (hc : c ∈ L) {k n : Nat} (h : rk L k n) : rk L (k + 1) (n + c) :=
  .inr ⟨c, hc, by omega, by rw [Nat.add_sub_cancel]; exact h⟩
theorem rk_le {L : List Nat} (hL : ∀ c ∈ L, c ≤ 30) : ∀ k n, rk L k n → n ≤ 30 * k
  | 0, n, h => by have : n = 0 := h; omega
  | k + 1, n, h => by
    rcases h with h | ⟨c, hc, hle, h⟩
    · have := rk_le hL k n h; omega
    · have := rk_le hL k _ h; have := hL c hc; omega
theorem rk_many {L : List Nat} {a : Nat} (ha : a ∈ L) : ∀ (q k n : Nat), rk L k n → ∃ k', rk L k' (n + q * a)
  | 0, k, n, h => ⟨k, by simpa using h⟩
  | q + 1, k, n, h => by
    obtain ⟨k', h'⟩ := rk_many ha q k n h
    exact ⟨k' + 1, by rw [Nat.succ_mul, ← Nat.add_assoc]; exact rk_add ha h'⟩

/-- the common divisor of a list -/
def gcdN (L : List Nat) : Nat := L.foldl Nat.gcd 0

section
variable (a : Nat) (S : Nat → Prop)
/-- a step that stays in S, modulo a -/
def Stay (d : Nat) : Prop := ∀ r, r < a → S r → S ((r + d) % a)
variable {a : Nat} {S : Nat → Prop}
theorem stay_cong (ha : 0 < a) {d e : Nat} (h : d % a = e % a) (hd : Stay a S d) : Stay a S e := by
  intro r hr hs
  have := hd r hr hs
  rwa [Nat.add_mod, h, ← Nat.add_mod] at this
theorem stay_add (ha : 0 < a) {d e : Nat} (hd : Stay a S d) (he : Stay a S e) : Stay a S (d + e) := by
  intro r hr hs
  have h1 := he _ (Nat.mod_lt _ ha) (hd r hr hs)
  rwa [Nat.add_mod, Nat.mod_mod, ← Nat.add_mod, Nat.add_assoc] at h1
theorem stay_zero (ha : 0 < a) : Stay a S 0 := by
  intro r hr hs; rw [Nat.add_zero, Nat.mod_eq_of_lt hr]; exact hs
theorem stay_mul (ha : 0 < a) {d : Nat} (hd : Stay a S d) : ∀ q, Stay a S (d * q)
  | 0 => stay_zero ha
  | q + 1 => by rw [Nat.mul_succ]; exact stay_add ha (stay_mul ha hd q) hd
theorem stay_mod (ha : 0 < a) {d e : Nat} (hd : Stay a S d) (he : Stay a S e) : Stay a S (e % d) := by
  have h := stay_add ha he (stay_mul ha hd (e / d * (a - 1)))
  refine stay_cong ha ?_ h
  have e1 : e + d * (e / d * (a - 1)) = e % d + a * (d * (e / d)) := by
    have h1 := Nat.mod_add_div e d
    have h2 : d * (e / d * (a - 1)) + d * (e / d) = a * (d * (e / d)) := by
      have : a = (a - 1) + 1 := by omega
      rw [← Nat.mul_assoc]
      conv => rhs; rw [this, Nat.add_mul, Nat.one_mul]
      rw [Nat.mul_comm (d * (e / d)) (a - 1)]
    omega
  rw [e1, Nat.add_mul_mod_self_left]
theorem stay_gcd (ha : 0 < a) : ∀ (d e : Nat), Stay a S d → Stay a S e → Stay a S (Nat.gcd d e) := by
  intro d
  induction d using Nat.strongRecOn with
  | _ d ih =>
    intro e hd he
    rcases Nat.eq_zero_or_pos d with h | h
    · subst h; rw [Nat.gcd_zero_left]; exact he
    · rw [Nat.gcd_rec]; exact ih (e % d) (Nat.mod_lt _ h) d (stay_mod ha hd he) hd
theorem stay_fold (ha : 0 < a) : ∀ (L : List Nat) (g : Nat), Stay a S g → (∀ c ∈ L, Stay a S c) → Stay a S (L.foldl Nat.gcd g)
  | [], g, hg, _ => hg
  | c :: L, g, hg, h => stay_fold ha L _ (stay_gcd ha g c hg (h c (by simp))) fun c' hc' => h c' (by simp [hc'])
theorem stay_all (ha : 0 < a) {L : List Nat} (hL : ∀ c ∈ L, Stay a S c) (hg : gcdN L = 1) (h0 : S 0) : ∀ r, r < a → S r := by
  have h1 : Stay a S 1 := by rw [← hg]; exact stay_fold ha L 0 (stay_zero ha) hL
  intro r
  induction r with
  | zero => intro _; exact h0
  | succ r ih =>
    intro hr
    have := h1 r (by omega) (ih (by omega))
    rwa [Nat.mod_eq_of_lt hr] at this
end

/-- how many of the first n have the property -/
noncomputable def cnt (S : Nat → Prop) (n : Nat) : Nat := by
  classical exact ((List.range n).filter fun r => decide (S r)).length
theorem cnt_succ (S : Nat → Prop) (n : Nat) : cnt S (n + 1) = cnt S n + (by classical exact if S n then 1 else 0) := by
  classical
  unfold cnt
  rw [List.range_succ, List.filter_append, List.length_append]
  congr 1
  by_cases h : S n <;> simp [h]
theorem cnt_le (S : Nat → Prop) : ∀ n, cnt S n ≤ n
  | 0 => by simp [cnt]
  | n + 1 => by classical
    rw [cnt_succ]; have := cnt_le S n; split <;> omega
theorem cnt_mono {S T : Nat → Prop} (h : ∀ r, S r → T r) : ∀ n, cnt S n ≤ cnt T n
  | 0 => by simp [cnt]
  | n + 1 => by classical
    rw [cnt_succ, cnt_succ]
    have := cnt_mono h n
    have h1 := h n
    split <;> split <;> first | omega | (exfalso; rename_i a b; exact b (h1 a))
theorem cnt_same {S T : Nat → Prop} (h : ∀ r, S r → T r) : ∀ n, cnt S n = cnt T n → ∀ r, r < n → T r → S r
  | 0, _, r, hr, _ => by omega
  | n + 1, he, r, hr, ht => by classical
    rw [cnt_succ, cnt_succ] at he
    have hm := cnt_mono h n
    have h1 := h n
    by_cases e : r = n
    · subst e
      by_cases hs : S r
      · exact hs
      · rw [if_neg hs, if_pos ht] at he; omega
    · refine cnt_same h n ?_ r (by omega) ht
      by_cases hs : S n
      · rw [if_pos hs, if_pos (h1 hs)] at he; omega
      · rw [if_neg hs] at he; split at he <;> omega
theorem cnt_full {S : Nat → Prop} : ∀ n, cnt S n = n → ∀ r, r < n → S r
  | 0, _, r, hr => by omega
  | n + 1, he, r, hr => by classical
    rw [cnt_succ] at he
    have hl := cnt_le S n
    by_cases hs : S n
    · rw [if_pos hs] at he
      by_cases e : r = n
      · subst e; exact hs
      · exact cnt_full n (by omega) r (by omega)
    · rw [if_neg hs] at he; omega

/-- the rests modulo a of the sums of at most k coins -/
def Rst (L : List Nat) (a k r : Nat) : Prop := ∃ m, m % a = r ∧ rk L k m
theorem rst_full {L : List Nat} {a : Nat} (ha : 0 < a) (hg : gcdN L = 1) : ∀ k, k + 1 ≤ cnt (Rst L a k) a ∨ ∀ r, r < a → Rst L a k r
  | 0 => by
    classical
    left
    have h0 : Rst L a 0 0 := ⟨0, by simp, rfl⟩
    have : ∀ n, 0 < n → 1 ≤ cnt (Rst L a 0) n := by
      intro n hn
      induction n with
      | zero => omega
      | succ n ih =>
        rw [cnt_succ]
        rcases Nat.eq_zero_or_pos n with e | e
        · subst e; rw [if_pos h0]; omega
        · have := ih e; omega
    exact this a ha
  | k + 1 => by
    have hsub : ∀ r, Rst L a k r → Rst L a (k + 1) r := fun r ⟨m, hm, h⟩ => ⟨m, hm, .inl h⟩
    rcases rst_full ha hg k with h | h
    · by_cases he : cnt (Rst L a k) a = cnt (Rst L a (k + 1)) a
      · right
        have hclosed : ∀ c ∈ L, Stay a (Rst L a k) c := by
          intro c hc r hr ⟨m, hm, hk⟩
          refine cnt_same hsub a he _ (Nat.mod_lt _ ha) ⟨m + c, ?_, rk_add hc hk⟩
          rw [Nat.add_mod, hm, ← Nat.mod_eq_of_lt hr, ← Nat.add_mod, Nat.mod_eq_of_lt hr]
        intro r hr
        exact hsub r (stay_all ha hclosed hg ⟨0, by simp, rk_zero L k⟩ r hr)
      · left
        have := cnt_mono hsub a
        omega
    · right; intro r hr; exact hsub r (h r hr)

/-- every number from 870 on is a sum of coins -/
theorem reach_all {L : List Nat} {a : Nat} (haL : a ∈ L) (hL : ∀ c ∈ L, 1 ≤ c ∧ c ≤ 30) (hg : gcdN L = 1) (n : Nat) (hn : 870 ≤ n) : ∃ k, rk L k n := by
  have ha := hL a haL
  have hall : ∀ r, r < a → Rst L a (a - 1) r := by
    rcases rst_full (L := L) (a := a) (by omega) hg (a - 1) with h | h
    · have := cnt_le (Rst L a (a - 1)) a
      exact cnt_full a (by omega)
    · exact h
  obtain ⟨m, hm, hk⟩ := hall (n % a) (Nat.mod_lt _ (by omega))
  have hle := rk_le (fun c hc => (hL c hc).2) _ _ hk
  have hmn : m ≤ n := by omega
  have e : n = m + (n - m) / a * a := by
    have h1 : (n - m) % a = 0 := by
      have := Nat.sub_mod_eq_zero_of_mod_eq hm.symm
      exact this
    have := Nat.div_add_mod (n - m) a
    rw [Nat.mul_comm] at this
    omega
  obtain ⟨k', h'⟩ := rk_many haL ((n - m) / a) _ _ hk
  exact ⟨k', by rw [e]; exact h'⟩
end Go.Proofs.Ytchkcjpahlimjaa
