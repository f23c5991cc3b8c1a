/- Values modulo 10007 of functions on the whole points of the plane: plain law. -/
import Derived.Test.YtehhoplenloocaaB3
namespace Go.Proofs.Ytehhoplenloocaa
set_option linter.unusedVariables false
set_option linter.unusedSimpArgs false

/-! ### congruence -/
def Cg (a b : Int) : Prop := ∃ k : Int, a = b + 10007 * k
theorem Cg.refl (a : Int) : Cg a a := ⟨0, by omega⟩
theorem Cg.of_eq {a b : Int} (h : a = b) : Cg a b := ⟨0, by omega⟩
theorem Cg.symm {a b : Int} (h : Cg a b) : Cg b a := by obtain ⟨k, h⟩ := h; exact ⟨-k, by omega⟩
theorem Cg.trans {a b c : Int} (h : Cg a b) (g : Cg b c) : Cg a c := by obtain ⟨k, h⟩ := h; obtain ⟨l, g⟩ := g; exact ⟨k + l, by omega⟩
theorem Cg.add {a b c d : Int} (h : Cg a b) (g : Cg c d) : Cg (a + c) (b + d) := by obtain ⟨k, h⟩ := h; obtain ⟨l, g⟩ := g; exact ⟨k + l, by omega⟩
theorem Cg.sub {a b c d : Int} (h : Cg a b) (g : Cg c d) : Cg (a - c) (b - d) := by obtain ⟨k, h⟩ := h; obtain ⟨l, g⟩ := g; exact ⟨k - l, by omega⟩
theorem Cg.mul {a b c d : Int} (h : Cg a b) (g : Cg c d) : Cg (a * c) (b * d) := by
  obtain ⟨k, rfl⟩ := h; obtain ⟨l, rfl⟩ := g
  exact ⟨k * d + b * l + 10007 * (k * l), by grind⟩
theorem Cg.mod (a : Int) : Cg (a % 10007) a := ⟨-(a / 10007), by omega⟩
theorem Cg.eq {a b : Int} (h : Cg a b) (ha : 0 ≤ a ∧ a < 10007) (hb : 0 ≤ b ∧ b < 10007) : a = b := by obtain ⟨k, h⟩ := h; omega
theorem cg_iff {a b : Int} : Cg a b ↔ a % 10007 = b % 10007 := by
  constructor
  · rintro ⟨k, h⟩; omega
  · intro h; exact ⟨a / 10007 - b / 10007, by omega⟩
/-- what is not nought has an inverse -/
theorem inv_pow {f : Int} (h1 : 1 ≤ f) (h2 : f ≤ 10006) : Cg (f * powP f (-1)) 1 := by
  unfold powP
  rw [if_pos (by rw [inB_iff.2 ⟨h1, h2⟩]; decide), show ((-1 : Int) % 10006).toNat = 10005 by decide]
  have a := pmN_add f.toNat 1 10005
  rw [show 1 + 10005 = 10006 by rfl, fermatN _ (by omega) (by omega)] at a
  have b : pmN f.toNat 1 = f.toNat := by unfold pmN; rw [Nat.pow_one]; exact Nat.mod_eq_of_lt (by omega)
  rw [b] at a
  generalize pmN f.toNat 10005 = y at *
  have c : f * (y : Int) = ((f.toNat * y : Nat) : Int) := by
    rw [Int.natCast_mul]; congr 1; omega
  rw [c]
  generalize f.toNat * y = z at *
  exact cg_iff.2 (by omega)
def unitC (d : Int) : Prop := d % 10007 ≠ 0
theorem unit_inv {d : Int} (h : unitC d) : ∃ i, Cg (d * i) 1 := by
  unfold unitC at h
  refine ⟨powP (d % 10007) (-1), (Cg.mul (Cg.mod d).symm (Cg.refl _)).trans (inv_pow (by omega) (by omega))⟩
theorem unit_cancel {d x y : Int} (h : unitC d) (e : Cg (d * x) (d * y)) : Cg x y := by
  obtain ⟨i, hi⟩ := unit_inv h
  have a := Cg.mul (Cg.refl i) e
  have b : ∀ z, Cg (i * (d * z)) z := fun z => by
    have := Cg.mul hi (Cg.refl z)
    rw [show i * (d * z) = d * i * z by grind]
    exact this.trans (Cg.of_eq (Int.one_mul z))
  exact (b x).symm.trans (a.trans (b y))
theorem unit_mul {a b : Int} (h : unitC a) (k : unitC b) : unitC (a * b) := by
  intro e
  have : Cg (a * b) (a * 0) := by rw [Int.mul_zero]; exact cg_iff.2 e
  have := cg_iff.1 (unit_cancel h this)
  exact k this
theorem unit_cg {a b : Int} (h : Cg a b) (k : unitC b) : unitC a := by
  unfold unitC at *; rw [cg_iff.1 h]; exact k

/-! ### sums over windows -/
def smN (h : Int → Int) (lo : Int) : Nat → Int
  | 0 => 0
  | n + 1 => smN h lo n + h (lo + n)
theorem smN_add (h : Int → Int) (lo : Int) (n : Nat) : ∀ m, smN h lo (n + m) = smN h lo n + smN h (lo + n) m
  | 0 => by simp [smN]
  | m + 1 => by
    rw [← Nat.add_assoc, smN, smN_add h lo n m, smN, show lo + ((n + m : Nat) : Int) = lo + n + m by omega]; omega
theorem smN_zero {h : Int → Int} {lo : Int} : ∀ n : Nat, (∀ x, lo ≤ x → x < lo + n → h x = 0) → smN h lo n = 0
  | 0, _ => rfl
  | n + 1, H => by rw [smN, smN_zero n fun x h1 h2 => H x h1 (by omega), H _ (by omega) (by omega)]; rfl
theorem smN_cg {h h' : Int → Int} (lo : Int) (H : ∀ x, Cg (h x) (h' x)) : ∀ n, Cg (smN h lo n) (smN h' lo n)
  | 0 => Cg.refl _
  | n + 1 => (smN_cg lo H n).add (H _)
theorem smN_plus (h h' : Int → Int) (lo : Int) : ∀ n, smN (fun x => h x + h' x) lo n = smN h lo n + smN h' lo n
  | 0 => rfl
  | n + 1 => by rw [smN, smN, smN, smN_plus h h' lo n]; omega
theorem smN_smul (k : Int) (h : Int → Int) (lo : Int) : ∀ n, smN (fun x => k * h x) lo n = k * smN h lo n
  | 0 => by simp [smN]
  | n + 1 => by rw [smN, smN, smN_smul k h lo n, Int.mul_add]
theorem smN_shift (h : Int → Int) (g lo : Int) : ∀ n, smN (fun x => h (x - g)) lo n = smN h (lo - g) n
  | 0 => rfl
  | n + 1 => by rw [smN, smN, smN_shift h g lo n, show lo + (n : Int) - g = lo - g + n by omega]
theorem smN_win {h : Int → Int} {A lo : Int} {m n : Nat} (hs : ∀ x, h x ≠ 0 → A ≤ x ∧ x < A + m) (h1 : lo ≤ A) (h2 : A + m ≤ lo + n) : smN h lo n = smN h A m := by
  obtain ⟨k, hk⟩ : ∃ k : Nat, A = lo + k := ⟨(A - lo).toNat, by omega⟩
  obtain ⟨r, hr⟩ : ∃ r : Nat, n = k + (m + r) := ⟨n - k - m, by omega⟩
  subst hr hk
  have z : ∀ x, ¬ (lo + k ≤ x ∧ x < lo + k + m) → h x = 0 := fun x hx => Classical.byContradiction fun e => hx (hs x e)
  rw [smN_add, smN_add, smN_zero k fun x _ h => z x (by omega), smN_zero r fun x h _ => z x (by omega)]; omega

/-! ### functions on the plane -/
abbrev ZF := Int → Int → Int
structure Mono (μ : ZF) : Prop where
  zero : Cg (μ 0 0) 1
  add : ∀ a b c d, Cg (μ (a + c) (b + d)) (μ a b * μ c d)
def sm2 (μ f : ZF) (l1 : Int) (n1 : Nat) (l2 : Int) (n2 : Nat) : Int := smN (fun a => smN (fun b => f a b * μ a b) l2 n2) l1 n1
def Sp (f : ZF) (l1 : Int) (n1 : Nat) (l2 : Int) (n2 : Nat) : Prop := ∀ a b, f a b ≠ 0 → (l1 ≤ a ∧ a < l1 + n1) ∧ (l2 ≤ b ∧ b < l2 + n2)
theorem sm2_win {μ f : ZF} {A B l1 l2 : Int} {m k n1 n2 : Nat} (hs : Sp f A m B k) (h1 : l1 ≤ A) (h2 : A + m ≤ l1 + n1) (h3 : l2 ≤ B) (h4 : B + k ≤ l2 + n2) : sm2 μ f l1 n1 l2 n2 = sm2 μ f A m B k := by
  have e : (fun a => smN (fun b => f a b * μ a b) l2 n2) = fun a => smN (fun b => f a b * μ a b) B k := by
    funext a
    exact smN_win (fun x hx => (hs a x fun e => hx (by rw [e, Int.zero_mul])).2) h3 h4
  unfold sm2
  rw [e]
  refine smN_win (fun a ha => Classical.byContradiction fun hn => ha ?_) h1 h2
  refine smN_zero k fun b _ _ => ?_
  have : f a b = 0 := Classical.byContradiction fun e => hn (hs a b e).1
  rw [this, Int.zero_mul]
/-- a function with finitely many values that are not nought, and the value of its sum -/
def FV (μ f : ZF) (c : Int) : Prop := ∃ R : Nat, Sp f (-R) (2 * R) (-R) (2 * R) ∧ Cg (sm2 μ f (-R) (2 * R) (-R) (2 * R)) c
theorem FV.big {μ f : ZF} {c : Int} (h : FV μ f c) : ∃ R : Nat, ∀ R' : Nat, R ≤ R' → Sp f (-R') (2 * R') (-R') (2 * R') ∧ Cg (sm2 μ f (-R') (2 * R') (-R') (2 * R')) c := by
  obtain ⟨R, h1, h2⟩ := h
  refine ⟨R, fun R' hR => ⟨fun a b e => ?_, ?_⟩⟩
  · have := h1 a b e; omega
  · rw [sm2_win h1 (by omega) (by omega) (by omega) (by omega)]; exact h2
theorem FV.unique {μ f : ZF} {c d : Int} (h : FV μ f c) (k : FV μ f d) : Cg c d := by
  obtain ⟨R, h⟩ := h.big
  obtain ⟨S, k⟩ := k.big
  exact (h (R + S) (by omega)).2.symm.trans (k (R + S) (by omega)).2
theorem FV.cg {μ f : ZF} {c d : Int} (h : FV μ f c) (k : Cg c d) : FV μ f d := by
  obtain ⟨R, h1, h2⟩ := h; exact ⟨R, h1, h2.trans k⟩
theorem FV.add {μ f g : ZF} {c d : Int} (h : FV μ f c) (k : FV μ g d) : FV μ (fun a b => f a b + g a b) (c + d) := by
  obtain ⟨R, h⟩ := h.big
  obtain ⟨S, k⟩ := k.big
  obtain ⟨h1, h2⟩ := h (R + S) (by omega)
  obtain ⟨k1, k2⟩ := k (R + S) (by omega)
  refine ⟨R + S, fun a b e => ?_, ?_⟩
  · have e : f a b + g a b ≠ 0 := e
    by_cases z : f a b = 0
    · exact k1 a b (by omega)
    · exact h1 a b z
  · have e : sm2 μ (fun a b => f a b + g a b) (-(R + S : Nat)) (2 * (R + S)) (-(R + S : Nat)) (2 * (R + S)) = sm2 μ f (-(R + S : Nat)) (2 * (R + S)) (-(R + S : Nat)) (2 * (R + S)) + sm2 μ g (-(R + S : Nat)) (2 * (R + S)) (-(R + S : Nat)) (2 * (R + S)) := by
      unfold sm2
      rw [← smN_plus]; congr 1; funext a
      rw [← smN_plus]; congr 1; funext b
      rw [Int.add_mul]
    rw [e]; exact h2.add k2
theorem FV.smul {μ f : ZF} {c : Int} (k : Int) (h : FV μ f c) : FV μ (fun a b => k * f a b) (k * c) := by
  obtain ⟨R, h1, h2⟩ := h
  refine ⟨R, fun a b e => h1 a b fun z => e (by show k * f a b = 0; rw [z, Int.mul_zero]), ?_⟩
  have e : sm2 μ (fun a b => k * f a b) (-R) (2 * R) (-R) (2 * R) = k * sm2 μ f (-R) (2 * R) (-R) (2 * R) := by
    unfold sm2
    rw [← smN_smul]; congr 1; funext a
    rw [← smN_smul]; congr 1; funext b
    rw [Int.mul_assoc]
  rw [e]; exact (Cg.refl k).mul h2
theorem FV.zero (μ : ZF) : FV μ (fun _ _ => 0) 0 := ⟨0, fun a b e => absurd rfl e, Cg.refl _⟩
theorem FV.shift {μ f : ZF} (hm : Mono μ) {c : Int} (g h : Int) (k : FV μ f c) : FV μ (fun a b => f (a - g) (b - h)) (μ g h * c) := by
  obtain ⟨R, k1, k2⟩ := k
  obtain ⟨S, hS⟩ : ∃ S : Nat, S = R + g.natAbs + h.natAbs := ⟨_, rfl⟩
  refine ⟨S, fun a b e => ?_, ?_⟩
  · have := k1 _ _ e; omega
  · have e1 : Cg (sm2 μ (fun a b => f (a - g) (b - h)) (-S) (2 * S) (-S) (2 * S)) (smN (fun a => smN (fun b => μ g h * (f (a - g) (b - h) * μ (a - g) (b - h))) (-S) (2 * S)) (-S) (2 * S)) := by
      refine smN_cg _ (fun a => smN_cg _ (fun b => ?_) _) _
      have m := hm.add (a - g) (b - h) g h
      rw [show a - g + g = a by omega, show b - h + h = b by omega] at m
      exact ((Cg.refl (f (a - g) (b - h))).mul m).trans (Cg.of_eq (by grind))
    have e2 : smN (fun a => smN (fun b => μ g h * (f (a - g) (b - h) * μ (a - g) (b - h))) (-S) (2 * S)) (-S) (2 * S) = μ g h * sm2 μ f (-S - g) (2 * S) (-S - h) (2 * S) := by
      unfold sm2
      rw [← smN_shift (fun a => smN (fun b => f a b * μ a b) (-S - h) (2 * S)), ← smN_smul]
      congr 1; funext a
      rw [smN_smul, ← smN_shift (fun b => f (a - g) b * μ (a - g) b)]
    rw [e2, sm2_win k1 (by omega) (by omega) (by omega) (by omega)] at e1
    exact e1.trans ((Cg.refl _).mul k2)
def dlF (x y : Int) : ZF := fun a b => if a = x ∧ b = y then 1 else 0
theorem FV.point {μ : ZF} (x y : Int) : FV μ (dlF x y) (μ x y) := by
  have hs : Sp (dlF x y) x 1 y 1 := fun a b e => by
    unfold dlF at e
    split at e
    · omega
    · exact absurd rfl e
  obtain ⟨S, hS⟩ : ∃ S : Nat, S = x.natAbs + y.natAbs + 1 := ⟨_, rfl⟩
  refine ⟨S, fun a b e => ?_, ?_⟩
  · have := hs a b e; omega
  · rw [sm2_win hs (by omega) (by omega) (by omega) (by omega)]
    unfold sm2
    rw [smN, smN, smN, smN]
    unfold dlF
    exact Cg.of_eq (by simp)

/-! ### differences -/
def Df (g : Int × Int) (f : ZF) : ZF := fun a b => f a b - f (a - g.1) (b - g.2)
def denF (μ : ZF) (g : Int × Int) : Int := 1 - μ g.1 g.2
theorem FV.df {μ f : ZF} (hm : Mono μ) {c : Int} (g : Int × Int) (h : FV μ f c) : FV μ (Df g f) (denF μ g * c) := by
  have a := h.add ((h.shift hm g.1 g.2).smul (-1))
  have e : (fun a b => f a b + -1 * f (a - g.1) (b - g.2)) = Df g f := by funext a b; unfold Df; omega
  rw [e] at a
  refine a.cg (Cg.of_eq ?_)
  unfold denF; grind
theorem Df_comm (g h : Int × Int) (f : ZF) : Df g (Df h f) = Df h (Df g f) := by
  funext a b
  unfold Df
  rw [show a - g.1 - h.1 = a - h.1 - g.1 by omega, show b - g.2 - h.2 = b - h.2 - g.2 by omega]; omega
theorem Df_add (g : Int × Int) (f k : ZF) : Df g (fun a b => f a b + k a b) = fun a b => Df g f a b + Df g k a b := by
  funext a b; unfold Df; dsimp only; omega
theorem Df_smul (g : Int × Int) (c : Int) (f : ZF) : Df g (fun a b => c * f a b) = fun a b => c * Df g f a b := by
  funext a b; unfold Df; rw [Int.mul_sub]
def DL : List (Int × Int) → ZF → ZF
  | [], f => f
  | g :: L, f => Df g (DL L f)
def dens (μ : ZF) : List (Int × Int) → Int
  | [] => 1
  | g :: L => denF μ g * dens μ L
theorem FV.dl {μ f : ZF} (hm : Mono μ) {c : Int} (h : FV μ f c) : ∀ L, FV μ (DL L f) (dens μ L * c)
  | [] => by rw [dens, Int.one_mul]; exact h
  | g :: L => by rw [dens, Int.mul_assoc]; exact (FV.dl hm h L).df hm g
theorem DL_df (g : Int × Int) (f : ZF) : ∀ L, DL L (Df g f) = Df g (DL L f)
  | [] => rfl
  | h :: L => by rw [DL, DL, DL_df g f L, Df_comm]
theorem DL_comm (f : ZF) (M : List (Int × Int)) : ∀ L, DL L (DL M f) = DL M (DL L f)
  | [] => rfl
  | g :: L => by rw [DL, DL, DL_comm f M L, DL_df]
theorem DL_append (f : ZF) (M : List (Int × Int)) : ∀ L, DL (L ++ M) f = DL L (DL M f)
  | [] => rfl
  | g :: L => by rw [List.cons_append, DL, DL, DL_append f M L]
theorem dens_append (μ : ZF) (M : List (Int × Int)) : ∀ L, dens μ (L ++ M) = dens μ L * dens μ M
  | [] => by rw [dens, Int.one_mul]; rfl
  | g :: L => by rw [List.cons_append, dens, dens, dens_append μ M L, Int.mul_assoc]
theorem DL_add (f k : ZF) : ∀ L, DL L (fun a b => f a b + k a b) = fun a b => DL L f a b + DL L k a b
  | [] => rfl
  | g :: L => by rw [DL, DL_add f k L, Df_add]; rfl
theorem DL_smul (c : Int) (f : ZF) : ∀ L, DL L (fun a b => c * f a b) = fun a b => c * DL L f a b
  | [] => rfl
  | g :: L => by rw [DL, DL_smul c f L, Df_smul]; rfl
theorem dens_unit {μ : ZF} : ∀ L, (∀ g, g ∈ L → unitC (denF μ g)) → unitC (dens μ L)
  | [], _ => by unfold unitC dens; decide
  | g :: L, h => unit_mul (h g (by simp)) (dens_unit L fun x hx => h x (by simp [hx]))

/-! ### values -/
def Vl (μ f : ZF) (c : Int) : Prop := ∃ L, (∀ g, g ∈ L → unitC (denF μ g)) ∧ FV μ (DL L f) (dens μ L * c)
section
variable {μ : ZF} (hm : Mono μ)
theorem Vl.of_fv {f : ZF} {c : Int} (h : FV μ f c) : Vl μ f c := ⟨[], by simp, by rw [dens, Int.one_mul]; exact h⟩
theorem Vl.cg {f : ZF} {c d : Int} (h : Vl μ f c) (k : Cg c d) : Vl μ f d := by
  obtain ⟨L, h1, h2⟩ := h; exact ⟨L, h1, h2.cg ((Cg.refl _).mul k)⟩
theorem Vl.fn {f g : ZF} {c : Int} (h : Vl μ f c) (e : ∀ a b, f a b = g a b) : Vl μ g c := by
  have : f = g := by funext a b; exact e a b
  rw [← this]; exact h
include hm
theorem Vl.unique {f : ZF} {c d : Int} (h : Vl μ f c) (k : Vl μ f d) : Cg c d := by
  obtain ⟨L, h1, h2⟩ := h
  obtain ⟨M, k1, k2⟩ := k
  have a := h2.dl hm M
  have b := k2.dl hm L
  rw [DL_comm] at a
  have := a.unique b
  rw [show dens μ L * (dens μ M * d) = dens μ M * (dens μ L * d) by grind] at this
  exact unit_cancel (dens_unit L h1) (unit_cancel (dens_unit M k1) this)
theorem Vl.add {f g : ZF} {c d : Int} (h : Vl μ f c) (k : Vl μ g d) : Vl μ (fun a b => f a b + g a b) (c + d) := by
  obtain ⟨L, h1, h2⟩ := h
  obtain ⟨M, k1, k2⟩ := k
  refine ⟨L ++ M, fun x hx => (List.mem_append.1 hx).elim (h1 x) (k1 x), ?_⟩
  have a := h2.dl hm M
  have b := k2.dl hm L
  rw [← DL_comm] at a
  rw [DL_append, DL_add, DL_add, dens_append]
  exact (a.add b).cg (Cg.of_eq (by grind))
omit hm in
theorem Vl.smul {f : ZF} {c : Int} (k : Int) (h : Vl μ f c) : Vl μ (fun a b => k * f a b) (k * c) := by
  obtain ⟨L, h1, h2⟩ := h
  refine ⟨L, h1, ?_⟩
  rw [DL_smul]
  exact (h2.smul k).cg (Cg.of_eq (by grind))
omit hm in
theorem Vl.of_df {f : ZF} {c x : Int} (g : Int × Int) (hg : unitC (denF μ g)) (h : Vl μ (Df g f) c) (e : Cg (denF μ g * x) c) : Vl μ f x := by
  obtain ⟨L, h1, h2⟩ := h
  refine ⟨g :: L, fun y hy => ?_, ?_⟩
  · rcases List.mem_cons.1 hy with rfl | hy
    · exact hg
    · exact h1 y hy
  · rw [DL, ← DL_df, dens]
    refine h2.cg ?_
    rw [show denF μ g * dens μ L * x = dens μ L * (denF μ g * x) by grind]
    exact (Cg.refl _).mul e.symm
omit hm in
theorem Vl.zero : Vl μ (fun _ _ => 0) 0 := Vl.of_fv (FV.zero μ)
omit hm in
theorem Vl.none {f : ZF} (g : Int × Int) (hg : unitC (denF μ g)) (h : ∀ a b, f (a - g.1) (b - g.2) = f a b) : Vl μ f 0 := by
  have e : Df g f = fun _ _ => 0 := by funext a b; unfold Df; rw [h]; omega
  exact Vl.of_df g hg (c := 0) (by rw [e]; exact Vl.zero) (Cg.of_eq (by simp))
end
end Go.Proofs.Ytehhoplenloocaa
