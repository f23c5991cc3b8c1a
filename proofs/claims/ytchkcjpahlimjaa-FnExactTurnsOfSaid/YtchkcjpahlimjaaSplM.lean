/- Cones that are split: the plain law. -/
import Derived.Test.YtchkcjpahlimjaaCone
import Derived.Test.YtchkcjpahlimjaaDetM
namespace Go.Proofs.Ytchkcjpahlimjaa
set_option linter.unusedVariables false
set_option linter.unusedSimpArgs false

/-- Euclid's steps with their factors: a, b, r, s -/
structure ESt where
  a0 : Int
  a1 : Int
  b0 : Int
  b1 : Int
  r : Int
  s : Int
def eStep (e : ESt) : ESt := ⟨e.b0, e.b1, e.a0 - Int.tdiv e.r e.s * e.b0, e.a1 - Int.tdiv e.r e.s * e.b1, e.s, e.r - Int.tdiv e.r e.s * e.s⟩
def eNext (e : ESt) : ESt := if e.s = 0 then e else eStep e
def eIt : Nat → ESt → ESt
  | 0, e => e
  | k + 1, e => eIt k (eNext e)
def eSt (x y : Int) : ESt := ⟨1, 0, 0, 1, x, y⟩
def smallB (m x : Int) : Bool := decide (-m ≤ x) && decide (x ≤ m)
def eOk (e : ESt) : Bool := smallB 60 e.a0 && smallB 60 e.a1 && smallB 60 e.b0 && smallB 60 e.b1 && smallB 60 e.r && smallB 60 e.s
def eAll : Nat → ESt → Bool
  | 0, e => eOk e && decide (e.s = 0) && smallB 30 (e.a0 * e.r) && smallB 30 (e.a1 * e.r) && decide (e.r * e.r = 1)
  | k + 1, e => eOk e && eAll k (eNext e)
def rowOk (x : Int) : Bool := (List.range 61).all fun j => decide (Nat.gcd x.natAbs ((j : Int) - 30).natAbs ≠ 1) || eAll 10 (eSt x ((j : Int) - 30))
set_option maxRecDepth 1000000 in
theorem all_ok : ((List.range 61).all fun i => rowOk ((i : Int) - 30)) = true := by decide +kernel
end Go.Proofs.Ytchkcjpahlimjaa
