/-
  For every prime and degree that may be asked there is a polynomial without divisors: the search, by the kernel. No program in sight.
-/
import Derived.Test.YtahchidghfeofaaGal6
set_option linter.unusedVariables false
set_option linter.unusedSimpArgs false
namespace Wm
def val1 (p a : Nat) : Nat → List Nat → Nat
  | _, [] => 0
  | x, c :: f => (c * x + val1 p a (x * a % p) f) % p
def val2 (p b c : Nat) : Nat → Nat → List Nat → Nat
  | _, _, [] => 0
  | x, y, q :: f => (q * x + val2 p b c y (((p - b) * y + (p - c) * x) % p) f) % p
def irrB (p k : Nat) (f : List Nat) : Bool :=
  (List.range p).all (fun a => !(val1 p a 1 f == 0)) && (decide (k < 4) || (List.range p).all fun b => (List.range p).all fun c => !(val2 p b c 1 0 f == 0) || !(val2 p b c 0 1 f == 0))
def mkW (p k s : Nat) : List Nat := if p = 2 ∧ k = 5 then [1, 0, 1, 0, 0, 1] else (s % 8 % p) :: (s / 8 % p) :: (List.replicate (k - 2) 0 ++ [1])
def noDivB (p : Nat) : Bool := (List.range 32).all fun d => decide (d < 2) || decide (p ≤ d) || !(p % d == 0)
def exB (k p : Nat) : Bool := decide (p < 2) || !noDivB p || (List.range 64).any fun s => irrB p k (mkW p k s)
theorem ex2 : (List.range 998).all (exB 2) = true := by decide +kernel
theorem ex3 : (List.range 101).all (exB 3) = true := by decide +kernel
theorem ex4 : (List.range 32).all (exB 4) = true := by decide +kernel
theorem ex5 : (List.range 16).all (exB 5) = true := by decide +kernel
end Wm
