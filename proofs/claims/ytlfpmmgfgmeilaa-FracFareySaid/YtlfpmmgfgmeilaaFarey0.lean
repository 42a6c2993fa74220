/-
  Farey's fractions up to 30, as lists: plain.
-/
import Derived.Test.YtlfpmmgfgmeilaaDivs2
set_option linter.unusedVariables false
set_option linter.unusedSimpArgs false
namespace Wm
abbrev Fr := Fin 31 × Fin 30
def toF (x : Nat × Nat) : Fr := (⟨x.1 % 31, Nat.mod_lt _ (by omega)⟩, ⟨(x.2 - 1) % 30, Nat.mod_lt _ (by omega)⟩)
def ltN (a b : Nat × Nat) : Bool := decide (a.1 * b.2 < b.1 * a.2)
def cfF (x y : Fr) : Int := ((x.1.val * (y.2.val + 1) : Nat) : Int) - ((y.1.val * (x.2.val + 1) : Nat) : Int)
/-- As they come. -/
def rowF (q p : Nat) : List (Nat × Nat) := ((List.range p).filter fun p => decide (Nat.gcd p q = 1)).map fun p => (p, q)
def rawF : Nat → List (Nat × Nat)
  | 0 => []
  | n + 1 => rawF n ++ rowF (n + 1) (n + 2)
def insF (x : Nat × Nat) : List (Nat × Nat) → List (Nat × Nat)
  | [] => [x]
  | y :: l => if ltN x y then x :: y :: l else y :: insF x l
def srtF (n : Nat) : List (Nat × Nat) := (rawF n).foldr insF []
theorem insF_perm (x : Nat × Nat) : ∀ l, (insF x l).Perm (x :: l)
  | [] => List.Perm.refl _
  | y :: l => by
    unfold insF
    split
    · exact List.Perm.refl _
    · exact ((insF_perm x l).cons y).trans (List.Perm.swap x y l)
theorem srtF_perm (n : Nat) : (srtF n).Perm (rawF n) := by
  unfold srtF
  induction rawF n with
  | nil => exact List.Perm.refl _
  | cons x l ih => exact (insF_perm x _).trans (ih.cons x)
def facT : Nat → List (Nat × Nat)
  | 2 => [(2, 1)] | 3 => [(3, 1)] | 4 => [(2, 2)] | 5 => [(5, 1)] | 6 => [(2, 1), (3, 1)] | 7 => [(7, 1)] | 8 => [(2, 3)] | 9 => [(3, 2)] | 10 => [(2, 1), (5, 1)]
  | 11 => [(11, 1)] | 12 => [(2, 2), (3, 1)] | 13 => [(13, 1)] | 14 => [(2, 1), (7, 1)] | 15 => [(3, 1), (5, 1)] | 16 => [(2, 4)] | 17 => [(17, 1)] | 18 => [(2, 1), (3, 2)] | 19 => [(19, 1)] | 20 => [(2, 2), (5, 1)]
  | 21 => [(3, 1), (7, 1)] | 22 => [(2, 1), (11, 1)] | 23 => [(23, 1)] | 24 => [(2, 3), (3, 1)] | 25 => [(5, 2)] | 26 => [(2, 1), (13, 1)] | 27 => [(3, 3)] | 28 => [(2, 2), (7, 1)] | 29 => [(29, 1)] | 30 => [(2, 1), (3, 1), (5, 1)]
  | _ => []
def pairB : List (Nat × Nat) → Bool
  | [] => true
  | x :: l => l.all (ltN x) && pairB l
def upB : List Nat → Bool
  | [] => true
  | x :: l => l.all (fun y => decide (x < y)) && upB l
def facB (n : Nat) (l : List (Nat × Nat)) : Bool := upB (l.map (·.1)) && l.all (fun x => pchk x.1 (if x.1 < 4 then 0 else if x.1 < 9 then 1 else if x.1 < 25 then 3 else 4) && decide (1 ≤ x.2)) && decide (prodP l = n)
theorem upB_spec : ∀ {l : List (Nat × Nat)}, upB (l.map (·.1)) = true → l.Pairwise fun a b => a.1 < b.1
  | [], _ => List.Pairwise.nil
  | x :: l, h => by
    simp only [List.map_cons, upB, Bool.and_eq_true, List.all_map, List.all_eq_true, Function.comp, decide_eq_true_eq] at h
    exact List.Pairwise.cons h.1 (upB_spec h.2)
theorem facB_spec {n : Nat} {l : List (Nat × Nat)} (h : facB n l = true) : IsFac n l := by
  simp only [facB, Bool.and_eq_true, List.all_eq_true, decide_eq_true_eq] at h
  exact ⟨upB_spec h.1.1, fun x hx => ⟨pchk_spec (h.1.2 x hx).1, (h.1.2 x hx).2⟩, h.2⟩
def phT (q : Nat) : Nat := Go.Proofs.Ytlfpmmgfgmeilaa.nphi (facT q)
def sumPh : Nat → Nat
  | 0 => 1
  | n + 1 => sumPh n + phT (n + 1)
def gP (l : List (Nat × Nat)) (i : Nat) : Nat := (l.getD i (0, 0)).1
def gQ (l : List (Nat × Nat)) (i : Nat) : Nat := (l.getD i (0, 0)).2
def nextB : List (Nat × Nat) → Bool
  | a :: b :: l => decide (b.1 * a.2 = a.1 * b.2 + 1) && nextB (b :: l)
  | _ => true
def okB (n : Nat) : Bool := pairB (srtF n) && nextB (srtF n) && decide ((srtF n).length = sumPh n) && (rawF n).all (fun x => decide (x.1 ≤ 30) && decide (1 ≤ x.2) && decide (x.2 ≤ 30)) && facB n (facT n)
theorem all_ok : (List.range 30).all (fun i => okB (i + 1)) = true := by decide +kernel
theorem ok_of {n : Nat} (h1 : 1 ≤ n) (h30 : n ≤ 30) : okB n = true := by
  have := List.all_eq_true.1 all_ok (n - 1) (List.mem_range.2 (by omega))
  rwa [show n - 1 + 1 = n by omega] at this
end Wm
