/-
  The rests by a polynomial without divisors, coded as numbers: all but 0 cancel. No program in sight.
-/
import Derived.Test.YtahchidghfeofaaGal2
import Derived.Test.YtahchidghfeofaaGal0
set_option linter.unusedVariables false
set_option linter.unusedSimpArgs false
namespace Wm
open Fld
def digs (p : Nat) : Nat → Nat → List Nat
  | 0, _ => []
  | k + 1, x => (x % p) :: digs p k (x / p)
def numG (p : Nat) : List Nat → Nat
  | [] => 0
  | c :: l => c + p * numG p l
theorem digs_length (p : Nat) : ∀ k x, (digs p k x).length = k
  | 0, _ => rfl
  | k + 1, x => by simp [digs, digs_length p k]
theorem digs_lt {p : Nat} (hp : 0 < p) : ∀ k x, ∀ c ∈ digs p k x, c < p
  | 0, _, c, h => by simp [digs] at h
  | k + 1, x, c, h => by
    simp only [digs, List.mem_cons] at h
    rcases h with rfl | h
    · exact Nat.mod_lt _ hp
    · exact digs_lt hp k _ c h
theorem num_digs {p : Nat} (hp : 0 < p) : ∀ k x, x < p ^ k → numG p (digs p k x) = x
  | 0, x, h => by simp at h; subst h; rfl
  | k + 1, x, h => by
    simp only [digs, numG]
    rw [num_digs hp k (x / p) (by rw [Nat.pow_succ, Nat.mul_comm] at h; exact Nat.div_lt_of_lt_mul h)]
    exact Nat.mod_add_div x p
theorem num_lt {p : Nat} (hp : 0 < p) : ∀ l : List Nat, (∀ c ∈ l, c < p) → numG p l < p ^ l.length
  | [], _ => by simp [numG]
  | c :: l, h => by
    have h1 := num_lt hp l fun x hx => h x (by simp [hx])
    have h2 := h c (by simp)
    simp only [numG, List.length_cons, Nat.pow_succ]
    have : p * (numG p l + 1) ≤ p * p ^ l.length := Nat.mul_le_mul_left p h1
    rw [Nat.mul_add, Nat.mul_one] at this
    rw [Nat.mul_comm (p ^ l.length) p]
    omega
theorem digs_num {p : Nat} (hp : 0 < p) : ∀ l : List Nat, (∀ c ∈ l, c < p) → digs p l.length (numG p l) = l
  | [], _ => rfl
  | c :: l, h => by
    have h2 := h c (by simp)
    simp only [List.length_cons, digs, numG]
    rw [Nat.add_mul_mod_self_left, Nat.mod_eq_of_lt h2, Nat.add_mul_div_left _ _ hp, Nat.div_eq_of_lt h2, Nat.zero_add, digs_num hp l fun x hx => h x (by simp [hx])]
def polN (p k x : Nat) : List Nat := trimL (digs p k x)
def codN (p k : Nat) (l : List Nat) : Nat := numG p (mkL k fun i => l.getD i 0)
theorem polN_isP {p : Nat} (hp : 0 < p) (k x : Nat) : IsP p (polN p k x) := trimL_isP (digs_lt hp k x)
theorem polN_len (p k x : Nat) : (polN p k x).length ≤ k := by
  have := trimL_len (digs p k x)
  rw [digs_length] at this
  exact this
theorem codN_lt {P : Pr} {k : Nat} {l : List Nat} (hl : IsP P.p l) : codN P.p k l < P.p ^ k := by
  have := num_lt P.pos (mkL k fun i => l.getD i 0) (mkL_lt fun i _ => hl.lt P.pos i)
  rwa [mkL_length] at this
theorem cod_pol {P : Pr} {k x : Nat} (hx : x < P.p ^ k) : codN P.p k (polN P.p k x) = x := by
  unfold codN polN
  have : (mkL k fun i => (trimL (digs P.p k x)).getD i 0) = digs P.p k x := by
    rw [mkL_congr (g := fun i => (digs P.p k x).getD i 0) fun i _ => trimL_get _ _]
    have := mkL_self (digs P.p k x)
    rwa [digs_length] at this
  rw [this, num_digs P.pos k x hx]
theorem pol_cod {P : Pr} {k : Nat} {l : List Nat} (hl : IsP P.p l) (hk : l.length ≤ k) : polN P.p k (codN P.p k l) = l := by
  have h := digs_num P.pos (mkL k fun i => l.getD i 0) (mkL_lt fun i _ => hl.lt P.pos i)
  rw [mkL_length] at h
  unfold polN codN
  rw [h]
  refine (trimL_isP (mkL_lt fun i _ => hl.lt P.pos i)).ext hl ?_
  rw [trimL_ser, mkL_ser P k _ fun j hj => getD_big (by omega)]
  rfl
end Wm
