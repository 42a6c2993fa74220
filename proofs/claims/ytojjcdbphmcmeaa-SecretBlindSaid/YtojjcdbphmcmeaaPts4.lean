/-
  The laws' own trial of points, the reference ValueAt, and the laws' own points of a polynomial.
-/
import Derived.Test.YtojjcdbphmcmeaaPts3
import Derived.Test.YtojjcdbphmcmeaaPoly7
set_option linter.unusedVariables false
set_option linter.unusedSimpArgs false
namespace Wm
namespace Fld
variable {K : Type} [Fld K]
def pwK (x : K) : Nat → K
  | 0 => o
  | i + 1 => ml (pwK x i) x
theorem sm_first (g : Nat → K) : ∀ n, sm g (n + 1) = ad (g 0) (sm (tl g) n)
  | 0 => by show ad z (g 0) = ad (g 0) z; rw [ad_comm]
  | n + 1 => by
    show ad (sm g (n + 1)) (g (n + 1)) = ad (g 0) (ad (sm (tl g) n) (tl g n))
    rw [sm_first g n, ad_assoc]; rfl
theorem evs_sm (x : K) : ∀ (n : Nat) (f : Nat → K), evs f n x = sm (fun i => ml (f i) (pwK x i)) n
  | 0, _ => rfl
  | n + 1, f => by
    rw [sm_first]
    show ad (f 0) (ml x (evs (tl f) n x)) = ad (ml (f 0) o) (sm (fun i => ml (f (i + 1)) (ml (pwK x i) x)) n)
    rw [ml_o, evs_sm x n (tl f), ← sm_ml]
    congr 1
    exact sm_congr n fun k _ => by
      show ml x (ml (f (k + 1)) (pwK x k)) = _
      rw [ml_comm (pwK x k), ml_left]
end Fld
open Fld
/-- The value, from the front. -/
def svN (p : Nat) (f : List Nat) (x : Nat) : Nat → Nat × Nat
  | 0 => (0, 1)
  | k + 1 => (((svN p f x k).1 + f.getD k 0 * (svN p f x k).2) % p, (svN p f x k).2 * x % p)
theorem svN_succ (p : Nat) (f : List Nat) (x k : Nat) : svN p f x (k + 1) = (((svN p f x k).1 + f.getD k 0 * (svN p f x k).2) % p, (svN p f x k).2 * x % p) := rfl
theorem svN_lt {P : Pr} (f : List Nat) (x : Nat) : ∀ k, (svN P.p f x k).1 < P.p ∧ (svN P.p f x k).2 < P.p
  | 0 => ⟨P.pos, P.two⟩
  | k + 1 => ⟨Nat.mod_lt _ P.pos, Nat.mod_lt _ P.pos⟩
theorem svN_zp (P : Pr) (f : List Nat) (x : Nat) : ∀ k, zp P (svN P.p f x k).1 = sm (fun i => ml (ser P f i) (pwK (zp P x) i)) k ∧ zp P (svN P.p f x k).2 = pwK (zp P x) k
  | 0 => ⟨rfl, rfl⟩
  | k + 1 => by
    have ih := svN_zp P f x k
    refine ⟨?_, ?_⟩
    · show zp P (((svN P.p f x k).1 + f.getD k 0 * (svN P.p f x k).2) % P.p) = ad _ _
      rw [zp_mod, zp_add, zp_mul, ih.1, ih.2]; rfl
    · show zp P ((svN P.p f x k).2 * x % P.p) = ml _ _
      rw [zp_mod, zp_mul, ih.2]
theorem svN_ev (P : Pr) (f : List Nat) (x : Nat) : (svN P.p f x f.length).1 = evN P.p f x := by
  apply zp_inj (svN_lt f x _).1 (evN_lt P.pos _ _)
  rw [(svN_zp P f x _).1, evN_evs, evs_sm]
theorem prime_7q : Prime 7 := pchk_spec (r := 1) (by decide +kernel)
def P7q : Pr := ⟨7, prime_7q⟩
end Wm
namespace Go.Proofs.Ytojjcdbphmcmeaa
open Go.RowKit Go.BigFrame

theorem lines_ok : PtsOk Wm.P7q [(0, 1), (1, 3)] := ⟨by decide, by decide, fun i j hi hj => by
  have hi : i < 2 := hi
  have hj : j < 2 := hj
  have : i = 0 ∨ i = 1 := by omega
  have : j = 0 ∨ j = 1 := by omega
  rcases ‹i = 0 ∨ i = 1› with rfl | rfl <;> rcases ‹j = 0 ∨ j = 1› with rfl | rfl <;> simp⟩
theorem lines_thru : ThruL Wm.P7q [(0, 1), (1, 3)] [1, 2] := ⟨⟨by decide, fun _ => by decide⟩, by decide, fun i hi => by
  have hi : i < 2 := hi
  have : i = 0 ∨ i = 1 := by omega
  rcases this with rfl | rfl <;> decide⟩


end Go.Proofs.Ytojjcdbphmcmeaa
