/-
  A sequence that g runs tells multiples of g: soundness of the search for polynomials without divisors. No program in sight.
-/
import Derived.Test.YtahchidghfeofaaGal5
set_option linter.unusedVariables false
set_option linter.unusedSimpArgs false
namespace Wm
open Fld
section
variable {K : Type} [Fld K]
theorem sm_head (f : Nat → K) : ∀ n, sm f (n + 1) = ad (f 0) (sm (fun i => f (i + 1)) n)
  | 0 => by show ad (sm f 0) (f 0) = ad (f 0) z; show ad z (f 0) = ad (f 0) z; rw [z_ad, ad_z]
  | n + 1 => by
    show ad (sm f (n + 1)) (f (n + 1)) = ad (f 0) (ad (sm (fun i => f (i + 1)) n) (f (n + 1)))
    rw [sm_head f n, ad_assoc]
theorem run_zero {l : Nat} {g : Nat → K} (hg : Dg l g) : ∀ (n : Nat) (q u : Nat → K), Dg n q → (∀ i, sm (fun t => ml (g t) (u (i + t))) l = z) → sm (fun j => ml (conv q g j) (u j)) (n + l) = z
  | 0, q, u, hq, _ => by
    rw [hq.zero, conv_s0]
    exact sm_z _ fun k _ => by show ml z (u k) = z; rw [ml_comm, ml_z]
  | n + 1, q, u, hq, hr => by
    have ih := run_zero hg n (tl q) (fun j => u (j + 1)) (fun k hk => hq (k + 1) (by omega)) (fun i => by
      have := hr (i + 1)
      rw [← this]
      exact sm_congr _ fun t _ => by show ml (g t) (u (i + t + 1)) = ml (g t) (u (i + 1 + t)); rw [show i + t + 1 = i + 1 + t by omega])
    rw [show n + 1 + l = (n + l) + 1 by omega, sm_head]
    have e1 : sm (fun i => ml (conv q g (i + 1)) (u (i + 1))) (n + l) = ad (sm (fun i => ml (q 0) (ml (g (i + 1)) (u (i + 1)))) (n + l)) (sm (fun i => ml (conv (tl q) g i) (u (i + 1))) (n + l)) := by
      rw [← sm_ad]
      exact sm_congr _ fun i _ => by rw [conv_succ, ad_ml, ml_assoc]
    rw [e1, ih, ad_z, conv_zero]
    have e2 := sm_head (fun i => ml (q 0) (ml (g i) (u i))) (n + l)
    rw [ml_assoc, ← e2, sm_ml]
    have e3 := hr 0
    rw [sm_congr (g := fun t => ml (g t) (u t)) l fun t _ => by rw [Nat.zero_add]] at e3
    rw [sm_cut (m := l) _ (by omega) (fun k hk _ => by rw [hg k hk, ml_comm, ml_z]), e3, ml_z]
end
/-- What a sequence that g runs does not annul is no multiple of g. -/
theorem no_dv {P : Pr} {f g : List Nat} {u : Nat → Zp P} (hr : ∀ i, sm (fun t => ml (ser P g t) (u (i + t))) g.length = z) (hf : sm (fun j => ml (ser P f j) (u j)) f.length ≠ z) : ¬ Dv (ser P g) (ser P f) := by
  rintro ⟨n, q, hq, e⟩
  have h := run_zero (ser_dg P g) (n + f.length) q u (hq.more (by omega)) hr
  rw [← e, sm_cut (m := f.length) _ (by omega) (fun k hk _ => by rw [ser_dg P f k hk, ml_comm, ml_z])] at h
  exact hf h
end Wm
