/-
  What the search finds has no divisors. No program in sight.
-/
import Derived.Test.YtahchidghfeofaaGal7
set_option linter.unusedVariables false
set_option linter.unusedSimpArgs false
namespace Wm
open Fld
/-- The sequence that a polynomial of two or three numbers runs. -/
def runs (P : Pr) (nx : Zp P → Zp P → Zp P) : Zp P → Zp P → Nat → Zp P
  | x, _, 0 => x
  | x, y, n + 1 => runs P nx y (nx x y) n
theorem runs_two (P : Pr) (nx : Zp P → Zp P → Zp P) : ∀ i x y, runs P nx x y (i + 2) = nx (runs P nx x y i) (runs P nx x y (i + 1))
  | 0, _, _ => rfl
  | i + 1, x, y => runs_two P nx i y (nx x y)
theorem val2_run (P : Pr) {b c : Nat} (hb : b < P.p) (hc : c < P.p) : ∀ (f : List Nat) (x y : Nat), zp P (val2 P.p b c x y f) = sm (fun j => ml (zp P (f.getD j 0)) (runs P (fun u v => ng (ad (ml (zp P b) v) (ml (zp P c) u))) (zp P x) (zp P y) j)) f.length
  | [], _, _ => rfl
  | q :: f, x, y => by
    rw [List.length_cons, sm_head]
    show zp P ((q * x + val2 P.p b c y (((P.p - b) * y + (P.p - c) * x) % P.p) f) % P.p) = ad (ml (zp P q) (zp P x)) _
    rw [zp_mod, zp_add, zp_mul, val2_run P hb hc f]
    congr 1
    refine sm_congr _ fun j _ => ?_
    have e : zp P (((P.p - b) * y + (P.p - c) * x) % P.p) = ng (ad (ml (zp P b) (zp P y)) (ml (zp P c) (zp P x))) := by
      rw [zp_mod, zp_add, zp_mul, zp_mul, zp_ng P (Nat.le_of_lt hb), zp_ng P (Nat.le_of_lt hc), ng_ml, ng_ml, ng_ad]
    rw [e]
    rfl
theorem val1_run (P : Pr) (a : Nat) : ∀ (f : List Nat) (x : Nat), zp P (val1 P.p a x f) = sm (fun j => ml (zp P (f.getD j 0)) (runs P (fun _ v => ml v (zp P a)) (zp P x) (ml (zp P x) (zp P a)) j)) f.length
  | [], _ => rfl
  | q :: f, x => by
    rw [List.length_cons, sm_head]
    show zp P ((q * x + val1 P.p a (x * a % P.p) f) % P.p) = ad (ml (zp P q) (zp P x)) _
    rw [zp_mod, zp_add, zp_mul, val1_run P a f]
    congr 1
    refine sm_congr _ fun j _ => ?_
    rw [zp_mod, zp_mul]
    rfl
theorem runs_one (P : Pr) (a : Zp P) : ∀ i x, runs P (fun _ v => ml v a) x (ml x a) (i + 1) = ml (runs P (fun _ v => ml v a) x (ml x a) i) a
  | 0, _ => rfl
  | i + 1, x => runs_one P a i (ml x a)
theorem val1_lt {p : Nat} (hp : 0 < p) (a x : Nat) : ∀ f : List Nat, val1 p a x f < p
  | [] => hp
  | _ :: _ => Nat.mod_lt _ hp
theorem val2_lt {p : Nat} (hp : 0 < p) (b c x y : Nat) : ∀ f : List Nat, val2 p b c x y f < p
  | [] => hp
  | _ :: _ => Nat.mod_lt _ hp
theorem irr_found {P : Pr} {k : Nat} {f : List Nat} (hk2 : 2 ≤ k) (hk5 : k ≤ 5) (hf : IsP P.p f) (hl : f.length = k + 1) (h1 : f.getD (f.length - 1) 0 = 1) (h : irrB P.p k f = true) : Irl P f := by
  simp only [irrB, Bool.and_eq_true, Bool.or_eq_true, List.all_eq_true, List.mem_range, decide_eq_true_eq, Bool.not_eq_true', beq_eq_false_iff_ne] at h
  refine irr_of hf (by omega) h1 fun d hd hd1 hd2 hdl => ?_
  rcases (show d.length = 2 ∨ d.length = 3 by omega) with c2 | c3
  · obtain ⟨c, e, rfl⟩ : ∃ c e, d = [c, e] := by
      match d, c2 with
      | [c, e], _ => exact ⟨c, e, rfl⟩
    obtain rfl : e = 1 := hd1
    have hc : c < P.p := hd.1 c (by simp)
    obtain ⟨a, ha⟩ : ∃ a, a = (P.p - c) % P.p := ⟨_, rfl⟩
    have hap : a < P.p := by rw [ha]; exact Nat.mod_lt _ P.pos
    have hza : zp P a = ng (zp P c) := by rw [ha, zp_mod, zp_ng P (Nat.le_of_lt hc)]
    refine no_dv (u := runs P (fun _ v => ml v (zp P a)) (zp P 1) (ml (zp P 1) (zp P a))) (fun i => ?_) ?_
    · show ad (ad z (ml (zp P c) (runs P _ _ _ (i + 0)))) (ml (zp P 1) (runs P _ _ _ (i + 1))) = z
      rw [z_ad, Nat.add_zero, runs_one]
      generalize runs P (fun _ v => ml v (zp P a)) (zp P 1) (ml (zp P 1) (zp P a)) i = U
      rw [hza, zp_one, o_ml, ml_ng, ml_comm (zp P c), ad_ng]
    · have e := val1_run P a f 1
      have hne := zp_ne (P := P) (val1_lt P.pos a 1 f) (h.1 a hap)
      rw [e] at hne
      exact hne
  · obtain ⟨c, b, e, rfl⟩ : ∃ c b e, d = [c, b, e] := by
      match d, c3 with
      | [c, b, e], _ => exact ⟨c, b, e, rfl⟩
    obtain rfl : e = 1 := hd1
    have hc : c < P.p := hd.1 c (by simp)
    have hb : b < P.p := hd.1 b (by simp)
    have hk4 : ¬ k < 4 := by simp at hdl; omega
    have key : ∀ x y : Nat, val2 P.p b c x y f ≠ 0 → ¬ Dv (ser P [c, b, 1]) (ser P f) := fun x y hne => by
      refine no_dv (u := runs P (fun u v => ng (ad (ml (zp P b) v) (ml (zp P c) u))) (zp P x) (zp P y)) (fun i => ?_) ?_
      · show ad (ad (ad z (ml (zp P c) (runs P _ _ _ (i + 0)))) (ml (zp P b) (runs P _ _ _ (i + 1)))) (ml (zp P 1) (runs P _ _ _ (i + 2))) = z
        rw [z_ad, Nat.add_zero, runs_two, zp_one, o_ml, ad_comm (ml (zp P c) _), ad_ng]
      · have e := val2_run P hb hc f x y
        have h2 := zp_ne (P := P) (val2_lt P.pos b c x y f) hne
        rw [e] at h2
        exact h2
    rcases (h.2.resolve_left hk4) b hb c hc with q | q
    · exact key 1 0 q
    · exact key 0 1 q
end Wm
