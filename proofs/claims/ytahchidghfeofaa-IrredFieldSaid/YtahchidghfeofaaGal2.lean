/-
  What has no divisors divides, of two, one. No program in sight.
-/
import Derived.Test.YtahchidghfeofaaGal1
set_option linter.unusedVariables false
set_option linter.unusedSimpArgs false
namespace Wm
open Fld
theorem ser_one (P : Pr) : ser P [1] = s1 := by
  funext k
  cases k with
  | zero => rfl
  | succ k => rfl
theorem prime_of {P : Pr} {f a b : List Nat} (hf : IsP P.p f) (ha : IsP P.p a) (hb : IsP P.p b) (hd : IsGcd P f a [1]) (h : Dv (ser P f) (conv (ser P a) (ser P b))) : Dv (ser P f) (ser P b) := by
  by_cases hb0 : b = []
  · subst hb0; exact dv_s0 _
  obtain ⟨zl, hz⟩ := gcd_ex P _ (mulL P.p f b) (mulL P.p a b) (Nat.le_refl _) (mulL_isP P.pos _ _) (mulL_isP P.pos _ _)
  have hzl := hz.left
  have hzr := hz.right
  rw [mulL_ser] at hzl hzr
  have h1 : Dv (ser P b) (ser P zl) := hz.all _ (by rw [mulL_ser]; exact ⟨_, _, ser_dg P f, rfl⟩) (by rw [mulL_ser]; exact ⟨_, _, ser_dg P a, rfl⟩)
  have hfz : Dv (ser P f) (ser P zl) := hz.all _ (by rw [mulL_ser, conv_comm]; exact ⟨_, _, ser_dg P b, rfl⟩) (by rw [mulL_ser]; exact h)
  obtain ⟨n, q, hq, he⟩ := h1
  have hbs := hb.ne hb0
  have cancel : ∀ u : List Nat, IsP P.p u → Dv (ser P zl) (conv (ser P u) (ser P b)) → Dv q (ser P u) := fun u hu hdv => by
    obtain ⟨m, r, hr, e⟩ := hdv
    refine ⟨m, r, hr, ?_⟩
    rw [he, ← conv_assoc] at e
    rw [conv_comm, conv_comm (conv r q)] at e
    exact conv_cancel (ser_dg P b) (ser_dg P u) (dg_conv' hr hq) hbs e
  have h3 : Dv q (ser P [1]) := hd.all _ (cancel f hf hzl) (cancel a ha hzr)
  have h4 : Dv (ser P zl) (conv (ser P [1]) (ser P b)) := by rw [he]; exact dv_conv h3
  rw [ser_one, conv_s1] at h4
  exact hfz.trans h4
/-- Monic, not constant, with no divisors but constants and itself. -/
structure Irl (P : Pr) (f : List Nat) : Prop where
  isP : IsP P.p f
  two : 2 ≤ f.length
  monic : f.getD (f.length - 1) 0 = 1
  only : ∀ d, IsP P.p d → Dv (ser P d) (ser P f) → d.length = 1 ∨ d.length = f.length
/-- Monic ones of one length, one a divisor of the other, are the same. -/
theorem monic_same {P : Pr} {f d : List Nat} (hf : IsP P.p f) (hd : IsP P.p d) (hl : d.length = f.length) (h1 : f.getD (f.length - 1) 0 = 1) (h2 : d.getD (d.length - 1) 0 = 1) (h0 : f ≠ []) (h : Dv (ser P d) (ser P f)) : d = f := by
  have hfl := List.length_pos_iff.2 h0
  have hd0 : d ≠ [] := fun e => by rw [e] at hl; simp at hl; omega
  have hdv : Dv (ser P d) (sad (ser P f) (sng (ser P d))) := h.ad (Dv.refl _).ng
  have hdg : Dg (f.length - 1) (sad (ser P f) (sng (ser P d))) := by
    intro k hk
    by_cases c : k = f.length - 1
    · subst c
      show ad (zp P (f.getD (f.length - 1) 0)) (ng (zp P (d.getD (f.length - 1) 0))) = z
      rw [h1, ← hl, h2]
      exact ad_ng _
    · have e1 : ser P f k = z := ser_dg P f k (by omega)
      have e2 : ser P d k = z := ser_dg P d k (by omega)
      show ad (ser P f k) (ng (ser P d k)) = z
      rw [e1, e2]
      exact ad_ng _
  by_cases hz : sad (ser P f) (sng (ser P d)) = s0
  · refine hd.ext hf ?_
    funext k
    have := congrFun hz k
    have h3 : ad (ser P f k) (ng (ser P d k)) = z := this
    have h4 : ad (ng (ser P d k)) (ser P f k) = z := by rw [ad_comm]; exact h3
    have h5 : ad (ng (ser P d k)) (ser P d k) = z := by rw [ad_comm]; exact ad_ng _
    exact (ng_unique h5).trans (ng_unique h4).symm
  · exfalso
    have := hdv.len hz (hd.lead hd0) (IsP.dg1 hd0) hdg
    omega
theorem Irl.coprime {P : Pr} {f a : List Nat} (I : Irl P f) (ha : IsP P.p a) (h : ¬ Dv (ser P f) (ser P a)) : IsGcd P f a [1] := by
  obtain ⟨d, G⟩ := gcd_ex P _ f a (Nat.le_refl _) I.isP ha
  have hf0 : f ≠ [] := fun e => by have := I.two; rw [e] at this; simp at this
  have hd0 : d ≠ [] := fun e => hf0 (G.nil e).1
  rcases I.only d G.isP G.left with h1 | h1
  · have : d = [1] := by
      match d, h1, G.monic hd0 with
      | [x], _, hx => exact congrArg (fun y => [y]) hx
    rw [← this]; exact G
  · have := monic_same I.isP G.isP h1 I.monic (G.monic hd0) hf0 G.left
    rw [this] at G
    exact absurd G.right h
theorem Irl.prime {P : Pr} {f a b : List Nat} (I : Irl P f) (ha : IsP P.p a) (hb : IsP P.p b) (h : Dv (ser P f) (conv (ser P a) (ser P b))) (hna : ¬ Dv (ser P f) (ser P a)) : Dv (ser P f) (ser P b) :=
  prime_of I.isP ha hb (I.coprime ha hna) h
end Wm
