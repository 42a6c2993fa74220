/-
  Plain: what the laws of polynomials say, over lists of remainders. No program in sight.
-/
import Derived.Test.YtahchidghfeofaaZp2
set_option linter.unusedVariables false
set_option linter.unusedSimpArgs false
namespace Wm
open Fld
/-- A sum and a product, each with fewer coefficients: of division. -/
theorem IsDiv.mul_len {P : Pr} {f g q r : List Nat} (hg : IsP P.p g) (h : IsDiv P f g q r) : (mulL P.p q g).length ≤ max f.length g.length ∧ q.length ≤ max f.length g.length := by
  have hlt := h.lt
  have hne : g ≠ [] := fun e => by rw [e] at hlt; simp at hlt
  have h1 : (mulL P.p q g).length ≤ max f.length g.length := by
    refine (mulL_isP P.pos q g).len fun k hk => ?_
    have e := congrFun h.eq k
    have e2 : ser P f k = ad (conv (ser P q) (ser P g) k) (ser P r k) := e
    rw [ser_dg P f k (by omega), ser_dg P r k (by omega), ad_z] at e2
    rw [mulL_ser]
    exact e2.symm
  refine ⟨h1, ?_⟩
  by_cases hq : q = []
  · subst hq; simp
  · have := mulL_len_eq h.qP hg hq hne
    have := List.length_pos_iff.2 hne
    omega
theorem IsDiv.back {P : Pr} {f g q r : List Nat} (hf : IsP P.p f) (h : IsDiv P f g q r) : addL P.p (mulL P.p q g) r = f :=
  (addL_isP P.pos _ _).ext hf (by rw [addL_ser, mulL_ser]; exact h.eq.symm)
theorem IsDiv.of_add {P : Pr} {g h l : List Nat} (hh : IsP P.p h) (hl : IsP P.p l) (hlt : l.length < g.length) : IsDiv P (addL P.p (mulL P.p h g) l) g h l :=
  ⟨hh, hl, hlt, by rw [addL_ser, mulL_ser]⟩
theorem IsGcd.unique {P : Pr} {f g d d' : List Nat} (h : IsGcd P f g d) (h' : IsGcd P f g d') : d = d' := by
  have h1 : Dv (ser P d) (ser P d') := h'.all _ h.left h.right
  have h2 : Dv (ser P d') (ser P d) := h.all _ h'.left h'.right
  by_cases hd : d = []
  · obtain ⟨n, q, -, e⟩ := h1
    rw [hd, ser_nil, conv_s0'] at e
    rw [hd, h'.isP.nil_of e]
  · by_cases hd' : d' = []
    · obtain ⟨n, q, -, e⟩ := h2
      rw [hd', ser_nil, conv_s0'] at e
      exact absurd (h.isP.nil_of e) hd
    · have l1 := dv_len h.isP h'.isP h1 hd'
      have l2 := dv_len h'.isP h.isP h2 hd
      have hl : d.length = d'.length := by omega
      obtain ⟨n, q, hq, e⟩ := h1
      have hq0 : q ≠ s0 := fun e2 => hd' (h'.isP.nil_of (by rw [e, e2, conv_s0]))
      obtain ⟨a, -, ha, hqa⟩ := hq.lead hq0
      have e1 := conv_lead hqa (IsP.dg1 (P := P) hd)
      rw [← e] at e1
      have hp := List.length_pos_iff.2 hd
      have ha0 : a = 0 := by
        rcases Nat.eq_zero_or_pos a with h0 | h0
        · exact h0
        · rw [ser_dg P d' _ (by omega)] at e1
          exact absurd e1.symm (ml_ne ha (h.isP.lead hd))
      subst ha0
      have hm : ser P d' (d'.length - 1) = o := by show zp P _ = o; rw [h'.monic hd']; rfl
      have hm2 : ser P d (d.length - 1) = o := by show zp P _ = o; rw [h.monic hd]; rfl
      rw [Nat.zero_add, hm2, ml_o, hl, hm] at e1
      have hqs : q = s1 := by
        funext k
        cases k with
        | zero => exact e1.symm
        | succ k => exact hqa (k + 1) (by omega)
      rw [hqs, conv_s1] at e
      exact h.isP.ext h'.isP e.symm
theorem dv_of_mul (P : Pr) (q g : List Nat) : Dv (ser P g) (ser P (mulL P.p q g)) := ⟨_, _, ser_dg P q, mulL_ser P q g⟩
end Wm
