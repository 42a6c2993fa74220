/-
  Without a monic divisor of at most half the degree: without divisors. No program in sight.
-/
import Derived.Test.YtahchidghfeofaaGal4
set_option linter.unusedVariables false
set_option linter.unusedSimpArgs false
namespace Wm
open Fld
theorem dv_monic {P : Pr} {d f : List Nat} (hd : IsP P.p d) (hd0 : d ≠ []) (h : Dv (ser P d) (ser P f)) : ∃ m, IsP P.p m ∧ m.length = d.length ∧ m.getD (m.length - 1) 0 = 1 ∧ Dv (ser P m) (ser P f) := by
  obtain ⟨m, hm, hl, h1, -, c, e⟩ := monic_ex P hd hd0
  refine ⟨m, hm, hl, h1, Dv.trans ?_ h⟩
  rw [e]
  exact Dv.sc _ (Dv.refl _)
theorem irr_of {P : Pr} {f : List Nat} (hf : IsP P.p f) (h2 : 2 ≤ f.length) (h1 : f.getD (f.length - 1) 0 = 1) (hno : ∀ d, IsP P.p d → d.getD (d.length - 1) 0 = 1 → 2 ≤ d.length → 2 * (d.length - 1) ≤ f.length - 1 → ¬ Dv (ser P d) (ser P f)) : Irl P f := by
  have hf0 : f ≠ [] := fun e => by rw [e] at h2; simp at h2
  refine ⟨hf, h2, h1, fun d hd hdv => ?_⟩
  have hd0 : d ≠ [] := fun e => by
    obtain ⟨n, q, -, e2⟩ := hdv
    rw [e, ser_nil, conv_s0'] at e2
    exact hf.ne hf0 e2
  obtain ⟨q, r, D⟩ := div_ex P hf hd hd0
  have hr : r = [] := (D.nil_iff hd).2 hdv
  subst hr
  have e : ser P f = conv (ser P q) (ser P d) := by rw [D.eq, ser_nil, sad_s0]
  have hq0 : q ≠ [] := fun e2 => hf.ne hf0 (by rw [e, e2, ser_nil, conv_s0])
  have hl := mulL_len_eq D.qP hd hq0 hd0
  have hfm : f = mulL P.p q d := hf.ext (mulL_isP P.pos _ _) (by rw [mulL_ser]; exact e)
  rw [← hfm] at hl
  have hql := List.length_pos_iff.2 hq0
  have hdl := List.length_pos_iff.2 hd0
  by_cases c1 : d.length = 1
  · exact .inl c1
  by_cases c2 : q.length = 1
  · exact .inr (by omega)
  exfalso
  by_cases c3 : d.length ≤ q.length
  · obtain ⟨m, hm, hml, hm1, hmd⟩ := dv_monic hd hd0 hdv
    exact hno m hm hm1 (by omega) (by omega) hmd
  · have hqd : Dv (ser P q) (ser P f) := by rw [e, conv_comm]; exact ⟨_, _, ser_dg P d, rfl⟩
    obtain ⟨m, hm, hml, hm1, hmd⟩ := dv_monic D.qP hq0 hqd
    exact hno m hm hm1 (by omega) (by omega) hmd
/-- And the other way round. -/
theorem Irl.no_half {P : Pr} {f d : List Nat} (I : Irl P f) (hd : IsP P.p d) (h2 : 2 ≤ d.length) (hl : 2 * (d.length - 1) ≤ f.length - 1) : ¬ Dv (ser P d) (ser P f) := fun h => by
  have := I.two
  rcases I.only d hd h with c | c <;> omega
end Wm
