/-
  GALOIS; FROBENIUS: the rests by a polynomial without divisors, multiplied, are a Dom. No program in sight.
-/
import Derived.Test.YtahchidghfeofaaGal3
set_option linter.unusedVariables false
set_option linter.unusedSimpArgs false
namespace Wm
open Fld
noncomputable def rst (P : Pr) (f h : List Nat) : List Nat := Classical.epsilon fun r => ∃ q, IsDiv P h f q r
theorem rst_spec {P : Pr} {f h : List Nat} (hf : IsP P.p f) (hf0 : f ≠ []) (hh : IsP P.p h) : ∃ q, IsDiv P h f q (rst P f h) := by
  obtain ⟨q, r, D⟩ := div_ex P hh hf hf0
  exact Classical.epsilon_spec (p := fun r => ∃ q, IsDiv P h f q r) ⟨r, q, D⟩
/-- Alike, but for multiples of f. -/
def Eqf (P : Pr) (f : List Nat) (u v : Nat → Zp P) : Prop := Dv (ser P f) (sad u (sng v))
section
variable {P : Pr} {f : List Nat} {u v w : Nat → Zp P}
theorem Eqf.refl (u : Nat → Zp P) : Eqf P f u u := by unfold Eqf; rw [sad_sng]; exact dv_s0 _
theorem Eqf.symm (h : Eqf P f u v) : Eqf P f v u := by
  unfold Eqf at *
  have e : sad v (sng u) = sng (sad u (sng v)) := by
    funext k
    show ad (v k) (ng (u k)) = ng (ad (u k) (ng (v k)))
    rw [ng_ad, ng_ng, ad_comm]
  rw [e]; exact h.ng
theorem Eqf.trans (h : Eqf P f u v) (h' : Eqf P f v w) : Eqf P f u w := by
  unfold Eqf at *
  have e : sad u (sng w) = sad (sad u (sng v)) (sad v (sng w)) := by
    funext k
    show ad (u k) (ng (w k)) = ad (ad (u k) (ng (v k))) (ad (v k) (ng (w k)))
    rw [ad_assoc, ← ad_assoc (ng (v k)), ad_comm (ng (v k)), ad_ng, z_ad]
  rw [e]; exact h.ad h'
theorem Eqf.mul {n : Nat} (hw : Dg n w) (h : Eqf P f u v) : Eqf P f (conv w u) (conv w v) := by
  unfold Eqf at *
  have e : sad (conv w u) (sng (conv w v)) = conv w (sad u (sng v)) := by rw [conv_ad_right, conv_sng']
  rw [e]; exact Dv.ml hw h
theorem IsDiv.eqf {h q r : List Nat} (D : IsDiv P h f q r) : Eqf P f (ser P h) (ser P r) := by
  unfold Eqf
  rw [D.eq, sad_assoc, sad_sng, sad_s0]
  exact ⟨_, _, ser_dg P q, rfl⟩
theorem Eqf.same {a b : List Nat} (hf : IsP P.p f) (hf0 : f ≠ []) (ha : IsP P.p a) (hb : IsP P.p b) (hal : a.length < f.length) (hbl : b.length < f.length) (h : Eqf P f (ser P a) (ser P b)) : a = b := by
  refine ha.ext hb (eq_of_sub ?_)
  apply Classical.byContradiction
  intro hz
  have := Dv.len h hz (hf.lead hf0) (IsP.dg1 hf0) (((ser_dg P a).more (n := f.length - 1) (by omega)).ad ((ser_dg P b).more (n := f.length - 1) (by omega)).ng)
  omega
end
theorem ne_of_len {f : List Nat} {k : Nat} (hk : f.length = k + 1) : f ≠ [] := fun e => by rw [e] at hk; simp at hk
/-- The product of two numbers' polynomials: the rest's number. -/
noncomputable def mlG (P : Pr) (f : List Nat) (k x y : Nat) : Nat := codN P.p k (rst P f (mulL P.p (polN P.p k x) (polN P.p k y)))
section
variable {P : Pr} {f : List Nat} {k : Nat} (I : Irl P f) (hk : f.length = k + 1)
include I hk
theorem Irl.mlG_pol (x y : Nat) : ∃ q, IsDiv P (mulL P.p (polN P.p k x) (polN P.p k y)) f q (polN P.p k (mlG P f k x y)) := by
  obtain ⟨q, D⟩ := rst_spec I.isP (ne_of_len hk) (mulL_isP P.pos (polN P.p k x) (polN P.p k y))
  refine ⟨q, ?_⟩
  unfold mlG
  rw [pol_cod D.rP (by have := D.lt; omega)]
  exact D
theorem Irl.mlG_eqf (x y : Nat) : Eqf P f (conv (ser P (polN P.p k x)) (ser P (polN P.p k y))) (ser P (polN P.p k (mlG P f k x y))) := by
  obtain ⟨q, D⟩ := I.mlG_pol hk x y
  have := D.eqf
  rwa [mulL_ser] at this
theorem Irl.code_same {x y : Nat} (hx : x < P.p ^ k) (hy : y < P.p ^ k) (h : Eqf P f (ser P (polN P.p k x)) (ser P (polN P.p k y))) : x = y := by
  have := Eqf.same I.isP (ne_of_len hk) (polN_isP P.pos k x) (polN_isP P.pos k y) (by have := polN_len P.p k x; omega) (by have := polN_len P.p k y; omega) h
  rw [← cod_pol hx, ← cod_pol hy, this]
theorem Irl.mlG_lt (x y : Nat) : mlG P f k x y < P.p ^ k := by
  obtain ⟨q, D⟩ := rst_spec I.isP (ne_of_len hk) (mulL_isP P.pos (polN P.p k x) (polN P.p k y))
  exact codN_lt D.rP
theorem Irl.dom : Dom (P.p ^ k) (mlG P f k) := by
  have hk1 : 1 ≤ k := by have := I.two; omega
  have hbig : 1 < P.p ^ k := Nat.lt_of_lt_of_le P.two (by
    calc P.p = P.p ^ 1 := (Nat.pow_one _).symm
      _ ≤ P.p ^ k := Nat.pow_le_pow_right P.pos hk1)
  have hpn : polN P.p k 0 = [] := by
    refine (polN_isP P.pos k 0).nil_of ?_
    unfold polN
    rw [trimL_ser]
    have : ∀ k, digs P.p k 0 = List.replicate k 0 := fun k => by
      induction k with
      | zero => rfl
      | succ k ih => simp only [digs, Nat.zero_mod, Nat.zero_div, ih]; rfl
    rw [this]
    funext j
    show zp P ((List.replicate k 0).getD j 0) = z
    have : (List.replicate k 0).getD j 0 = 0 := by
      rw [List.getD_eq_getElem?_getD, List.getElem?_replicate]; split <;> rfl
    rw [this]; rfl
  have hp1 : polN P.p k 1 = [1] := by
    have h1 : IsP P.p [1] := ⟨fun x hx => by simp at hx; subst hx; exact P.two, fun _ => by simp⟩
    have hc : codN P.p k [1] = 1 := by
      unfold codN mkL
      obtain ⟨j, rfl⟩ : ∃ j, k = j + 1 := ⟨k - 1, by omega⟩
      rw [List.range_succ_eq_map, List.map_cons, List.map_map]
      simp only [numG]
      have : ∀ l : List Nat, numG P.p (l.map ((fun i => [1].getD i 0) ∘ Nat.succ)) = 0 := fun l => by
        induction l with
        | nil => rfl
        | cons a l ih =>
          simp only [List.map_cons, numG, ih, Nat.mul_zero, Nat.add_zero]
          rfl
      rw [this]; rfl
    have h2 := pol_cod (P := P) (k := k) h1 (by simpa using hk1)
    rwa [hc] at h2
  refine ⟨hbig, fun x y _ _ => I.mlG_lt hk x y, fun x y _ _ => ?_, fun x y c hx hy hc => ?_, fun x hx => ?_, fun x hx => ?_, fun a x y ha hx hy h0 h => ?_⟩
  · unfold mlG
    have : mulL P.p (polN P.p k x) (polN P.p k y) = mulL P.p (polN P.p k y) (polN P.p k x) := (mulL_isP P.pos _ _).ext (mulL_isP P.pos _ _) (by rw [mulL_ser, mulL_ser, conv_comm])
    rw [this]
  · refine I.code_same hk (I.mlG_lt hk _ _) (I.mlG_lt hk _ _) ?_
    have e1 := I.mlG_eqf hk (mlG P f k x y) c
    have e2 := I.mlG_eqf hk x y
    have e3 := I.mlG_eqf hk x (mlG P f k y c)
    have e4 := I.mlG_eqf hk y c
    have a1 := e2.mul (ser_dg P (polN P.p k c))
    rw [conv_comm, conv_comm _ (ser P (polN P.p k (mlG P f k x y)))] at a1
    have a2 := e4.mul (ser_dg P (polN P.p k x))
    rw [← conv_assoc] at a2
    exact e1.symm.trans (a1.symm.trans (a2.trans e3))
  · refine I.code_same hk (I.mlG_lt hk _ _) hx ?_
    have e := I.mlG_eqf hk 1 x
    rw [hp1, ser_one, conv_s1] at e
    exact e.symm
  · refine I.code_same hk (I.mlG_lt hk _ _) (by omega) ?_
    have e := I.mlG_eqf hk 0 x
    rw [hpn, ser_nil, conv_s0] at e
    rw [hpn, ser_nil]
    exact e.symm
  · refine I.code_same hk hx hy ?_
    have e1 := I.mlG_eqf hk a x
    have e2 := I.mlG_eqf hk a y
    rw [h] at e1
    have e3 := e1.trans e2.symm
    unfold Eqf at e3 ⊢
    have e4 : sad (conv (ser P (polN P.p k a)) (ser P (polN P.p k x))) (sng (conv (ser P (polN P.p k a)) (ser P (polN P.p k y)))) = conv (ser P (polN P.p k a)) (sad (ser P (polN P.p k x)) (sng (ser P (polN P.p k y)))) := by rw [conv_ad_right, conv_sng']
    rw [e4] at e3
    have e5 : sad (ser P (polN P.p k x)) (sng (ser P (polN P.p k y))) = ser P (addL P.p (polN P.p k x) (sclL P.p (P.p - 1) (polN P.p k y))) := by
      rw [addL_ser, sclL_ser]
      congr 1
      funext j
      show ng (ser P (polN P.p k y) j) = ml (zp P (P.p - 1)) (ser P (polN P.p k y) j)
      rw [zp_ng P (Nat.le_of_lt P.two), zp_one, ng_ml, o_ml]
    rw [e5] at e3 ⊢
    refine I.prime (polN_isP P.pos k a) (addL_isP P.pos _ _) e3 fun hd => ?_
    have hane : polN P.p k a ≠ [] := fun e => h0 (by
      have := cod_pol ha
      rw [e, ← hpn, cod_pol (by omega)] at this
      exact this.symm)
    have h1 := dv_len I.isP (polN_isP P.pos k a) hd hane
    have h2 := polN_len P.p k a
    omega
end
end Wm
