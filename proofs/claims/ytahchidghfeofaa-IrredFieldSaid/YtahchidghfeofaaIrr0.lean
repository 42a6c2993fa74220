/-
  Plain: monic polynomials by their numbers; a product of two polynomials that are not constant has a monic divisor of at most half its degree. No program in sight.
-/
import Derived.Test.YtahchidghfeofaaZp3
set_option linter.unusedVariables false
set_option linter.unusedSimpArgs false
namespace Wm
open Fld
/-- The monic polynomial with number k. -/
def monF (p n k j : Nat) : Nat := if j < n then k / p ^ j % p else if j = n then 1 else 0
def monL (p n k : Nat) : List Nat := mkL (n + 1) (monF p n k)
theorem monL_len (p n k : Nat) : (monL p n k).length = n + 1 := mkL_length _ _
theorem monL_isP {P : Pr} (n k : Nat) : IsP P.p (monL P.p n k) := by
  refine ⟨mkL_lt fun j _ => ?_, fun _ => ?_⟩
  · unfold monF
    split
    · exact Nat.mod_lt _ P.pos
    · split
      · exact P.two
      · exact P.pos
  · rw [monL_len, Nat.add_sub_cancel]
    unfold monL
    rw [mkL_get _ (by omega)]
    unfold monF
    rw [if_neg (by omega), if_pos rfl]; omega
/-- The number of some digits. -/
def numL (p : Nat) : List Nat → Nat
  | [] => 0
  | a :: l => a + p * numL p l
theorem numL_lt {p : Nat} (hp : 0 < p) : ∀ l : List Nat, (∀ x ∈ l, x < p) → numL p l < p ^ l.length
  | [], _ => by simp [numL]
  | a :: l, h => by
    have h1 := h a (by simp)
    have h2 := numL_lt hp l fun x hx => h x (by simp [hx])
    show a + p * numL p l < p ^ (l.length + 1)
    have h3 : p * (numL p l + 1) ≤ p * p ^ l.length := Nat.mul_le_mul_left p h2
    rw [Nat.pow_succ, Nat.mul_comm (p ^ l.length)]
    rw [Nat.mul_add] at h3
    omega
theorem numL_digit {p : Nat} (hp : 0 < p) : ∀ (l : List Nat), (∀ x ∈ l, x < p) → ∀ j, j < l.length → numL p l / p ^ j % p = l.getD j 0
  | [], _, j, hj => by simp at hj
  | a :: l, h, j, hj => by
    have h1 := h a (by simp)
    cases j with
    | zero =>
      show (a + p * numL p l) / 1 % p = a
      rw [Nat.div_one, Nat.add_mul_mod_self_left, Nat.mod_eq_of_lt h1]
    | succ j =>
      show (a + p * numL p l) / p ^ (j + 1) % p = l.getD j 0
      rw [Nat.pow_succ, Nat.mul_comm (p ^ j), ← Nat.div_div_eq_div_mul, Nat.add_mul_div_left _ _ hp, Nat.div_eq_of_lt h1, Nat.zero_add]
      exact numL_digit hp l (fun x hx => h x (by simp [hx])) j (by simpa using hj)
/-- A monic polynomial has a number. -/
theorem mon_of {P : Pr} {g : List Nat} (hg : IsP P.p g) {n : Nat} (hl : g.length = n + 1) (h1 : g.getD n 0 = 1) : ∃ k, k < P.p ^ n ∧ monL P.p n k = g := by
  have hlt : ∀ x ∈ g.take n, x < P.p := fun x hx => hg.1 x (List.mem_of_mem_take hx)
  have htl : (g.take n).length = n := by rw [List.length_take]; omega
  refine ⟨numL P.p (g.take n), by have := numL_lt P.pos _ hlt; rwa [htl] at this, ?_⟩
  refine list_ext_getD_ (by rw [monL_len, hl]) fun j hj => ?_
  rw [monL_len] at hj
  unfold monL
  rw [mkL_get _ hj]
  unfold monF
  by_cases h : j < n
  · rw [if_pos h, numL_digit P.pos _ hlt j (by omega), List.getD_eq_getElem?_getD, List.getElem?_take_of_lt h, ← List.getD_eq_getElem?_getD]
  · rw [if_neg h, if_pos (by omega), show j = n by omega, h1]
/-- No monic divisor of at most half the degree. -/
def Irr (P : Pr) (f : List Nat) : Prop := 2 ≤ f.length ∧ ∀ d, 1 ≤ d → 2 * d + 1 ≤ f.length → ∀ k, k < P.p ^ d → ¬ Dv (ser P (monL P.p d k)) (ser P f)
/-- A monic multiple of the same degree. -/
theorem mon_mult {P : Pr} {g : List Nat} (hg : IsP P.p g) (hne : g ≠ []) : ∃ k, k < P.p ^ (g.length - 1) ∧ Dv (ser P (monL P.p (g.length - 1) k)) (ser P g) := by
  have hpos := List.length_pos_iff.2 hne
  have hlead := hg.2 hne
  have hltl := hg.lt P.pos (g.length - 1)
  have hnd : ¬ P.p ∣ g.getD (g.length - 1) 0 := fun h => hlead (Nat.eq_zero_of_dvd_of_lt h hltl)
  obtain ⟨c, hc⟩ : ∃ c, c = g.getD (g.length - 1) 0 ^ (P.p - 2) % P.p := ⟨_, rfl⟩
  have hcl : c < P.p := by rw [hc]; exact Nat.mod_lt _ P.pos
  have hinv := inv_ex P hnd
  have hcm : g.getD (g.length - 1) 0 * c % P.p = 1 := by
    rw [hc, Nat.mul_mod_mod, hinv, Nat.mod_eq_of_lt P.two]
  have hc0 : c ≠ 0 := fun e => by rw [e, Nat.mul_zero, Nat.zero_mod] at hcm; omega
  have hpc : IsP P.p [c] := ⟨fun x hx => by simp at hx; omega, fun _ => by simpa using hc0⟩
  have hml := mulL_len_eq hg hpc hne (by simp)
  simp only [List.length_cons, List.length_nil, Nat.zero_add, Nat.add_sub_cancel] at hml
  have hm := mulL_isP P.pos g [c]
  have hs : ser P [c] = ssc (zp P c) s1 := by
    funext k
    cases k with
    | zero => show zp P c = ml (zp P c) o; rw [ml_o]
    | succ k => show zp P 0 = ml (zp P c) z; rw [ml_z]; rfl
  have hser : ser P (mulL P.p g [c]) = ssc (zp P c) (ser P g) := by rw [mulL_ser, hs, conv_sc_right, conv_s1']
  have hone : (mulL P.p g [c]).getD (g.length - 1) 0 = 1 := by
    apply zp_inj (hm.lt P.pos _) P.two
    refine (congrFun hser (g.length - 1)).trans ?_
    show ml (zp P c) (zp P _) = zp P 1
    rw [← zp_mul, Nat.mul_comm]
    exact zp_eq.2 (by rw [hcm, Nat.mod_eq_of_lt P.two])
  obtain ⟨k, hk, he⟩ := mon_of hm (n := g.length - 1) (by omega) hone
  refine ⟨k, hk, ?_⟩
  rw [he]
  have hback : ser P g = ssc (iv (zp P c)) (ser P (mulL P.p g [c])) := by
    rw [hser]
    funext j
    show _ = ml (iv (zp P c)) (ml (zp P c) (ser P g j))
    rw [← ml_assoc, ml_comm (iv _), ml_iv _ (zp_ne hcl hc0), o_ml]
  rw [hback]
  exact (Dv.refl _).sc _
theorem not_irr {P : Pr} {f g : List Nat} (hf : IsP P.p f) (hg : IsP P.p g) (h1 : 2 ≤ f.length) (h2 : 2 ≤ g.length) : ¬ Irr P (mulL P.p f g) := fun hi => by
  have hfn : f ≠ [] := fun e => by rw [e] at h1; simp at h1
  have hgn : g ≠ [] := fun e => by rw [e] at h2; simp at h2
  have hl := mulL_len_eq hf hg hfn hgn
  rcases Nat.le_total f.length g.length with h | h
  · obtain ⟨k, hk, hd⟩ := mon_mult hf hfn
    refine hi.2 (f.length - 1) (by omega) (by omega) k hk (hd.trans ?_)
    rw [mulL_ser, conv_comm]
    exact ⟨_, _, ser_dg P g, rfl⟩
  · obtain ⟨k, hk, hd⟩ := mon_mult hg hgn
    refine hi.2 (g.length - 1) (by omega) (by omega) k hk (hd.trans ?_)
    rw [mulL_ser]
    exact ⟨_, _, ser_dg P f, rfl⟩
end Wm
