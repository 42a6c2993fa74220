/-
  Plain: a polynomial has at most as many roots as its degree; common divisors of multiples. No program in sight.
-/
import Derived.Test.YtahchidghfeofaaZp1
set_option linter.unusedVariables false
set_option linter.unusedSimpArgs false
namespace Wm
namespace Fld
variable {K : Type} [Fld K]
theorem quo_zero : ∀ (l : List K) (r : K), (∀ x ∈ quo l r, x = z) → ev l r = z → ∀ x ∈ l, x = z
  | [], _, _, _, x, hx => absurd hx (by simp)
  | [a], r, _, h, x, hx => by
    simp only [ev] at h
    rw [ml_z, ad_z] at h
    simp only [List.mem_singleton] at hx
    rw [hx, h]
  | a :: b :: t, r, hq, h, x, hx => by
    simp only [quo, List.mem_cons] at hq
    have h1 := hq _ (.inl rfl)
    have ih := quo_zero (b :: t) r (fun y hy => hq y (.inr hy)) h1
    simp only [ev] at h h1
    rcases List.mem_cons.1 hx with rfl | hx
    · rw [h1, ml_z, ad_z] at h
      exact h
    · exact ih x hx
/-- As many zeros as coefficients: all coefficients are 0. -/
theorem coef_zero : ∀ (n : Nat) (l : List K), l.length ≤ n → ∀ (p : Nat → K), (∀ i j, i < n → j < n → p i = p j → i = j) → (∀ i, i < n → ev l (p i) = z) → ∀ x ∈ l, x = z
  | 0, l, hl, _, _, _, x, hx => by
    have : l = [] := List.eq_nil_of_length_eq_zero (by omega)
    subst this; simp at hx
  | n + 1, l, hl, p, hp, hz, x, hx => by
    have h0 := hz n (by omega)
    refine quo_zero l (p n) (coef_zero n (quo l (p n)) (by rw [quo_length]; omega) p (fun i j hi hj => hp i j (by omega) (by omega)) fun i hi => ?_) h0 x hx
    have e := quo_ev l (p n) (p i)
    rw [hz i (by omega), h0, sb_self] at e
    exact ml_eq_z e.symm fun h => by have := hp i n (by omega) (by omega) (sb_eq h); omega
end Fld
open Fld
theorem isP_zero {P : Pr} {l : List Nat} (h : IsP P.p l) (h0 : ∀ x ∈ l.map (zp P), x = z) : l = [] := by
  refine h.nil_of ?_
  funext k
  show zp P (l.getD k 0) = z
  rw [List.getD_eq_getElem?_getD]
  cases e : l[k]? with
  | none => rfl
  | some x => exact h0 _ (List.mem_map.2 ⟨x, List.mem_of_getElem? e, rfl⟩)
/-- Fewer roots than coefficients. -/
theorem roots_lt {P : Pr} {f : List Nat} (hf : IsP P.p f) (hne : f ≠ []) : ((List.range P.p).filter fun x => decide (evN P.p f x = 0)).length < f.length := by
  obtain ⟨L, hL⟩ : ∃ L, L = (List.range P.p).filter fun x => decide (evN P.p f x = 0) := ⟨_, rfl⟩
  rw [← hL]
  refine Classical.byContradiction fun hlt => hne (isP_zero hf ?_)
  have hmem : ∀ i, i < L.length → L.getD i 0 ∈ L := fun i hi => by rw [List.getD_eq_getElem?_getD, List.getElem?_eq_getElem hi]; exact List.getElem_mem hi
  have hin : ∀ x ∈ L, x < P.p ∧ evN P.p f x = 0 := fun x hx => by rw [hL] at hx; simpa using hx
  have hnd : L.Nodup := by rw [hL]; exact List.Pairwise.filter _ List.nodup_range
  refine coef_zero f.length (f.map (zp P)) (by simp) (fun i => zp P (L.getD i 0)) (fun i j hi hj e => ?_) fun i hi => ?_
  · have h1 := hin _ (hmem i (by omega))
    have h2 := hin _ (hmem j (by omega))
    have h3 := zp_inj h1.1 h2.1 e
    rw [List.getD_eq_getElem?_getD, List.getD_eq_getElem?_getD, List.getElem?_eq_getElem (by omega), List.getElem?_eq_getElem (by omega)] at h3
    exact (List.getElem_inj hnd).1 h3
  · rw [← evN_zp, (hin _ (hmem i (by omega))).2]; rfl
/-- Divided by x less a. -/
theorem rest_value {P : Pr} {f q r : List Nat} {a : Nat} (ha : a < P.p) (h : IsDiv P f [(P.p - a) % P.p, 1] q r) : (r = [] ∧ evN P.p f a = 0) ∨ (∃ c, r = [c] ∧ evN P.p f a = c) := by
  have hl := h.lt
  have hz : zp P ((P.p - a) % P.p) = ng (zp P a) := by rw [zp_mod, zp_ng P (by omega)]
  have hg : evs (ser P [(P.p - a) % P.p, 1]) 2 (zp P a) = z := by
    have : evs (ser P [(P.p - a) % P.p, 1]) 2 (zp P a) = ad (zp P ((P.p - a) % P.p)) (ml (zp P a) (ad (zp P 1) (ml (zp P a) z))) := rfl
    rw [this, hz, ml_z, ad_z, zp_one, ml_o, ad_comm, ad_ng]
  have he : evs (ser P f) (max f.length (q.length + 2)) (zp P a) = evs (ser P r) (max f.length (q.length + 2)) (zp P a) := by
    have hc : evs (conv (ser P q) (ser P [(P.p - a) % P.p, 1])) (max f.length (q.length + 2)) (zp P a) = z := by
      have h1 := evs_conv (ser_dg P q) (ser_dg P [(P.p - a) % P.p, 1]) (zp P a)
      have h2 := evs_more (dg_conv' (ser_dg P q) (ser_dg P [(P.p - a) % P.p, 1])) (zp P a) (n := max f.length (q.length + 2)) (by simp; omega)
      rw [h2]
      simp only [List.length_cons, List.length_nil, Nat.zero_add, Nat.reduceAdd] at h1 ⊢
      rw [h1, hg, ml_z]
    rw [h.eq, evs_ad, hc, z_ad]
  have hr : r.length < 2 := hl
  have h1 : zp P (evN P.p f a) = zp P (evN P.p r a) := by
    rw [evN_more P f a (n := max f.length (q.length + 2)) (by omega), evN_more P r a (n := max f.length (q.length + 2)) (by omega), he]
  have h2 := zp_inj (evN_lt P.pos _ _) (evN_lt P.pos _ _) h1
  match r, hr, h.rP with
  | [], _, _ => exact .inl ⟨rfl, h2⟩
  | [c], _, hrP =>
    refine .inr ⟨c, rfl, ?_⟩
    rw [h2]
    show (0 * a + c) % P.p = c
    rw [Nat.zero_mul, Nat.zero_add, Nat.mod_eq_of_lt (hrP.1 c (by simp))]
/-- Divisors of each other are of one length. -/
theorem dv_len {P : Pr} {f g : List Nat} (hf : IsP P.p f) (hg : IsP P.p g) (h : Dv (ser P f) (ser P g)) (hne : g ≠ []) : f.length ≤ g.length := by
  by_cases h0 : f = []
  · subst h0; simp
  · have := h.len (hg.ne hne) (hf.lead h0) (IsP.dg1 h0) (ser_dg P g)
    omega
theorem gcd_scale {P : Pr} {f g h d zl : List Nat} (hf : IsP P.p f) (hg : IsP P.p g) (hh : IsP P.p h) (hd : IsGcd P f g d) (hz : IsGcd P (mulL P.p f h) (mulL P.p g h) zl) (hd0 : d ≠ []) (hh0 : h ≠ []) :
    zl ≠ [] ∧ Dv (ser P h) (ser P zl) ∧ zl.length = d.length + h.length - 1 := by
  have hzl := hz.left
  have hzr := hz.right
  rw [mulL_ser] at hzl hzr
  have h1 : Dv (ser P h) (ser P zl) := hz.all _ (by rw [mulL_ser]; exact ⟨_, _, ser_dg P f, rfl⟩) (by rw [mulL_ser]; exact ⟨_, _, ser_dg P g, rfl⟩)
  have h2 : Dv (conv (ser P d) (ser P h)) (ser P zl) := hz.all _ (by rw [mulL_ser]; exact dv_conv hd.left) (by rw [mulL_ser]; exact dv_conv hd.right)
  obtain ⟨n, q, hq, he⟩ := h1
  have hhs := hh.ne hh0
  have cancel : ∀ u : List Nat, IsP P.p u → Dv (ser P zl) (conv (ser P u) (ser P h)) → Dv q (ser P u) := fun u hu hdv => by
    obtain ⟨m, r, hr, e⟩ := hdv
    refine ⟨m, r, hr, ?_⟩
    rw [he, ← conv_assoc] at e
    rw [conv_comm, conv_comm (conv r q)] at e
    exact conv_cancel (ser_dg P h) (ser_dg P u) (dg_conv' hr hq) hhs e
  have h3 : Dv q (ser P d) := hd.all _ (cancel f hf hzl) (cancel g hg hzr)
  have h4 : Dv (ser P zl) (conv (ser P d) (ser P h)) := by rw [he]; exact dv_conv h3
  have hml := mulL_len_eq hd.isP hh hd0 hh0
  have hm := mulL_isP P.pos d h
  rw [← mulL_ser] at h2 h4
  have hm0 : mulL P.p d h ≠ [] := fun e => by
    rw [e] at hml
    have := List.length_pos_iff.2 hd0
    have := List.length_pos_iff.2 hh0
    simp at hml; omega
  have hz0 : zl ≠ [] := fun e => by
    obtain ⟨m, r, hr, e2⟩ := h4
    rw [e, ser_nil, conv_s0'] at e2
    exact hm.ne hm0 e2
  refine ⟨hz0, ⟨n, q, hq, he⟩, ?_⟩
  have a := dv_len hm hz.isP h2 hz0
  have b := dv_len hz.isP hm h4 hm0
  omega
/-- Divided without rest. -/
theorem IsDiv.nil_iff {P : Pr} {f g q r : List Nat} (hg : IsP P.p g) (h : IsDiv P f g q r) : r = [] ↔ Dv (ser P g) (ser P f) := by
  constructor
  · intro e
    rw [h.eq, e, ser_nil, sad_s0]
    exact ⟨_, _, ser_dg P q, rfl⟩
  · intro hd
    have h1 : Dv (ser P g) (ser P r) := (h.dv_iff (Dv.refl _)).1 hd
    refine Classical.byContradiction fun hne => ?_
    have := dv_len hg h.rP h1 hne
    have := h.lt
    omega
end Wm
