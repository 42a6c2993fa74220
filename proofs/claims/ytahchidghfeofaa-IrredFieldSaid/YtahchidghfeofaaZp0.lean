/-
  Plain: the remainders by a prime number as a field; lists of remainders as polynomials. No program in sight.
-/
import Derived.Test.YtahchidghfeofaaSer0
import Derived.Test.YtahchidghfeofaaRest0
import Derived.Test.YtahchidghfeofaaPrime0
import Derived.Test.YtahchidghfeofaaUnits0
set_option linter.unusedVariables false
set_option linter.unusedSimpArgs false
namespace Wm
open Fld

structure Pr where
  p : Nat
  hp : Prime p
theorem Pr.pos (P : Pr) : 0 < P.p := P.hp.pos
theorem Pr.two (P : Pr) : 1 < P.p := P.hp.1
abbrev Zp (P : Pr) : Type := { n : Nat // n < P.p }
def zp (P : Pr) (n : Nat) : Zp P := ⟨n % P.p, Nat.mod_lt _ P.pos⟩
theorem zp_val {P : Pr} {n : Nat} (h : n < P.p) : (zp P n).1 = n := Nat.mod_eq_of_lt h
theorem zp_self {P : Pr} (a : Zp P) : zp P a.1 = a := Subtype.ext (zp_val a.2)
theorem zp_eq {P : Pr} {a b : Nat} : zp P a = zp P b ↔ a % P.p = b % P.p := ⟨fun h => congrArg Subtype.val h, fun h => Subtype.ext h⟩
theorem zp_inj {P : Pr} {a b : Nat} (ha : a < P.p) (hb : b < P.p) (h : zp P a = zp P b) : a = b := by
  have := zp_eq.1 h
  rwa [Nat.mod_eq_of_lt ha, Nat.mod_eq_of_lt hb] at this
theorem zp_mod (P : Pr) (a : Nat) : zp P (a % P.p) = zp P a := zp_eq.2 (Nat.mod_mod _ _)
theorem inv_ex (P : Pr) {a : Nat} (ha : ¬ P.p ∣ a) : a * a ^ (P.p - 2) % P.p = 1 % P.p := by
  have h2 := P.two
  have hc : Nat.gcd a P.p = 1 := by rw [Nat.gcd_comm]; exact P.hp.coprime ha
  have := euler hc
  rw [units_prime P.hp] at this
  rw [← this, show P.p - 1 = (P.p - 2) + 1 by omega, Nat.pow_succ, Nat.mul_comm]
instance (P : Pr) : Fld (Zp P) where
  z := zp P 0
  o := zp P 1
  ad a b := zp P (a.1 + b.1)
  ml a b := zp P (a.1 * b.1)
  ng a := zp P (P.p - a.1)
  iv a := zp P (a.1 ^ (P.p - 2))
  ad_assoc a b c := zp_eq.2 (by show ((a.1 + b.1) % P.p + c.1) % P.p = (a.1 + (b.1 + c.1) % P.p) % P.p; rw [Nat.mod_add_mod, Nat.add_mod_mod, Nat.add_assoc])
  ad_comm a b := zp_eq.2 (by rw [Nat.add_comm])
  ad_z a := by show zp P (a.1 + 0 % P.p) = a; rw [Nat.zero_mod, Nat.add_zero, zp_self]
  ad_ng a := zp_eq.2 (by
    show (a.1 + (P.p - a.1) % P.p) % P.p = 0 % P.p
    have := a.2
    rw [Nat.add_mod_mod, show a.1 + (P.p - a.1) = P.p by omega, Nat.mod_self, Nat.zero_mod])
  ml_assoc a b c := zp_eq.2 (by show ((a.1 * b.1) % P.p * c.1) % P.p = (a.1 * ((b.1 * c.1) % P.p)) % P.p; rw [Nat.mod_mul_mod, Nat.mul_mod_mod, Nat.mul_assoc])
  ml_comm a b := zp_eq.2 (by rw [Nat.mul_comm])
  ml_o a := by
    show zp P (a.1 * (1 % P.p)) = a
    rw [Nat.mod_eq_of_lt P.two, Nat.mul_one, zp_self]
  ml_ad a b c := zp_eq.2 (by
    show (a.1 * ((b.1 + c.1) % P.p)) % P.p = ((a.1 * b.1) % P.p + (a.1 * c.1) % P.p) % P.p
    rw [Nat.mul_mod_mod, ← Nat.add_mod, Nat.mul_add])
  ml_iv a h := zp_eq.2 (by
    show (a.1 * (a.1 ^ (P.p - 2) % P.p)) % P.p = 1 % P.p
    rw [Nat.mul_mod_mod]
    refine inv_ex P fun hd => h ?_
    have h0 : a.1 = 0 := Nat.eq_zero_of_dvd_of_lt hd a.2
    rw [← zp_self a, h0])
  o_ne h := by
    have := zp_eq.1 h
    rw [Nat.mod_eq_of_lt P.two, Nat.zero_mod] at this
    omega
theorem zp_zero (P : Pr) : zp P 0 = z := rfl
theorem zp_one (P : Pr) : zp P 1 = o := rfl
theorem zp_add (P : Pr) (a b : Nat) : zp P (a + b) = ad (zp P a) (zp P b) := zp_eq.2 (by show (a + b) % P.p = (a % P.p + b % P.p) % P.p; rw [← Nat.add_mod])
theorem zp_mul (P : Pr) (a b : Nat) : zp P (a * b) = ml (zp P a) (zp P b) := zp_eq.2 (by show (a * b) % P.p = (a % P.p * (b % P.p)) % P.p; rw [← Nat.mul_mod])
theorem zp_ng (P : Pr) {a : Nat} (h : a ≤ P.p) : zp P (P.p - a) = ng (zp P a) := ng_unique (by
  rw [← zp_add, show a + (P.p - a) = P.p by omega]
  exact zp_eq.2 (by rw [Nat.mod_self, Nat.zero_mod]))
theorem zp_ne {P : Pr} {a : Nat} (h : a < P.p) (h0 : a ≠ 0) : zp P a ≠ z := fun e => h0 (zp_inj h P.pos e)
theorem zp_iv {P : Pr} {a b : Nat} (h : a * b % P.p = 1) : zp P b = iv (zp P a) := iv_unique (by
  rw [← zp_mul]
  exact zp_eq.2 (by rw [h, Nat.mod_eq_of_lt P.two]))

/-! ### Lists as polynomials -/
def ser (P : Pr) (l : List Nat) : Nat → Zp P := fun k => zp P (l.getD k 0)
def IsP (p : Nat) (l : List Nat) : Prop := (∀ x ∈ l, x < p) ∧ (l ≠ [] → l.getD (l.length - 1) 0 ≠ 0)
theorem getD_big {l : List Nat} {k : Nat} (h : l.length ≤ k) : l.getD k 0 = 0 := by rw [List.getD_eq_getElem?_getD, List.getElem?_eq_none h]; rfl
theorem getD_lt_of {l : List Nat} {m : Nat} (hm : 0 < m) (h : ∀ x ∈ l, x < m) (i : Nat) : l.getD i 0 < m := by
  rw [List.getD_eq_getElem?_getD]
  cases e : l[i]? with
  | none => exact hm
  | some x => exact h x (List.mem_of_getElem? e)
theorem IsP.lt {p : Nat} {l : List Nat} (h : IsP p l) (hp : 0 < p) (i : Nat) : l.getD i 0 < p := getD_lt_of hp h.1 i
theorem ser_dg (P : Pr) (l : List Nat) : Dg l.length (ser P l) := fun k hk => by unfold ser; rw [getD_big hk]; rfl
theorem isP_nil (p : Nat) : IsP p [] := ⟨fun _ h => absurd h (by simp), fun h => absurd rfl h⟩
theorem IsP.lead {P : Pr} {l : List Nat} (h : IsP P.p l) (hl : l ≠ []) : ser P l (l.length - 1) ≠ z := zp_ne (h.lt P.pos _) (h.2 hl)
theorem IsP.len {P : Pr} {l : List Nat} (h : IsP P.p l) {n : Nat} (hd : Dg n (ser P l)) : l.length ≤ n := by
  rcases Nat.lt_or_ge n l.length with h1 | h1
  · exact absurd (hd _ (by omega)) (h.lead fun e => by rw [e] at h1; simp at h1)
  · exact h1
theorem list_ext_getD_ {l m : List Nat} (h : l.length = m.length) (hg : ∀ i, i < l.length → l.getD i 0 = m.getD i 0) : l = m := by
  apply List.ext_getElem h
  intro i h1 h2
  have := hg i h1
  rwa [List.getD_eq_getElem?_getD, List.getD_eq_getElem?_getD, List.getElem?_eq_getElem h1, List.getElem?_eq_getElem h2] at this
theorem IsP.ext {P : Pr} {l m : List Nat} (hl : IsP P.p l) (hm : IsP P.p m) (h : ser P l = ser P m) : l = m := by
  have h1 := hl.len (h ▸ ser_dg P m)
  have h2 := hm.len (h ▸ ser_dg P l)
  refine list_ext_getD_ (by omega) fun i hi => zp_inj (hl.lt P.pos i) (hm.lt P.pos i) (congrFun h i)
theorem ser_nil (P : Pr) : ser P [] = s0 := rfl
theorem IsP.nil_of {P : Pr} {l : List Nat} (h : IsP P.p l) (e : ser P l = s0) : l = [] := h.ext (isP_nil _) e
theorem IsP.ne {P : Pr} {l : List Nat} (h : IsP P.p l) (e : l ≠ []) : ser P l ≠ s0 := fun e2 => e (h.nil_of e2)
theorem IsP.dg1 {P : Pr} {l : List Nat} (h : l ≠ []) : Dg (l.length - 1 + 1) (ser P l) := (ser_dg P l).more (by have := List.length_pos_iff.2 h; omega)

/-- Without zeros at the end. -/
def trimN (l : List Nat) : Nat → List Nat
  | 0 => []
  | n + 1 => if l.getD n 0 = 0 then trimN l n else l.take (n + 1)
def trimL (l : List Nat) : List Nat := trimN l l.length
theorem trimN_le (l : List Nat) : ∀ n, n ≤ l.length → ∃ m, m ≤ n ∧ trimN l n = l.take m
  | 0, _ => ⟨0, Nat.le_refl _, by simp [trimN]⟩
  | n + 1, h => by
    simp only [trimN]
    split
    · obtain ⟨m, h1, h2⟩ := trimN_le l n (by omega)
      exact ⟨m, by omega, h2⟩
    · exact ⟨n + 1, Nat.le_refl _, rfl⟩
theorem trimN_last (l : List Nat) : ∀ n, n ≤ l.length → trimN l n ≠ [] → (trimN l n).getD ((trimN l n).length - 1) 0 ≠ 0
  | 0, _, h => absurd rfl h
  | n + 1, h, hne => by
    simp only [trimN] at hne ⊢
    split
    · rename_i e
      rw [if_pos e] at hne
      exact trimN_last l n (by omega) hne
    · rename_i e
      rw [List.length_take, Nat.min_eq_left h, Nat.add_sub_cancel, List.getD_eq_getElem?_getD, List.getElem?_take_of_lt (by omega), ← List.getD_eq_getElem?_getD]
      exact e
theorem trimN_get (l : List Nat) : ∀ n, n ≤ l.length → ∀ k, (trimN l n).getD k 0 = if k < n then l.getD k 0 else 0
  | 0, _, k => by simp [trimN]
  | n + 1, h, k => by
    simp only [trimN]
    split
    · rename_i e
      rw [trimN_get l n (by omega) k]
      by_cases hk : k < n
      · rw [if_pos hk, if_pos (by omega)]
      · rw [if_neg hk]
        split
        · obtain rfl : k = n := by omega
          exact e.symm
        · rfl
    · by_cases hk : k < n + 1
      · rw [if_pos hk, List.getD_eq_getElem?_getD, List.getElem?_take_of_lt hk, ← List.getD_eq_getElem?_getD]
      · rw [if_neg hk, getD_big (by rw [List.length_take]; omega)]
theorem trimL_get (l : List Nat) (k : Nat) : (trimL l).getD k 0 = l.getD k 0 := by
  unfold trimL
  rw [trimN_get l _ (Nat.le_refl _) k]
  split
  · rfl
  · rw [getD_big (by omega)]
theorem trimL_ser (P : Pr) (l : List Nat) : ser P (trimL l) = ser P l := by funext k; unfold ser; rw [trimL_get]
theorem trimL_isP {p : Nat} {l : List Nat} (h : ∀ x ∈ l, x < p) : IsP p (trimL l) := by
  refine ⟨fun x hx => ?_, fun hne => trimN_last l _ (Nat.le_refl _) hne⟩
  obtain ⟨m, -, e⟩ := trimN_le l _ (Nat.le_refl _)
  unfold trimL at hx
  rw [e] at hx
  exact h x (List.mem_of_mem_take hx)
theorem trimL_len (l : List Nat) : (trimL l).length ≤ l.length := by
  obtain ⟨m, -, e⟩ := trimN_le l _ (Nat.le_refl _)
  unfold trimL
  rw [e, List.length_take]; omega
theorem trimL_self {p : Nat} {l : List Nat} (h : IsP p l) : trimL l = l := by
  unfold trimL
  cases hl : l.length with
  | zero => rw [List.eq_nil_of_length_eq_zero hl]; rfl
  | succ n =>
    simp only [trimN]
    rw [if_neg, List.take_of_length_le (by omega)]
    have := h.2 (by rintro rfl; simp at hl)
    rwa [hl] at this

/-- Values as a list. -/
def mkL (n : Nat) (f : Nat → Nat) : List Nat := (List.range n).map f
theorem mkL_length (n : Nat) (f : Nat → Nat) : (mkL n f).length = n := by simp [mkL]
theorem mkL_get {n k : Nat} (f : Nat → Nat) (h : k < n) : (mkL n f).getD k 0 = f k := by
  unfold mkL
  rw [List.getD_eq_getElem?_getD, List.getElem?_map, List.getElem?_range h]; rfl
theorem mkL_lt {n p : Nat} {f : Nat → Nat} (h : ∀ k, k < n → f k < p) : ∀ x ∈ mkL n f, x < p := fun x hx => by
  obtain ⟨k, hk, rfl⟩ := List.mem_map.1 hx
  exact h k (List.mem_range.1 hk)
theorem mkL_ser (P : Pr) (n : Nat) (f : Nat → Nat) (h : ∀ k, n ≤ k → f k = 0) : ser P (mkL n f) = fun k => zp P (f k) := by
  funext k
  unfold ser
  by_cases hk : k < n
  · rw [mkL_get f hk]
  · rw [getD_big (by rw [mkL_length]; omega), h k (by omega)]
theorem mkL_congr {n : Nat} {f g : Nat → Nat} (h : ∀ k, k < n → f k = g k) : mkL n f = mkL n g := by
  unfold mkL
  apply List.map_congr_left
  intro k hk
  exact h k (List.mem_range.1 hk)
theorem mkL_set {n k : Nat} (f : Nat → Nat) (h : k < n) (x : Nat) : (mkL n f).set k x = mkL n (fun j => if j = k then x else f j) := by
  apply List.ext_getElem (by simp [mkL])
  intro j h1 h2
  rw [List.getElem_set]
  simp only [mkL, List.getElem_map, List.getElem_range]
  by_cases e : k = j
  · subst e; simp
  · rw [if_neg e, if_neg fun h => e h.symm]
theorem mkL_self (l : List Nat) : mkL l.length (fun k => l.getD k 0) = l := by
  refine list_ext_getD_ (mkL_length _ _) fun i hi => ?_
  rw [mkL_get _ (by rwa [mkL_length] at hi)]

/-! ### Sums and products -/
def addF (p : Nat) (f g : List Nat) (k : Nat) : Nat := (f.getD k 0 + g.getD k 0) % p
def addL (p : Nat) (f g : List Nat) : List Nat := trimL (mkL (max f.length g.length) (addF p f g))
theorem addL_isP {p : Nat} (hp : 0 < p) (f g : List Nat) : IsP p (addL p f g) := trimL_isP (mkL_lt fun k _ => Nat.mod_lt _ hp)
theorem addL_ser (P : Pr) (f g : List Nat) : ser P (addL P.p f g) = sad (ser P f) (ser P g) := by
  unfold addL
  rw [trimL_ser, mkL_ser]
  · funext k
    show zp P ((f.getD k 0 + g.getD k 0) % P.p) = _
    rw [zp_mod, zp_add]; rfl
  · intro k hk
    unfold addF
    rw [getD_big (by omega), getD_big (by omega), Nat.zero_mod]
theorem addL_len (p : Nat) (f g : List Nat) : (addL p f g).length ≤ max f.length g.length := by
  refine Nat.le_trans (trimL_len _) ?_
  rw [mkL_length]; exact Nat.le_refl _
/-- The product, after some rows. -/
def rowm (p : Nat) (f g : List Nat) : Nat → Nat → Nat
  | 0, _ => 0
  | i + 1, j => if i ≤ j then (rowm p f g i j + f.getD i 0 * g.getD (j - i) 0) % p else rowm p f g i j
theorem rowm_lt {p : Nat} (hp : 0 < p) (f g : List Nat) : ∀ i j, rowm p f g i j < p
  | 0, j => hp
  | i + 1, j => by
    simp only [rowm]
    split
    · exact Nat.mod_lt _ hp
    · exact rowm_lt hp f g i j
theorem rowm_off {p : Nat} (hp : 0 < p) {f g : List Nat} {i j : Nat} (h : i + g.length ≤ j) : rowm p f g (i + 1) j = rowm p f g i j := by
  simp only [rowm]
  rw [if_pos (by omega), getD_big (l := g) (by omega), Nat.mul_zero, Nat.add_zero, Nat.mod_eq_of_lt (rowm_lt hp f g i j)]
theorem rowm_big {p : Nat} {f g : List Nat} : ∀ {i j : Nat}, i ≤ f.length → f.length + g.length ≤ j + 1 → 0 < g.length → rowm p f g i j = 0
  | 0, _, _, _, _ => rfl
  | i + 1, j, hi, hj, hg => by
    simp only [rowm]
    rw [rowm_big (by omega) hj hg, if_pos (by omega), getD_big (l := g) (by omega), Nat.mul_zero, Nat.add_zero, Nat.zero_mod]
theorem rowm_zp (P : Pr) (f g : List Nat) (j : Nat) : ∀ i, zp P (rowm P.p f g i j) = sm (fun k => if k ≤ j then ml (ser P f k) (ser P g (j - k)) else z) i
  | 0 => rfl
  | i + 1 => by
    simp only [rowm, sm]
    by_cases h : i ≤ j
    · rw [if_pos h, if_pos h, zp_mod, zp_add, rowm_zp P f g j i, zp_mul]; rfl
    · rw [if_neg h, if_neg h, ad_z, rowm_zp P f g j i]
def mulL (p : Nat) (f g : List Nat) : List Nat := if f.length = 0 ∨ g.length = 0 then [] else trimL (mkL (f.length + g.length - 1) (rowm p f g f.length))
theorem mulL_isP {p : Nat} (hp : 0 < p) (f g : List Nat) : IsP p (mulL p f g) := by
  unfold mulL
  split
  · exact isP_nil _
  · exact trimL_isP (mkL_lt fun k _ => rowm_lt hp f g _ _)
theorem mulL_ser (P : Pr) (f g : List Nat) : ser P (mulL P.p f g) = conv (ser P f) (ser P g) := by
  unfold mulL
  split
  · rename_i h
    rcases h with h | h
    · rw [List.eq_nil_of_length_eq_zero h, ser_nil, conv_s0]
    · rw [List.eq_nil_of_length_eq_zero h, ser_nil, conv_s0']
  · rename_i h
    rw [trimL_ser, mkL_ser]
    · funext k
      rw [rowm_zp, conv_sm]
      have e : ∀ n, (∀ i, n ≤ i → i ≤ k → ser P f i = z) → n ≤ f.length ∨ k < n → sm (fun i => if i ≤ k then ml (ser P f i) (ser P g (k - i)) else z) f.length = sm (fun i => ml (ser P f i) (ser P g (k - i))) (k + 1) := fun _ _ _ => by
        have h1 : sm (fun i => if i ≤ k then ml (ser P f i) (ser P g (k - i)) else z) (max f.length (k + 1)) = sm (fun i => if i ≤ k then ml (ser P f i) (ser P g (k - i)) else z) f.length := sm_cut _ (by omega) fun i h1 h2 => by
          show (if i ≤ k then _ else _) = _
          rw [ser_dg P f i h1, z_ml]; split <;> rfl
        have h2 : sm (fun i => if i ≤ k then ml (ser P f i) (ser P g (k - i)) else z) (max f.length (k + 1)) = sm (fun i => if i ≤ k then ml (ser P f i) (ser P g (k - i)) else z) (k + 1) := sm_cut _ (by omega) fun i h1 h2 => if_neg (by omega)
        rw [← h1, h2]
        exact sm_congr _ fun i hi => if_pos (by omega)
      exact e f.length (fun i hi _ => ser_dg P f i hi) (.inl (Nat.le_refl _))
    · intro k hk
      exact rowm_big (Nat.le_refl _) (by omega) (by omega)
theorem mulL_len (p : Nat) (f g : List Nat) : (mulL p f g).length ≤ f.length + g.length - 1 := by
  unfold mulL
  split
  · simp
  · refine Nat.le_trans (trimL_len _) ?_
    rw [mkL_length]; exact Nat.le_refl _
theorem mulL_len_eq {P : Pr} {f g : List Nat} (hf : IsP P.p f) (hg : IsP P.p g) (h1 : f ≠ []) (h2 : g ≠ []) : (mulL P.p f g).length = f.length + g.length - 1 := by
  have hle := mulL_len P.p f g
  have l1 := List.length_pos_iff.2 h1
  have l2 := List.length_pos_iff.2 h2
  have := conv_lead (IsP.dg1 (P := P) h1) (IsP.dg1 (P := P) h2)
  rw [← mulL_ser] at this
  have hne : ser P (mulL P.p f g) (f.length - 1 + (g.length - 1)) ≠ z := by rw [this]; exact ml_ne (hf.lead h1) (hg.lead h2)
  rcases Nat.lt_or_ge (f.length - 1 + (g.length - 1)) (mulL P.p f g).length with h | h
  · omega
  · exact absurd (ser_dg P _ _ h) hne
end Wm
