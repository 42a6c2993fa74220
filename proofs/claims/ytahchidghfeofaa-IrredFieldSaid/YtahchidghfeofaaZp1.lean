/-
  Plain: division of lists of remainders, step by step; greatest common divisors; values. No program in sight.
-/
import Derived.Test.YtahchidghfeofaaZp0
set_option linter.unusedVariables false
set_option linter.unusedSimpArgs false
namespace Wm
namespace Fld
variable {K : Type} [Fld K]
/-- One term. -/
def mon (c : K) (j : Nat) : Nat → K := fun k => if k = j then c else z
theorem mon_succ (c : K) (j : Nat) : mon c (j + 1) = sx (mon c j) := by
  funext k
  cases k with
  | zero => show (if 0 = j + 1 then c else z) = z; rw [if_neg (by omega)]
  | succ k => show (if k + 1 = j + 1 then c else z) = (if k = j then c else z); by_cases h : k = j <;> simp [h]
theorem mon_zero (c : K) : mon c 0 = ssc c s1 := by
  funext k
  show (if k = 0 then c else z) = ml c (if k = 0 then o else z)
  split
  · rw [ml_o]
  · rw [ml_z]
theorem conv_mon (c : K) (g : Nat → K) : ∀ j, conv (mon c j) g = fun k => if j ≤ k then ml c (g (k - j)) else z
  | 0 => by rw [mon_zero, conv_sc_left, conv_s1]; rfl
  | j + 1 => by
    rw [mon_succ, conv_sx, conv_mon c g j]
    funext k
    cases k with
    | zero => show z = if j + 1 ≤ 0 then _ else z; rw [if_neg (by omega)]
    | succ k =>
      show (if j ≤ k then ml c (g (k - j)) else z) = if j + 1 ≤ k + 1 then ml c (g (k + 1 - (j + 1))) else z
      by_cases h : j ≤ k
      · rw [if_pos h, if_pos (by omega), show k + 1 - (j + 1) = k - j by omega]
      · rw [if_neg h, if_neg (by omega)]
theorem mon_dg (c : K) (j : Nat) : Dg (j + 1) (mon c j) := fun k hk => if_neg (by omega)
end Fld
open Fld

/-- What division gives. -/
structure IsDiv (P : Pr) (f g q r : List Nat) : Prop where
  qP : IsP P.p q
  rP : IsP P.p r
  lt : r.length < g.length
  eq : ser P f = sad (conv (ser P q) (ser P g)) (ser P r)
theorem IsDiv.unique {P : Pr} {f g q r q' r' : List Nat} (hg : IsP P.p g) (h : IsDiv P f g q r) (h' : IsDiv P f g q' r') : q = q' ∧ r = r' := by
  have hne : g ≠ [] := fun e => by have := h.lt; rw [e] at this; simp at this
  have := div_unique (hg.lead hne) (IsP.dg1 hne) (ser_dg P q) (ser_dg P q') ((ser_dg P r).more (by have := h.lt; omega)) ((ser_dg P r').more (by have := h'.lt; omega)) (h.eq.symm.trans h'.eq)
  exact ⟨h.qP.ext h'.qP this.1, h.rP.ext h'.rP this.2⟩

/-- Division under way: k coefficients of the quotient are still to come. -/
structure DivAt (P : Pr) (f g : List Nat) (m k : Nat) (qf rf : Nat → Nat) : Prop where
  rl : ∀ j, rf j < P.p
  ql : ∀ j, qf j < P.p
  rz : ∀ j, f.length ≤ j → rf j = 0
  qz : ∀ j, m ≤ j → qf j = 0
  q0 : ∀ j, j < k → qf j = 0
  rk : ∀ j, k + g.length ≤ j + 1 → rf j = 0
  eq : ser P f = sad (conv (fun j => zp P (qf j)) (ser P g)) (fun j => zp P (rf j))
theorem DivAt.start (P : Pr) {f g : List Nat} (hf : IsP P.p f) (hg : 0 < g.length) {m : Nat} (hm : m = f.length + 1 - g.length) : DivAt P f g m m (fun _ => 0) (fun j => f.getD j 0) where
  rl := hf.lt P.pos
  ql _ := P.pos
  rz _ h := getD_big h
  qz _ _ := rfl
  q0 _ _ := rfl
  rk j h := getD_big (by omega)
  eq := by
    show ser P f = sad (conv s0 (ser P g)) (ser P f)
    rw [conv_s0, s0_sad]
/-- One term is taken off: the places from k on, up to t. -/
def offF (p : Nat) (g : List Nat) (rf : Nat → Nat) (k c t j : Nat) : Nat := if k ≤ j ∧ j < k + t then (rf j + (p - c) * g.getD (j - k) 0) % p else rf j
theorem offF_zero (p : Nat) (g : List Nat) (rf : Nat → Nat) (k c j : Nat) : offF p g rf k c 0 j = rf j := if_neg (by omega)
theorem offF_at (p : Nat) (g : List Nat) (rf : Nat → Nat) (k c t : Nat) : offF p g rf k c t (k + t) = rf (k + t) := if_neg (by omega)
theorem offF_step (p : Nat) (g : List Nat) (rf : Nat → Nat) (k c t j : Nat) : offF p g rf k c (t + 1) j = if j = k + t then (rf (k + t) + (p - c) * g.getD t 0) % p else offF p g rf k c t j := by
  unfold offF
  by_cases h : j = k + t
  · subst h
    rw [if_pos (by omega), if_pos rfl, show k + t - k = t by omega]
  · rw [if_neg h]
    by_cases h2 : k ≤ j ∧ j < k + t
    · rw [if_pos (by omega), if_pos h2]
    · rw [if_neg (by omega), if_neg h2]
theorem offF_lt {p : Nat} (hp : 0 < p) {rf : Nat → Nat} (h : ∀ j, rf j < p) (g : List Nat) (k c t j : Nat) : offF p g rf k c t j < p := by
  unfold offF
  split
  · exact Nat.mod_lt _ hp
  · exact h j
theorem DivAt.step {P : Pr} {f g : List Nat} {m k : Nat} {qf rf : Nat → Nat} (h : DivAt P f g m (k + 1) qf rf) (hg : IsP P.p g) (hg0 : 0 < g.length) (hm : m = f.length + 1 - g.length) (hk : k < m) {iv c : Nat} (hi : iv * g.getD (g.length - 1) 0 % P.p = 1) (hc : c = rf (k + g.length - 1) * iv % P.p) :
    DivAt P f g m k (fun j => if j = k then c else qf j) (offF P.p g rf k c g.length) := by
  have hcl : c < P.p := by rw [hc]; exact Nat.mod_lt _ P.pos
  have hgap : ∀ j, k + g.length ≤ j → offF P.p g rf k c g.length j = rf j := fun j hj => if_neg (by omega)
  have hz : ∀ j, zp P (offF P.p g rf k c g.length j) = ad (zp P (rf j)) (ng (if k ≤ j then ml (zp P c) (ser P g (j - k)) else z)) := fun j => by
    unfold offF
    by_cases h1 : k ≤ j ∧ j < k + g.length
    · rw [if_pos h1, if_pos h1.1, zp_mod, zp_add, zp_mul, zp_ng P (by omega), ng_ml]; rfl
    · rw [if_neg h1]
      by_cases h2 : k ≤ j
      · rw [if_pos h2, ser_dg P g _ (by omega), ml_z, ng_z, ad_z]
      · rw [if_neg h2, ng_z, ad_z]
  refine ⟨offF_lt P.pos h.rl g k c _, fun j => ?_, fun j hj => ?_, fun j hj => ?_, fun j hj => ?_, fun j hj => ?_, ?_⟩
  · show (if j = k then c else qf j) < P.p
    split
    · exact hcl
    · exact h.ql j
  · rw [hgap j (by omega)]; exact h.rz j hj
  · show (if j = k then c else qf j) = 0
    rw [if_neg (by omega)]; exact h.qz j hj
  · show (if j = k then c else qf j) = 0
    rw [if_neg (by omega)]; exact h.q0 j (by omega)
  · by_cases e : j + 1 = k + g.length
    · have h1 := hz j
      rw [if_pos (by omega), show j - k = g.length - 1 by omega] at h1
      have h2 : ml (zp P c) (ser P g (g.length - 1)) = zp P (rf j) := by
        rw [hc, zp_mod, zp_mul, ml_assoc]
        have h3 : ml (zp P iv) (ser P g (g.length - 1)) = o := by
          show ml (zp P iv) (zp P (g.getD (g.length - 1) 0)) = o
          rw [← zp_mul]
          exact zp_eq.2 (by rw [hi, Nat.mod_eq_of_lt P.two])
        rw [h3, ml_o, show k + g.length - 1 = j by omega]
      rw [h2, ad_ng] at h1
      exact zp_inj (offF_lt P.pos h.rl g k c _ j) P.pos h1
    · rw [hgap j (by omega)]; exact h.rk j (by omega)
  · have e1 : (fun j => zp P (if j = k then c else qf j)) = sad (fun j => zp P (qf j)) (mon (zp P c) k) := by
      funext j
      show zp P (if j = k then c else qf j) = ad (zp P (qf j)) (if j = k then zp P c else z)
      split
      · rename_i e; subst e; rw [h.q0 j (by omega), zp_zero, z_ad]
      · rw [ad_z]
    have e2 : (fun j => zp P (offF P.p g rf k c g.length j)) = sad (fun j => zp P (rf j)) (sng (conv (mon (zp P c) k) (ser P g))) := by
      funext j
      rw [hz j, conv_mon]; rfl
    rw [e1, e2, conv_ad_left, sad_assoc, sad_left (conv (mon _ k) _), sad_sng, sad_s0]
    exact h.eq
theorem DivAt.done {P : Pr} {f g : List Nat} {m : Nat} {qf rf : Nat → Nat} (h : DivAt P f g m 0 qf rf) (hg0 : 0 < g.length) : IsDiv P f g (trimL (mkL m qf)) (trimL (mkL f.length rf)) := by
  have hq := trimL_isP (mkL_lt (n := m) fun k _ => h.ql k)
  have hr := trimL_isP (mkL_lt (n := f.length) fun k _ => h.rl k)
  have eq := (trimL_ser P _).trans (mkL_ser P m qf h.qz)
  have er := (trimL_ser P _).trans (mkL_ser P f.length rf h.rz)
  refine ⟨hq, hr, ?_, ?_⟩
  · have : (trimL (mkL f.length rf)).length ≤ g.length - 1 := hr.len fun k hk => by rw [er]; show zp P (rf k) = z; rw [h.rk k (by omega)]; rfl
    omega
  · rw [eq, er]; exact h.eq

/-! ### Greatest common divisors -/
structure IsGcd (P : Pr) (f g d : List Nat) : Prop where
  isP : IsP P.p d
  left : Dv (ser P d) (ser P f)
  right : Dv (ser P d) (ser P g)
  all : ∀ c, Dv c (ser P f) → Dv c (ser P g) → Dv c (ser P d)
  monic : d ≠ [] → d.getD (d.length - 1) 0 = 1
  nil : d = [] → f = [] ∧ g = []
theorem IsDiv.dv_iff {P : Pr} {f g q r : List Nat} (h : IsDiv P f g q r) {c : Nat → Zp P} (hc : Dv c (ser P g)) : Dv c (ser P f) ↔ Dv c (ser P r) := by
  rw [h.eq]
  exact Dv.ad_iff (hc.ml (ser_dg P q))
theorem dv_iff_of_gcd {P : Pr} {f g q r : List Nat} (h : IsDiv P f g q r) (c : Nat → Zp P) : (Dv c (ser P f) ∧ Dv c (ser P g)) ↔ (Dv c (ser P g) ∧ Dv c (ser P r)) :=
  ⟨fun ⟨h1, h2⟩ => ⟨h2, (h.dv_iff h2).1 h1⟩, fun ⟨h1, h2⟩ => ⟨(h.dv_iff h1).2 h2, h1⟩⟩

/-! ### Values -/
def evN (p : Nat) (l : List Nat) (x : Nat) : Nat := (l.foldr (fun c out => (out * x + c) % p) 0)
theorem evN_lt {p : Nat} (hp : 0 < p) (l : List Nat) (x : Nat) : evN p l x < p := by
  cases l with
  | nil => exact hp
  | cons a l => exact Nat.mod_lt _ hp
theorem evN_zp (P : Pr) (x : Nat) : ∀ l : List Nat, zp P (evN P.p l x) = ev (l.map (zp P)) (zp P x)
  | [] => rfl
  | a :: l => by
    show zp P ((evN P.p l x * x + a) % P.p) = ad (zp P a) (ml (zp P x) (ev (l.map (zp P)) (zp P x)))
    rw [zp_mod, zp_add, zp_mul, evN_zp P x l, ad_comm, ml_comm]
namespace Fld
variable {K : Type} [Fld K]
/-- The value of a polynomial with at most n coefficients. -/
def evs (f : Nat → K) (n : Nat) (x : K) : K := match n with
  | 0 => z
  | n + 1 => ad (f 0) (ml x (evs (tl f) n x))
theorem evs_ad (f g : Nat → K) (x : K) : ∀ n, evs (sad f g) n x = ad (evs f n x) (evs g n x) := fun n => by
  induction n generalizing f g with
  | zero => exact (ad_z z).symm
  | succ n ih =>
    show ad (ad (f 0) (g 0)) (ml x (evs (sad (tl f) (tl g)) n x)) = ad (ad _ _) (ad _ _)
    rw [ih, ml_ad, ad_assoc, ad_assoc, ad_left (g 0)]
theorem evs_sc (c : K) (f : Nat → K) (x : K) : ∀ n, evs (ssc c f) n x = ml c (evs f n x) := fun n => by
  induction n generalizing f with
  | zero => exact (ml_z c).symm
  | succ n ih =>
    show ad (ml c (f 0)) (ml x (evs (ssc c (tl f)) n x)) = ml c (ad _ _)
    rw [ih, ml_ad, ml_left]
theorem evs_s0 (x : K) : ∀ n, evs s0 n x = z
  | 0 => rfl
  | n + 1 => by
    show ad z (ml x (evs s0 n x)) = z
    rw [evs_s0 x n, ml_z, ad_z]
theorem evs_more {f : Nat → K} {m : Nat} (hf : Dg m f) (x : K) {n : Nat} (h : m ≤ n) : evs f n x = evs f m x := by
  induction m generalizing f n with
  | zero => rw [hf.zero, evs_s0]; rfl
  | succ m ih =>
    cases n with
    | zero => omega
    | succ n =>
      show ad _ (ml x (evs (tl f) n x)) = ad _ (ml x (evs (tl f) m x))
      rw [ih (f := tl f) (fun k hk => hf (k + 1) (by omega)) (by omega)]
theorem evs_conv {f g : Nat → K} {m l : Nat} (hf : Dg m f) (hg : Dg l g) (x : K) : evs (conv f g) (m + l) x = ml (evs f m x) (evs g l x) := by
  induction m generalizing f with
  | zero =>
    rw [hf.zero, conv_s0, evs_s0]
    exact (z_ml _).symm
  | succ m ih =>
    have h1 : conv f g = sad (ssc (f 0) g) (sx (conv (tl f) g)) := by
      funext k
      cases k with
      | zero => show ml (f 0) (g 0) = ad (ml (f 0) (g 0)) z; rw [ad_z]
      | succ k => rfl
    have hx : evs (sx (conv (tl f) g)) (m + 1 + l) x = ml x (ml (evs (tl f) m x) (evs g l x)) := by
      rw [show m + 1 + l = (m + l) + 1 by omega]
      show ad z (ml x (evs (conv (tl f) g) (m + l) x)) = _
      rw [z_ad, ih (f := tl f) (fun k hk => hf (k + 1) (by omega))]
    rw [h1, evs_ad, evs_sc, hx, evs_more hg x (by omega)]
    show _ = ml (ad (f 0) (ml x (evs (tl f) m x))) (evs g l x)
    rw [ad_ml, ml_assoc]
theorem ev_evs (l : List K) (x : K) : ev l x = evs (fun k => l.getD k z) l.length x := by
  induction l with
  | nil => rfl
  | cons a l ih =>
    show ad a (ml x (ev l x)) = ad a (ml x (evs (tl fun k => (a :: l).getD k z) l.length x))
    rw [ih]; rfl
end Fld
theorem ser_map (P : Pr) (l : List Nat) : (fun k => (l.map (zp P)).getD k z) = ser P l := by
  funext k
  unfold ser
  rw [List.getD_eq_getElem?_getD, List.getD_eq_getElem?_getD, List.getElem?_map]
  cases l[k]? <;> rfl
theorem evN_evs (P : Pr) (l : List Nat) (x : Nat) : zp P (evN P.p l x) = evs (ser P l) l.length (zp P x) := by
  rw [evN_zp, ev_evs, ser_map, List.length_map]
theorem evN_more (P : Pr) (l : List Nat) (x : Nat) {n : Nat} (h : l.length ≤ n) : zp P (evN P.p l x) = evs (ser P l) n (zp P x) := by
  rw [evN_evs, evs_more (ser_dg P l) _ h]
theorem evN_add (P : Pr) (f g : List Nat) (x : Nat) : evN P.p (addL P.p f g) x = (evN P.p f x + evN P.p g x) % P.p := by
  apply zp_inj (evN_lt P.pos _ _) (Nat.mod_lt _ P.pos)
  have := addL_len P.p f g
  rw [zp_mod, zp_add, evN_more P _ x (n := max f.length g.length) this, addL_ser, evs_ad, ← evN_more P f x (by omega), ← evN_more P g x (by omega)]
theorem evN_mul (P : Pr) (f g : List Nat) (x : Nat) : evN P.p (mulL P.p f g) x = (evN P.p f x * evN P.p g x) % P.p := by
  apply zp_inj (evN_lt P.pos _ _) (Nat.mod_lt _ P.pos)
  have := mulL_len P.p f g
  rw [zp_mod, zp_mul, evN_more P _ x (n := f.length + g.length) (by omega), mulL_ser, evs_conv (ser_dg P f) (ser_dg P g), ← evN_evs, ← evN_evs]
end Wm
