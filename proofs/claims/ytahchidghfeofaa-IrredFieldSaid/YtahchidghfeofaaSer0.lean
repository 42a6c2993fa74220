/-
  Plain: power series over a field, as functions; polynomials among them; division with remainder; common divisors. No program in sight.
-/
import Derived.Test.YtahchidghfeofaaPoly0
set_option linter.unusedVariables false
set_option linter.unusedSimpArgs false
namespace Wm
namespace Fld
variable {K : Type} [Fld K]

def sad (f g : Nat → K) : Nat → K := fun k => ad (f k) (g k)
def sng (f : Nat → K) : Nat → K := fun k => ng (f k)
def ssc (c : K) (f : Nat → K) : Nat → K := fun k => ml c (f k)
def s0 : Nat → K := fun _ => z
def s1 : Nat → K := fun k => if k = 0 then o else z
def tl (f : Nat → K) : Nat → K := fun k => f (k + 1)
/-- Times x. -/
def sx (f : Nat → K) : Nat → K
  | 0 => z
  | k + 1 => f k
def conv : (Nat → K) → (Nat → K) → Nat → K
  | f, g, 0 => ml (f 0) (g 0)
  | f, g, k + 1 => ad (ml (f 0) (g (k + 1))) (conv (tl f) g k)

theorem conv_zero (f g : Nat → K) : conv f g 0 = ml (f 0) (g 0) := rfl
theorem conv_succ (f g : Nat → K) (k : Nat) : conv f g (k + 1) = ad (ml (f 0) (g (k + 1))) (conv (tl f) g k) := rfl
theorem tl_conv (f g : Nat → K) : tl (conv f g) = sad (ssc (f 0) (tl g)) (conv (tl f) g) := rfl
theorem conv_ad_right (f g h : Nat → K) : conv f (sad g h) = sad (conv f g) (conv f h) := by
  funext k
  induction k generalizing f with
  | zero => exact ml_ad _ _ _
  | succ k ih =>
    show ad (ml (f 0) (ad (g (k + 1)) (h (k + 1)))) (conv (tl f) (sad g h) k) = ad (ad _ _) (ad _ _)
    rw [ih (tl f)]
    show ad (ml (f 0) (ad (g (k + 1)) (h (k + 1)))) (ad (conv (tl f) g k) (conv (tl f) h k)) = ad (ad _ _) (ad _ _)
    rw [ml_ad, ad_assoc, ad_left (ml (f 0) (h (k + 1))), ← ad_assoc]
theorem conv_ad_left (f g h : Nat → K) : conv (sad f g) h = sad (conv f h) (conv g h) := by
  funext k
  induction k generalizing f g with
  | zero => exact ad_ml _ _ _
  | succ k ih =>
    show ad (ml (ad (f 0) (g 0)) (h (k + 1))) (conv (sad (tl f) (tl g)) h k) = ad (ad _ _) (ad _ _)
    rw [ih (tl f) (tl g)]
    show ad (ml (ad (f 0) (g 0)) (h (k + 1))) (ad (conv (tl f) h k) (conv (tl g) h k)) = ad (ad _ _) (ad _ _)
    rw [ad_ml, ad_assoc, ad_left (ml (g 0) (h (k + 1))), ← ad_assoc]
theorem conv_sc_left (c : K) (f g : Nat → K) : conv (ssc c f) g = ssc c (conv f g) := by
  funext k
  induction k generalizing f with
  | zero => exact ml_assoc _ _ _
  | succ k ih =>
    show ad (ml (ml c (f 0)) (g (k + 1))) (conv (ssc c (tl f)) g k) = ml c (ad _ _)
    rw [ih (tl f), ml_assoc, ml_ad]
    rfl
theorem conv_sc_right (c : K) (f g : Nat → K) : conv f (ssc c g) = ssc c (conv f g) := by
  funext k
  induction k generalizing f with
  | zero => exact ml_left _ _ _
  | succ k ih =>
    show ad (ml (f 0) (ml c (g (k + 1)))) (conv (tl f) (ssc c g) k) = ml c (ad _ _)
    rw [ih (tl f), ml_left, ml_ad]
    rfl
theorem conv_assoc (f g h : Nat → K) : conv (conv f g) h = conv f (conv g h) := by
  funext k
  induction k generalizing f with
  | zero => exact ml_assoc _ _ _
  | succ k ih =>
    rw [conv_succ, conv_succ, tl_conv, conv_ad_left, conv_sc_left]
    show ad (ml (ml (f 0) (g 0)) (h (k + 1))) (ad (ml (f 0) (conv (tl g) h k)) (conv (conv (tl f) g) h k)) = ad (ml (f 0) (ad (ml (g 0) (h (k + 1))) (conv (tl g) h k))) (conv (tl f) (conv g h) k)
    rw [ih (tl f), ml_ad, ml_assoc, ad_assoc]
/-- From the other side. -/
theorem conv_succ' (f g : Nat → K) (k : Nat) : conv f g (k + 1) = ad (ml (f (k + 1)) (g 0)) (conv f (tl g) k) := by
  induction k generalizing f with
  | zero => show ad (ml (f 0) (g 1)) (ml (f 1) (g 0)) = ad (ml (f 1) (g 0)) (ml (f 0) (g 1)); rw [ad_comm]
  | succ k ih =>
    rw [conv_succ, ih (tl f), conv_succ f (tl g)]
    show ad (ml (f 0) (g (k + 2))) (ad (ml (f (k + 2)) (g 0)) (conv (tl f) (tl g) k)) = ad (ml (f (k + 2)) (g 0)) (ad (ml (f 0) (g (k + 2))) (conv (tl f) (tl g) k))
    rw [ad_left]
theorem conv_comm (f g : Nat → K) : conv f g = conv g f := by
  funext k
  induction k generalizing f with
  | zero => exact ml_comm _ _
  | succ k ih => rw [conv_succ, conv_succ', ih (tl f), ml_comm]
theorem tl_s1 : tl (s1 : Nat → K) = s0 := rfl
theorem conv_s0 (f : Nat → K) : conv s0 f = s0 := by
  funext k
  induction k with
  | zero => exact z_ml _
  | succ k ih =>
    rw [conv_succ, show tl (s0 : Nat → K) = s0 from rfl, ih]
    show ad (ml z _) z = z
    rw [z_ml, ad_z]
theorem conv_s0' (f : Nat → K) : conv f s0 = s0 := by rw [conv_comm, conv_s0]
theorem conv_s1 (f : Nat → K) : conv s1 f = f := by
  funext k
  cases k with
  | zero => exact o_ml _
  | succ k =>
    rw [conv_succ, tl_s1, conv_s0]
    show ad (ml o _) z = _
    rw [o_ml, ad_z]
theorem conv_s1' (f : Nat → K) : conv f s1 = f := by rw [conv_comm, conv_s1]
theorem conv_sx (f g : Nat → K) : conv (sx f) g = sx (conv f g) := by
  funext k
  cases k with
  | zero => exact z_ml _
  | succ k =>
    rw [conv_succ]
    show ad (ml z _) (conv f g k) = conv f g k
    rw [z_ml, z_ad]
theorem sad_comm (f g : Nat → K) : sad f g = sad g f := by funext k; exact ad_comm _ _
theorem sad_assoc (f g h : Nat → K) : sad (sad f g) h = sad f (sad g h) := by funext k; exact ad_assoc _ _ _
theorem sad_left (f g h : Nat → K) : sad f (sad g h) = sad g (sad f h) := by funext k; exact ad_left _ _ _
theorem sad_s0 (f : Nat → K) : sad f s0 = f := by funext k; exact ad_z _
theorem s0_sad (f : Nat → K) : sad s0 f = f := by funext k; exact z_ad _
theorem sad_sng (f : Nat → K) : sad f (sng f) = s0 := by funext k; exact ad_ng _
theorem ssc_s0 (c : K) : ssc c s0 = s0 := by funext k; exact ml_z _
theorem conv_sng (f g : Nat → K) : conv (sng f) g = sng (conv f g) := by
  funext k
  induction k generalizing f with
  | zero => exact ng_ml _ _
  | succ k ih =>
    show ad (ml (ng (f 0)) (g (k + 1))) (conv (sng (tl f)) g k) = ng (ad _ _)
    rw [ih (tl f), ng_ml, ng_ad]
    rfl
theorem conv_sng' (f g : Nat → K) : conv f (sng g) = sng (conv f g) := by rw [conv_comm, conv_sng, conv_comm]
theorem sad_cancel {f g h : Nat → K} (e : sad f g = sad f h) : g = h := by
  funext k
  exact ad_cancel (congrFun e k)
theorem eq_of_sub {f g : Nat → K} (e : sad f (sng g) = s0) : f = g := by
  funext k
  exact sb_eq (congrFun e k)

/-! ### As sums -/
theorem conv_sm (f g : Nat → K) (k : Nat) : conv f g k = sm (fun i => ml (f i) (g (k - i))) (k + 1) := by
  induction k generalizing g with
  | zero => show ml _ _ = ad z _; rw [z_ad]
  | succ k ih =>
    rw [conv_succ', ih (tl g)]
    show _ = ad (sm (fun i => ml (f i) (g (k + 1 - i))) (k + 1)) (ml (f (k + 1)) (g (k + 1 - (k + 1))))
    rw [Nat.sub_self, ad_comm]
    congr 1
    apply sm_congr
    intro i hi
    show ml (f i) (g (k - i + 1)) = ml (f i) (g (k + 1 - i))
    rw [show k + 1 - i = k - i + 1 by omega]
theorem sm_cut {f : Nat → K} {m : Nat} : ∀ n, m ≤ n → (∀ k, m ≤ k → k < n → f k = z) → sm f n = sm f m
  | 0, h, _ => by obtain rfl : m = 0 := by omega
                  rfl
  | n + 1, h, hf => by
    by_cases e : m = n + 1
    · subst e; rfl
    · simp only [sm]
      rw [sm_cut n (by omega) fun k h1 h2 => hf k h1 (by omega), hf n (by omega) (by omega), ad_z]

/-! ### Degrees -/
/-- At most n coefficients. -/
def Dg (n : Nat) (f : Nat → K) : Prop := ∀ k, n ≤ k → f k = z
theorem Dg.more {m n : Nat} {f : Nat → K} (h : Dg m f) (hm : m ≤ n) : Dg n f := fun k hk => h k (by omega)
theorem Dg.ad {n : Nat} {f g : Nat → K} (h : Dg n f) (h' : Dg n g) : Dg n (sad f g) := fun k hk => by
  show Fld.ad (f k) (g k) = z
  rw [h k hk, h' k hk, ad_z]
theorem Dg.ng {n : Nat} {f : Nat → K} (h : Dg n f) : Dg n (sng f) := fun k hk => by
  show Fld.ng (f k) = z
  rw [h k hk, ng_z]
theorem Dg.sc {n : Nat} {f : Nat → K} (c : K) (h : Dg n f) : Dg n (ssc c f) := fun k hk => by
  show Fld.ml c (f k) = z
  rw [h k hk, ml_z]
theorem dg_s0 (n : Nat) : Dg n (s0 : Nat → K) := fun _ _ => rfl
theorem Dg.zero {f : Nat → K} (h : Dg 0 f) : f = s0 := by funext k; exact h k (Nat.zero_le k)
theorem dg_conv {m n : Nat} {f g : Nat → K} (h : Dg (m + 1) f) (h' : Dg (n + 1) g) : Dg (m + n + 1) (conv f g) := fun k hk => by
  rw [conv_sm]
  refine sm_z _ fun i hi => ?_
  by_cases e : i ≤ m
  · rw [h' (k - i) (by omega), ml_z]
  · rw [h i (by omega), z_ml]
/-- The highest coefficient of a product. -/
theorem conv_lead {m n : Nat} {f g : Nat → K} (h : Dg (m + 1) f) (h' : Dg (n + 1) g) : conv f g (m + n) = ml (f m) (g n) := by
  rw [conv_sm, sm_one (i := m) _ (by omega) fun i hi hne => ?_]
  · rw [show m + n - m = n by omega]
  · by_cases e : i ≤ m
    · rw [h' (m + n - i) (by omega), ml_z]
    · rw [h i (by omega), z_ml]
/-- A polynomial that is not nothing has a highest coefficient. -/
theorem Dg.lead {n : Nat} {f : Nat → K} (h : Dg n f) (hf : f ≠ s0) : ∃ m, m < n ∧ f m ≠ z ∧ Dg (m + 1) f := by
  induction n with
  | zero => exact absurd h.zero hf
  | succ n ih =>
    by_cases e : f n = z
    · obtain ⟨m, h1, h2⟩ := ih fun k hk => by
        by_cases hkn : k = n
        · subst hkn; exact e
        · exact h k (by omega)
      exact ⟨m, by omega, h2⟩
    · exact ⟨n, by omega, e, h⟩
/-- No divisors of nothing. -/
theorem conv_ne {m n : Nat} {f g : Nat → K} (hf : Dg m f) (hg : Dg n g) (h1 : f ≠ s0) (h2 : g ≠ s0) : conv f g ≠ s0 := fun e => by
  obtain ⟨a, -, ha, hfa⟩ := hf.lead h1
  obtain ⟨b, -, hb, hgb⟩ := hg.lead h2
  have := conv_lead hfa hgb
  rw [e] at this
  exact ml_ne ha hb this.symm
theorem conv_cancel {l m n : Nat} {f g h : Nat → K} (hf : Dg l f) (hg : Dg m g) (hh : Dg n h) (h1 : f ≠ s0) (e : conv f g = conv f h) : g = h := by
  apply eq_of_sub
  refine Classical.byContradiction fun hne => ?_
  have hd : Dg (max m n) (sad g (sng h)) := (hg.more (by omega)).ad (hh.more (by omega)).ng
  refine conv_ne hf hd h1 hne ?_
  rw [conv_ad_right, conv_sng', e, sad_sng]

/-! ### Division with remainder -/
/-- One division with remainder at most. -/
theorem div_unique {m n l : Nat} {q q' g r r' : Nat → K} (hg : g n ≠ z) (hgd : Dg (n + 1) g) (hq : Dg m q) (hq' : Dg l q') (hr : Dg n r) (hr' : Dg n r') (e : sad (conv q g) r = sad (conv q' g) r') : q = q' ∧ r = r' := by
  have key : q = q' := by
    apply eq_of_sub
    refine Classical.byContradiction fun hne => ?_
    have hd : Dg (max m l) (sad q (sng q')) := (hq.more (by omega)).ad (hq'.more (by omega)).ng
    obtain ⟨a, -, ha, hda⟩ := hd.lead hne
    have h1 := conv_lead hda hgd
    have h2 : conv (sad q (sng q')) g = sad r' (sng r) := by
      rw [conv_ad_left, conv_sng]
      funext k
      have := congrFun e k
      show ad (conv q g k) (ng (conv q' g k)) = ad (r' k) (ng (r k))
      have e2 : ad (conv q g k) (r k) = ad (conv q' g k) (r' k) := this
      have e3 : conv q g k = sb (ad (conv q' g k) (r' k)) (r k) := by
        rw [← e2]; unfold sb; rw [ad_assoc, ad_ng, ad_z]
      rw [e3]
      unfold sb
      rw [ad_comm (conv q' g k), ad_assoc, ad_assoc, ad_comm (conv q' g k), ad_assoc, ad_comm (ng _) (conv q' g k), ad_ng, ad_z]
    rw [h2] at h1
    have h3 : Dg n (sad r' (sng r)) := hr'.ad hr.ng
    rw [h3 _ (by omega)] at h1
    exact ml_ne ha hg h1.symm
  subst key
  exact ⟨rfl, sad_cancel e⟩

/-! ### Divisors -/
def Dv (f g : Nat → K) : Prop := ∃ n, ∃ q, Dg n q ∧ g = conv q f
theorem Dv.refl (f : Nat → K) : Dv f f := ⟨1, s1, fun k hk => if_neg (by omega), (conv_s1 f).symm⟩
theorem dg_conv' {m n : Nat} {f g : Nat → K} (h : Dg m f) (h' : Dg n g) : Dg (m + n) (conv f g) := by
  cases m with
  | zero => rw [h.zero, conv_s0]; exact dg_s0 _
  | succ m =>
    cases n with
    | zero => rw [h'.zero, conv_s0']; exact dg_s0 _
    | succ n => exact (dg_conv h h').more (by omega)
theorem Dv.trans {f g h : Nat → K} (h1 : Dv f g) (h2 : Dv g h) : Dv f h := by
  obtain ⟨m, q, hq, rfl⟩ := h1
  obtain ⟨n, r, hr, rfl⟩ := h2
  exact ⟨_, conv r q, dg_conv' hr hq, (conv_assoc r q f).symm⟩
theorem Dv.ad {f g h : Nat → K} (h1 : Dv f g) (h2 : Dv f h) : Dv f (sad g h) := by
  obtain ⟨m, q, hq, rfl⟩ := h1
  obtain ⟨n, r, hr, rfl⟩ := h2
  exact ⟨max m n, sad q r, (hq.more (by omega)).ad (hr.more (by omega)), (conv_ad_left q r f).symm⟩
theorem Dv.ml {f g : Nat → K} {n : Nat} {q : Nat → K} (hq : Dg n q) (h : Dv f g) : Dv f (conv q g) := by
  obtain ⟨m, r, hr, rfl⟩ := h
  exact ⟨_, conv q r, dg_conv' hq hr, (conv_assoc q r f).symm⟩
theorem dv_s0 (f : Nat → K) : Dv f s0 := ⟨0, s0, dg_s0 0, (conv_s0 f).symm⟩
theorem Dv.ng {f g : Nat → K} (h : Dv f g) : Dv f (sng g) := by
  obtain ⟨m, r, hr, rfl⟩ := h
  exact ⟨m, sng r, hr.ng, (conv_sng r f).symm⟩
theorem Dv.ad_iff {f g h : Nat → K} (h1 : Dv f g) : Dv f (sad g h) ↔ Dv f h := by
  refine ⟨fun h2 => ?_, h1.ad⟩
  have := h1.ng.ad h2
  rwa [← sad_assoc, sad_comm (sng g), sad_sng, s0_sad] at this
theorem Dv.sc {f g : Nat → K} (c : K) (h : Dv f g) : Dv f (ssc c g) := by
  obtain ⟨m, r, hr, rfl⟩ := h
  exact ⟨m, ssc c r, hr.sc c, (conv_sc_left c r f).symm⟩
theorem dv_conv {f g h : Nat → K} (h1 : Dv f g) : Dv (Fld.conv f h) (Fld.conv g h) := by
  obtain ⟨m, r, hr, rfl⟩ := h1
  exact ⟨m, r, hr, conv_assoc r f h⟩
/-- Nothing but a multiple has fewer coefficients. -/
theorem Dv.len {f g : Nat → K} {n m : Nat} (h : Dv f g) (hg : g ≠ s0) (hf : f n ≠ z) (hfd : Dg (n + 1) f) (hgd : Dg m g) : n < m := by
  obtain ⟨l, q, hq, rfl⟩ := h
  have hq0 : q ≠ s0 := fun e => hg (by rw [e, conv_s0])
  obtain ⟨a, -, ha, hda⟩ := hq.lead hq0
  have h1 := conv_lead hda hfd
  rcases Nat.lt_or_ge n m with h | h
  · exact h
  · rw [hgd _ (by omega)] at h1
    exact absurd h1.symm (ml_ne ha hf)
end Fld
end Wm
