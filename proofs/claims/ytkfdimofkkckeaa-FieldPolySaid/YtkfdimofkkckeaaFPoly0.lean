/-
  Plain: the product of two bytes is the rest of the product of two polynomials by 2. No program in sight.
-/
import Derived.Test.YtkfdimofkkckeaaZp3
import Derived.Test.YtkfdimofkkckeaaField0
set_option linter.unusedVariables false
set_option linter.unusedSimpArgs false
namespace Wm
open Fld
theorem prime_2 : Prime 2 := pchk_spec (r := 0) (by decide +kernel)
def P2 : Pr := ⟨2, prime_2⟩
/-- A number's bits. -/
def bs (x : Nat) : Nat → Zp P2 := fun k => zp P2 (x / 2 ^ k)
theorem zp2 (a : Nat) : zp P2 a = zp P2 (a % 2) := (zp_mod P2 a).symm
theorem bs_get (x k : Nat) : bs x k = zp P2 ((x.testBit k).toNat) := by
  unfold bs
  rw [zp2, Nat.testBit_eq_decide_div_mod_eq]
  congr 1
  rcases Nat.mod_two_eq_zero_or_one (x / 2 ^ k) with h | h <;> simp [h]
theorem bs_xor (x y : Nat) : bs (x ^^^ y) = sad (bs x) (bs y) := by
  funext k
  show bs (x ^^^ y) k = ad (bs x k) (bs y k)
  rw [bs_get, bs_get, bs_get, Nat.testBit_xor, ← zp_add]
  apply zp_eq.2
  show _ % 2 = _ % 2
  cases x.testBit k <;> cases y.testBit k <;> rfl
theorem bs_zero : bs 0 = s0 := by
  funext k
  unfold bs
  rw [Nat.zero_div]; rfl
theorem bs_two (x : Nat) : bs (2 * x) = sx (bs x) := by
  funext k
  cases k with
  | zero => show zp P2 (2 * x / 1) = z; rw [Nat.div_one, zp2, Nat.mul_mod_right]; rfl
  | succ k =>
    show zp P2 (2 * x / 2 ^ (k + 1)) = zp P2 (x / 2 ^ k)
    rw [Nat.pow_succ, Nat.mul_comm (2 ^ k), Nat.mul_div_mul_left _ _ (by omega)]
theorem bs_half (b : Nat) : bs b = sad (ssc (zp P2 b) s1) (sx (bs (b / 2))) := by
  funext k
  cases k with
  | zero =>
    show zp P2 (b / 1) = ad (ml (zp P2 b) (if 0 = 0 then o else z)) z
    rw [Nat.div_one, if_pos rfl, ml_o, ad_z]
  | succ k =>
    show zp P2 (b / 2 ^ (k + 1)) = ad (ml (zp P2 b) (if k + 1 = 0 then o else z)) (zp P2 (b / 2 / 2 ^ k))
    rw [if_neg (by omega), ml_z, z_ad, Nat.div_div_eq_div_mul, Nat.pow_succ, Nat.mul_comm 2]
theorem ad_self (a : Zp P2) : ad a a = z := by
  rw [← zp_self a, ← zp_add]
  apply zp_eq.2
  show (a.1 + a.1) % 2 = 0 % 2
  omega
theorem sad_self (f : Nat → Zp P2) : sad f f = s0 := by funext k; exact ad_self _
def gS : Nat → Zp P2 := bs 0x11d
theorem bs_fstep {x : Nat} (h : x < 256) : Dv gS (sad (sx (bs x)) (bs (fstep x))) := by
  unfold fstep
  rw [← bs_two]
  split
  · rw [bs_xor, ← sad_assoc, sad_self, s0_sad]
    exact Dv.refl _
  · rw [sad_self]
    exact dv_s0 _
theorem bs_dg {x n : Nat} (h : x < 2 ^ n) : Dg n (bs x) := fun k hk => by
  unfold bs
  rw [Nat.div_eq_of_lt (Nat.lt_of_lt_of_le h (Nat.pow_le_pow_right (by omega) hk))]
  rfl
theorem gm_dv : ∀ (f x b o : Nat), x < 256 → b < 2 ^ f → Dv gS (sad (sad (bs o) (conv (bs x) (bs b))) (bs (gm f x b o)))
  | 0, x, b, o, _, hb => by
    have : b = 0 := by simpa using hb
    subst this
    show Dv gS (sad (sad (bs o) (conv (bs x) (bs 0))) (bs o))
    rw [bs_zero, conv_s0', sad_s0, sad_self]
    exact dv_s0 _
  | f + 1, x, b, o, hx, hb => by
    have ih := gm_dv f (fstep x) (b / 2) (if b % 2 = 1 then o ^^^ x else o) (fstep_lt hx) (by rw [Nat.pow_succ] at hb; omega)
    show Dv gS (sad (sad (bs o) (conv (bs x) (bs b))) (bs (gm f (fstep x) (b / 2) (if b % 2 = 1 then o ^^^ x else o))))
    obtain ⟨R, hR⟩ : ∃ R, R = bs (gm f (fstep x) (b / 2) (if b % 2 = 1 then o ^^^ x else o)) := ⟨_, rfl⟩
    rw [← hR] at ih ⊢
    have h1 : conv (bs x) (bs b) = sad (ssc (zp P2 b) (bs x)) (conv (sx (bs x)) (bs (b / 2))) := by
      conv => lhs; rw [bs_half b]
      rw [conv_ad_right, conv_sc_right, conv_s1', conv_sx, conv_comm (bs x), conv_sx, conv_comm]
    have h2 : bs (if b % 2 = 1 then o ^^^ x else o) = sad (bs o) (ssc (zp P2 b) (bs x)) := by
      rcases Nat.mod_two_eq_zero_or_one b with h | h
      · rw [if_neg (by omega), zp2, h]
        have : ssc (zp P2 0) (bs x) = s0 := by funext k; exact z_ml _
        rw [this, sad_s0]
      · rw [if_pos h, bs_xor, zp2, h]
        have : ssc (zp P2 1) (bs x) = bs x := by funext k; exact o_ml _
        rw [this]
    rw [h2] at ih
    have h3 : Dv gS (conv (sad (sx (bs x)) (bs (fstep x))) (bs (b / 2))) := by
      rw [conv_comm]
      exact (bs_fstep hx).ml (bs_dg (n := f) (by rw [Nat.pow_succ] at hb; omega))
    have h4 := ih.ad h3
    have e : sad (sad (sad (sad (bs o) (ssc (zp P2 b) (bs x))) (conv (bs (fstep x)) (bs (b / 2)))) R) (conv (sad (sx (bs x)) (bs (fstep x))) (bs (b / 2))) = sad (sad (bs o) (conv (bs x) (bs b))) R := by
      rw [h1, conv_ad_left]
      generalize bs o = a1
      generalize ssc (zp P2 b) (bs x) = a2
      generalize conv (bs (fstep x)) (bs (b / 2)) = a3
      generalize conv (sx (bs x)) (bs (b / 2)) = a4
      funext k
      show ad (ad (ad (ad (a1 k) (a2 k)) (a3 k)) (R k)) (ad (a4 k) (a3 k)) = ad (ad (a1 k) (ad (a2 k) (a4 k))) (R k)
      generalize a1 k = x1
      generalize a2 k = x2
      generalize a3 k = x3
      generalize a4 k = x4
      generalize R k = x5
      have hx := ad_self x3
      rw [ad_comm x4 x3, ad_assoc (ad (ad x1 x2) x3) x5, ad_left x5 x3, ad_assoc (ad x1 x2) x3, ← ad_assoc x3 x3, hx, z_ad, ad_comm x5 x4, ← ad_assoc, ad_assoc x1 x2 x4]
    rwa [e] at h4
/-- The list of a number's bits, without zeros at the end. -/
def bitL (x : Nat) : List Nat := trimL ((List.range 9).map fun k => x / 2 ^ k % 2)
theorem bitL_isP (x : Nat) : IsP P2.p (bitL x) := trimL_isP (fun y hy => by
  obtain ⟨k, -, rfl⟩ := List.mem_map.1 hy
  exact Nat.mod_lt _ (by decide))
theorem bitL_ser {x : Nat} (h : x < 512) : ser P2 (bitL x) = bs x := by
  unfold bitL
  rw [trimL_ser]
  funext k
  show zp P2 (((List.range 9).map fun k => x / 2 ^ k % 2).getD k 0) = bs x k
  by_cases hk : k < 9
  · rw [List.getD_eq_getElem?_getD, List.getElem?_map, List.getElem?_range hk]
    exact (zp2 _).symm
  · rw [getD_big (by simp; omega), bs_dg (n := 9) (by omega) k (by omega)]; rfl
theorem bitL_len {x n : Nat} (h : x < 2 ^ n) (h9 : x < 512) : (bitL x).length ≤ n := (bitL_isP x).len (by rw [bitL_ser h9]; exact bs_dg h)
/-- The law. -/
theorem field_poly {a b : Nat} (ha : a < 256) (hb : b < 256) {q r : List Nat} (h : IsDiv P2 (mulL 2 (bitL a) (bitL b)) (bitL 0x11d) q r) : r = bitL (fmul a b) := by
  have hd := gm_dv 8 a b 0 ha hb
  rw [bs_zero, s0_sad] at hd
  obtain ⟨n, q', hq', e⟩ := hd
  have hm := fmul_lt ha hb
  have hser : ser P2 (mulL 2 (bitL a) (bitL b)) = conv (bs a) (bs b) := by
    have := mulL_ser P2 (bitL a) (bitL b)
    rw [bitL_ser (by omega), bitL_ser (by omega)] at this
    exact this
  have e2 : conv (bs a) (bs b) = sad (conv q' gS) (bs (fmul a b)) := by
    rw [← e, sad_assoc]
    show _ = sad (conv (bs a) (bs b)) (sad (bs (fmul a b)) (bs (fmul a b)))
    rw [sad_self, sad_s0]
  have hgl : (bitL 0x11d).length = 9 := by decide
  have hge : ser P2 (bitL 0x11d) = gS := bitL_ser (by omega)
  have h1 := h.eq
  rw [hser, hge] at h1
  have hgn : gS 8 ≠ z := by
    rw [← hge]
    have := (bitL_isP 0x11d).lead (by decide)
    rwa [hgl] at this
  have hgd : Dg (8 + 1) gS := bs_dg (by omega)
  have hrl := h.lt
  rw [hgl] at hrl
  have := div_unique hgn hgd (ser_dg P2 q) hq' ((ser_dg P2 r).more (by omega)) (bs_dg (n := 8) hm) (h1.symm.trans e2)
  refine h.rP.ext (bitL_isP _) ?_
  rw [this.2, bitL_ser (by omega)]
end Wm
