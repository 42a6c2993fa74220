/-
  Plain: the bytes as a field, and the code rows of Reed and Solomon. No program in sight.
-/
import Derived.Test.YtekkghhihnnpjaaDoorPoly0
import Derived.Test.YtekkghhihnnpjaaDoorField0
set_option linter.unusedVariables false
set_option linter.unusedSimpArgs false
namespace Wm

abbrev B8 : Type := { n : Nat // n < 256 }
def m8 (n : Nat) : B8 := ⟨n % 256, Nat.mod_lt _ (by omega)⟩
theorem m8_val {n : Nat} (h : n < 256) : (m8 n).1 = n := Nat.mod_eq_of_lt h
theorem m8_self (a : B8) : m8 a.1 = a := Subtype.ext (m8_val a.2)
def z8 : B8 := ⟨0, by omega⟩
def o8 : B8 := ⟨1, by omega⟩
instance : Fld B8 where
  z := z8
  o := o8
  ad a b := ⟨a.1 ^^^ b.1, xor_lt a.2 b.2⟩
  ml a b := ⟨fmul a.1 b.1, fmul_lt a.2 b.2⟩
  ng a := a
  iv a := ⟨fpow a.1 254, fpow_lt a.2 _⟩
  ad_assoc a b c := Subtype.ext (Nat.xor_assoc ..)
  ad_comm a b := Subtype.ext (Nat.xor_comm ..)
  ad_z a := Subtype.ext (Nat.xor_zero _)
  ad_ng a := Subtype.ext (Nat.xor_self _)
  ml_assoc a b c := Subtype.ext (fmul_assoc a.2 b.2 c.2)
  ml_comm a b := Subtype.ext (fmul_comm a.2 b.2)
  ml_o a := Subtype.ext (fmul_one a.2)
  ml_ad a b c := Subtype.ext (fmul_xor ..)
  ml_iv a h := Subtype.ext (fmul_inv (fun e => h (Subtype.ext e)) a.2)
  o_ne h := absurd (congrArg Subtype.val h) (by unfold o8 z8; decide)
open Fld
theorem ad_val (a b : B8) : (ad a b).1 = a.1 ^^^ b.1 := rfl
theorem ml_val (a b : B8) : (ml a b).1 = fmul a.1 b.1 := rfl
theorem z_val : (z : B8).1 = 0 := rfl

/-- One term, after k of the factors. -/
def tr (p : Nat → Nat) (b x i : Nat) : Nat → Nat
  | 0 => b
  | k + 1 => if k = i then tr p b x i k else fmul (tr p b x i k) (fmul (x ^^^ p k) (fpow (p i ^^^ p k) 254))
/-- The byte at x, after i of the terms. -/
def rv (p b : Nat → Nat) (n x : Nat) : Nat → Nat
  | 0 => 0
  | i + 1 => rv p b n x i ^^^ tr p (b i) x i n
theorem tr_lag {p b : Nat → Nat} {x i : Nat} (hp : ∀ i, p i < 256) (hb : b i < 256) (hx : x < 256) : ∀ k, tr p (b i) x i k = (ml (m8 (b i)) (pm (lfac (fun k => m8 (p k)) (m8 x) i) k)).1
  | 0 => by
    show b i = (ml (m8 (b i)) o).1
    rw [ml_o, m8_val hb]
  | k + 1 => by
    simp only [tr, pm]
    rw [tr_lag hp hb hx k]
    unfold lfac
    by_cases e : k = i
    · rw [if_pos e, if_pos e, ml_o]
    · rw [if_neg e, if_neg e, ← ml_assoc]
      generalize ml (m8 (b i)) (pm _ k) = T
      rw [ml_val, ml_val]
      show fmul T.1 (fmul _ (fpow _ 254)) = fmul T.1 (fmul ((m8 x).1 ^^^ (m8 (p k)).1) (fpow ((m8 (p i)).1 ^^^ (m8 (p k)).1) 254))
      rw [m8_val hx, m8_val (hp k), m8_val (hp i)]
theorem rv_lag {p b : Nat → Nat} {n x : Nat} (hp : ∀ i, p i < 256) (hb : ∀ i, b i < 256) (hx : x < 256) : ∀ i, rv p b n x i = (sm (fun i => ml (m8 (b i)) (pm (lfac (fun k => m8 (p k)) (m8 x) i) n)) i).1
  | 0 => rfl
  | i + 1 => by
    simp only [rv, sm]
    rw [rv_lag hp hb hx i, tr_lag hp (hb i) hx n]
    rfl
/-- The byte at x. -/
def rby (p b : Nat → Nat) (n x : Nat) : Nat := rv p b n x n
theorem rby_lag {p b : Nat → Nat} {n x : Nat} (hp : ∀ i, p i < 256) (hb : ∀ i, b i < 256) (hx : x < 256) : rby p b n x = (lag (fun k => m8 (p k)) (fun k => m8 (b k)) n (m8 x)).1 := rv_lag hp hb hx n
theorem tr_lt {p : Nat → Nat} {b x i : Nat} (hp : ∀ i, p i < 256) (hb : b < 256) (hx : x < 256) : ∀ k, tr p b x i k < 256
  | 0 => hb
  | k + 1 => by
    simp only [tr]
    split
    · exact tr_lt hp hb hx k
    · exact fmul_lt (tr_lt hp hb hx k) (fmul_lt (xor_lt hx (hp k)) (fpow_lt (xor_lt (hp i) (hp k)) _))
theorem rv_lt {p b : Nat → Nat} {n x : Nat} (hp : ∀ i, p i < 256) (hb : ∀ i, b i < 256) (hx : x < 256) : ∀ i, rv p b n x i < 256
  | 0 => by simp [rv]
  | i + 1 => by simp only [rv]; exact xor_lt (rv_lt hp hb hx i) (tr_lt hp (hb i) hx n)
theorem rby_lt {p b : Nat → Nat} {n x : Nat} (hp : ∀ i, p i < 256) (hb : ∀ i, b i < 256) (hx : x < 256) : rby p b n x < 256 := rv_lt hp hb hx n
theorem tr_congr {p q : Nat → Nat} {b x i n : Nat} (hi : i < n) (h : ∀ k, k < n → p k = q k) : ∀ k, k ≤ n → tr p b x i k = tr q b x i k
  | 0, _ => rfl
  | k + 1, hk => by
    simp only [tr]
    rw [tr_congr hi h k (by omega), h k (by omega), h i hi]
theorem rv_congr {p q b c : Nat → Nat} {n x : Nat} (h : ∀ k, k < n → p k = q k) (h2 : ∀ k, k < n → b k = c k) : ∀ i, i ≤ n → rv p b n x i = rv q c n x i
  | 0, _ => rfl
  | i + 1, hi => by
    simp only [rv]
    rw [rv_congr h h2 i (by omega), h2 i (by omega), tr_congr (by omega) h n (Nat.le_refl _)]
theorem rby_congr {p q b c : Nat → Nat} {n x : Nat} (h : ∀ k, k < n → p k = q k) (h2 : ∀ k, k < n → b k = c k) : rby p b n x = rby q c n x := rv_congr h h2 n (Nat.le_refl _)
theorem m8_inj {a b : Nat} (ha : a < 256) (hb : b < 256) (h : m8 a = m8 b) : a = b := by
  have := congrArg Subtype.val h
  rwa [m8_val ha, m8_val hb] at this
/-- At its own places. -/
theorem rby_at {p b : Nat → Nat} {n : Nat} (hp : ∀ i, p i < 256) (hb : ∀ i, b i < 256) (hinj : ∀ i j, i < n → j < n → p i = p j → i = j) {j : Nat} (hj : j < n) : rby p b n (p j) = b j := by
  rw [rby_lag hp hb (hp j), lag_at (p := fun k => m8 (p k)) (fun i k hi hk h => hinj i k hi hk (m8_inj (hp i) (hp k) h)) hj, m8_val (hb j)]
/-- Two rows that agree at n places are one. -/
theorem rby_unique {p b q c : Nat → Nat} {n : Nat} (hp : ∀ i, p i < 256) (hb : ∀ i, b i < 256) (hq : ∀ i, q i < 256) (hc : ∀ i, c i < 256) {u : Nat → Nat} (hu : ∀ i, i < n → u i < 256) (hinj : ∀ i j, i < n → j < n → u i = u j → i = j)
    (h : ∀ i, i < n → rby p b n (u i) = rby q c n (u i)) {x : Nat} (hx : x < 256) : rby p b n x = rby q c n x := by
  rw [rby_lag hp hb hx, rby_lag hq hc hx]
  refine congrArg Subtype.val (Pl.unique (lag_pl _ _ n) (lag_pl _ _ n) (fun i => m8 (u i)) (fun i j hi hj e => hinj i j hi hj (m8_inj (hu i hi) (hu j hj) e)) (fun i hi => Subtype.ext ?_) (m8 x))
  rw [← rby_lag hp hb (hu i hi), ← rby_lag hq hc (hu i hi), h i hi]
/-- Of the sum of two rows. -/
theorem rby_xor {p b c : Nat → Nat} {n x : Nat} (hp : ∀ i, p i < 256) (hb : ∀ i, b i < 256) (hc : ∀ i, c i < 256) (hx : x < 256) : rby p (fun i => b i ^^^ c i) n x = rby p b n x ^^^ rby p c n x := by
  rw [rby_lag hp hb hx, rby_lag hp hc hx, rby_lag hp (fun i => xor_lt (hb i) (hc i)) hx, ← ad_val]
  unfold lag
  rw [← sm_ad]
  refine congrArg Subtype.val (sm_congr n fun i _ => ?_)
  rw [← ad_ml]
  refine congrArg (ml · _) (Subtype.ext ?_)
  rw [ad_val, m8_val (xor_lt (hb i) (hc i)), m8_val (hb i), m8_val (hc i)]
theorem rby_mul {p b : Nat → Nat} {n x y : Nat} (hp : ∀ i, p i < 256) (hb : ∀ i, b i < 256) (hy : y < 256) (hx : x < 256) : rby p (fun i => fmul y (b i)) n x = fmul y (rby p b n x) := by
  rw [rby_lag hp hb hx, rby_lag hp (fun i => fmul_lt hy (hb i)) hx, show fmul y (lag _ _ n (m8 x)).1 = (ml (m8 y) (lag (fun k => m8 (p k)) (fun k => m8 (b k)) n (m8 x))).1 by rw [ml_val, m8_val hy]]
  unfold lag
  rw [← sm_ml]
  refine congrArg Subtype.val (sm_congr n fun i _ => ?_)
  rw [← ml_assoc]
  refine congrArg (ml · _) (Subtype.ext ?_)
  rw [ml_val, m8_val (fmul_lt hy (hb i)), m8_val (hb i), m8_val hy]
end Wm
