import Derived.Test.YtkebldjepdhioaaBase
import Derived.Test.YtkebldjepdhioaaField0
import Derived.Test.YtkebldjepdhioaaField1
import Derived.Test.YtkebldjepdhioaaMake
import Derived.Deep.RegionHeld3
import Derived.Deep.RegionLaw
import Derived.StillTailTactics
import Derived.Test.YtkebldjepdhioaaApp
import Derived.BigRegion
import Derived.Deep.Cut
import Derived.BigQuiet
import Derived.Test.YtkebldjepdhioaaArith1
import Derived.Test.YtkebldjepdhioaaLaw
/-
  Plain: fields, and polynomials over them (Lagrange). No program in sight.
-/
set_option linter.unusedVariables false
set_option linter.unusedSimpArgs false
namespace Wm

class Fld (K : Type) where
  z : K
  o : K
  ad : K → K → K
  ml : K → K → K
  ng : K → K
  iv : K → K
  ad_assoc : ∀ a b c, ad (ad a b) c = ad a (ad b c)
  ad_comm : ∀ a b, ad a b = ad b a
  ad_z : ∀ a, ad a z = a
  ad_ng : ∀ a, ad a (ng a) = z
  ml_assoc : ∀ a b c, ml (ml a b) c = ml a (ml b c)
  ml_comm : ∀ a b, ml a b = ml b a
  ml_o : ∀ a, ml a o = a
  ml_ad : ∀ a b c, ml a (ad b c) = ad (ml a b) (ml a c)
  ml_iv : ∀ a, a ≠ z → ml a (iv a) = o
  o_ne : o ≠ z
namespace Fld
variable {K : Type} [Fld K]
theorem z_ad (a : K) : ad z a = a := by rw [ad_comm, ad_z]
theorem o_ml (a : K) : ml o a = a := by rw [ml_comm, ml_o]
theorem ad_ml (a b c : K) : ml (ad a b) c = ad (ml a c) (ml b c) := by rw [ml_comm, ml_ad, ml_comm c a, ml_comm c b]
theorem ad_left (a b c : K) : ad a (ad b c) = ad b (ad a c) := by rw [← ad_assoc, ad_comm a b, ad_assoc]
theorem ml_left (a b c : K) : ml a (ml b c) = ml b (ml a c) := by rw [← ml_assoc, ml_comm a b, ml_assoc]
theorem ad_cancel {a b c : K} (h : ad a b = ad a c) : b = c := by
  have : ad (ng a) (ad a b) = ad (ng a) (ad a c) := by rw [h]
  rw [← ad_assoc, ← ad_assoc, ad_comm (ng a) a, ad_ng, z_ad, z_ad] at this
  exact this
theorem ml_z (a : K) : ml a z = z := by
  have : ad (ml a z) (ml a z) = ad (ml a z) z := by rw [← ml_ad, ad_z, ad_z]
  exact ad_cancel this
theorem z_ml (a : K) : ml z a = z := by rw [ml_comm, ml_z]
theorem ng_unique {a b : K} (h : ad a b = z) : b = ng a := ad_cancel (h.trans (ad_ng a).symm)
theorem ng_ng (a : K) : ng (ng a) = a := (ng_unique (by rw [ad_comm, ad_ng])).symm
theorem ng_z : ng (z : K) = z := (ng_unique (ad_z z)).symm
theorem ml_ng (a b : K) : ml a (ng b) = ng (ml a b) := ng_unique (by rw [← ml_ad, ad_ng, ml_z])
theorem ng_ml (a b : K) : ml (ng a) b = ng (ml a b) := by rw [ml_comm, ml_ng, ml_comm]
theorem ng_ad (a b : K) : ng (ad a b) = ad (ng a) (ng b) := (ng_unique (by
  rw [ad_assoc, ad_left b (ng a), ← ad_assoc, ad_ng, ad_ng, ad_z])).symm
/-- Difference. -/
def sb (a b : K) : K := ad a (ng b)
theorem sb_self (a : K) : sb a a = z := ad_ng a
theorem sb_eq {a b : K} (h : sb a b = z) : a = b := by
  have : ad a (ng b) = ad b (ng b) := h.trans (ad_ng b).symm
  rw [ad_comm a, ad_comm b] at this
  exact ad_cancel this
theorem sb_ad (a b : K) : ad (sb a b) b = a := by unfold sb; rw [ad_assoc, ad_comm (ng b), ad_ng, ad_z]
theorem ml_sb (a b c : K) : ml a (sb b c) = sb (ml a b) (ml a c) := by unfold sb; rw [ml_ad, ml_ng]
theorem sb_ml (a b c : K) : ml (sb a b) c = sb (ml a c) (ml b c) := by rw [ml_comm, ml_sb, ml_comm c, ml_comm c]
theorem sb_sb (a b c d : K) : ad (sb a b) (sb c d) = sb (ad a c) (ad b d) := by
  unfold sb
  rw [ng_ad, ad_assoc, ad_assoc, ad_left (ng b) c]
theorem sb_left (a b c : K) : sb (ad a b) (ad a c) = sb b c := by
  unfold sb
  rw [ng_ad, ad_left (ad a b) (ng a), ← ad_assoc, ← ad_assoc, ad_comm (ng a) a, ad_ng, z_ad]
theorem ml_eq_z {a b : K} (h : ml a b = z) (ha : a ≠ z) : b = z := by
  have : ml (iv a) (ml a b) = ml (iv a) z := by rw [h]
  rw [← ml_assoc, ml_comm (iv a) a, ml_iv a ha, o_ml, ml_z] at this
  exact this
theorem ml_ne {a b : K} (ha : a ≠ z) (hb : b ≠ z) : ml a b ≠ z := fun h => hb (ml_eq_z h ha)
theorem iv_ne {a : K} (ha : a ≠ z) : iv a ≠ z := fun h => by
  have := ml_iv a ha
  rw [h, ml_z] at this
  exact o_ne this.symm
theorem iv_unique {a b : K} (h : ml a b = o) : b = iv a := by
  have ha : a ≠ z := fun e => by rw [e, z_ml] at h; exact o_ne h.symm
  have : ml (iv a) (ml a b) = ml (iv a) o := by rw [h]
  rw [← ml_assoc, ml_comm (iv a) a, ml_iv a ha, o_ml, ml_o] at this
  exact this

/-! ### Sums -/
def sm (f : Nat → K) : Nat → K
  | 0 => z
  | n + 1 => ad (sm f n) (f n)
theorem sm_congr {f g : Nat → K} : ∀ n, (∀ k, k < n → f k = g k) → sm f n = sm g n
  | 0, _ => rfl
  | n + 1, h => by simp only [sm]; rw [sm_congr n fun k hk => h k (by omega), h n (by omega)]
theorem sm_z {f : Nat → K} : ∀ n, (∀ k, k < n → f k = z) → sm f n = z
  | 0, _ => rfl
  | n + 1, h => by simp only [sm]; rw [sm_z n fun k hk => h k (by omega), h n (by omega), ad_z]
theorem sm_ad (f g : Nat → K) : ∀ n, sm (fun k => ad (f k) (g k)) n = ad (sm f n) (sm g n)
  | 0 => (ad_z z).symm
  | n + 1 => by
    simp only [sm]
    rw [sm_ad f g n, ad_assoc, ad_left (sm g n), ← ad_assoc]
theorem sm_ml (c : K) (f : Nat → K) : ∀ n, sm (fun k => ml c (f k)) n = ml c (sm f n)
  | 0 => (ml_z c).symm
  | n + 1 => by
    simp only [sm]
    rw [sm_ml c f n, ml_ad]
theorem sm_swap (f : Nat → Nat → K) (m : Nat) : ∀ n, sm (fun k => sm (f k) m) n = sm (fun h => sm (fun k => f k h) n) m
  | 0 => by
    simp only [sm]
    exact (sm_z m fun _ _ => rfl).symm
  | n + 1 => by
    simp only [sm]
    rw [sm_swap f m n, ← sm_ad]
/-- A sum with one term. -/
theorem sm_one {f : Nat → K} {i : Nat} : ∀ n, i < n → (∀ k, k < n → k ≠ i → f k = z) → sm f n = f i
  | 0, h, _ => absurd h (by omega)
  | n + 1, h, hf => by
    simp only [sm]
    by_cases e : i = n
    · subst e
      rw [sm_z i fun k hk => hf k (by omega) (by omega), z_ad]
    · rw [sm_one n (by omega) fun k hk => hf k (by omega), hf n (by omega) (by omega), ad_z]
/-- A product, but for one factor. -/
def pm (f : Nat → K) : Nat → K
  | 0 => o
  | n + 1 => ml (pm f n) (f n)
theorem pm_z {f : Nat → K} {i : Nat} : ∀ n, i < n → f i = z → pm f n = z
  | 0, h, _ => absurd h (by omega)
  | n + 1, h, hf => by
    simp only [pm]
    by_cases e : i = n
    · subst e; rw [hf, ml_z]
    · rw [pm_z n (by omega) hf, z_ml]
theorem pm_o {f : Nat → K} : ∀ n, (∀ k, k < n → f k = o) → pm f n = o
  | 0, _ => rfl
  | n + 1, h => by simp only [pm]; rw [pm_o n fun k hk => h k (by omega), h n (by omega), ml_o]
theorem pm_congr {f g : Nat → K} : ∀ n, (∀ k, k < n → f k = g k) → pm f n = pm g n
  | 0, _ => rfl
  | n + 1, h => by simp only [pm]; rw [pm_congr n fun k hk => h k (by omega), h n (by omega)]

/-! ### Polynomials -/
def ev : List K → K → K
  | [], _ => z
  | a :: l, x => ad a (ml x (ev l x))
def quo : List K → K → List K
  | [], _ => []
  | _ :: l, r => match l with
    | [] => []
    | b :: t => ev (b :: t) r :: quo (b :: t) r
theorem quo_length : ∀ (l : List K) (r : K), (quo l r).length = l.length - 1
  | [], _ => rfl
  | [_], _ => rfl
  | _ :: b :: t, r => by
    simp only [quo, List.length_cons]
    rw [quo_length (b :: t) r]
    simp
theorem quo_ev : ∀ (l : List K) (r x : K), sb (ev l x) (ev l r) = ml (sb x r) (ev (quo l r) x)
  | [], r, x => by simp only [quo, ev]; rw [sb_self, ml_z]
  | [a], r, x => by simp only [quo, ev]; rw [ml_z x, ml_z r, sb_self, ml_z]
  | a :: b :: t, r, x => by
    have ih := quo_ev (b :: t) r x
    simp only [quo]
    show sb (ad a (ml x (ev (b :: t) x))) (ad a (ml r (ev (b :: t) r))) = ml (sb x r) (ad (ev (b :: t) r) (ml x (ev (quo (b :: t) r) x)))
    generalize ev (b :: t) x = E at *
    generalize ev (b :: t) r = F at *
    generalize ev (quo (b :: t) r) x = G at *
    rw [ml_ad, ml_left (sb x r) x G, ← ih, ml_sb, sb_ml]
    rw [sb_sb, ad_comm (ml r F), sb_left, sb_left]
/-- As many zeros as coefficients. -/
theorem ev_zero : ∀ (n : Nat) (l : List K), l.length ≤ n → ∀ (p : Nat → K), (∀ i j, i < n → j < n → p i = p j → i = j) → (∀ i, i < n → ev l (p i) = z) → ∀ x, ev l x = z
  | 0, l, hl, _, _, _, x => by
    have : l = [] := List.eq_nil_of_length_eq_zero (by omega)
    subst this; rfl
  | n + 1, l, hl, p, hp, hz, x => by
    have h0 := hz n (by omega)
    have hq := ev_zero n (quo l (p n)) (by rw [quo_length]; omega) p (fun i j hi hj => hp i j (by omega) (by omega)) fun i hi => by
      have e := quo_ev l (p n) (p i)
      rw [hz i (by omega), h0, sb_self] at e
      exact ml_eq_z e.symm fun h => by have := hp i n (by omega) (by omega) (sb_eq h); omega
    have e := quo_ev l (p n) x
    rw [hq x, ml_z, h0] at e
    exact sb_eq e

/-- A function that is a polynomial of at most d coefficients. -/
def Pl (d : Nat) (f : K → K) : Prop := ∃ l : List K, l.length ≤ d ∧ ∀ x, ev l x = f x
theorem Pl.congr {d : Nat} {f g : K → K} (h : Pl d f) (e : ∀ x, f x = g x) : Pl d g := by
  obtain ⟨l, h1, h2⟩ := h
  exact ⟨l, h1, fun x => (h2 x).trans (e x)⟩
theorem Pl.more {d e : Nat} {f : K → K} (h : Pl d f) (hd : d ≤ e) : Pl e f := by
  obtain ⟨l, h1, h2⟩ := h
  exact ⟨l, by omega, h2⟩
theorem Pl.zero (d : Nat) : Pl d (fun _ : K => z) := ⟨[], Nat.zero_le _, fun _ => rfl⟩
theorem Pl.const (c : K) : Pl 1 (fun _ : K => c) := ⟨[c], Nat.le_refl _, fun x => by simp only [ev]; rw [ml_z, ad_z]⟩
def adl : List K → List K → List K
  | [], m => m
  | l, [] => l
  | a :: l, b :: m => ad a b :: adl l m
theorem adl_length : ∀ l m : List K, (adl l m).length = max l.length m.length
  | [], m => by simp [adl]
  | a :: l, [] => by simp [adl]
  | a :: l, b :: m => by simp only [adl, List.length_cons]; rw [adl_length l m]; omega
theorem adl_ev (x : K) : ∀ l m : List K, ev (adl l m) x = ad (ev l x) (ev m x)
  | [], m => by simp only [adl, ev]; rw [z_ad]
  | a :: l, [] => by simp only [adl, ev]; rw [ad_z]
  | a :: l, b :: m => by
    simp only [adl, ev]
    rw [adl_ev x l m, ml_ad, ad_assoc, ad_left b, ← ad_assoc]
theorem Pl.ad {d : Nat} {f g : K → K} (h : Pl d f) (h' : Pl d g) : Pl d (fun x => ad (f x) (g x)) := by
  obtain ⟨l, h1, h2⟩ := h
  obtain ⟨m, h3, h4⟩ := h'
  exact ⟨adl l m, by rw [adl_length]; omega, fun x => by rw [adl_ev, h2, h4]⟩
theorem sc_ev (c x : K) : ∀ l : List K, ev (l.map (ml c)) x = ml c (ev l x)
  | [] => by simp only [List.map_nil, ev]; rw [ml_z]
  | a :: l => by
    simp only [List.map_cons, ev]
    rw [sc_ev c x l, ml_ad, ml_left x c]
theorem Pl.ml {d : Nat} {f : K → K} (c : K) (h : Pl d f) : Pl d (fun x => ml c (f x)) := by
  obtain ⟨l, h1, h2⟩ := h
  exact ⟨l.map (Fld.ml c), by rw [List.length_map]; exact h1, fun x => by rw [sc_ev, h2]⟩
theorem Pl.shift {d : Nat} {f : K → K} (h : Pl d f) : Pl (d + 1) (fun x => Fld.ml x (f x)) := by
  obtain ⟨l, h1, h2⟩ := h
  exact ⟨z :: l, by simp; omega, fun x => by simp only [ev]; rw [h2, z_ad]⟩
theorem Pl.lin {d : Nat} {f : K → K} (h : Pl d f) (q c : K) : Pl (d + 1) (fun x => Fld.ml (f x) (Fld.ml (sb x q) c)) :=
  ((h.shift.ad ((h.more (Nat.le_succ d)).ml (ng q))).ml c).congr fun x => by
    unfold sb
    rw [← ad_ml, ml_comm c, ml_comm (Fld.ad x (ng q)), ml_assoc]
theorem Pl.sum {d : Nat} {f : Nat → K → K} : ∀ n, (∀ k, k < n → Pl d (f k)) → Pl d (fun x => sm (fun k => f k x) n)
  | 0, _ => Pl.zero d
  | n + 1, h => (Pl.sum n fun k hk => h k (by omega)).ad (h n (by omega))
/-- Two that agree often enough are one. -/
theorem Pl.unique {n : Nat} {f g : K → K} (hf : Pl n f) (hg : Pl n g) (p : Nat → K) (hp : ∀ i j, i < n → j < n → p i = p j → i = j) (h : ∀ i, i < n → f (p i) = g (p i)) (x : K) : f x = g x := by
  have hd : Pl n (fun x => sb (f x) (g x)) := (hf.ad (hg.ml (ng o))).congr fun x => by
    unfold sb
    rw [ng_ml, o_ml]
  obtain ⟨l, h1, h2⟩ := hd
  have := ev_zero n l h1 p hp (fun i hi => by rw [h2]; show sb (f (p i)) (g (p i)) = z; rw [h i hi, sb_self]) x
  rw [h2] at this
  exact sb_eq this

/-! ### Lagrange -/
/-- The factor that is 0 at the other place. -/
def lfac (p : Nat → K) (x : K) (i k : Nat) : K := if k = i then o else Fld.ml (sb x (p k)) (iv (sb (p i) (p k)))
def lag (p b : Nat → K) (n : Nat) (x : K) : K := sm (fun i => Fld.ml (b i) (pm (lfac p x i) n)) n
theorem pm_pl (p : Nat → K) (i : Nat) : ∀ n, Pl (if i < n then n else n + 1) (fun x => pm (lfac p x i) n)
  | 0 => (Pl.const o).congr fun _ => rfl
  | n + 1 => by
    have ih := pm_pl p i n
    by_cases e : n = i
    · subst e
      rw [if_neg (by omega)] at ih
      rw [if_pos (by omega)]
      exact ih.congr fun x => by
        show pm (lfac p x n) n = Fld.ml (pm (lfac p x n) n) (lfac p x n n)
        rw [show lfac p x n n = o from if_pos rfl, ml_o]
    · have h2 := ih.lin (p n) (iv (sb (p i) (p n)))
      refine (h2.more ?_).congr fun x => ?_
      · split <;> split <;> omega
      · show Fld.ml (pm (lfac p x i) n) _ = Fld.ml (pm (lfac p x i) n) (lfac p x i n)
        rw [show lfac p x i n = Fld.ml (sb x (p n)) (iv (sb (p i) (p n))) from if_neg e]
theorem lag_pl (p b : Nat → K) (n : Nat) : Pl n (lag p b n) := Pl.sum n fun i hi => by
  have := pm_pl p i n
  rw [if_pos hi] at this
  exact this.ml (b i)
theorem lag_at {p b : Nat → K} {n : Nat} (hp : ∀ i j, i < n → j < n → p i = p j → i = j) {j : Nat} (hj : j < n) : lag p b n (p j) = b j := by
  unfold lag
  rw [sm_one n hj fun i hi hij => by
    rw [pm_z n hj (show lfac p (p j) i j = z by
      unfold lfac
      rw [if_neg (fun e => hij e.symm), sb_self, z_ml]), ml_z]]
  rw [pm_o n fun k hk => ?_, ml_o]
  unfold lfac
  split
  · rfl
  · rename_i e
    exact ml_iv _ fun h => e (hp k j hk hj (sb_eq h).symm)
end Fld
end Wm

/-
  Plain: the bytes as a field, and the code rows of Reed and Solomon. No program in sight.
-/
set_option linter.unusedVariables false
set_option linter.unusedSimpArgs false
namespace Wm

abbrev B8 : Type := { n : Nat // n < 256 }
def m8 (n : Nat) : B8 := ⟨n % 256, Nat.mod_lt _ (by omega)⟩
theorem m8_val {n : Nat} (h : n < 256) : (m8 n).1 = n := Nat.mod_eq_of_lt h
theorem m8_self (a : B8) : m8 a.1 = a := Subtype.ext (m8_val a.2)
def z8 : B8 := ⟨0, by omega⟩
def o8 : B8 := ⟨1, by omega⟩
instance : Fld B8 where
  z := z8
  o := o8
  ad a b := ⟨a.1 ^^^ b.1, xor_lt a.2 b.2⟩
  ml a b := ⟨fmul a.1 b.1, fmul_lt a.2 b.2⟩
  ng a := a
  iv a := ⟨fpow a.1 254, fpow_lt a.2 _⟩
  ad_assoc a b c := Subtype.ext (Nat.xor_assoc ..)
  ad_comm a b := Subtype.ext (Nat.xor_comm ..)
  ad_z a := Subtype.ext (Nat.xor_zero _)
  ad_ng a := Subtype.ext (Nat.xor_self _)
  ml_assoc a b c := Subtype.ext (fmul_assoc a.2 b.2 c.2)
  ml_comm a b := Subtype.ext (fmul_comm a.2 b.2)
  ml_o a := Subtype.ext (fmul_one a.2)
  ml_ad a b c := Subtype.ext (fmul_xor ..)
  ml_iv a h := Subtype.ext (fmul_inv (fun e => h (Subtype.ext e)) a.2)
  o_ne h := absurd (congrArg Subtype.val h) (by unfold o8 z8; decide)
open Fld
theorem ad_val (a b : B8) : (ad a b).1 = a.1 ^^^ b.1 := rfl
theorem ml_val (a b : B8) : (ml a b).1 = fmul a.1 b.1 := rfl
theorem z_val : (z : B8).1 = 0 := rfl

/-- One term, after k of the factors. -/
def tr (p : Nat → Nat) (b x i : Nat) : Nat → Nat
  | 0 => b
  | k + 1 => if k = i then tr p b x i k else fmul (tr p b x i k) (fmul (x ^^^ p k) (fpow (p i ^^^ p k) 254))
/-- The byte at x, after i of the terms. -/
def rv (p b : Nat → Nat) (n x : Nat) : Nat → Nat
  | 0 => 0
  | i + 1 => rv p b n x i ^^^ tr p (b i) x i n
theorem tr_lag {p b : Nat → Nat} {x i : Nat} (hp : ∀ i, p i < 256) (hb : b i < 256) (hx : x < 256) : ∀ k, tr p (b i) x i k = (ml (m8 (b i)) (pm (lfac (fun k => m8 (p k)) (m8 x) i) k)).1
  | 0 => by
    show b i = (ml (m8 (b i)) o).1
    rw [ml_o, m8_val hb]
  | k + 1 => by
    simp only [tr, pm]
    rw [tr_lag hp hb hx k]
    unfold lfac
    by_cases e : k = i
    · rw [if_pos e, if_pos e, ml_o]
    · rw [if_neg e, if_neg e, ← ml_assoc]
      generalize ml (m8 (b i)) (pm _ k) = T
      rw [ml_val, ml_val]
      show fmul T.1 (fmul _ (fpow _ 254)) = fmul T.1 (fmul ((m8 x).1 ^^^ (m8 (p k)).1) (fpow ((m8 (p i)).1 ^^^ (m8 (p k)).1) 254))
      rw [m8_val hx, m8_val (hp k), m8_val (hp i)]
theorem rv_lag {p b : Nat → Nat} {n x : Nat} (hp : ∀ i, p i < 256) (hb : ∀ i, b i < 256) (hx : x < 256) : ∀ i, rv p b n x i = (sm (fun i => ml (m8 (b i)) (pm (lfac (fun k => m8 (p k)) (m8 x) i) n)) i).1
  | 0 => rfl
  | i + 1 => by
    simp only [rv, sm]
    rw [rv_lag hp hb hx i, tr_lag hp (hb i) hx n]
    rfl
/-- The byte at x. -/
def rby (p b : Nat → Nat) (n x : Nat) : Nat := rv p b n x n
theorem rby_lag {p b : Nat → Nat} {n x : Nat} (hp : ∀ i, p i < 256) (hb : ∀ i, b i < 256) (hx : x < 256) : rby p b n x = (lag (fun k => m8 (p k)) (fun k => m8 (b k)) n (m8 x)).1 := rv_lag hp hb hx n
theorem tr_lt {p : Nat → Nat} {b x i : Nat} (hp : ∀ i, p i < 256) (hb : b < 256) (hx : x < 256) : ∀ k, tr p b x i k < 256
  | 0 => hb
  | k + 1 => by
    simp only [tr]
    split
    · exact tr_lt hp hb hx k
    · exact fmul_lt (tr_lt hp hb hx k) (fmul_lt (xor_lt hx (hp k)) (fpow_lt (xor_lt (hp i) (hp k)) _))
theorem rv_lt {p b : Nat → Nat} {n x : Nat} (hp : ∀ i, p i < 256) (hb : ∀ i, b i < 256) (hx : x < 256) : ∀ i, rv p b n x i < 256
  | 0 => by simp [rv]
  | i + 1 => by simp only [rv]; exact xor_lt (rv_lt hp hb hx i) (tr_lt hp (hb i) hx n)
theorem rby_lt {p b : Nat → Nat} {n x : Nat} (hp : ∀ i, p i < 256) (hb : ∀ i, b i < 256) (hx : x < 256) : rby p b n x < 256 := rv_lt hp hb hx n
theorem tr_congr {p q : Nat → Nat} {b x i n : Nat} (hi : i < n) (h : ∀ k, k < n → p k = q k) : ∀ k, k ≤ n → tr p b x i k = tr q b x i k
  | 0, _ => rfl
  | k + 1, hk => by
    simp only [tr]
    rw [tr_congr hi h k (by omega), h k (by omega), h i hi]
theorem rv_congr {p q b c : Nat → Nat} {n x : Nat} (h : ∀ k, k < n → p k = q k) (h2 : ∀ k, k < n → b k = c k) : ∀ i, i ≤ n → rv p b n x i = rv q c n x i
  | 0, _ => rfl
  | i + 1, hi => by
    simp only [rv]
    rw [rv_congr h h2 i (by omega), h2 i (by omega), tr_congr (by omega) h n (Nat.le_refl _)]
theorem rby_congr {p q b c : Nat → Nat} {n x : Nat} (h : ∀ k, k < n → p k = q k) (h2 : ∀ k, k < n → b k = c k) : rby p b n x = rby q c n x := rv_congr h h2 n (Nat.le_refl _)
theorem m8_inj {a b : Nat} (ha : a < 256) (hb : b < 256) (h : m8 a = m8 b) : a = b := by
  have := congrArg Subtype.val h
  rwa [m8_val ha, m8_val hb] at this
/-- At its own places. -/
theorem rby_at {p b : Nat → Nat} {n : Nat} (hp : ∀ i, p i < 256) (hb : ∀ i, b i < 256) (hinj : ∀ i j, i < n → j < n → p i = p j → i = j) {j : Nat} (hj : j < n) : rby p b n (p j) = b j := by
  rw [rby_lag hp hb (hp j), lag_at (p := fun k => m8 (p k)) (fun i k hi hk h => hinj i k hi hk (m8_inj (hp i) (hp k) h)) hj, m8_val (hb j)]
/-- Two rows that agree at n places are one. -/
theorem rby_unique {p b q c : Nat → Nat} {n : Nat} (hp : ∀ i, p i < 256) (hb : ∀ i, b i < 256) (hq : ∀ i, q i < 256) (hc : ∀ i, c i < 256) {u : Nat → Nat} (hu : ∀ i, i < n → u i < 256) (hinj : ∀ i j, i < n → j < n → u i = u j → i = j)
    (h : ∀ i, i < n → rby p b n (u i) = rby q c n (u i)) {x : Nat} (hx : x < 256) : rby p b n x = rby q c n x := by
  rw [rby_lag hp hb hx, rby_lag hq hc hx]
  refine congrArg Subtype.val (Pl.unique (lag_pl _ _ n) (lag_pl _ _ n) (fun i => m8 (u i)) (fun i j hi hj e => hinj i j hi hj (m8_inj (hu i hi) (hu j hj) e)) (fun i hi => Subtype.ext ?_) (m8 x))
  rw [← rby_lag hp hb (hu i hi), ← rby_lag hq hc (hu i hi), h i hi]
/-- Of the sum of two rows. -/
theorem rby_xor {p b c : Nat → Nat} {n x : Nat} (hp : ∀ i, p i < 256) (hb : ∀ i, b i < 256) (hc : ∀ i, c i < 256) (hx : x < 256) : rby p (fun i => b i ^^^ c i) n x = rby p b n x ^^^ rby p c n x := by
  rw [rby_lag hp hb hx, rby_lag hp hc hx, rby_lag hp (fun i => xor_lt (hb i) (hc i)) hx, ← ad_val]
  unfold lag
  rw [← sm_ad]
  refine congrArg Subtype.val (sm_congr n fun i _ => ?_)
  rw [← ad_ml]
  refine congrArg (ml · _) (Subtype.ext ?_)
  rw [ad_val, m8_val (xor_lt (hb i) (hc i)), m8_val (hb i), m8_val (hc i)]
theorem rby_mul {p b : Nat → Nat} {n x y : Nat} (hp : ∀ i, p i < 256) (hb : ∀ i, b i < 256) (hy : y < 256) (hx : x < 256) : rby p (fun i => fmul y (b i)) n x = fmul y (rby p b n x) := by
  rw [rby_lag hp hb hx, rby_lag hp (fun i => fmul_lt hy (hb i)) hx, show fmul y (lag _ _ n (m8 x)).1 = (ml (m8 y) (lag (fun k => m8 (p k)) (fun k => m8 (b k)) n (m8 x))).1 by rw [ml_val, m8_val hy]]
  unfold lag
  rw [← sm_ml]
  refine congrArg Subtype.val (sm_congr n fun i _ => ?_)
  rw [← ml_assoc]
  refine congrArg (ml · _) (Subtype.ext ?_)
  rw [ml_val, m8_val (fmul_lt hy (hb i)), m8_val (hb i), m8_val hy]
end Wm

/-
  Plain: what the laws of reed say of the code rows. No program in sight.
-/
set_option linter.unusedVariables false
set_option linter.unusedSimpArgs false
namespace Wm
/-- The row of n bytes that has the bytes bs at the places l. -/
def rowL (l bs : List Nat) (n : Nat) : List Nat := (List.range n).map (rby (fun i => l.getD i 0) (fun i => bs.getD i 0) l.length)
def putL (d : List Nat) (n : Nat) : List Nat := rowL (List.range d.length) d n
def B256 (l : List Nat) : Prop := ∀ i, l.getD i 0 < 256
theorem B256.of {l : List Nat} (h : ∀ x ∈ l, x < 256) : B256 l := fun i => by
  rw [List.getD_eq_getElem?_getD]
  cases e : l[i]? with
  | none => show 0 < 256; omega
  | some x => exact h x (List.mem_of_getElem? e)
theorem B256.mem {l : List Nat} (h : B256 l) : ∀ x ∈ l, x < 256 := fun x hx => by
  obtain ⟨i, hi, rfl⟩ := List.getElem_of_mem hx
  have := h i
  rwa [List.getD_eq_getElem?_getD, List.getElem?_eq_getElem hi] at this
theorem getD_range {n i : Nat} (h : i < n) : (List.range n).getD i 0 = i := by
  rw [List.getD_eq_getElem?_getD, List.getElem?_eq_getElem (by simpa using h)]; simp
theorem B256.range {n : Nat} (h : n ≤ 256) : B256 (List.range n) := B256.of fun x hx => by have := List.mem_range.1 hx; omega
theorem getD_map_ {α : Type} {l : List α} {f : α → Nat} {i : Nat} (a : α) (h : i < l.length) : (l.map f).getD i 0 = f (l.getD i a) := by
  simp [List.getD_eq_getElem?_getD, List.getElem?_eq_getElem h]
theorem rowL_length (l bs : List Nat) (n : Nat) : (rowL l bs n).length = n := by simp [rowL]
theorem rowL_get {l bs : List Nat} {n x : Nat} (h : x < n) : (rowL l bs n).getD x 0 = rby (fun i => l.getD i 0) (fun i => bs.getD i 0) l.length x := by
  unfold rowL
  rw [getD_map_ 0 (by simpa using h), getD_range h]
theorem rowL_lt {l bs : List Nat} {n : Nat} (hl : B256 l) (hb : B256 bs) (hn : n ≤ 256) : B256 (rowL l bs n) := B256.of fun y hy => by
  obtain ⟨x, hx, rfl⟩ := List.mem_map.1 hy
  exact rby_lt hl hb (by have := List.mem_range.1 hx; omega)
theorem putL_length (d : List Nat) (n : Nat) : (putL d n).length = n := rowL_length ..
theorem putL_get {d : List Nat} {n x : Nat} (h : x < n) : (putL d n).getD x 0 = rby (fun i => (List.range d.length).getD i 0) (fun i => d.getD i 0) d.length x := by
  unfold putL; rw [rowL_get h, List.length_range]
theorem getD_inj {l : List Nat} (h : l.Nodup) {i j : Nat} (hi : i < l.length) (hj : j < l.length) (e : l.getD i 0 = l.getD j 0) : i = j := by
  rw [List.getD_eq_getElem?_getD, List.getD_eq_getElem?_getD, List.getElem?_eq_getElem hi, List.getElem?_eq_getElem hj] at e
  exact (List.getElem_inj h).1 e
theorem list_ext_getD {l m : List Nat} (h : l.length = m.length) (hg : ∀ i, i < l.length → l.getD i 0 = m.getD i 0) : l = m := by
  apply List.ext_getElem h
  intro i h1 h2
  have := hg i h1
  rwa [List.getD_eq_getElem?_getD, List.getD_eq_getElem?_getD, List.getElem?_eq_getElem h1, List.getElem?_eq_getElem h2] at this
/-- The first bytes of a row are the data. -/
theorem putL_data {d : List Nat} {n i : Nat} (hd : B256 d) (hn : n ≤ 256) (hk : d.length ≤ n) (hi : i < d.length) : (putL d n).getD i 0 = d.getD i 0 := by
  rw [putL_get (by omega)]
  have := rby_at (p := fun i => (List.range d.length).getD i 0) (b := fun i => d.getD i 0) (n := d.length) (B256.range (by omega)) hd (fun i j hi hj e => by rwa [getD_range hi, getD_range hj] at e) hi
  rwa [getD_range hi] at this
theorem putL_take {d : List Nat} {n : Nat} (hd : B256 d) (hn : n ≤ 256) (hk : d.length ≤ n) : (putL d n).take d.length = d := by
  apply list_ext_getD (by rw [List.length_take, putL_length]; omega)
  intro i hi
  rw [List.length_take, putL_length] at hi
  have e : ((putL d n).take d.length).getD i 0 = (putL d n).getD i 0 := by
    rw [List.getD_eq_getElem?_getD, List.getElem?_take_of_lt (by omega), ← List.getD_eq_getElem?_getD]
  rw [e, putL_data hd hn hk (by omega)]
/-- Any so many bytes of a row make all. -/
theorem mend_row {d l bs : List Nat} {n : Nat} (hd : B256 d) (hn : n ≤ 256) (hl : l.Nodup) (hln : ∀ x ∈ l, x < n) (hk : l.length = d.length) (hkn : d.length ≤ n) (hb : B256 bs) (hbs : ∀ i, i < l.length → bs.getD i 0 = (putL d n).getD (l.getD i 0) 0) : rowL l bs n = putL d n := by
  apply list_ext_getD (by rw [rowL_length, putL_length])
  intro x hx
  rw [rowL_length] at hx
  have hl2 : B256 l := B256.of fun x hx => by have := hln x hx; omega
  have hdm : ∀ i, i < l.length → l.getD i 0 < n := fun i hi => by
    rw [List.getD_eq_getElem?_getD, List.getElem?_eq_getElem hi]
    exact hln _ (List.getElem_mem hi)
  rw [rowL_get hx, putL_get hx, ← hk]
  refine rby_unique hl2 hb (B256.range (by omega)) hd (u := fun i => l.getD i 0) (fun i _ => hl2 i) (fun i j hi hj e => getD_inj hl hi hj e) (fun i hi => ?_) (by omega)
  rw [rby_at hl2 hb (fun i j hi hj e => getD_inj hl hi hj e) hi, hbs i hi, putL_get (hdm i hi), hk]
/-- Two rows that agree in so many places have the same data. -/
theorem rows_agree {d e u : List Nat} {n : Nat} (hd : B256 d) (he : B256 e) (hn : n ≤ 256) (hk : d.length ≤ n) (hde : d.length = e.length) (hu : u.Nodup) (hul : d.length ≤ u.length) (h : ∀ x ∈ u, x < n ∧ (putL d n).getD x 0 = (putL e n).getD x 0) : d = e := by
  apply list_ext_getD hde
  intro i hi
  have key : (putL d n).getD i 0 = (putL e n).getD i 0 := by
    rw [putL_get (by omega), putL_get (by omega), ← hde]
    have hm : ∀ i, i < d.length → u.getD i 0 ∈ u := fun i hi => by
      rw [List.getD_eq_getElem?_getD, List.getElem?_eq_getElem (by omega)]
      exact List.getElem_mem _
    refine rby_unique (B256.range (by omega)) hd (B256.range (by omega)) he (u := fun i => u.getD i 0) (fun i hi => by have := (h _ (hm i hi)).1; omega) (fun i j hi hj e => getD_inj hu (by omega) (by omega) e) (fun i hi => ?_) (by omega)
    obtain ⟨h1, h2⟩ := h _ (hm i hi)
    rw [putL_get h1, putL_get h1, ← hde] at h2
    exact h2
  rwa [putL_data hd hn hk hi, putL_data he hn (by omega) (by omega)] at key
/-- How many of the first n. -/
def cntR (f : Nat → Bool) : Nat → Nat
  | 0 => 0
  | n + 1 => cntR f n + (f n).toNat
def pk (f : Nat → Bool) : Nat → List Nat
  | 0 => []
  | n + 1 => if f n then pk f n ++ [n] else pk f n
theorem pk_length (f : Nat → Bool) : ∀ n, (pk f n).length = cntR f n
  | 0 => rfl
  | n + 1 => by
    simp only [pk, cntR]
    cases h : f n <;> simp [pk_length f n]
theorem pk_mem {f : Nat → Bool} {x : Nat} : ∀ n, x ∈ pk f n → x < n ∧ f x = true
  | 0, h => by simp [pk] at h
  | n + 1, h => by
    simp only [pk] at h
    split at h
    · rename_i hf
      rcases List.mem_append.1 h with h | h
      · have := pk_mem n h; exact ⟨by omega, this.2⟩
      · have : x = n := by simpa using h
        subst this; exact ⟨by omega, hf⟩
    · have := pk_mem n h; exact ⟨by omega, this.2⟩
theorem pk_nodup (f : Nat → Bool) : ∀ n, (pk f n).Nodup
  | 0 => by simp [pk]
  | n + 1 => by
    simp only [pk]
    split
    · refine List.nodup_append.2 ⟨pk_nodup f n, by simp, fun a ha b hb e => ?_⟩
      have := (pk_mem n ha).1
      have : b = n := by simpa using hb
      omega
    · exact pk_nodup f n
theorem cntR_not (f : Nat → Bool) : ∀ n, cntR f n + cntR (fun i => !f i) n = n
  | 0 => rfl
  | n + 1 => by
    have := cntR_not f n
    simp only [cntR]
    cases f n <;> simp <;> omega
theorem cntR_le (f : Nat → Bool) (n : Nat) : cntR f n ≤ n := by have := cntR_not f n; omega
/-- Singleton. -/
theorem far {d e : List Nat} {n : Nat} (hd : B256 d) (he : B256 e) (hn : n ≤ 256) (hk : d.length ≤ n) (hde : d.length = e.length) (hne : d ≠ e) : n + 1 ≤ cntR (fun i => decide ((putL d n).getD i 0 ≠ (putL e n).getD i 0)) n + d.length := by
  have h1 := cntR_not (fun i => decide ((putL d n).getD i 0 = (putL e n).getD i 0)) n
  have h2 : ¬ d.length ≤ cntR (fun i => decide ((putL d n).getD i 0 = (putL e n).getD i 0)) n := fun h => by
    rw [← pk_length] at h
    exact hne (rows_agree hd he hn hk hde (pk_nodup _ n) h fun x hx => by
      have := pk_mem n hx
      exact ⟨this.1, of_decide_eq_true this.2⟩)
  have h3 : (fun i => !decide ((putL d n).getD i 0 = (putL e n).getD i 0)) = fun i => decide ((putL d n).getD i 0 ≠ (putL e n).getD i 0) := by
    funext i; simp
  rw [h3] at h1
  omega
/-- One wrong byte is told. -/
theorem wrong {d : List Nat} {n a y : Nat} (hd : B256 d) (hn : n ≤ 256) (hk : d.length < n) (ha : a < n) (hy : y < 256) (hne : y ≠ (putL d n).getD a 0) :
    ∃ i, i < n ∧ ((putL d n).set a y).getD i 0 ≠ (putL (((putL d n).set a y).take d.length) n).getD i 0 := by
  obtain ⟨c, hc⟩ : ∃ c, c = (putL d n).set a y := ⟨_, rfl⟩
  rw [← hc]
  have hcl : c.length = n := by rw [hc, List.length_set, putL_length]
  have hcg : ∀ i, i < n → c.getD i 0 = if a = i then y else (putL d n).getD i 0 := fun i hi => by
    rw [hc, List.getD_eq_getElem?_getD, List.getElem?_set]
    split
    · rw [if_pos (by rw [putL_length]; exact ha)]; rfl
    · rw [List.getD_eq_getElem?_getD]
  have hcb : B256 c := B256.of fun x hx => by
    rw [hc] at hx
    rcases List.mem_or_eq_of_mem_set hx with h | h
    · exact (rowL_lt (B256.range (by omega)) hd hn).mem x h
    · omega
  refine Classical.byContradiction fun hno => ?_
  have hall : ∀ i, i < n → c.getD i 0 = (putL (c.take d.length) n).getD i 0 := fun i hi => Classical.byContradiction fun h => hno ⟨i, hi, h⟩
  have htl : (c.take d.length).length = d.length := by rw [List.length_take]; omega
  have htb : B256 (c.take d.length) := B256.of fun x hx => hcb.mem x (List.mem_of_mem_take hx)
  have hcn : cntR (fun i => decide (i ≠ a)) n = n - 1 := by
    have h1 := cntR_not (fun i => decide (i ≠ a)) n
    have h2 : ∀ m, cntR (fun i => !decide (i ≠ a)) m = if a < m then 1 else 0 := fun m => by
      induction m with
      | zero => rfl
      | succ m ih =>
        simp only [cntR]
        rw [ih]
        by_cases e : m = a
        · subst e; simp
        · simp [e]; split <;> split <;> omega
    rw [h2, if_pos ha] at h1
    omega
  have := rows_agree htb hd hn (by omega) htl (pk_nodup (fun i => decide (i ≠ a)) n) (by rw [pk_length, hcn]; omega) fun x hx => by
    have hx := pk_mem n hx
    refine ⟨hx.1, ?_⟩
    rw [← hall x hx.1, hcg x hx.1, if_neg fun e => of_decide_eq_true hx.2 e.symm]
  have h1 := hall a ha
  rw [this, hcg a ha, if_pos rfl] at h1
  exact hne h1
end Wm

/-
  The contract of reed.Row.
-/
set_option linter.unusedVariables false
set_option linter.unusedSimpArgs false
namespace Wm
/-- The row, its first x bytes made, and i terms of the next. -/
def mid (l bs : List Nat) (n x i : Nat) : List Nat := (List.range n).map fun y => if y < x then rby (fun i => l.getD i 0) (fun i => bs.getD i 0) l.length y else if y = x then rv (fun i => l.getD i 0) (fun i => bs.getD i 0) l.length y i else 0
theorem mid_length (l bs : List Nat) (n x i : Nat) : (mid l bs n x i).length = n := by simp [mid]
theorem mid_zero (l bs : List Nat) (n : Nat) : mid l bs n 0 0 = List.replicate n 0 := by
  apply List.ext_getElem (by simp [mid])
  intro y h1 h2
  simp [mid, rv]
theorem mid_get (l bs : List Nat) {n x : Nat} (h : x < n) (i : Nat) : (mid l bs n x i).getD x 0 = rv (fun i => l.getD i 0) (fun i => bs.getD i 0) l.length x i := by
  unfold mid
  rw [getD_map_ 0 (by simpa using h), getD_range h, if_neg (by omega), if_pos rfl]
theorem mid_set (l bs : List Nat) {n x : Nat} (h : x < n) (i j : Nat) : (mid l bs n x i).set x (rv (fun i => l.getD i 0) (fun i => bs.getD i 0) l.length x j) = mid l bs n x j := by
  apply List.ext_getElem (by simp [mid])
  intro y h1 h2
  rw [List.getElem_set]
  simp only [mid, List.getElem_map, List.getElem_range]
  by_cases e : x = y
  · subst e; rw [if_pos rfl, if_neg (by omega), if_pos rfl]
  · rw [if_neg e, if_neg (show ¬ y = x from fun h => e h.symm), if_neg (show ¬ y = x from fun h => e h.symm)]
theorem mid_step (l bs : List Nat) (n x : Nat) : mid l bs n x l.length = mid l bs n (x + 1) 0 := by
  apply List.ext_getElem (by simp [mid])
  intro y h1 h2
  simp only [mid, List.getElem_map, List.getElem_range]
  by_cases e : y < x
  · rw [if_pos e, if_pos (by omega)]
  · rw [if_neg e]
    by_cases e2 : y = x
    · rw [if_pos e2, if_pos (by omega)]; rfl
    · rw [if_neg e2, if_neg (by omega)]
      split <;> rfl
theorem mid_done (l bs : List Nat) (n : Nat) : mid l bs n n 0 = rowL l bs n := by
  apply List.ext_getElem (by simp [mid, rowL])
  intro y h1 h2
  have hy : y < n := by simpa [mid] using h1
  simp only [mid, rowL, List.getElem_map, List.getElem_range]
  rw [if_pos hy]
theorem small_get {l : List Nat} {m : Nat} (hm : 0 < m) (h : ∀ x ∈ l, x < m) (i : Nat) : l.getD i 0 < m := by
  rw [List.getD_eq_getElem?_getD]
  cases e : l[i]? with
  | none => exact hm
  | some x => exact h x (List.mem_of_getElem? e)
end Wm
namespace Go.Proofs.Ytkebldjepdhioaa
open Go.RowKit Go.BigFrame

theorem num_eqR {K : IntKind} {a b : Int} (h : a = b) : Value.int K a = Value.int K b := by rw [h]
theorem byteR : EInfo Try.prog 47 5 (.int .u8 0) 1 1 := EInfo.mk_ Try.underlying47 (by kernel_rfl) rfl (by omega)
theorem xor_zero {a b : Nat} (h : a ^^^ b = 0) : a = b := by
  have := congrArg (· ^^^ b) h
  simpa [Nat.xor_assoc] using this
theorem placeR {p q : Nat} (hp : p < 32) (hq : q < 32) : bits .xor .i64 (p : Int) (q : Int) = ((p ^^^ q : Nat) : Int) ∧ IntKind.u8.wrap ((p ^^^ q : Nat) : Int) = ((p ^^^ q : Nat) : Int) ∧ p ^^^ q < 256 := by
  have := Nat.xor_lt_two_pow (n := 5) hp hq
  exact ⟨i64_xor_nat p q (by omega) (by omega), IntWalk.u8_in _ (by omega), by omega⟩

set_option maxRecDepth 100000 in
set_option maxHeartbeats 4000000 in
theorem Row_ok (A B : Option Addr) (k c d n : Nat) (l bs : List Nat) (w : World) (R : Row w A k 1 (nats .i64 l)) (S : Row w B k 1 (nats .u8 bs)) (hk : k ≤ 20) (hn : n ≤ 20) (hl : ∀ x ∈ l, x < 32) (hnd : l.Nodup) (hb : Wm.B256 bs) :
    Calls Try.prog 57 #[.slice A k c, .slice B k d, .int .i64 n] w fun e w' => (∃ v, e = .returned v ∧ Made w' w.heap.size 5 1 v n (nats .u8 (Wm.rowL l bs n))) ∧ Ext w w' := by
  have hlk := R.numN
  have hmk : ∀ w : World, (Instr.makeSlice 47 (.int .i64 (n : Int)) (.int .i64 (n : Int))).run Try.prog w = .ok (.slice (some ⟨w.heap.size, 0, none⟩) n n) (w.alloc (.cells (madeCells #[.int .u8 0] n) 5)) := fun w => by
    have := make_run byteR n n (Nat.le_refl _) (by omega) (by omega) w
    rw [Nat.mul_one] at this
    exact this
  have hl2 := Wm.small_get (by omega) hl
  have hpb : ∀ i, l.getD i 0 < 256 := fun i => by have := hl2 i; omega
  have M0 : Made (w.alloc (.cells (madeCells #[.int .u8 0] n) 5)) w.heap.size 5 1 (.slice (some ⟨w.heap.size, 0, none⟩) n n) n (nats .u8 (Wm.mid l bs n 0 0)) := by
    rw [Wm.mid_zero, ← nats_replicate]
    exact Made.make (.int .u8 0) n (Nat.le_refl _) (by omega)
  have E0 : Ext w (w.alloc (.cells (madeCells #[.int .u8 0] n) 5)) := (Ext.refl w).alloc _
  have HM := hide M0
  have HR := hide R
  have HS := hide S
  have HND := hide hnd
  have HL2 := hide hl2
  have HPB := hide hpb
  have HB := hide hb
  have HLK := hide hlk
  clear R S hl hnd hl2 hpb hb M0 hlk
  obtain ⟨g, hg⟩ : ∃ g, g = w.heap.size := ⟨_, rfl⟩
  have hgw : w.heap.size ≤ g := by omega
  go_enter Try.func57, Try.ntmps57
  go_wp2
  rw [← hg] at HM ⊢
  generalize (w.alloc (.cells (madeCells #[.int .u8 0] n) 5)) = W0 at *
  rw [hg] at HM
  clear hmk
  have HM1 : Hid (Made W0 w.heap.size 5 1 (.slice (some ⟨g, 0, none⟩) n n) n (nats .u8 (Wm.mid l bs n 0 0))) := by rw [hg]; exact HM
  clear HM hg
  go_loopw [20] (fun i wr => ∃ x : Nat, x ≤ n ∧ i = .int .i64 x ∧ Hid (Made wr w.heap.size 5 1 (.slice (some ⟨g, 0, none⟩) n n) n (nats .u8 (Wm.mid l bs n x 0))) ∧ Ext w wr) (fun i _ => n - (intOf i).toNat)
  case atStart => exact ⟨0, Nat.zero_le _, rfl, HM1, E0⟩
  case round =>
    clear HM1 E0
    obtain ⟨x, hx, rfl, HM, hext⟩ := hrel
    by_cases hlt : x < n
    · go_wp2
      go_loopw [25] (fun i wz => ∃ t : Nat, t ≤ k ∧ i = .int .i64 t ∧ Hid (Made wz w.heap.size 5 1 (.slice (some ⟨g, 0, none⟩) n n) n (nats .u8 (Wm.mid l bs n x t))) ∧ Ext w wz) (fun i _ => k - (intOf i).toNat)
      case atStart => exact ⟨0, Nat.zero_le _, rfl, HM, hext⟩
      case round =>
        clear HM hext
        obtain ⟨t, ht, rfl, HM, hext⟩ := hrel
        by_cases htk : t < k
        · obtain ⟨b, o, rfl, hbl, hc⟩ := ((unhide HR).keep hext).nat htk
          obtain ⟨b2, o2, rfl, hbl2, hc2⟩ := ((unhide HS).keep hext).nat htk
          have hHR := hide ((unhide HR).keep hext)
          obtain ⟨pt, hpt⟩ : ∃ p, p = l.getD t 0 := ⟨_, rfl⟩
          obtain ⟨bt, hbt⟩ : ∃ p, p = bs.getD t 0 := ⟨_, rfl⟩
          have hp32 : pt < 32 := by rw [hpt]; exact unhide HL2 t
          have hbt8 : bt < 256 := by rw [hbt]; exact unhide HB t
          have HPT := hide hpt
          have HBT := hide hbt
          rw [← hpt] at hc
          rw [← hbt] at hc2
          clear hpt hbt
          go_wp2
          go_loopw [11, 36] (fun v j wy => ∃ q : Nat, q ≤ k ∧ j = .int .i64 q ∧ v = .int .u8 ((Wm.tr (fun i => l.getD i 0) bt x t q : Nat) : Int) ∧ wy = wr) (fun _ j _ => k - (intOf j).toNat)
          case atStart => exact ⟨0, Nat.zero_le _, rfl, rfl, rfl⟩
          case round =>
            obtain ⟨q, hq, rfl, rfl, rfl⟩ := hrel
            by_cases hqk : q < k
            · by_cases hqt : q = t
              · subst hqt
                have hs : Wm.tr (fun i => l.getD i 0) bt x q (q + 1) = Wm.tr (fun i => l.getD i 0) bt x q q := by simp [Wm.tr]
                have HSS := hide hs
                clear hs
                generalize Wm.tr (fun i => l.getD i 0) bt x q q = y at *
                go_wp2
                go_roundw
                case rel => exact ⟨q + 1, by omega, num_eqR (by omega), by rw [unhide HSS], by first | rfl | trivial⟩
                case measure => simp [intOf]; omega
              · obtain ⟨b3, o3, hbo, hbl3, hc3⟩ := (unhide hHR).nat hqk
                simp only [Option.some.injEq, Addr.mk.injEq, and_true] at hbo
                obtain ⟨rfl, rfl⟩ := hbo
                obtain ⟨pq, hpq⟩ : ∃ p, p = l.getD q 0 := ⟨_, rfl⟩
                rw [← hpq] at hc3
                have hq32 : pq < 32 := by rw [hpq]; exact unhide HL2 q
                have hne : pt ^^^ pq ≠ 0 := fun h => by
                  have e : pt = pq := xor_zero h
                  rw [unhide HPT, hpq] at e
                  exact hqt (Wm.getD_inj (unhide HND) (by have := unhide HLK; omega) (by have := unhide HLK; omega) e).symm
                have hs : Wm.tr (fun i => l.getD i 0) bt x t (q + 1) = Wm.fmul (Wm.tr (fun i => l.getD i 0) bt x t q) (Wm.fmul (x ^^^ pq) (Wm.fpow (pt ^^^ pq) 254)) := by
                  simp only [Wm.tr]
                  rw [if_neg hqt, hpq, unhide HPT]
                have htr : Wm.tr (fun i => l.getD i 0) bt x t q < 256 := Wm.tr_lt (unhide HPB) hbt8 (by omega) q
                have HSS := hide hs
                obtain ⟨x1, x2, x3⟩ := placeR hp32 hq32
                obtain ⟨y1, y2, y3⟩ := placeR (show x < 32 by omega) hq32
                clear hs hpq
                generalize Wm.tr (fun i => l.getD i 0) bt x t q = y at *
                generalize pt ^^^ pq = z at *
                generalize x ^^^ pq = u at *
                have hz := Wm.fpow_lt x3 254
                have CI := hide (fun w : World => Inv_ok z hne x3 w)
                generalize Wm.fpow z 254 = zi at *
                have CM1 := hide (fun w : World => Mul_any u zi y3 hz w)
                have hm1 := Wm.fmul_lt y3 hz
                generalize Wm.fmul u zi = m1 at *
                have CM2 := hide (fun w : World => Mul_any y m1 htr hm1 w)
                have hti : ((q : Int) != (t : Int)) = true := by rw [bne_iff_ne]; omega
                clear hqt hne
                go_wp2_with fail
                refine (unhide CI _).mono ?_
                rintro e wr ⟨rfl, rfl⟩
                go_wp2_with fail
                refine (unhide CM1 _).mono ?_
                rintro e wr ⟨rfl, rfl⟩
                go_wp2_with fail
                refine (unhide CM2 _).mono ?_
                rintro e wr ⟨rfl, rfl⟩
                go_wp2
                go_roundw
                case rel => exact ⟨q + 1, by omega, num_eqR (by omega), by rw [unhide HSS], by first | rfl | trivial⟩
                case measure => simp [intOf]; omega
            · obtain rfl : q = k := by omega
              have hcell := (unhide HM).nat hlt
              rw [Wm.mid_get l bs hlt] at hcell
              have hfr := (unhide HM).frozen x
              have hlen := unhide HLK
              have htr : Wm.tr (fun i => l.getD i 0) bt x t q < 256 := Wm.tr_lt (unhide HPB) hbt8 (by omega) q
              have hrv : Wm.rv (fun i => l.getD i 0) (fun i => bs.getD i 0) l.length x t < 256 := Wm.rv_lt (unhide HPB) (unhide HB) (by omega) t
              have hs : Wm.rv (fun i => l.getD i 0) (fun i => bs.getD i 0) l.length x (t + 1) = Wm.rv (fun i => l.getD i 0) (fun i => bs.getD i 0) l.length x t ^^^ Wm.tr (fun i => l.getD i 0) bt x t q := by
                simp only [Wm.rv]
                rw [unhide HBT, hlen]
              have HM2 : Hid (Made (wr.setCell ⟨g, x, none⟩ (.int .u8 ((Wm.rv (fun i => l.getD i 0) (fun i => bs.getD i 0) l.length x (t + 1) : Nat) : Int))) w.heap.size 5 1 (.slice (some ⟨g, 0, none⟩) n n) n (nats .u8 (Wm.mid l bs n x (t + 1)))) := hide (by
                rw [← Wm.mid_set l bs hlt t (t + 1), ← nats_set]
                exact (unhide HM).set (by omega) _)
              have E2 := hext.setCell (p := ⟨g, x, none⟩) hgw (.int .u8 ((Wm.rv (fun i => l.getD i 0) (fun i => bs.getD i 0) l.length x (t + 1) : Nat) : Int))
              rw [hs] at HM2 E2
              have hx8 := u8_xor_nat _ _ hrv htr
              clear hs hlen HM
              generalize Wm.tr (fun i => l.getD i 0) bt x t q = y at *
              generalize Wm.rv (fun i => l.getD i 0) (fun i => bs.getD i 0) l.length x t = z at *
              go_wp2
              go_roundw
              case rel => exact ⟨t + 1, by omega, num_eqR (by omega), HM2, E2⟩
              case measure => simp [intOf]; omega
        · obtain rfl : t = k := by omega
          have HM2 : Hid (Made wr w.heap.size 5 1 (.slice (some ⟨g, 0, none⟩) n n) n (nats .u8 (Wm.mid l bs n (x + 1) 0))) := hide (by
            rw [← Wm.mid_step, unhide HLK]; exact unhide HM)
          go_wp2
          go_roundw
          case rel => exact ⟨x + 1, by omega, num_eqR (by omega), HM2, hext⟩
          case measure => simp [intOf]; omega
    · obtain rfl : x = n := by omega
      have HF := hide (show Made wr w.heap.size 5 1 (.slice (some ⟨g, 0, none⟩) x x) x (nats .u8 (Wm.rowL l bs x)) by rw [← Wm.mid_done]; exact unhide HM)
      clear HM
      go_wp2
      go_ret
      exact ⟨⟨_, rfl, unhide HF⟩, hext⟩
end Go.Proofs.Ytkebldjepdhioaa

/-
  The contracts of reed.Put and reed.Check.
-/
set_option linter.unusedVariables false
set_option linter.unusedSimpArgs false
namespace Go.Proofs.Ytkebldjepdhioaa
open Go.RowKit Go.BigFrame

theorem intR : EInfo Try.prog 62 3 (.int .i64 0) 1 8 := EInfo.mk_ Try.underlying62 (by kernel_rfl) rfl (by omega)

set_option maxRecDepth 100000 in
set_option maxHeartbeats 2000000 in
theorem Put_ok (A : Option Addr) (k c n : Nat) (d : List Nat) (w : World) (R : Row w A k 1 (nats .u8 d)) (hd : Wm.B256 d) (h1 : 1 ≤ k) (hkn : k ≤ n) (hn : n ≤ 20) :
    Calls Try.prog 42 #[.slice A k c, .int .i64 n] w fun e w' => (∃ v, e = .returned (.tuple #[v, .int .i64 0]) ∧ Made w' w.heap.size 5 1 v n (nats .u8 (Wm.putL d n))) ∧ Ext w w' := by
  have HR := hide R
  have HD := hide hd
  have hlen := hide R.numN
  clear R hd
  have c1 : decide ((k : Int) < 1) = false := decide_eq_false (by omega)
  have c2 : decide ((20 : Int) < (k : Int)) = false := decide_eq_false (by omega)
  have c3 : decide ((n : Int) < (k : Int)) = false := decide_eq_false (by omega)
  have c5 : decide (n < k) = false := decide_eq_false (by omega)
  have c4 : decide ((20 : Int) < (n : Int)) = false := decide_eq_false (by omega)
  go_enter Try.func42, Try.ntmps42
  go_wp2
  go_loopw [6, 28] (fun v i wr => ∃ x : Nat, x ≤ k ∧ i = .int .i64 x ∧ Hid (wr.ownsRow w.heap.size 3 1 v x (nats .i64 (List.range x))) ∧ Ext w wr) (fun _ i _ => k - (intOf i).toNat)
  case atStart => exact ⟨0, Nat.zero_le _, rfl, hide (World.ownsRow_nil _ _ _ _), Ext.refl w⟩
  case round =>
    obtain ⟨x, hx, rfl, HOW, hext⟩ := hrel
    by_cases hlt : x < k
    · have HT := hide (show nats .i64 (List.range (x + 1)) = nats .i64 (List.range x) ++ [.int .i64 (x : Int)] by rw [List.range_succ, ← nats_append]; rfl)
      have hbd : (x + 1) * 8 ≤ 140737488355328 ∧ x + 1 ≤ 9223372036854775807 := by omega
      go_wp2_with (at_builtin; refine wpList_app rfl _ _ 62 (by rfl) 3 intR hext _ _ _ _ (by rfl) (unhide HOW) 1 1 (by rfl) rfl rfl hbd ?_)
      intro v' w2 hown' hext' _
      have hown2 : Hid (w2.ownsRow w.heap.size 3 1 v' (x + 1) (nats .i64 (List.range (x + 1)))) := hide (by rw [unhide HT]; exact hown')
      clear hown'
      go_wp2
      go_roundw
      case rel => exact ⟨x + 1, by omega, num_eqR (by omega), hown2, hext'⟩
      case measure => simp [intOf]; omega
    · obtain rfl : x = k := by omega
      obtain ⟨B, cb, rfl, Q, -, -, -⟩ := row_of_own (unhide HOW)
      have CR := hide (Row_ok B A x cb c n (List.range x) d wr Q ((unhide HR).keep hext) (by omega) hn (fun y hy => by have := List.mem_range.1 hy; omega) List.nodup_range (unhide HD))
      have HE := hide hext
      clear Q HOW
      go_wp2_with fail
      refine (unhide CR).mono ?_
      rintro e w2 ⟨⟨v, rfl, M⟩, E2⟩
      go_wp2
      go_ret2
      refine ⟨⟨_, rfl, ?_⟩, (unhide HE).trans E2⟩
      have hM := M.mono (base' := w.heap.size) (unhide HE).size
      unfold Wm.putL
      rw [unhide hlen]
      exact hM

/-- Why a row is not made. -/
def putErr (k : Nat) (n : Int) : Int := if k < 1 ∨ 20 < k then 2 else if n < k ∨ 20 < n then 1 else 0
set_option maxRecDepth 100000 in
theorem Put_bad (A : Option Addr) (k c : Nat) (n : Int) (w : World) (hb : putErr k n ≠ 0) :
    Calls Try.prog 42 #[.slice A k c, .int .i64 n] w fun e w' => e = .returned (.tuple #[.slice none 0 0, .int .i64 (putErr k n)]) ∧ w' = w := by
  unfold putErr at hb ⊢
  go_enter Try.func42, Try.ntmps42
  by_cases a1 : k < 1
  · rw [if_pos (.inl a1)]
    have a2 : ¬ 20 < k := by omega
    go_wp2
    go_ret2
    exact ⟨rfl, rfl⟩
  · by_cases a2 : 20 < k
    · rw [if_pos (.inr a2)]
      go_wp2
      go_ret2
      exact ⟨rfl, rfl⟩
    · rw [if_neg (by omega)] at hb ⊢
      by_cases a3 : n < k
      · rw [if_pos (.inl a3)]
        have a4 : ¬ 20 < n := by omega
        go_wp2
        go_ret2
        exact ⟨rfl, rfl⟩
      · by_cases a4 : 20 < n
        · rw [if_pos (.inr a4)]
          go_wp2
          go_ret2
          exact ⟨rfl, rfl⟩
        · rw [if_neg (by omega)] at hb
          exact absurd rfl hb

end Go.Proofs.Ytkebldjepdhioaa

/-
  Two rows of the call's own that grow side by side.
-/
set_option linter.unusedVariables false
set_option linter.unusedSimpArgs false
namespace Go.Proofs.Ytkebldjepdhioaa
open Go.RowKit

/-- Two rows made since W0, in two blocks. -/
structure Duo (W0 w : World) (e1 : TypeId) (v1 : Value) (n1 : Nat) (xs1 : List Value) (e2 : TypeId) (v2 : Value) (n2 : Nat) (xs2 : List Value) : Prop where
  a : w.ownsRow W0.heap.size e1 1 v1 n1 xs1
  b : w.ownsRow W0.heap.size e2 1 v2 n2 xs2
  ne : ∀ k, v1.ownBlock = some k → v2.ownBlock = some k → False
  ext : Ext W0 w

section
variable {W0 w w' : World} {e1 e2 : TypeId} {v1 v2 v' : Value} {n1 n2 m1 m2 : Nat} {xs1 xs2 ys : List Value}
theorem Duo.nil (E : Ext W0 w) : Duo W0 w e1 (.slice none 0 0) 0 [] e2 (.slice none 0 0) 0 [] := ⟨World.ownsRow_nil _ _ _ _, World.ownsRow_nil _ _ _ _, fun k h => by simp [Value.ownBlock] at h, E⟩
theorem Duo.alloc (h : Duo W0 w e1 v1 n1 xs1 e2 v2 n2 xs2) (o : Obj) : Duo W0 (w.alloc o) e1 v1 n1 xs1 e2 v2 n2 xs2 := ⟨h.a.alloc o, h.b.alloc o, h.ne, h.ext.alloc o⟩
theorem Duo.drew (h : Duo W0 w e1 v1 n1 xs1 e2 v2 n2 xs2) : Duo W0 w.drew e1 v1 n1 xs1 e2 v2 n2 xs2 := ⟨h.a.drew, h.b.drew, h.ne, h.ext.drew⟩
theorem Duo.keep (h : Duo W0 w e1 v1 n1 xs1 e2 v2 n2 xs2) (E : Ext w w') : Duo W0 w' e1 v1 n1 xs1 e2 v2 n2 xs2 := ⟨row_ext h.a E, row_ext h.b E, h.ne, h.ext.trans E⟩
theorem Duo.swap (h : Duo W0 w e1 v1 n1 xs1 e2 v2 n2 xs2) : Duo W0 w e2 v2 n2 xs2 e1 v1 n1 xs1 := ⟨h.b, h.a, fun k a b => h.ne k b a, h.ext⟩
theorem Duo.step (h : Duo W0 w e1 v1 n1 xs1 e2 v2 n2 xs2) (ho : w'.ownsRow W0.heap.size e1 1 v' m1 ys) (hg : w.grownBy w' v1.ownBlock) (hat : v'.ownBlock = v1.ownBlock ∨ v'.ownBlock = some w.heap.size) : Duo W0 w' e1 v' m1 ys e2 v2 n2 xs2 := by
  refine ⟨ho, h.b.kept hg ?_, fun k h1 h2 => ?_, h.ext.grown hg fun k hk => (h.a.lt k hk).1⟩
  · cases hv : v2.ownBlock with
    | none => exact .inl rfl
    | some k => exact .inr fun x => h.ne k x.symm hv
  · rcases hat with e | e
    · exact h.ne k (by rw [← e]; exact h1) h2
    · rw [e] at h1
      injection h1 with h1
      have := (h.b.lt k h2).2
      omega

theorem step_duoA {P : Program} {ops : Array Oper} {o : Oper} {a : Act} {K : Act → World → Prop} {Q : Exit → Act → World → Prop} {E : Prop}
    (hg : o.guard = none) (s x : Operand) (t : TypeId) (ho : o.op = .call { callee := .builtin .append, args := #[s, x], argTypes := #[t, t] }) {z : Value} {bytes : Nat} (hI : EInfo P t e1 z 1 bytes)
    (D : Duo W0 w e1 v1 n1 xs1 e2 v2 n2 xs2) (hs : a.eval s = v1) {b : Nat} (hx : a.eval x = .slice (some ⟨b, 0, none⟩) 1 1) {u : Value} (hc : w.cell? ⟨b, 0, none⟩ = some u) (h1 : u.oneCell' = true)
    (hb : (n1 + 1) * bytes ≤ 140737488355328 ∧ n1 + 1 ≤ 9223372036854775807)
    (h : ∀ v' w', Duo W0 w' e1 v' (n1 + 1) (xs1 ++ [u]) e2 v2 n2 xs2 → w.grownBy w' v1.ownBlock → K (a.put o.dst v') w') :
    if Region.wanted o (yielded ops a.tmps) = true then Oper.wp P o a w K Q else E := by
  have hw : Region.wanted o (yielded ops a.tmps) = true := by simp [Region.wanted, hg]
  rw [if_pos hw]
  obtain ⟨ht, ⟨i, hi, hz, hsz, hby⟩, hzs, hsz0⟩ := hI
  obtain ⟨v', w', hr, h2, h3, h4, h5⟩ := run_append_own_at (P := P) w W0.heap.size t o.type e1 i z 1 bytes ht hi hz hsz hby hzs hsz0 v1 n1 xs1 D.a ⟨b, 0, none⟩ 1 1 [u] rfl
    (by
      intro j y hj
      match j, hj with
      | 0, hj => simp at hj; subst hj; simpa [Addr.add] using hc) (by intro y hy; simp at hy; subst hy; exact h1) (by unfold maxLen; omega) (by omega) D.ext.size
  unfold Oper.wp execOp
  simp only [ho, resolve, invoke, builtin, Sem.run_bind, Sem.run_pure, Result.andThen_ok, List.map_toArray, List.map_cons, List.map_nil, hs, hx, hr]
  exact h v' w' (D.step h2 h3 h5) h3
theorem step_duoB {P : Program} {ops : Array Oper} {o : Oper} {a : Act} {K : Act → World → Prop} {Q : Exit → Act → World → Prop} {E : Prop}
    (hg : o.guard = none) (s x : Operand) (t : TypeId) (ho : o.op = .call { callee := .builtin .append, args := #[s, x], argTypes := #[t, t] }) {z : Value} {bytes : Nat} (hI : EInfo P t e2 z 1 bytes)
    (D : Duo W0 w e1 v1 n1 xs1 e2 v2 n2 xs2) (hs : a.eval s = v2) {b : Nat} (hx : a.eval x = .slice (some ⟨b, 0, none⟩) 1 1) {u : Value} (hc : w.cell? ⟨b, 0, none⟩ = some u) (h1 : u.oneCell' = true)
    (hb : (n2 + 1) * bytes ≤ 140737488355328 ∧ n2 + 1 ≤ 9223372036854775807)
    (h : ∀ v' w', Duo W0 w' e1 v1 n1 xs1 e2 v' (n2 + 1) (xs2 ++ [u]) → w.grownBy w' v2.ownBlock → K (a.put o.dst v') w') :
    if Region.wanted o (yielded ops a.tmps) = true then Oper.wp P o a w K Q else E :=
  step_duoA hg s x t ho hI D.swap hs hx hc h1 hb fun v' w' D' => h v' w' D'.swap
end
end Go.Proofs.Ytkebldjepdhioaa

/-
  The contract of reed.Mend.
-/
set_option linter.unusedVariables false
set_option linter.unusedSimpArgs false
namespace Wm
/-- The places that are taken, of the first x: at most k. -/
def pt (H : Nat → Bool) (k x : Nat) : List Nat := (pk H x).take k
theorem pt_length (H : Nat → Bool) (k x : Nat) : (pt H k x).length = min k (cntR H x) := by simp [pt, pk_length]
theorem pt_nodup (H : Nat → Bool) (k x : Nat) : (pt H k x).Nodup := (pk_nodup H x).sublist (List.take_sublist _ _)
theorem pt_mem {H : Nat → Bool} {k x i : Nat} (h : i ∈ pt H k x) : i < x ∧ H i = true := pk_mem x (List.mem_of_mem_take h)
theorem pt_skip {H : Nat → Bool} {k x : Nat} (h : H x = false) : pt H k (x + 1) = pt H k x := by simp [pt, pk, h]
theorem pt_full {H : Nat → Bool} {k x : Nat} (h : k ≤ (pt H k x).length) : pt H k (x + 1) = pt H k x := by
  unfold pt at h ⊢
  simp only [pk]
  split
  · rw [List.take_append_of_le_length (by rw [List.length_take] at h; omega)]
  · rfl
theorem pt_step {H : Nat → Bool} {k x : Nat} (h : H x = true) (hk : (pt H k x).length < k) : pt H k (x + 1) = pt H k x ++ [x] := by
  unfold pt at hk ⊢
  rw [List.length_take] at hk
  simp only [pk, h, if_pos]
  rw [List.take_of_length_le (by simp; omega), List.take_of_length_le (by omega)]
/-- Cells: whether a byte is there, and which. -/
def cH (l : List (Bool × Nat)) (i : Nat) : Bool := (l.getD i (false, 0)).1
def cB (l : List (Bool × Nat)) (i : Nat) : Nat := (l.getD i (false, 0)).2
def mendL (l : List (Bool × Nat)) (k : Nat) : List Nat := rowL (pt (cH l) k l.length) ((pt (cH l) k l.length).map (cB l)) l.length
/-- Does one of the first x say otherwise? -/
def mendN (l : List (Bool × Nat)) (k : Nat) : Nat → Bool
  | 0 => false
  | x + 1 => mendN l k x || (cH l x && decide (cB l x ≠ (mendL l k).getD x 0))
theorem mendN_no {l : List (Bool × Nat)} {k : Nat} : ∀ {x : Nat}, mendN l k x = false → ∀ i, i < x → cH l i = true → cB l i = (mendL l k).getD i 0
  | 0, _, i, hi, _ => by omega
  | x + 1, h, i, hi, hc => by
    simp only [mendN, Bool.or_eq_false_iff] at h
    by_cases e : i = x
    · subst e
      have := h.2
      rw [hc] at this
      simpa using this
    · exact mendN_no h.1 i (by omega) hc
theorem mendN_of {l : List (Bool × Nat)} {k : Nat} : ∀ {x : Nat}, (∀ i, i < x → cH l i = true → cB l i = (mendL l k).getD i 0) → mendN l k x = false
  | 0, _ => rfl
  | x + 1, h => by
    simp only [mendN]
    rw [mendN_of fun i hi => h i (by omega)]
    cases e : cH l x with
    | false => rfl
    | true => simp [h x (by omega) e]
theorem mendN_mono {l : List (Bool × Nat)} {k : Nat} : ∀ {n x : Nat}, x ≤ n → mendN l k x = true → mendN l k n = true
  | 0, x, h, hx => by obtain rfl : x = 0 := by omega
                      exact hx
  | n + 1, x, h, hx => by
    by_cases e : x = n + 1
    · subst e; exact hx
    · simp only [mendN, Bool.or_eq_true]; exact .inl (mendN_mono (by omega) hx)
end Wm
namespace Go.Proofs.Ytkebldjepdhioaa
open Go.RowKit Go.BigFrame

/-- Cells in memory: two values each. -/
def cls : List (Bool × Nat) → List Value
  | [] => []
  | p :: l => .bool p.1 :: .int .u8 ((p.2 : Nat) : Int) :: cls l
theorem cls_length : ∀ l : List (Bool × Nat), (cls l).length = l.length * 2
  | [] => rfl
  | p :: l => by simp only [cls, List.length_cons, cls_length l]; omega
theorem cls_append : ∀ l m : List (Bool × Nat), cls l ++ cls m = cls (l ++ m)
  | [], _ => rfl
  | p :: l, m => by simp only [cls, List.cons_append, cls_append l m]
theorem cls_get : ∀ (l : List (Bool × Nat)) (k : Nat), k < l.length → (cls l)[k * 2]? = some (.bool (l.getD k (false, 0)).1) ∧ (cls l)[k * 2 + 1]? = some (.int .u8 (((l.getD k (false, 0)).2 : Nat) : Int))
  | [], k, h => by simp at h
  | p :: l, 0, _ => by simp [cls]
  | p :: l, k + 1, h => by
    have := cls_get l k (by simpa using h)
    rw [show (k + 1) * 2 = k * 2 + 1 + 1 by omega]
    simpa [cls] using this
theorem Row.cln {w : World} {A : Option Addr} {n : Nat} {l : List (Bool × Nat)} (h : Row w A n 2 (cls l)) : l.length = n := by have := h.1; rw [cls_length] at this; omega
theorem Row.cl {w : World} {A : Option Addr} {n k : Nat} {l : List (Bool × Nat)} (h : Row w A n 2 (cls l)) (hk : k < n) : ∃ b o, A = some ⟨b, o, none⟩ ∧ b < w.heap.size ∧
    w.cell? ⟨b, o + k * 2, none⟩ = some (.bool (Wm.cH l k)) ∧ w.cell? ⟨b, o + k * 2 + 1, none⟩ = some (.int .u8 ((Wm.cB l k : Nat) : Int)) := by
  obtain ⟨b, o, hA, hb, hc⟩ := h.2 (by omega)
  have := cls_get l k (by have := h.cln; omega)
  exact ⟨b, o, hA, hb, (hc (k * 2) (by omega)).trans this.1, by rw [Nat.add_assoc]; exact (hc (k * 2 + 1) (by omega)).trans this.2⟩

/-- What Mend answers. -/
def MendOut (w w' : World) (l : List (Bool × Nat)) (k n : Nat) (e : Ending) : Prop :=
  (Wm.cntR (Wm.cH l) n < k ∧ e = .returned (.tuple #[.slice none 0 0, .int .i64 9])) ∨
  (k ≤ Wm.cntR (Wm.cH l) n ∧ Wm.mendN l k n = true ∧ e = .returned (.tuple #[.slice none 0 0, .int .i64 8])) ∨
  (k ≤ Wm.cntR (Wm.cH l) n ∧ Wm.mendN l k n = false ∧ ∃ v, e = .returned (.tuple #[v, .int .i64 0]) ∧ Made w' w.heap.size 5 1 v n (nats .u8 (Wm.mendL l k)))

end Go.Proofs.Ytkebldjepdhioaa

/-
  The laws' helpers: rows, cells.
-/
set_option linter.unusedVariables false
set_option linter.unusedSimpArgs false
namespace Wm
/-- The cells of a row, those of a set. -/
def cellsL (bs : List Nat) (s : Nat) (x : Nat) : List (Bool × Nat) := (List.range x).map fun i => (s.testBit i, if s.testBit i then bs.getD i 0 else 0)
theorem cellsL_length (bs : List Nat) (s x : Nat) : (cellsL bs s x).length = x := by simp [cellsL]
theorem cellsL_succ (bs : List Nat) (s x : Nat) : cellsL bs s (x + 1) = cellsL bs s x ++ [(s.testBit x, if s.testBit x then bs.getD x 0 else 0)] := by simp [cellsL, List.range_succ]
theorem cellsL_get (bs : List Nat) (s : Nat) {x i : Nat} (h : i < x) : (cellsL bs s x).getD i (false, 0) = (s.testBit i, if s.testBit i then bs.getD i 0 else 0) := by
  unfold cellsL
  rw [List.getD_eq_getElem?_getD, List.getElem?_map, List.getElem?_range h]
  rfl
end Wm
namespace Go.Proofs.Ytkebldjepdhioaa
open Go.RowKit Go.BigFrame

theorem put57 : Wm.putL [5, 7] 3 = [5, 7, (Wm.putL [5, 7] 3).getD 2 0] ∧ (Wm.putL [5, 7] 3).getD 2 0 ≠ 5 ∧ (Wm.putL [5, 7] 3).getD 2 0 < 256 := by decide +kernel

theorem u32_bit (s x : Nat) (hs : s < 4294967296) : bits .and .u32 ((s : Int) / 2 ^ x) 1 = (((s.testBit x).toNat : Nat) : Int) := by
  have h1 : ((s : Int) / 2 ^ x) = ((s / 2 ^ x : Nat) : Int) := by rw [Int.natCast_ediv, Int.natCast_pow]; rfl
  have h2 : s / 2 ^ x < 2 ^ 32 := Nat.lt_of_le_of_lt (Nat.div_le_self _ _) hs
  rw [h1, Nat.toNat_testBit]
  show IntKind.u32.wrap ((BitVec.ofInt 32 ((s / 2 ^ x : Nat) : Int) &&& BitVec.ofInt 32 ((1 : Nat) : Int)).toNat : Int) = _
  rw [BitVec.toNat_and, ofInt_nat 32 _ h2, ofInt_nat 32 1 (by omega), Nat.and_one_is_mod]
  exact IntWalk.u32_in _ (by omega)

end Go.Proofs.Ytkebldjepdhioaa

/-
  Put, whatever it is given; and two rows of bytes compared.
-/
set_option linter.unusedVariables false
set_option linter.unusedSimpArgs false
namespace Wm
theorem putL_lt {d : List Nat} {n : Nat} (hd : B256 d) (hk : d.length ≤ n) (hn : n ≤ 256) : B256 (putL d n) := rowL_lt (B256.range (by omega)) hd hn
end Wm
namespace Go.Proofs.Ytkebldjepdhioaa
open Go.RowKit Go.BigFrame

/-- A number that Put takes. -/
theorem put_nat {n : Nat} {N : Int} (h : putErr n N = 0) : ∃ m : Nat, N = m ∧ 1 ≤ n ∧ n ≤ m ∧ m ≤ 20 := by
  unfold putErr at h
  by_cases a : n < 1 ∨ 20 < n
  · rw [if_pos a] at h; exact absurd h (by omega)
  · rw [if_neg a] at h
    by_cases b : N < n ∨ 20 < N
    · rw [if_pos b] at h; exact absurd h (by omega)
    · exact ⟨N.toNat, by omega, by omega, by omega, by omega⟩
/-- What Put answers. -/
def PutOut (w w' : World) (k : Nat) (N : Int) (d : List Nat) (e : Ending) : Prop :=
  (putErr k N ≠ 0 ∧ e = .returned (.tuple #[.slice none 0 0, .int .i64 (putErr k N)])) ∨
  (putErr k N = 0 ∧ ∃ m : Nat, N = m ∧ 1 ≤ k ∧ k ≤ m ∧ m ≤ 20 ∧ ∃ v, e = .returned (.tuple #[v, .int .i64 0]) ∧ Made w' w.heap.size 5 1 v m (nats .u8 (Wm.putL d m)))
theorem Put_any (A : Option Addr) (k c : Nat) (N : Int) (d : List Nat) (w : World) (R : Row w A k 1 (nats .u8 d)) (hd : Wm.B256 d) :
    Calls Try.prog 42 #[.slice A k c, .int .i64 N] w fun e w' => PutOut w w' k N d e ∧ Ext w w' := by
  by_cases hp : putErr k N = 0
  · obtain ⟨m, rfl, h1, h2, h3⟩ := put_nat hp
    refine (Put_ok A k c m d w R hd h1 h2 h3).mono ?_
    rintro e w' ⟨⟨v, hv, M⟩, E⟩
    exact ⟨.inr ⟨hp, m, rfl, h1, h2, h3, v, hv, M⟩, E⟩
  · refine (Put_bad A k c N w hp).mono ?_
    rintro e w' ⟨he, rfl⟩
    exact ⟨.inl ⟨hp, he⟩, Ext.refl _⟩
/-- The answer's two halves. -/
theorem PutOut.halves {w w' : World} {k : Nat} {N : Int} {d : List Nat} {e : Ending} (h : PutOut w w' k N d e) : ∃ v q, e = .returned (.tuple #[v, .int .i64 q]) ∧ q = putErr k N ∧
    (q ≠ 0 → v = .slice none 0 0) ∧ (q = 0 → ∃ m : Nat, N = m ∧ 1 ≤ k ∧ k ≤ m ∧ m ≤ 20 ∧ Made w' w.heap.size 5 1 v m (nats .u8 (Wm.putL d m))) := by
  rcases h with ⟨hp, rfl⟩ | ⟨hp, m, hN, h1, h2, h3, v, rfl, M⟩
  · exact ⟨_, _, rfl, rfl, fun _ => rfl, fun h => absurd h hp⟩
  · exact ⟨_, _, rfl, hp.symm, fun h => absurd rfl h, fun _ => ⟨m, hN, h1, h2, h3, M⟩⟩
end Go.Proofs.Ytkebldjepdhioaa
