import Derived.Test.YtpenkbhljkmliaaGreatDoorTri
import Derived.Test.YtpenkbhljkmliaaGreatDoorField0
/-
  Plain: fields, and polynomials over them (Lagrange). No program in sight.
-/
set_option linter.unusedVariables false
set_option linter.unusedSimpArgs false
namespace Wm

class Fld (K : Type) where
  z : K
  o : K
  ad : K → K → K
  ml : K → K → K
  ng : K → K
  iv : K → K
  ad_assoc : ∀ a b c, ad (ad a b) c = ad a (ad b c)
  ad_comm : ∀ a b, ad a b = ad b a
  ad_z : ∀ a, ad a z = a
  ad_ng : ∀ a, ad a (ng a) = z
  ml_assoc : ∀ a b c, ml (ml a b) c = ml a (ml b c)
  ml_comm : ∀ a b, ml a b = ml b a
  ml_o : ∀ a, ml a o = a
  ml_ad : ∀ a b c, ml a (ad b c) = ad (ml a b) (ml a c)
  ml_iv : ∀ a, a ≠ z → ml a (iv a) = o
  o_ne : o ≠ z
namespace Fld
variable {K : Type} [Fld K]
theorem z_ad (a : K) : ad z a = a := by rw [ad_comm, ad_z]
theorem o_ml (a : K) : ml o a = a := by rw [ml_comm, ml_o]
theorem ad_ml (a b c : K) : ml (ad a b) c = ad (ml a c) (ml b c) := by rw [ml_comm, ml_ad, ml_comm c a, ml_comm c b]
theorem ad_left (a b c : K) : ad a (ad b c) = ad b (ad a c) := by rw [← ad_assoc, ad_comm a b, ad_assoc]
theorem ml_left (a b c : K) : ml a (ml b c) = ml b (ml a c) := by rw [← ml_assoc, ml_comm a b, ml_assoc]
theorem ad_cancel {a b c : K} (h : ad a b = ad a c) : b = c := by
  have : ad (ng a) (ad a b) = ad (ng a) (ad a c) := by rw [h]
  rw [← ad_assoc, ← ad_assoc, ad_comm (ng a) a, ad_ng, z_ad, z_ad] at this
  exact this
theorem ml_z (a : K) : ml a z = z := by
  have : ad (ml a z) (ml a z) = ad (ml a z) z := by rw [← ml_ad, ad_z, ad_z]
  exact ad_cancel this
theorem z_ml (a : K) : ml z a = z := by rw [ml_comm, ml_z]
theorem ng_unique {a b : K} (h : ad a b = z) : b = ng a := ad_cancel (h.trans (ad_ng a).symm)
theorem ng_ng (a : K) : ng (ng a) = a := (ng_unique (by rw [ad_comm, ad_ng])).symm
theorem ng_z : ng (z : K) = z := (ng_unique (ad_z z)).symm
theorem ml_ng (a b : K) : ml a (ng b) = ng (ml a b) := ng_unique (by rw [← ml_ad, ad_ng, ml_z])
theorem ng_ml (a b : K) : ml (ng a) b = ng (ml a b) := by rw [ml_comm, ml_ng, ml_comm]
theorem ng_ad (a b : K) : ng (ad a b) = ad (ng a) (ng b) := (ng_unique (by
  rw [ad_assoc, ad_left b (ng a), ← ad_assoc, ad_ng, ad_ng, ad_z])).symm
/-- Difference. -/
def sb (a b : K) : K := ad a (ng b)
theorem sb_self (a : K) : sb a a = z := ad_ng a
theorem sb_eq {a b : K} (h : sb a b = z) : a = b := by
  have : ad a (ng b) = ad b (ng b) := h.trans (ad_ng b).symm
  rw [ad_comm a, ad_comm b] at this
  exact ad_cancel this
theorem sb_ad (a b : K) : ad (sb a b) b = a := by unfold sb; rw [ad_assoc, ad_comm (ng b), ad_ng, ad_z]
theorem ml_sb (a b c : K) : ml a (sb b c) = sb (ml a b) (ml a c) := by unfold sb; rw [ml_ad, ml_ng]
theorem sb_ml (a b c : K) : ml (sb a b) c = sb (ml a c) (ml b c) := by rw [ml_comm, ml_sb, ml_comm c, ml_comm c]
theorem sb_sb (a b c d : K) : ad (sb a b) (sb c d) = sb (ad a c) (ad b d) := by
  unfold sb
  rw [ng_ad, ad_assoc, ad_assoc, ad_left (ng b) c]
theorem sb_left (a b c : K) : sb (ad a b) (ad a c) = sb b c := by
  unfold sb
  rw [ng_ad, ad_left (ad a b) (ng a), ← ad_assoc, ← ad_assoc, ad_comm (ng a) a, ad_ng, z_ad]
theorem ml_eq_z {a b : K} (h : ml a b = z) (ha : a ≠ z) : b = z := by
  have : ml (iv a) (ml a b) = ml (iv a) z := by rw [h]
  rw [← ml_assoc, ml_comm (iv a) a, ml_iv a ha, o_ml, ml_z] at this
  exact this
theorem ml_ne {a b : K} (ha : a ≠ z) (hb : b ≠ z) : ml a b ≠ z := fun h => hb (ml_eq_z h ha)
theorem iv_ne {a : K} (ha : a ≠ z) : iv a ≠ z := fun h => by
  have := ml_iv a ha
  rw [h, ml_z] at this
  exact o_ne this.symm
theorem iv_unique {a b : K} (h : ml a b = o) : b = iv a := by
  have ha : a ≠ z := fun e => by rw [e, z_ml] at h; exact o_ne h.symm
  have : ml (iv a) (ml a b) = ml (iv a) o := by rw [h]
  rw [← ml_assoc, ml_comm (iv a) a, ml_iv a ha, o_ml, ml_o] at this
  exact this

/-! ### Sums -/
def sm (f : Nat → K) : Nat → K
  | 0 => z
  | n + 1 => ad (sm f n) (f n)
theorem sm_congr {f g : Nat → K} : ∀ n, (∀ k, k < n → f k = g k) → sm f n = sm g n
  | 0, _ => rfl
  | n + 1, h => by simp only [sm]; rw [sm_congr n fun k hk => h k (by omega), h n (by omega)]
theorem sm_z {f : Nat → K} : ∀ n, (∀ k, k < n → f k = z) → sm f n = z
  | 0, _ => rfl
  | n + 1, h => by simp only [sm]; rw [sm_z n fun k hk => h k (by omega), h n (by omega), ad_z]
theorem sm_ad (f g : Nat → K) : ∀ n, sm (fun k => ad (f k) (g k)) n = ad (sm f n) (sm g n)
  | 0 => (ad_z z).symm
  | n + 1 => by
    simp only [sm]
    rw [sm_ad f g n, ad_assoc, ad_left (sm g n), ← ad_assoc]
theorem sm_ml (c : K) (f : Nat → K) : ∀ n, sm (fun k => ml c (f k)) n = ml c (sm f n)
  | 0 => (ml_z c).symm
  | n + 1 => by
    simp only [sm]
    rw [sm_ml c f n, ml_ad]
theorem sm_swap (f : Nat → Nat → K) (m : Nat) : ∀ n, sm (fun k => sm (f k) m) n = sm (fun h => sm (fun k => f k h) n) m
  | 0 => by
    simp only [sm]
    exact (sm_z m fun _ _ => rfl).symm
  | n + 1 => by
    simp only [sm]
    rw [sm_swap f m n, ← sm_ad]
/-- A sum with one term. -/
theorem sm_one {f : Nat → K} {i : Nat} : ∀ n, i < n → (∀ k, k < n → k ≠ i → f k = z) → sm f n = f i
  | 0, h, _ => absurd h (by omega)
  | n + 1, h, hf => by
    simp only [sm]
    by_cases e : i = n
    · subst e
      rw [sm_z i fun k hk => hf k (by omega) (by omega), z_ad]
    · rw [sm_one n (by omega) fun k hk => hf k (by omega), hf n (by omega) (by omega), ad_z]
/-- A product, but for one factor. -/
def pm (f : Nat → K) : Nat → K
  | 0 => o
  | n + 1 => ml (pm f n) (f n)
theorem pm_z {f : Nat → K} {i : Nat} : ∀ n, i < n → f i = z → pm f n = z
  | 0, h, _ => absurd h (by omega)
  | n + 1, h, hf => by
    simp only [pm]
    by_cases e : i = n
    · subst e; rw [hf, ml_z]
    · rw [pm_z n (by omega) hf, z_ml]
theorem pm_o {f : Nat → K} : ∀ n, (∀ k, k < n → f k = o) → pm f n = o
  | 0, _ => rfl
  | n + 1, h => by simp only [pm]; rw [pm_o n fun k hk => h k (by omega), h n (by omega), ml_o]
theorem pm_congr {f g : Nat → K} : ∀ n, (∀ k, k < n → f k = g k) → pm f n = pm g n
  | 0, _ => rfl
  | n + 1, h => by simp only [pm]; rw [pm_congr n fun k hk => h k (by omega), h n (by omega)]

/-! ### Polynomials -/
def ev : List K → K → K
  | [], _ => z
  | a :: l, x => ad a (ml x (ev l x))
def quo : List K → K → List K
  | [], _ => []
  | _ :: l, r => match l with
    | [] => []
    | b :: t => ev (b :: t) r :: quo (b :: t) r
theorem quo_length : ∀ (l : List K) (r : K), (quo l r).length = l.length - 1
  | [], _ => rfl
  | [_], _ => rfl
  | _ :: b :: t, r => by
    simp only [quo, List.length_cons]
    rw [quo_length (b :: t) r]
    simp
theorem quo_ev : ∀ (l : List K) (r x : K), sb (ev l x) (ev l r) = ml (sb x r) (ev (quo l r) x)
  | [], r, x => by simp only [quo, ev]; rw [sb_self, ml_z]
  | [a], r, x => by simp only [quo, ev]; rw [ml_z x, ml_z r, sb_self, ml_z]
  | a :: b :: t, r, x => by
    have ih := quo_ev (b :: t) r x
    simp only [quo]
    show sb (ad a (ml x (ev (b :: t) x))) (ad a (ml r (ev (b :: t) r))) = ml (sb x r) (ad (ev (b :: t) r) (ml x (ev (quo (b :: t) r) x)))
    generalize ev (b :: t) x = E at *
    generalize ev (b :: t) r = F at *
    generalize ev (quo (b :: t) r) x = G at *
    rw [ml_ad, ml_left (sb x r) x G, ← ih, ml_sb, sb_ml]
    rw [sb_sb, ad_comm (ml r F), sb_left, sb_left]
/-- As many zeros as coefficients. -/
theorem ev_zero : ∀ (n : Nat) (l : List K), l.length ≤ n → ∀ (p : Nat → K), (∀ i j, i < n → j < n → p i = p j → i = j) → (∀ i, i < n → ev l (p i) = z) → ∀ x, ev l x = z
  | 0, l, hl, _, _, _, x => by
    have : l = [] := List.eq_nil_of_length_eq_zero (by omega)
    subst this; rfl
  | n + 1, l, hl, p, hp, hz, x => by
    have h0 := hz n (by omega)
    have hq := ev_zero n (quo l (p n)) (by rw [quo_length]; omega) p (fun i j hi hj => hp i j (by omega) (by omega)) fun i hi => by
      have e := quo_ev l (p n) (p i)
      rw [hz i (by omega), h0, sb_self] at e
      exact ml_eq_z e.symm fun h => by have := hp i n (by omega) (by omega) (sb_eq h); omega
    have e := quo_ev l (p n) x
    rw [hq x, ml_z, h0] at e
    exact sb_eq e

/-- A function that is a polynomial of at most d coefficients. -/
def Pl (d : Nat) (f : K → K) : Prop := ∃ l : List K, l.length ≤ d ∧ ∀ x, ev l x = f x
theorem Pl.congr {d : Nat} {f g : K → K} (h : Pl d f) (e : ∀ x, f x = g x) : Pl d g := by
  obtain ⟨l, h1, h2⟩ := h
  exact ⟨l, h1, fun x => (h2 x).trans (e x)⟩
theorem Pl.more {d e : Nat} {f : K → K} (h : Pl d f) (hd : d ≤ e) : Pl e f := by
  obtain ⟨l, h1, h2⟩ := h
  exact ⟨l, by omega, h2⟩
theorem Pl.zero (d : Nat) : Pl d (fun _ : K => z) := ⟨[], Nat.zero_le _, fun _ => rfl⟩
theorem Pl.const (c : K) : Pl 1 (fun _ : K => c) := ⟨[c], Nat.le_refl _, fun x => by simp only [ev]; rw [ml_z, ad_z]⟩
def adl : List K → List K → List K
  | [], m => m
  | l, [] => l
  | a :: l, b :: m => ad a b :: adl l m
theorem adl_length : ∀ l m : List K, (adl l m).length = max l.length m.length
  | [], m => by simp [adl]
  | a :: l, [] => by simp [adl]
  | a :: l, b :: m => by simp only [adl, List.length_cons]; rw [adl_length l m]; omega
theorem adl_ev (x : K) : ∀ l m : List K, ev (adl l m) x = ad (ev l x) (ev m x)
  | [], m => by simp only [adl, ev]; rw [z_ad]
  | a :: l, [] => by simp only [adl, ev]; rw [ad_z]
  | a :: l, b :: m => by
    simp only [adl, ev]
    rw [adl_ev x l m, ml_ad, ad_assoc, ad_left b, ← ad_assoc]
theorem Pl.ad {d : Nat} {f g : K → K} (h : Pl d f) (h' : Pl d g) : Pl d (fun x => ad (f x) (g x)) := by
  obtain ⟨l, h1, h2⟩ := h
  obtain ⟨m, h3, h4⟩ := h'
  exact ⟨adl l m, by rw [adl_length]; omega, fun x => by rw [adl_ev, h2, h4]⟩
theorem sc_ev (c x : K) : ∀ l : List K, ev (l.map (ml c)) x = ml c (ev l x)
  | [] => by simp only [List.map_nil, ev]; rw [ml_z]
  | a :: l => by
    simp only [List.map_cons, ev]
    rw [sc_ev c x l, ml_ad, ml_left x c]
theorem Pl.ml {d : Nat} {f : K → K} (c : K) (h : Pl d f) : Pl d (fun x => ml c (f x)) := by
  obtain ⟨l, h1, h2⟩ := h
  exact ⟨l.map (Fld.ml c), by rw [List.length_map]; exact h1, fun x => by rw [sc_ev, h2]⟩
theorem Pl.shift {d : Nat} {f : K → K} (h : Pl d f) : Pl (d + 1) (fun x => Fld.ml x (f x)) := by
  obtain ⟨l, h1, h2⟩ := h
  exact ⟨z :: l, by simp; omega, fun x => by simp only [ev]; rw [h2, z_ad]⟩
theorem Pl.lin {d : Nat} {f : K → K} (h : Pl d f) (q c : K) : Pl (d + 1) (fun x => Fld.ml (f x) (Fld.ml (sb x q) c)) :=
  ((h.shift.ad ((h.more (Nat.le_succ d)).ml (ng q))).ml c).congr fun x => by
    unfold sb
    rw [← ad_ml, ml_comm c, ml_comm (Fld.ad x (ng q)), ml_assoc]
theorem Pl.sum {d : Nat} {f : Nat → K → K} : ∀ n, (∀ k, k < n → Pl d (f k)) → Pl d (fun x => sm (fun k => f k x) n)
  | 0, _ => Pl.zero d
  | n + 1, h => (Pl.sum n fun k hk => h k (by omega)).ad (h n (by omega))
/-- Two that agree often enough are one. -/
theorem Pl.unique {n : Nat} {f g : K → K} (hf : Pl n f) (hg : Pl n g) (p : Nat → K) (hp : ∀ i j, i < n → j < n → p i = p j → i = j) (h : ∀ i, i < n → f (p i) = g (p i)) (x : K) : f x = g x := by
  have hd : Pl n (fun x => sb (f x) (g x)) := (hf.ad (hg.ml (ng o))).congr fun x => by
    unfold sb
    rw [ng_ml, o_ml]
  obtain ⟨l, h1, h2⟩ := hd
  have := ev_zero n l h1 p hp (fun i hi => by rw [h2]; show sb (f (p i)) (g (p i)) = z; rw [h i hi, sb_self]) x
  rw [h2] at this
  exact sb_eq this

/-! ### Lagrange -/
/-- The factor that is 0 at the other place. -/
def lfac (p : Nat → K) (x : K) (i k : Nat) : K := if k = i then o else Fld.ml (sb x (p k)) (iv (sb (p i) (p k)))
def lag (p b : Nat → K) (n : Nat) (x : K) : K := sm (fun i => Fld.ml (b i) (pm (lfac p x i) n)) n
theorem pm_pl (p : Nat → K) (i : Nat) : ∀ n, Pl (if i < n then n else n + 1) (fun x => pm (lfac p x i) n)
  | 0 => (Pl.const o).congr fun _ => rfl
  | n + 1 => by
    have ih := pm_pl p i n
    by_cases e : n = i
    · subst e
      rw [if_neg (by omega)] at ih
      rw [if_pos (by omega)]
      exact ih.congr fun x => by
        show pm (lfac p x n) n = Fld.ml (pm (lfac p x n) n) (lfac p x n n)
        rw [show lfac p x n n = o from if_pos rfl, ml_o]
    · have h2 := ih.lin (p n) (iv (sb (p i) (p n)))
      refine (h2.more ?_).congr fun x => ?_
      · split <;> split <;> omega
      · show Fld.ml (pm (lfac p x i) n) _ = Fld.ml (pm (lfac p x i) n) (lfac p x i n)
        rw [show lfac p x i n = Fld.ml (sb x (p n)) (iv (sb (p i) (p n))) from if_neg e]
theorem lag_pl (p b : Nat → K) (n : Nat) : Pl n (lag p b n) := Pl.sum n fun i hi => by
  have := pm_pl p i n
  rw [if_pos hi] at this
  exact this.ml (b i)
theorem lag_at {p b : Nat → K} {n : Nat} (hp : ∀ i j, i < n → j < n → p i = p j → i = j) {j : Nat} (hj : j < n) : lag p b n (p j) = b j := by
  unfold lag
  rw [sm_one n hj fun i hi hij => by
    rw [pm_z n hj (show lfac p (p j) i j = z by
      unfold lfac
      rw [if_neg (fun e => hij e.symm), sb_self, z_ml]), ml_z]]
  rw [pm_o n fun k hk => ?_, ml_o]
  unfold lfac
  split
  · rfl
  · rename_i e
    exact ml_iv _ fun h => e (hp k j hk hj (sb_eq h).symm)
end Fld
end Wm

/-
  Plain: the bytes as a field, and the code rows of Reed and Solomon. No program in sight.
-/
set_option linter.unusedVariables false
set_option linter.unusedSimpArgs false
namespace Wm

abbrev B8 : Type := { n : Nat // n < 256 }
def m8 (n : Nat) : B8 := ⟨n % 256, Nat.mod_lt _ (by omega)⟩
theorem m8_val {n : Nat} (h : n < 256) : (m8 n).1 = n := Nat.mod_eq_of_lt h
theorem m8_self (a : B8) : m8 a.1 = a := Subtype.ext (m8_val a.2)
def z8 : B8 := ⟨0, by omega⟩
def o8 : B8 := ⟨1, by omega⟩
instance : Fld B8 where
  z := z8
  o := o8
  ad a b := ⟨a.1 ^^^ b.1, xor_lt a.2 b.2⟩
  ml a b := ⟨fmul a.1 b.1, fmul_lt a.2 b.2⟩
  ng a := a
  iv a := ⟨fpow a.1 254, fpow_lt a.2 _⟩
  ad_assoc a b c := Subtype.ext (Nat.xor_assoc ..)
  ad_comm a b := Subtype.ext (Nat.xor_comm ..)
  ad_z a := Subtype.ext (Nat.xor_zero _)
  ad_ng a := Subtype.ext (Nat.xor_self _)
  ml_assoc a b c := Subtype.ext (fmul_assoc a.2 b.2 c.2)
  ml_comm a b := Subtype.ext (fmul_comm a.2 b.2)
  ml_o a := Subtype.ext (fmul_one a.2)
  ml_ad a b c := Subtype.ext (fmul_xor ..)
  ml_iv a h := Subtype.ext (fmul_inv (fun e => h (Subtype.ext e)) a.2)
  o_ne h := absurd (congrArg Subtype.val h) (by unfold o8 z8; decide)
open Fld
theorem ad_val (a b : B8) : (ad a b).1 = a.1 ^^^ b.1 := rfl
theorem ml_val (a b : B8) : (ml a b).1 = fmul a.1 b.1 := rfl
theorem z_val : (z : B8).1 = 0 := rfl

/-- One term, after k of the factors. -/
def tr (p : Nat → Nat) (b x i : Nat) : Nat → Nat
  | 0 => b
  | k + 1 => if k = i then tr p b x i k else fmul (tr p b x i k) (fmul (x ^^^ p k) (fpow (p i ^^^ p k) 254))
/-- The byte at x, after i of the terms. -/
def rv (p b : Nat → Nat) (n x : Nat) : Nat → Nat
  | 0 => 0
  | i + 1 => rv p b n x i ^^^ tr p (b i) x i n
theorem tr_lag {p b : Nat → Nat} {x i : Nat} (hp : ∀ i, p i < 256) (hb : b i < 256) (hx : x < 256) : ∀ k, tr p (b i) x i k = (ml (m8 (b i)) (pm (lfac (fun k => m8 (p k)) (m8 x) i) k)).1
  | 0 => by
    show b i = (ml (m8 (b i)) o).1
    rw [ml_o, m8_val hb]
  | k + 1 => by
    simp only [tr, pm]
    rw [tr_lag hp hb hx k]
    unfold lfac
    by_cases e : k = i
    · rw [if_pos e, if_pos e, ml_o]
    · rw [if_neg e, if_neg e, ← ml_assoc]
      generalize ml (m8 (b i)) (pm _ k) = T
      rw [ml_val, ml_val]
      show fmul T.1 (fmul _ (fpow _ 254)) = fmul T.1 (fmul ((m8 x).1 ^^^ (m8 (p k)).1) (fpow ((m8 (p i)).1 ^^^ (m8 (p k)).1) 254))
      rw [m8_val hx, m8_val (hp k), m8_val (hp i)]
theorem rv_lag {p b : Nat → Nat} {n x : Nat} (hp : ∀ i, p i < 256) (hb : ∀ i, b i < 256) (hx : x < 256) : ∀ i, rv p b n x i = (sm (fun i => ml (m8 (b i)) (pm (lfac (fun k => m8 (p k)) (m8 x) i) n)) i).1
  | 0 => rfl
  | i + 1 => by
    simp only [rv, sm]
    rw [rv_lag hp hb hx i, tr_lag hp (hb i) hx n]
    rfl
/-- The byte at x. -/
def rby (p b : Nat → Nat) (n x : Nat) : Nat := rv p b n x n
theorem rby_lag {p b : Nat → Nat} {n x : Nat} (hp : ∀ i, p i < 256) (hb : ∀ i, b i < 256) (hx : x < 256) : rby p b n x = (lag (fun k => m8 (p k)) (fun k => m8 (b k)) n (m8 x)).1 := rv_lag hp hb hx n
theorem tr_lt {p : Nat → Nat} {b x i : Nat} (hp : ∀ i, p i < 256) (hb : b < 256) (hx : x < 256) : ∀ k, tr p b x i k < 256
  | 0 => hb
  | k + 1 => by
    simp only [tr]
    split
    · exact tr_lt hp hb hx k
    · exact fmul_lt (tr_lt hp hb hx k) (fmul_lt (xor_lt hx (hp k)) (fpow_lt (xor_lt (hp i) (hp k)) _))
theorem rv_lt {p b : Nat → Nat} {n x : Nat} (hp : ∀ i, p i < 256) (hb : ∀ i, b i < 256) (hx : x < 256) : ∀ i, rv p b n x i < 256
  | 0 => by simp [rv]
  | i + 1 => by simp only [rv]; exact xor_lt (rv_lt hp hb hx i) (tr_lt hp (hb i) hx n)
theorem rby_lt {p b : Nat → Nat} {n x : Nat} (hp : ∀ i, p i < 256) (hb : ∀ i, b i < 256) (hx : x < 256) : rby p b n x < 256 := rv_lt hp hb hx n
theorem tr_congr {p q : Nat → Nat} {b x i n : Nat} (hi : i < n) (h : ∀ k, k < n → p k = q k) : ∀ k, k ≤ n → tr p b x i k = tr q b x i k
  | 0, _ => rfl
  | k + 1, hk => by
    simp only [tr]
    rw [tr_congr hi h k (by omega), h k (by omega), h i hi]
theorem rv_congr {p q b c : Nat → Nat} {n x : Nat} (h : ∀ k, k < n → p k = q k) (h2 : ∀ k, k < n → b k = c k) : ∀ i, i ≤ n → rv p b n x i = rv q c n x i
  | 0, _ => rfl
  | i + 1, hi => by
    simp only [rv]
    rw [rv_congr h h2 i (by omega), h2 i (by omega), tr_congr (by omega) h n (Nat.le_refl _)]
theorem rby_congr {p q b c : Nat → Nat} {n x : Nat} (h : ∀ k, k < n → p k = q k) (h2 : ∀ k, k < n → b k = c k) : rby p b n x = rby q c n x := rv_congr h h2 n (Nat.le_refl _)
theorem m8_inj {a b : Nat} (ha : a < 256) (hb : b < 256) (h : m8 a = m8 b) : a = b := by
  have := congrArg Subtype.val h
  rwa [m8_val ha, m8_val hb] at this
/-- At its own places. -/
theorem rby_at {p b : Nat → Nat} {n : Nat} (hp : ∀ i, p i < 256) (hb : ∀ i, b i < 256) (hinj : ∀ i j, i < n → j < n → p i = p j → i = j) {j : Nat} (hj : j < n) : rby p b n (p j) = b j := by
  rw [rby_lag hp hb (hp j), lag_at (p := fun k => m8 (p k)) (fun i k hi hk h => hinj i k hi hk (m8_inj (hp i) (hp k) h)) hj, m8_val (hb j)]
/-- Two rows that agree at n places are one. -/
theorem rby_unique {p b q c : Nat → Nat} {n : Nat} (hp : ∀ i, p i < 256) (hb : ∀ i, b i < 256) (hq : ∀ i, q i < 256) (hc : ∀ i, c i < 256) {u : Nat → Nat} (hu : ∀ i, i < n → u i < 256) (hinj : ∀ i j, i < n → j < n → u i = u j → i = j)
    (h : ∀ i, i < n → rby p b n (u i) = rby q c n (u i)) {x : Nat} (hx : x < 256) : rby p b n x = rby q c n x := by
  rw [rby_lag hp hb hx, rby_lag hq hc hx]
  refine congrArg Subtype.val (Pl.unique (lag_pl _ _ n) (lag_pl _ _ n) (fun i => m8 (u i)) (fun i j hi hj e => hinj i j hi hj (m8_inj (hu i hi) (hu j hj) e)) (fun i hi => Subtype.ext ?_) (m8 x))
  rw [← rby_lag hp hb (hu i hi), ← rby_lag hq hc (hu i hi), h i hi]
/-- Of the sum of two rows. -/
theorem rby_xor {p b c : Nat → Nat} {n x : Nat} (hp : ∀ i, p i < 256) (hb : ∀ i, b i < 256) (hc : ∀ i, c i < 256) (hx : x < 256) : rby p (fun i => b i ^^^ c i) n x = rby p b n x ^^^ rby p c n x := by
  rw [rby_lag hp hb hx, rby_lag hp hc hx, rby_lag hp (fun i => xor_lt (hb i) (hc i)) hx, ← ad_val]
  unfold lag
  rw [← sm_ad]
  refine congrArg Subtype.val (sm_congr n fun i _ => ?_)
  rw [← ad_ml]
  refine congrArg (ml · _) (Subtype.ext ?_)
  rw [ad_val, m8_val (xor_lt (hb i) (hc i)), m8_val (hb i), m8_val (hc i)]
theorem rby_mul {p b : Nat → Nat} {n x y : Nat} (hp : ∀ i, p i < 256) (hb : ∀ i, b i < 256) (hy : y < 256) (hx : x < 256) : rby p (fun i => fmul y (b i)) n x = fmul y (rby p b n x) := by
  rw [rby_lag hp hb hx, rby_lag hp (fun i => fmul_lt hy (hb i)) hx, show fmul y (lag _ _ n (m8 x)).1 = (ml (m8 y) (lag (fun k => m8 (p k)) (fun k => m8 (b k)) n (m8 x))).1 by rw [ml_val, m8_val hy]]
  unfold lag
  rw [← sm_ml]
  refine congrArg Subtype.val (sm_congr n fun i _ => ?_)
  rw [← ml_assoc]
  refine congrArg (ml · _) (Subtype.ext ?_)
  rw [ml_val, m8_val (fmul_lt hy (hb i)), m8_val (hb i), m8_val hy]
end Wm

/-
  Plain: what the laws of reed say of the code rows. No program in sight.
-/
set_option linter.unusedVariables false
set_option linter.unusedSimpArgs false
namespace Wm
/-- The row of n bytes that has the bytes bs at the places l. -/
def rowL (l bs : List Nat) (n : Nat) : List Nat := (List.range n).map (rby (fun i => l.getD i 0) (fun i => bs.getD i 0) l.length)
def putL (d : List Nat) (n : Nat) : List Nat := rowL (List.range d.length) d n
def B256 (l : List Nat) : Prop := ∀ i, l.getD i 0 < 256
theorem B256.of {l : List Nat} (h : ∀ x ∈ l, x < 256) : B256 l := fun i => by
  rw [List.getD_eq_getElem?_getD]
  cases e : l[i]? with
  | none => show 0 < 256; omega
  | some x => exact h x (List.mem_of_getElem? e)
theorem B256.mem {l : List Nat} (h : B256 l) : ∀ x ∈ l, x < 256 := fun x hx => by
  obtain ⟨i, hi, rfl⟩ := List.getElem_of_mem hx
  have := h i
  rwa [List.getD_eq_getElem?_getD, List.getElem?_eq_getElem hi] at this
theorem getD_range {n i : Nat} (h : i < n) : (List.range n).getD i 0 = i := by
  rw [List.getD_eq_getElem?_getD, List.getElem?_eq_getElem (by simpa using h)]; simp
theorem B256.range {n : Nat} (h : n ≤ 256) : B256 (List.range n) := B256.of fun x hx => by have := List.mem_range.1 hx; omega
theorem getD_map_ {α : Type} {l : List α} {f : α → Nat} {i : Nat} (a : α) (h : i < l.length) : (l.map f).getD i 0 = f (l.getD i a) := by
  simp [List.getD_eq_getElem?_getD, List.getElem?_eq_getElem h]
theorem rowL_length (l bs : List Nat) (n : Nat) : (rowL l bs n).length = n := by simp [rowL]
theorem rowL_get {l bs : List Nat} {n x : Nat} (h : x < n) : (rowL l bs n).getD x 0 = rby (fun i => l.getD i 0) (fun i => bs.getD i 0) l.length x := by
  unfold rowL
  rw [getD_map_ 0 (by simpa using h), getD_range h]
theorem rowL_lt {l bs : List Nat} {n : Nat} (hl : B256 l) (hb : B256 bs) (hn : n ≤ 256) : B256 (rowL l bs n) := B256.of fun y hy => by
  obtain ⟨x, hx, rfl⟩ := List.mem_map.1 hy
  exact rby_lt hl hb (by have := List.mem_range.1 hx; omega)
theorem putL_length (d : List Nat) (n : Nat) : (putL d n).length = n := rowL_length ..
theorem putL_get {d : List Nat} {n x : Nat} (h : x < n) : (putL d n).getD x 0 = rby (fun i => (List.range d.length).getD i 0) (fun i => d.getD i 0) d.length x := by
  unfold putL; rw [rowL_get h, List.length_range]
theorem getD_inj {l : List Nat} (h : l.Nodup) {i j : Nat} (hi : i < l.length) (hj : j < l.length) (e : l.getD i 0 = l.getD j 0) : i = j := by
  rw [List.getD_eq_getElem?_getD, List.getD_eq_getElem?_getD, List.getElem?_eq_getElem hi, List.getElem?_eq_getElem hj] at e
  exact (List.getElem_inj h).1 e
theorem list_ext_getD {l m : List Nat} (h : l.length = m.length) (hg : ∀ i, i < l.length → l.getD i 0 = m.getD i 0) : l = m := by
  apply List.ext_getElem h
  intro i h1 h2
  have := hg i h1
  rwa [List.getD_eq_getElem?_getD, List.getD_eq_getElem?_getD, List.getElem?_eq_getElem h1, List.getElem?_eq_getElem h2] at this
/-- The first bytes of a row are the data. -/
theorem putL_data {d : List Nat} {n i : Nat} (hd : B256 d) (hn : n ≤ 256) (hk : d.length ≤ n) (hi : i < d.length) : (putL d n).getD i 0 = d.getD i 0 := by
  rw [putL_get (by omega)]
  have := rby_at (p := fun i => (List.range d.length).getD i 0) (b := fun i => d.getD i 0) (n := d.length) (B256.range (by omega)) hd (fun i j hi hj e => by rwa [getD_range hi, getD_range hj] at e) hi
  rwa [getD_range hi] at this
theorem putL_take {d : List Nat} {n : Nat} (hd : B256 d) (hn : n ≤ 256) (hk : d.length ≤ n) : (putL d n).take d.length = d := by
  apply list_ext_getD (by rw [List.length_take, putL_length]; omega)
  intro i hi
  rw [List.length_take, putL_length] at hi
  have e : ((putL d n).take d.length).getD i 0 = (putL d n).getD i 0 := by
    rw [List.getD_eq_getElem?_getD, List.getElem?_take_of_lt (by omega), ← List.getD_eq_getElem?_getD]
  rw [e, putL_data hd hn hk (by omega)]
/-- Any so many bytes of a row make all. -/
theorem mend_row {d l bs : List Nat} {n : Nat} (hd : B256 d) (hn : n ≤ 256) (hl : l.Nodup) (hln : ∀ x ∈ l, x < n) (hk : l.length = d.length) (hkn : d.length ≤ n) (hb : B256 bs) (hbs : ∀ i, i < l.length → bs.getD i 0 = (putL d n).getD (l.getD i 0) 0) : rowL l bs n = putL d n := by
  apply list_ext_getD (by rw [rowL_length, putL_length])
  intro x hx
  rw [rowL_length] at hx
  have hl2 : B256 l := B256.of fun x hx => by have := hln x hx; omega
  have hdm : ∀ i, i < l.length → l.getD i 0 < n := fun i hi => by
    rw [List.getD_eq_getElem?_getD, List.getElem?_eq_getElem hi]
    exact hln _ (List.getElem_mem hi)
  rw [rowL_get hx, putL_get hx, ← hk]
  refine rby_unique hl2 hb (B256.range (by omega)) hd (u := fun i => l.getD i 0) (fun i _ => hl2 i) (fun i j hi hj e => getD_inj hl hi hj e) (fun i hi => ?_) (by omega)
  rw [rby_at hl2 hb (fun i j hi hj e => getD_inj hl hi hj e) hi, hbs i hi, putL_get (hdm i hi), hk]
/-- Two rows that agree in so many places have the same data. -/
theorem rows_agree {d e u : List Nat} {n : Nat} (hd : B256 d) (he : B256 e) (hn : n ≤ 256) (hk : d.length ≤ n) (hde : d.length = e.length) (hu : u.Nodup) (hul : d.length ≤ u.length) (h : ∀ x ∈ u, x < n ∧ (putL d n).getD x 0 = (putL e n).getD x 0) : d = e := by
  apply list_ext_getD hde
  intro i hi
  have key : (putL d n).getD i 0 = (putL e n).getD i 0 := by
    rw [putL_get (by omega), putL_get (by omega), ← hde]
    have hm : ∀ i, i < d.length → u.getD i 0 ∈ u := fun i hi => by
      rw [List.getD_eq_getElem?_getD, List.getElem?_eq_getElem (by omega)]
      exact List.getElem_mem _
    refine rby_unique (B256.range (by omega)) hd (B256.range (by omega)) he (u := fun i => u.getD i 0) (fun i hi => by have := (h _ (hm i hi)).1; omega) (fun i j hi hj e => getD_inj hu (by omega) (by omega) e) (fun i hi => ?_) (by omega)
    obtain ⟨h1, h2⟩ := h _ (hm i hi)
    rw [putL_get h1, putL_get h1, ← hde] at h2
    exact h2
  rwa [putL_data hd hn hk hi, putL_data he hn (by omega) (by omega)] at key
/-- How many of the first n. -/
def cntR (f : Nat → Bool) : Nat → Nat
  | 0 => 0
  | n + 1 => cntR f n + (f n).toNat
def pk (f : Nat → Bool) : Nat → List Nat
  | 0 => []
  | n + 1 => if f n then pk f n ++ [n] else pk f n
theorem pk_length (f : Nat → Bool) : ∀ n, (pk f n).length = cntR f n
  | 0 => rfl
  | n + 1 => by
    simp only [pk, cntR]
    cases h : f n <;> simp [pk_length f n]
theorem pk_mem {f : Nat → Bool} {x : Nat} : ∀ n, x ∈ pk f n → x < n ∧ f x = true
  | 0, h => by simp [pk] at h
  | n + 1, h => by
    simp only [pk] at h
    split at h
    · rename_i hf
      rcases List.mem_append.1 h with h | h
      · have := pk_mem n h; exact ⟨by omega, this.2⟩
      · have : x = n := by simpa using h
        subst this; exact ⟨by omega, hf⟩
    · have := pk_mem n h; exact ⟨by omega, this.2⟩
theorem pk_nodup (f : Nat → Bool) : ∀ n, (pk f n).Nodup
  | 0 => by simp [pk]
  | n + 1 => by
    simp only [pk]
    split
    · refine List.nodup_append.2 ⟨pk_nodup f n, by simp, fun a ha b hb e => ?_⟩
      have := (pk_mem n ha).1
      have : b = n := by simpa using hb
      omega
    · exact pk_nodup f n
theorem cntR_not (f : Nat → Bool) : ∀ n, cntR f n + cntR (fun i => !f i) n = n
  | 0 => rfl
  | n + 1 => by
    have := cntR_not f n
    simp only [cntR]
    cases f n <;> simp <;> omega
theorem cntR_le (f : Nat → Bool) (n : Nat) : cntR f n ≤ n := by have := cntR_not f n; omega
/-- Singleton. -/
theorem far {d e : List Nat} {n : Nat} (hd : B256 d) (he : B256 e) (hn : n ≤ 256) (hk : d.length ≤ n) (hde : d.length = e.length) (hne : d ≠ e) : n + 1 ≤ cntR (fun i => decide ((putL d n).getD i 0 ≠ (putL e n).getD i 0)) n + d.length := by
  have h1 := cntR_not (fun i => decide ((putL d n).getD i 0 = (putL e n).getD i 0)) n
  have h2 : ¬ d.length ≤ cntR (fun i => decide ((putL d n).getD i 0 = (putL e n).getD i 0)) n := fun h => by
    rw [← pk_length] at h
    exact hne (rows_agree hd he hn hk hde (pk_nodup _ n) h fun x hx => by
      have := pk_mem n hx
      exact ⟨this.1, of_decide_eq_true this.2⟩)
  have h3 : (fun i => !decide ((putL d n).getD i 0 = (putL e n).getD i 0)) = fun i => decide ((putL d n).getD i 0 ≠ (putL e n).getD i 0) := by
    funext i; simp
  rw [h3] at h1
  omega
/-- One wrong byte is told. -/
theorem wrong {d : List Nat} {n a y : Nat} (hd : B256 d) (hn : n ≤ 256) (hk : d.length < n) (ha : a < n) (hy : y < 256) (hne : y ≠ (putL d n).getD a 0) :
    ∃ i, i < n ∧ ((putL d n).set a y).getD i 0 ≠ (putL (((putL d n).set a y).take d.length) n).getD i 0 := by
  obtain ⟨c, hc⟩ : ∃ c, c = (putL d n).set a y := ⟨_, rfl⟩
  rw [← hc]
  have hcl : c.length = n := by rw [hc, List.length_set, putL_length]
  have hcg : ∀ i, i < n → c.getD i 0 = if a = i then y else (putL d n).getD i 0 := fun i hi => by
    rw [hc, List.getD_eq_getElem?_getD, List.getElem?_set]
    split
    · rw [if_pos (by rw [putL_length]; exact ha)]; rfl
    · rw [List.getD_eq_getElem?_getD]
  have hcb : B256 c := B256.of fun x hx => by
    rw [hc] at hx
    rcases List.mem_or_eq_of_mem_set hx with h | h
    · exact (rowL_lt (B256.range (by omega)) hd hn).mem x h
    · omega
  refine Classical.byContradiction fun hno => ?_
  have hall : ∀ i, i < n → c.getD i 0 = (putL (c.take d.length) n).getD i 0 := fun i hi => Classical.byContradiction fun h => hno ⟨i, hi, h⟩
  have htl : (c.take d.length).length = d.length := by rw [List.length_take]; omega
  have htb : B256 (c.take d.length) := B256.of fun x hx => hcb.mem x (List.mem_of_mem_take hx)
  have hcn : cntR (fun i => decide (i ≠ a)) n = n - 1 := by
    have h1 := cntR_not (fun i => decide (i ≠ a)) n
    have h2 : ∀ m, cntR (fun i => !decide (i ≠ a)) m = if a < m then 1 else 0 := fun m => by
      induction m with
      | zero => rfl
      | succ m ih =>
        simp only [cntR]
        rw [ih]
        by_cases e : m = a
        · subst e; simp
        · simp [e]; split <;> split <;> omega
    rw [h2, if_pos ha] at h1
    omega
  have := rows_agree htb hd hn (by omega) htl (pk_nodup (fun i => decide (i ≠ a)) n) (by rw [pk_length, hcn]; omega) fun x hx => by
    have hx := pk_mem n hx
    refine ⟨hx.1, ?_⟩
    rw [← hall x hx.1, hcg x hx.1, if_neg fun e => of_decide_eq_true hx.2 e.symm]
  have h1 := hall a ha
  rw [this, hcg a ha, if_pos rfl] at h1
  exact hne h1
end Wm
