/-
  Plain: fields, and polynomials over them (Lagrange). No program in sight.
-/
import Derived.Test.YtahchidghfeofaaBase
set_option linter.unusedVariables false
set_option linter.unusedSimpArgs false
namespace Wm

class Fld (K : Type) where
  z : K
  o : K
  ad : K → K → K
  ml : K → K → K
  ng : K → K
  iv : K → K
  ad_assoc : ∀ a b c, ad (ad a b) c = ad a (ad b c)
  ad_comm : ∀ a b, ad a b = ad b a
  ad_z : ∀ a, ad a z = a
  ad_ng : ∀ a, ad a (ng a) = z
  ml_assoc : ∀ a b c, ml (ml a b) c = ml a (ml b c)
  ml_comm : ∀ a b, ml a b = ml b a
  ml_o : ∀ a, ml a o = a
  ml_ad : ∀ a b c, ml a (ad b c) = ad (ml a b) (ml a c)
  ml_iv : ∀ a, a ≠ z → ml a (iv a) = o
  o_ne : o ≠ z
namespace Fld
variable {K : Type} [Fld K]
theorem z_ad (a : K) : ad z a = a := by rw [ad_comm, ad_z]
theorem o_ml (a : K) : ml o a = a := by rw [ml_comm, ml_o]
theorem ad_ml (a b c : K) : ml (ad a b) c = ad (ml a c) (ml b c) := by rw [ml_comm, ml_ad, ml_comm c a, ml_comm c b]
theorem ad_left (a b c : K) : ad a (ad b c) = ad b (ad a c) := by rw [← ad_assoc, ad_comm a b, ad_assoc]
theorem ml_left (a b c : K) : ml a (ml b c) = ml b (ml a c) := by rw [← ml_assoc, ml_comm a b, ml_assoc]
theorem ad_cancel {a b c : K} (h : ad a b = ad a c) : b = c := by
  have : ad (ng a) (ad a b) = ad (ng a) (ad a c) := by rw [h]
  rw [← ad_assoc, ← ad_assoc, ad_comm (ng a) a, ad_ng, z_ad, z_ad] at this
  exact this
theorem ml_z (a : K) : ml a z = z := by
  have : ad (ml a z) (ml a z) = ad (ml a z) z := by rw [← ml_ad, ad_z, ad_z]
  exact ad_cancel this
theorem z_ml (a : K) : ml z a = z := by rw [ml_comm, ml_z]
theorem ng_unique {a b : K} (h : ad a b = z) : b = ng a := ad_cancel (h.trans (ad_ng a).symm)
theorem ng_ng (a : K) : ng (ng a) = a := (ng_unique (by rw [ad_comm, ad_ng])).symm
theorem ng_z : ng (z : K) = z := (ng_unique (ad_z z)).symm
theorem ml_ng (a b : K) : ml a (ng b) = ng (ml a b) := ng_unique (by rw [← ml_ad, ad_ng, ml_z])
theorem ng_ml (a b : K) : ml (ng a) b = ng (ml a b) := by rw [ml_comm, ml_ng, ml_comm]
theorem ng_ad (a b : K) : ng (ad a b) = ad (ng a) (ng b) := (ng_unique (by
  rw [ad_assoc, ad_left b (ng a), ← ad_assoc, ad_ng, ad_ng, ad_z])).symm
/-- Difference. -/
def sb (a b : K) : K := ad a (ng b)
theorem sb_self (a : K) : sb a a = z := ad_ng a
theorem sb_eq {a b : K} (h : sb a b = z) : a = b := by
  have : ad a (ng b) = ad b (ng b) := h.trans (ad_ng b).symm
  rw [ad_comm a, ad_comm b] at this
  exact ad_cancel this
theorem sb_ad (a b : K) : ad (sb a b) b = a := by unfold sb; rw [ad_assoc, ad_comm (ng b), ad_ng, ad_z]
theorem ml_sb (a b c : K) : ml a (sb b c) = sb (ml a b) (ml a c) := by unfold sb; rw [ml_ad, ml_ng]
theorem sb_ml (a b c : K) : ml (sb a b) c = sb (ml a c) (ml b c) := by rw [ml_comm, ml_sb, ml_comm c, ml_comm c]
theorem sb_sb (a b c d : K) : ad (sb a b) (sb c d) = sb (ad a c) (ad b d) := by
  unfold sb
  rw [ng_ad, ad_assoc, ad_assoc, ad_left (ng b) c]
theorem sb_left (a b c : K) : sb (ad a b) (ad a c) = sb b c := by
  unfold sb
  rw [ng_ad, ad_left (ad a b) (ng a), ← ad_assoc, ← ad_assoc, ad_comm (ng a) a, ad_ng, z_ad]
theorem ml_eq_z {a b : K} (h : ml a b = z) (ha : a ≠ z) : b = z := by
  have : ml (iv a) (ml a b) = ml (iv a) z := by rw [h]
  rw [← ml_assoc, ml_comm (iv a) a, ml_iv a ha, o_ml, ml_z] at this
  exact this
theorem ml_ne {a b : K} (ha : a ≠ z) (hb : b ≠ z) : ml a b ≠ z := fun h => hb (ml_eq_z h ha)
theorem iv_ne {a : K} (ha : a ≠ z) : iv a ≠ z := fun h => by
  have := ml_iv a ha
  rw [h, ml_z] at this
  exact o_ne this.symm
theorem iv_unique {a b : K} (h : ml a b = o) : b = iv a := by
  have ha : a ≠ z := fun e => by rw [e, z_ml] at h; exact o_ne h.symm
  have : ml (iv a) (ml a b) = ml (iv a) o := by rw [h]
  rw [← ml_assoc, ml_comm (iv a) a, ml_iv a ha, o_ml, ml_o] at this
  exact this

/-! ### Sums -/
def sm (f : Nat → K) : Nat → K
  | 0 => z
  | n + 1 => ad (sm f n) (f n)
theorem sm_congr {f g : Nat → K} : ∀ n, (∀ k, k < n → f k = g k) → sm f n = sm g n
  | 0, _ => rfl
  | n + 1, h => by simp only [sm]; rw [sm_congr n fun k hk => h k (by omega), h n (by omega)]
theorem sm_z {f : Nat → K} : ∀ n, (∀ k, k < n → f k = z) → sm f n = z
  | 0, _ => rfl
  | n + 1, h => by simp only [sm]; rw [sm_z n fun k hk => h k (by omega), h n (by omega), ad_z]
theorem sm_ad (f g : Nat → K) : ∀ n, sm (fun k => ad (f k) (g k)) n = ad (sm f n) (sm g n)
  | 0 => (ad_z z).symm
  | n + 1 => by
    simp only [sm]
    rw [sm_ad f g n, ad_assoc, ad_left (sm g n), ← ad_assoc]
theorem sm_ml (c : K) (f : Nat → K) : ∀ n, sm (fun k => ml c (f k)) n = ml c (sm f n)
  | 0 => (ml_z c).symm
  | n + 1 => by
    simp only [sm]
    rw [sm_ml c f n, ml_ad]
theorem sm_swap (f : Nat → Nat → K) (m : Nat) : ∀ n, sm (fun k => sm (f k) m) n = sm (fun h => sm (fun k => f k h) n) m
  | 0 => by
    simp only [sm]
    exact (sm_z m fun _ _ => rfl).symm
  | n + 1 => by
    simp only [sm]
    rw [sm_swap f m n, ← sm_ad]
/-- A sum with one term. -/
theorem sm_one {f : Nat → K} {i : Nat} : ∀ n, i < n → (∀ k, k < n → k ≠ i → f k = z) → sm f n = f i
  | 0, h, _ => absurd h (by omega)
  | n + 1, h, hf => by
    simp only [sm]
    by_cases e : i = n
    · subst e
      rw [sm_z i fun k hk => hf k (by omega) (by omega), z_ad]
    · rw [sm_one n (by omega) fun k hk => hf k (by omega), hf n (by omega) (by omega), ad_z]
/-- A product, but for one factor. -/
def pm (f : Nat → K) : Nat → K
  | 0 => o
  | n + 1 => ml (pm f n) (f n)
theorem pm_z {f : Nat → K} {i : Nat} : ∀ n, i < n → f i = z → pm f n = z
  | 0, h, _ => absurd h (by omega)
  | n + 1, h, hf => by
    simp only [pm]
    by_cases e : i = n
    · subst e; rw [hf, ml_z]
    · rw [pm_z n (by omega) hf, z_ml]
theorem pm_o {f : Nat → K} : ∀ n, (∀ k, k < n → f k = o) → pm f n = o
  | 0, _ => rfl
  | n + 1, h => by simp only [pm]; rw [pm_o n fun k hk => h k (by omega), h n (by omega), ml_o]
theorem pm_congr {f g : Nat → K} : ∀ n, (∀ k, k < n → f k = g k) → pm f n = pm g n
  | 0, _ => rfl
  | n + 1, h => by simp only [pm]; rw [pm_congr n fun k hk => h k (by omega), h n (by omega)]

/-! ### Polynomials -/
def ev : List K → K → K
  | [], _ => z
  | a :: l, x => ad a (ml x (ev l x))
def quo : List K → K → List K
  | [], _ => []
  | _ :: l, r => match l with
    | [] => []
    | b :: t => ev (b :: t) r :: quo (b :: t) r
theorem quo_length : ∀ (l : List K) (r : K), (quo l r).length = l.length - 1
  | [], _ => rfl
  | [_], _ => rfl
  | _ :: b :: t, r => by
    simp only [quo, List.length_cons]
    rw [quo_length (b :: t) r]
    simp
theorem quo_ev : ∀ (l : List K) (r x : K), sb (ev l x) (ev l r) = ml (sb x r) (ev (quo l r) x)
  | [], r, x => by simp only [quo, ev]; rw [sb_self, ml_z]
  | [a], r, x => by simp only [quo, ev]; rw [ml_z x, ml_z r, sb_self, ml_z]
  | a :: b :: t, r, x => by
    have ih := quo_ev (b :: t) r x
    simp only [quo]
    show sb (ad a (ml x (ev (b :: t) x))) (ad a (ml r (ev (b :: t) r))) = ml (sb x r) (ad (ev (b :: t) r) (ml x (ev (quo (b :: t) r) x)))
    generalize ev (b :: t) x = E at *
    generalize ev (b :: t) r = F at *
    generalize ev (quo (b :: t) r) x = G at *
    rw [ml_ad, ml_left (sb x r) x G, ← ih, ml_sb, sb_ml]
    rw [sb_sb, ad_comm (ml r F), sb_left, sb_left]
/-- As many zeros as coefficients. -/
theorem ev_zero : ∀ (n : Nat) (l : List K), l.length ≤ n → ∀ (p : Nat → K), (∀ i j, i < n → j < n → p i = p j → i = j) → (∀ i, i < n → ev l (p i) = z) → ∀ x, ev l x = z
  | 0, l, hl, _, _, _, x => by
    have : l = [] := List.eq_nil_of_length_eq_zero (by omega)
    subst this; rfl
  | n + 1, l, hl, p, hp, hz, x => by
    have h0 := hz n (by omega)
    have hq := ev_zero n (quo l (p n)) (by rw [quo_length]; omega) p (fun i j hi hj => hp i j (by omega) (by omega)) fun i hi => by
      have e := quo_ev l (p n) (p i)
      rw [hz i (by omega), h0, sb_self] at e
      exact ml_eq_z e.symm fun h => by have := hp i n (by omega) (by omega) (sb_eq h); omega
    have e := quo_ev l (p n) x
    rw [hq x, ml_z, h0] at e
    exact sb_eq e

/-- A function that is a polynomial of at most d coefficients. -/
def Pl (d : Nat) (f : K → K) : Prop := ∃ l : List K, l.length ≤ d ∧ ∀ x, ev l x = f x
theorem Pl.congr {d : Nat} {f g : K → K} (h : Pl d f) (e : ∀ x, f x = g x) : Pl d g := by
  obtain ⟨l, h1, h2⟩ := h
  exact ⟨l, h1, fun x => (h2 x).trans (e x)⟩
theorem Pl.more {d e : Nat} {f : K → K} (h : Pl d f) (hd : d ≤ e) : Pl e f := by
  obtain ⟨l, h1, h2⟩ := h
  exact ⟨l, by omega, h2⟩
theorem Pl.zero (d : Nat) : Pl d (fun _ : K => z) := ⟨[], Nat.zero_le _, fun _ => rfl⟩
theorem Pl.const (c : K) : Pl 1 (fun _ : K => c) := ⟨[c], Nat.le_refl _, fun x => by simp only [ev]; rw [ml_z, ad_z]⟩
def adl : List K → List K → List K
  | [], m => m
  | l, [] => l
  | a :: l, b :: m => ad a b :: adl l m
theorem adl_length : ∀ l m : List K, (adl l m).length = max l.length m.length
  | [], m => by simp [adl]
  | a :: l, [] => by simp [adl]
  | a :: l, b :: m => by simp only [adl, List.length_cons]; rw [adl_length l m]; omega
theorem adl_ev (x : K) : ∀ l m : List K, ev (adl l m) x = ad (ev l x) (ev m x)
  | [], m => by simp only [adl, ev]; rw [z_ad]
  | a :: l, [] => by simp only [adl, ev]; rw [ad_z]
  | a :: l, b :: m => by
    simp only [adl, ev]
    rw [adl_ev x l m, ml_ad, ad_assoc, ad_left b, ← ad_assoc]
theorem Pl.ad {d : Nat} {f g : K → K} (h : Pl d f) (h' : Pl d g) : Pl d (fun x => ad (f x) (g x)) := by
  obtain ⟨l, h1, h2⟩ := h
  obtain ⟨m, h3, h4⟩ := h'
  exact ⟨adl l m, by rw [adl_length]; omega, fun x => by rw [adl_ev, h2, h4]⟩
theorem sc_ev (c x : K) : ∀ l : List K, ev (l.map (ml c)) x = ml c (ev l x)
  | [] => by simp only [List.map_nil, ev]; rw [ml_z]
  | a :: l => by
    simp only [List.map_cons, ev]
    rw [sc_ev c x l, ml_ad, ml_left x c]
theorem Pl.ml {d : Nat} {f : K → K} (c : K) (h : Pl d f) : Pl d (fun x => ml c (f x)) := by
  obtain ⟨l, h1, h2⟩ := h
  exact ⟨l.map (Fld.ml c), by rw [List.length_map]; exact h1, fun x => by rw [sc_ev, h2]⟩
theorem Pl.shift {d : Nat} {f : K → K} (h : Pl d f) : Pl (d + 1) (fun x => Fld.ml x (f x)) := by
  obtain ⟨l, h1, h2⟩ := h
  exact ⟨z :: l, by simp; omega, fun x => by simp only [ev]; rw [h2, z_ad]⟩
theorem Pl.lin {d : Nat} {f : K → K} (h : Pl d f) (q c : K) : Pl (d + 1) (fun x => Fld.ml (f x) (Fld.ml (sb x q) c)) :=
  ((h.shift.ad ((h.more (Nat.le_succ d)).ml (ng q))).ml c).congr fun x => by
    unfold sb
    rw [← ad_ml, ml_comm c, ml_comm (Fld.ad x (ng q)), ml_assoc]
theorem Pl.sum {d : Nat} {f : Nat → K → K} : ∀ n, (∀ k, k < n → Pl d (f k)) → Pl d (fun x => sm (fun k => f k x) n)
  | 0, _ => Pl.zero d
  | n + 1, h => (Pl.sum n fun k hk => h k (by omega)).ad (h n (by omega))
/-- Two that agree often enough are one. -/
theorem Pl.unique {n : Nat} {f g : K → K} (hf : Pl n f) (hg : Pl n g) (p : Nat → K) (hp : ∀ i j, i < n → j < n → p i = p j → i = j) (h : ∀ i, i < n → f (p i) = g (p i)) (x : K) : f x = g x := by
  have hd : Pl n (fun x => sb (f x) (g x)) := (hf.ad (hg.ml (ng o))).congr fun x => by
    unfold sb
    rw [ng_ml, o_ml]
  obtain ⟨l, h1, h2⟩ := hd
  have := ev_zero n l h1 p hp (fun i hi => by rw [h2]; show sb (f (p i)) (g (p i)) = z; rw [h i hi, sb_self]) x
  rw [h2] at this
  exact sb_eq this

/-! ### Lagrange -/
/-- The factor that is 0 at the other place. -/
def lfac (p : Nat → K) (x : K) (i k : Nat) : K := if k = i then o else Fld.ml (sb x (p k)) (iv (sb (p i) (p k)))
def lag (p b : Nat → K) (n : Nat) (x : K) : K := sm (fun i => Fld.ml (b i) (pm (lfac p x i) n)) n
theorem pm_pl (p : Nat → K) (i : Nat) : ∀ n, Pl (if i < n then n else n + 1) (fun x => pm (lfac p x i) n)
  | 0 => (Pl.const o).congr fun _ => rfl
  | n + 1 => by
    have ih := pm_pl p i n
    by_cases e : n = i
    · subst e
      rw [if_neg (by omega)] at ih
      rw [if_pos (by omega)]
      exact ih.congr fun x => by
        show pm (lfac p x n) n = Fld.ml (pm (lfac p x n) n) (lfac p x n n)
        rw [show lfac p x n n = o from if_pos rfl, ml_o]
    · have h2 := ih.lin (p n) (iv (sb (p i) (p n)))
      refine (h2.more ?_).congr fun x => ?_
      · split <;> split <;> omega
      · show Fld.ml (pm (lfac p x i) n) _ = Fld.ml (pm (lfac p x i) n) (lfac p x i n)
        rw [show lfac p x i n = Fld.ml (sb x (p n)) (iv (sb (p i) (p n))) from if_neg e]
theorem lag_pl (p b : Nat → K) (n : Nat) : Pl n (lag p b n) := Pl.sum n fun i hi => by
  have := pm_pl p i n
  rw [if_pos hi] at this
  exact this.ml (b i)
theorem lag_at {p b : Nat → K} {n : Nat} (hp : ∀ i j, i < n → j < n → p i = p j → i = j) {j : Nat} (hj : j < n) : lag p b n (p j) = b j := by
  unfold lag
  rw [sm_one n hj fun i hi hij => by
    rw [pm_z n hj (show lfac p (p j) i j = z by
      unfold lfac
      rw [if_neg (fun e => hij e.symm), sb_self, z_ml]), ml_z]]
  rw [pm_o n fun k hk => ?_, ml_o]
  unfold lfac
  split
  · rfl
  · rename_i e
    exact ml_iv _ fun h => e (hp k j hk hj (sb_eq h).symm)
end Fld
end Wm
