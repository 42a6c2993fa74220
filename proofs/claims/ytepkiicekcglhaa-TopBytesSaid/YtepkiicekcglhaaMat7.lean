/-
  Plain: the determinants of Vandermonde's matrix and of Cauchy's; when a system can be solved. No program in sight.
-/
import Derived.Test.YtepkiicekcglhaaMat6
set_option linter.unusedVariables false
set_option linter.unusedSimpArgs false
set_option linter.unusedSectionVars false
namespace Wm
namespace Fld
variable {K : Type} [Fld K]
theorem pm_shift (f : Nat → K) : ∀ n, pm f (n + 1) = ml (f 0) (pm (fun k => f (k + 1)) n)
  | 0 => by show ml o (f 0) = ml (f 0) o; rw [ml_comm]
  | n + 1 => by
    show ml (pm f (n + 1)) (f (n + 1)) = ml (f 0) (ml (pm (fun k => f (k + 1)) n) (f (n + 1)))
    rw [pm_shift f n, ml_assoc]
theorem pm_ml (f g : Nat → K) : ∀ n, pm (fun k => ml (f k) (g k)) n = ml (pm f n) (pm g n)
  | 0 => (ml_o o).symm
  | n + 1 => by
    show ml (pm (fun k => ml (f k) (g k)) n) (ml (f n) (g n)) = ml (ml (pm f n) (f n)) (ml (pm g n) (g n))
    rw [pm_ml f g n, ml_assoc, ml_assoc, ml_left (pm g n)]
theorem pm_ne {f : Nat → K} : ∀ n, (∀ k, k < n → f k ≠ z) → pm f n ≠ z
  | 0, _ => o_ne
  | n + 1, h => ml_ne (pm_ne n fun k hk => h k (by omega)) (h n (by omega))
/-- Each column times a number. -/
theorem dt_cols : ∀ (n : Nat) (B : Nat → Nat → K) (s : Nat → K), dt n (fun k j => ml (B k j) (s j)) = ml (pm s n) (dt n B)
  | 0, _, _ => (ml_o o).symm
  | n + 1, B, s => by
    show sm (fun i => ml (ml (B i 0) (s 0)) (dt n (mi i fun k j => ml (B k j) (s j)))) (n + 1) = ml (pm s (n + 1)) (sm (fun i => ml (B i 0) (dt n (mi i B))) (n + 1))
    rw [← sm_ml]
    refine sm_congr (n + 1) fun i _ => ?_
    have : (mi i fun k j => ml (B k j) (s j)) = fun k j => ml (mi i B k j) (s (j + 1)) := rfl
    rw [this, dt_cols n (mi i B) (fun j => s (j + 1)), pm_shift, ml_comm (B i 0), ml_assoc, ml_assoc, ml_left (B i 0)]
/-- Powers, and Vandermonde's matrix. -/
def pw (x : K) : Nat → K
  | 0 => o
  | n + 1 => ml (pw x n) x
def vnd (x : Nat → K) : Nat → Nat → K := fun i j => pw (x i) j
/-- Each two of them, multiplied. -/
def vp (x : Nat → K) : Nat → K
  | 0 => o
  | n + 1 => ml (vp x n) (pm (fun j => ad (x n) (x j)) n)
theorem vp_shift (x : Nat → K) : ∀ n, vp x (n + 1) = ml (pm (fun i => ad (x (i + 1)) (x 0)) n) (vp (fun i => x (i + 1)) n)
  | 0 => by show ml o o = ml o o; rfl
  | n + 1 => by
    show ml (vp x (n + 1)) (pm (fun j => ad (x (n + 1)) (x j)) (n + 1)) = ml (ml (pm (fun i => ad (x (i + 1)) (x 0)) n) (ad (x (n + 1)) (x 0))) (ml (vp (fun i => x (i + 1)) n) (pm (fun j => ad (x (n + 1)) (x (j + 1))) n))
    rw [vp_shift x n, pm_shift, ml_assoc, ml_assoc, ml_left (vp (fun i => x (i + 1)) n)]
theorem dt_vnd (h2 : ∀ a : K, ad a a = z) : ∀ (n : Nat) (x : Nat → K), dt n (tr (vnd x)) = vp x n
  | 0, _ => rfl
  | n + 1, x => by
    let W : Nat → Nat → K := tr (vnd x)
    let E : Nat → Nat → Nat → K := fun t j i => if t ≤ j ∧ 1 ≤ j then ad (W j i) (ml (x 0) (W (j - 1) i)) else W j i
    have step : ∀ d, d ≤ n → dt (n + 1) (E (n + 1 - d)) = dt (n + 1) W := fun d => by
      induction d with
      | zero =>
        intro _
        refine dt_congr (n + 1) fun j i hj _ => ?_
        show (if n + 1 - 0 ≤ j ∧ 1 ≤ j then _ else W j i) = W j i
        rw [if_neg (by omega)]
      | succ d ih =>
        intro hd
        rw [← ih (by omega)]
        obtain ⟨t, ht⟩ : ∃ t, t = n + 1 - (d + 1) := ⟨_, rfl⟩
        rw [← ht, show n + 1 - d = t + 1 by omega]
        have ht1 : 1 ≤ t := by omega
        have h := (dt_alt h2 (n + 1)).add (E (t + 1)) (r := t) (s := t - 1) (by omega) (by omega) (by omega) (x 0)
        rw [← h]
        congr 1
        funext j i
        by_cases c : j = t
        · subst c
          rw [setr_at]
          show (if j ≤ j ∧ 1 ≤ j then _ else _) = ad (if j + 1 ≤ j ∧ 1 ≤ j then _ else W j i) (ml (x 0) (if j + 1 ≤ j - 1 ∧ 1 ≤ j - 1 then _ else W (j - 1) i))
          rw [if_pos ⟨Nat.le_refl _, ht1⟩, if_neg (by omega), if_neg (by omega)]
        · rw [setr_ne _ _ c]
          show (if t ≤ j ∧ 1 ≤ j then _ else W j i) = if t + 1 ≤ j ∧ 1 ≤ j then _ else W j i
          by_cases e : t + 1 ≤ j
          · rw [if_pos ⟨by omega, by omega⟩, if_pos ⟨e, by omega⟩]
          · rw [if_neg (by omega), if_neg (by omega)]
    have h1 := step n (Nat.le_refl _)
    rw [show n + 1 - n = 1 by omega] at h1
    show dt (n + 1) W = vp x (n + 1)
    rw [← h1]
    have hz : ∀ i, E 1 i 0 = if i = 0 then o else z := fun i => by
      show (if 1 ≤ i ∧ 1 ≤ i then ad (W i 0) (ml (x 0) (W (i - 1) 0)) else W i 0) = _
      by_cases c : i = 0
      · subst c; rw [if_neg (by omega), if_pos rfl]; rfl
      · rw [if_pos ⟨by omega, by omega⟩, if_neg c]
        obtain ⟨m, rfl⟩ : ∃ m, i = m + 1 := ⟨i - 1, by omega⟩
        show ad (ml (pw (x 0) m) (x 0)) (ml (x 0) (pw (x 0) m)) = z
        rw [ml_comm, h2]
    show sm (fun i => ml (E 1 i 0) (dt n (mi i (E 1)))) (n + 1) = vp x (n + 1)
    rw [sm_one (i := 0) (n + 1) (by omega) fun k _ hk => by rw [hz, if_neg hk, z_ml], hz, if_pos rfl, o_ml, vp_shift]
    have hm : mi 0 (E 1) = fun k j => ml (tr (vnd fun i => x (i + 1)) k j) (ad (x (j + 1)) (x 0)) := by
      funext k j
      show (if 1 ≤ skip 0 k ∧ 1 ≤ skip 0 k then ad (W (skip 0 k) (j + 1)) (ml (x 0) (W (skip 0 k - 1) (j + 1))) else W (skip 0 k) (j + 1)) = _
      have hs : skip 0 k = k + 1 := by unfold skip; rw [if_neg (by omega)]
      rw [hs, if_pos ⟨by omega, by omega⟩]
      show ad (ml (pw (x (j + 1)) k) (x (j + 1))) (ml (x 0) (pw (x (j + 1)) k)) = ml (pw (x (j + 1)) k) (ad (x (j + 1)) (x 0))
      rw [ml_ad, ml_comm (x 0)]
    rw [hm, dt_cols, dt_vnd h2 n]
theorem vp_ne {x : Nat → K} (h2 : ∀ a : K, ad a a = z) : ∀ n, (∀ i j, j < i → i < n → x i ≠ x j) → vp x n ≠ z
  | 0, _ => o_ne
  | n + 1, h => ml_ne (vp_ne h2 n fun i j hj hi => h i j hj (by omega)) (pm_ne n fun j hj e => h n j hj (by omega) (by
    have e2 : ad (x j) (x n) = ad (x j) (x j) := by rw [ad_comm, e, h2]
    exact ad_cancel e2))
/-- Done, and Vandermonde: the product of all. -/
theorem Done.vnd (h2 : ∀ a : K, ad a a = z) {n : Nat} {x : Nat → K} {d : K} (h : Done n (vnd x) d) : d = vp x n := by
  have := h.val (dr_alt h2 n)
  rw [dr_id, ml_o] at this
  rw [← this]
  exact dt_vnd h2 n x

/-! ### Cauchy -/
theorem cauchy_null (h2 : ∀ a : K, ad a a = z) {n : Nat} {x y v : Nat → K} (hx : ∀ i j, i < n → j < n → x i = x j → i = j) (hy : ∀ i j, i < n → j < n → y i = y j → i = j) (hxy : ∀ i j, i < n → j < n → x i ≠ y j)
    (h : ∀ j, j < n → sm (fun i => ml (v i) (iv (ad (x i) (y j)))) n = z) : ∀ i, i < n → v i = z := by
  have ng2 : ∀ a : K, ng a = a := fun a => (ng_unique (h2 a)).symm
  have sb2 : ∀ a b : K, sb a b = ad a b := fun a b => by unfold sb; rw [ng2]
  have ad_ne : ∀ a b : K, a ≠ b → ad a b ≠ z := fun a b hne e => hne (sb_eq (by rw [sb2]; exact e))
  -- the numbers of Lagrange's form
  let D : Nat → K := fun i => pm (fun k => if k = i then o else sb (x i) (x k)) n
  have hD : ∀ i, i < n → D i ≠ z := fun i hi => pm_ne n fun k hk => by
    by_cases c : k = i
    · rw [if_pos c]; exact o_ne
    · rw [if_neg c, sb2]; exact ad_ne _ _ fun e => c (hx k i hk hi e.symm)
  have hlag : ∀ t, (∀ k, k < n → t ≠ x k) → lag x (fun i => ml (v i) (D i)) n t = ml (pm (fun k => sb t (x k)) n) (sm (fun i => ml (v i) (iv (ad (x i) t))) n) := fun t ht => by
    rw [← sm_ml]
    refine sm_congr n fun i hi => ?_
    have e1 : ml (D i) (pm (lfac x t i) n) = pm (fun k => if k = i then o else sb t (x k)) n := by
      rw [← pm_ml]
      refine pm_congr n fun k hk => ?_
      unfold lfac
      by_cases c : k = i
      · rw [if_pos c, if_pos c, if_pos c, ml_o]
      · rw [if_neg c, if_neg c, if_neg c, ml_left, ml_iv _ (by rw [sb2]; exact ad_ne _ _ fun e => c (hx k i hk hi e.symm)), ml_o]
    have e2 : ml (pm (fun k => if k = i then o else sb t (x k)) n) (sb t (x i)) = pm (fun k => sb t (x k)) n := by
      have : ∀ m, ml (pm (fun k => if k = i then o else sb t (x k)) m) (if i < m then sb t (x i) else o) = pm (fun k => sb t (x k)) m := fun m => by
        induction m with
        | zero => show ml o (if i < 0 then _ else o) = o; rw [if_neg (by omega), ml_o]
        | succ m ih =>
          show ml (ml (pm (fun k => if k = i then o else sb t (x k)) m) (if m = i then o else sb t (x m))) (if i < m + 1 then sb t (x i) else o) = ml (pm (fun k => sb t (x k)) m) (sb t (x m))
          rw [← ih]
          by_cases c : m = i
          · subst c; rw [if_pos rfl, if_pos (by omega), if_neg (by omega), ml_o]
          · rw [if_neg c]
            by_cases d : i < m
            · rw [if_pos d, if_pos (by omega), ml_assoc, ml_assoc, ml_comm (sb t (x m))]
            · rw [if_neg d, if_neg (by omega), ml_o, ml_o]
      have := this n
      rwa [if_pos hi] at this
    have hne : sb t (x i) ≠ z := by rw [sb2]; exact ad_ne _ _ (ht i hi)
    show ml (ml (v i) (D i)) (pm (lfac x t i) n) = ml (pm (fun k => sb t (x k)) n) (ml (v i) (iv (ad (x i) t)))
    rw [ml_assoc, e1, ← e2, ad_comm (x i) t, ← sb2 t (x i), ml_left _ (v i), ml_assoc _ (sb t (x i)), ml_iv _ hne, ml_o]
  have hzero : ∀ t, lag x (fun i => ml (v i) (D i)) n t = z := Pl.unique (lag_pl _ _ n) (Pl.zero n) y hy fun j hj => by
    rw [hlag (y j) (fun k hk e => hxy k j hk hj e.symm), h j hj, ml_z]
  intro i hi
  have := hzero (x i)
  rw [lag_at hx hi] at this
  rw [ml_comm] at this
  exact ml_eq_z this (hD i hi)

/-! ### Rouche, Capelli -/
/-- A system that is solved: the column beside makes no difference to the rank. -/
theorem Rk.beside {n l r s : Nat} {A : Nat → Nat → K} {b u : Nat → K} (hA : Rk n l r A) (hB : Rk n (l + 1) s (beside l A b)) (h : ∀ i, i < n → sm (fun j => ml (A i j) (u j)) l = b i) : s = r := by
  have h1 : s ≤ r := by
    obtain ⟨X, Y, _, _, hX, _⟩ := hA
    refine hB.least (X := X) (Y := fun k j => if j < l then Y k j else sm (fun t => ml (Y k t) (u t)) l) fun i j hi hj => ?_
    show (if j < l then A i j else b i) = sm (fun k => ml (X i k) (if j < l then Y k j else _)) r
    by_cases c : j < l
    · rw [if_pos c, hX i j hi c]
      exact sm_congr r fun k _ => by rw [if_pos c]
    · rw [if_neg c, ← h i hi]
      have e1 : sm (fun t => ml (A i t) (u t)) l = sm (fun t => sm (fun k => ml (X i k) (ml (Y k t) (u t))) r) l := sm_congr l fun t ht => by
        rw [hX i t hi ht]
        show ml (sm (fun k => ml (X i k) (Y k t)) r) (u t) = _
        rw [← sm_ml_right]
        exact sm_congr r fun k _ => ml_assoc _ _ _
      rw [e1, sm_swap]
      exact sm_congr r fun k _ => by rw [if_neg c]; exact sm_ml _ _ _
  have h2 : r ≤ s := by
    obtain ⟨X, Y, _, _, hX, _⟩ := hB
    refine hA.least (X := X) (Y := Y) fun i j hi hj => ?_
    have := hX i j hi (by omega)
    unfold Fld.beside at this
    rwa [if_pos hj] at this
  omega
theorem rank_of {n l : Nat} {A M P Q : Nat → Nat → K} {pv : List Nat} (hP : Eqm n l (mm n P A) M) (hQ : Eqm n l (mm n Q M) A) (len : pv.length ≤ n) (lt : ∀ t, t < pv.length → pv.getD t 0 < l)
    (unit : ∀ t, t < pv.length → ∀ i, i < n → M i (pv.getD t 0) = if i = t then o else z) (none : ∀ i j, pv.length ≤ i → i < n → j < l → M i j = z) : Rk n l pv.length A := by
  refine ⟨Q, M, P, fun j t => if j = pv.getD t 0 then o else z, ?_, ?_⟩
  · refine hQ.symm.trans fun i j hi hj => ?_
    exact sm_cut len fun k hk hkn => by rw [none k j hk hkn hj, ml_z]
  · intro i t hi ht
    have e : mm n P (mm l A fun j t => if j = pv.getD t 0 then o else z) i t = mm l M (fun j t => if j = pv.getD t 0 then o else z) i t := by
      rw [← mm_assoc]
      exact mm_left (m := n) (l := pv.length) _ hP i t (by omega) ht
    rw [e]
    show sm (fun j => ml (M i j) (if j = pv.getD t 0 then o else z)) l = _
    rw [sm_one (i := pv.getD t 0) l (lt t ht) fun k _ hk => by rw [if_neg hk, ml_z], if_pos rfl, ml_o, unit t ht i (by omega)]
    rfl
/-- One that can't be: the rank is one more. -/
theorem Ech.beside {n l r s : Nat} {A M : Nat → Nat → K} {b : Nat → K} {pv : List Nat} {d : K} (E : Ech n (l + 1) (beside l A b) M pv l d) (hA : Rk n l r A) (hB : Rk n (l + 1) s (beside l A b)) {i : Nat} (hi : pv.length ≤ i) (hin : i < n) (hne : M i l ≠ z) (h2 : ∀ a : K, ad a a = z) : s ≠ r := by
  obtain ⟨P, Q, hI, hP, hQ⟩ := E.rw_
  obtain ⟨W, hW⟩ : ∃ W, W = Fld.beside l A b := ⟨_, rfl⟩
  rw [← hW] at hP hQ hB
  have hAw : ∀ i j, j < l → W i j = A i j := fun i j hj => by rw [hW]; unfold Fld.beside; rw [if_pos hj]
  have hr : r = pv.length := hA.unique (rank_of (P := P) (Q := Q) (M := M) (fun i j hi hj => by
      rw [← hP i j hi (by omega)]
      exact sm_congr n fun k hk => by rw [hAw k j hj]) (fun i j hi hj => by
      rw [← hAw i j hj]; exact hQ i j hi (by omega)) E.len E.lt E.unit E.none)
  obtain ⟨e, he⟩ : ∃ e, e = iv (M i l) := ⟨_, rfl⟩
  let L : Nat → Nat → K := fun t k => if t < pv.length then ad (P t k) (ml (ml (M t l) e) (P i k)) else ml e (P i k)
  let C : Nat → Nat → K := fun j u => if j = (if u < pv.length then pv.getD u 0 else l) then o else z
  have hLW : ∀ t j, t < pv.length + 1 → j < l + 1 → mm n L W t j = if t < pv.length then ad (M t j) (ml (ml (M t l) e) (M i j)) else ml e (M i j) := fun t j ht hj => by
    have hMi : sm (fun k => ml (P i k) (W k j)) n = M i j := hP i j hin hj
    by_cases c : t < pv.length
    · rw [if_pos c]
      have hMt : sm (fun k => ml (P t k) (W k j)) n = M t j := hP t j (by have := E.len; omega) hj
      rw [← hMt, ← hMi, ← sm_ml, ← sm_ad]
      refine sm_congr n fun k _ => ?_
      show ml (if t < pv.length then _ else _) (W k j) = _
      rw [if_pos c, ad_ml, ml_assoc (ml _ e)]
    · rw [if_neg c, ← hMi, ← sm_ml]
      refine sm_congr n fun k _ => ?_
      show ml (if t < pv.length then _ else _) (W k j) = _
      rw [if_neg c, ml_assoc]
  have hcol : ∀ u, (if u < pv.length then pv.getD u 0 else l) < l + 1 := fun u => by
    by_cases c : u < pv.length
    · rw [if_pos c]; have := E.lt u c; omega
    · rw [if_neg c]; omega
  have hid : Eqm (pv.length + 1) (pv.length + 1) (mm (l + 1) (mm n L W) C) idm := fun t u ht hu => by
    show sm (fun j => ml (mm n L W t j) (if j = (if u < pv.length then pv.getD u 0 else l) then o else z)) (l + 1) = _
    rw [sm_one (i := if u < pv.length then pv.getD u 0 else l) (l + 1) (hcol u) fun k _ hk => by rw [if_neg hk, ml_z], if_pos rfl, ml_o, hLW t _ ht (hcol u)]
    unfold idm
    by_cases cu : u < pv.length
    · rw [if_pos cu]
      have hi0 : M i (pv.getD u 0) = z := by rw [E.unit u cu i hin, if_neg (by omega)]
      rw [hi0, ml_z, ml_z, ad_z]
      by_cases ct : t < pv.length
      · rw [if_pos ct, E.unit u cu t (by have := E.len; omega)]
      · rw [if_neg ct, if_neg (by omega)]
    · rw [if_neg cu]
      by_cases ct : t < pv.length
      · rw [if_pos ct, ml_assoc, ml_comm e, he, ml_iv _ hne, ml_o, h2, if_neg (by omega)]
      · rw [if_neg ct, ml_comm, he, ml_iv _ hne, if_pos (by omega)]
  obtain ⟨X, Y, _, _, hX, _⟩ := hB
  have hthin : Eqm (pv.length + 1) (pv.length + 1) (mm s (mm n L X) (mm (l + 1) Y C)) idm := by
    refine Eqm.trans (fun t u ht hu => ?_) hid
    have e1 : mm (l + 1) (mm n L W) C = mm n L (mm (l + 1) W C) := mm_assoc n (l + 1) L W C
    have e2 : mm s (mm n L X) (mm (l + 1) Y C) = mm n L (mm (l + 1) (mm s X Y) C) := by rw [mm_assoc, ← mm_assoc s (l + 1) X Y C]
    rw [e1, e2]
    exact sm_congr n fun k hk => by
      congr 1
      exact sm_congr (l + 1) fun j hj => by rw [hX k j hk hj]
  have := no_thin hthin
  omega
end Fld
end Wm
