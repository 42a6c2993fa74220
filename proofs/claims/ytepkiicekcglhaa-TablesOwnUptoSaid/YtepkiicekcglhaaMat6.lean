/-
  Plain: steps between rows that can be undone; a matrix brought into reduced form, and what it tells. No program in sight.
-/
import Derived.Test.YtepkiicekcglhaaMat5
set_option linter.unusedVariables false
set_option linter.unusedSimpArgs false
set_option linter.unusedSectionVars false
namespace Wm
theorem getD_app_l {α : Type} (l m : List α) (d : α) {k : Nat} (h : k < l.length) : (l ++ m).getD k d = l.getD k d := by
  rw [List.getD_eq_getElem?_getD, List.getElem?_append_left h, ← List.getD_eq_getElem?_getD]
theorem getD_app_r {α : Type} (l m : List α) (d : α) {k : Nat} (h : l.length ≤ k) : (l ++ m).getD k d = m.getD (k - l.length) d := by
  rw [List.getD_eq_getElem?_getD, List.getElem?_append_right h, ← List.getD_eq_getElem?_getD]
namespace Fld
variable {K : Type} [Fld K]
/-- The same by steps between rows that can be undone. -/
def Rw (n l : Nat) (A B : Nat → Nat → K) : Prop := ∃ P Q, Inv n P Q ∧ Eqm n l (mm n P A) B ∧ Eqm n l (mm n Q B) A
theorem Inv.id (n : Nat) : Inv n (idm : Nat → Nat → K) idm := ⟨mm_id _, mm_id _⟩
theorem Rw.refl (n l : Nat) (A : Nat → Nat → K) : Rw n l A A := ⟨idm, idm, Inv.id n, id_mm A, id_mm A⟩
theorem Rw.trans {n l : Nat} {A B C : Nat → Nat → K} (h : Rw n l A B) (k : Rw n l B C) : Rw n l A C := by
  obtain ⟨P, Q, i, p, q⟩ := h
  obtain ⟨P', Q', i', p', q'⟩ := k
  refine ⟨mm n P' P, mm n Q Q', i'.mul i, ?_, ?_⟩
  · rw [mm_assoc]; exact (mm_right P' p).trans p'
  · rw [mm_assoc]; exact (mm_right Q q').trans q
theorem Rw.congr {n l : Nat} {A B B' : Nat → Nat → K} (h : Rw n l A B) (k : Eqm n l B B') : Rw n l A B' := by
  obtain ⟨P, Q, i, p, q⟩ := h
  exact ⟨P, Q, i, p.trans k, (mm_right Q k.symm).trans q⟩
/-- Two rows exchanged. -/
def swp (p q i : Nat) : Nat := if i = p then q else if i = q then p else i
theorem swp_swp (p q i : Nat) : swp p q (swp p q i) = i := by
  unfold swp
  by_cases a : i = p
  · subst a; rw [if_pos rfl]
    by_cases b : q = i
    · subst b; rw [if_pos rfl]
    · rw [if_neg b, if_pos rfl]
  · rw [if_neg a]
    by_cases b : i = q
    · subst b; rw [if_pos rfl, if_pos rfl]
    · rw [if_neg b, if_neg a, if_neg b]
theorem swp_lt {p q i n : Nat} (hp : p < n) (hq : q < n) (hi : i < n) : swp p q i < n := by
  unfold swp; split
  · exact hq
  · split
    · exact hp
    · exact hi
theorem Rw.swap {n l : Nat} (A : Nat → Nat → K) {p q : Nat} (hp : p < n) (hq : q < n) : Rw n l A (fun i => A (swp p q i)) := by
  let P : Nat → Nat → K := fun i j => if j = swp p q i then o else z
  have hm : ∀ (l : Nat) (B : Nat → Nat → K), Eqm n l (mm n P B) (fun i => B (swp p q i)) := fun l B i j hi hj => by
    show sm (fun k => ml (if k = swp p q i then o else z) (B k j)) n = _
    rw [sm_one (i := swp p q i) n (swp_lt hp hq hi) fun k _ hk => by rw [if_neg hk, z_ml], if_pos rfl, o_ml]
  have hi : Eqm n n (mm n P P) idm := (hm n P).trans fun i j _ _ => by
    show (if j = swp p q (swp p q i) then o else z) = if i = j then o else z
    rw [swp_swp]
    by_cases e : i = j
    · rw [if_pos e, if_pos e.symm]
    · rw [if_neg e, if_neg fun h => e h.symm]
  refine ⟨P, P, ⟨hi, hi⟩, hm l A, (hm l _).trans fun i j _ _ => ?_⟩
  show A (swp p q (swp p q i)) j = A i j
  rw [swp_swp]
theorem Red.swap (h2 : ∀ a : K, ad a a = z) {n : Nat} (A : Nat → Nat → K) {p q : Nat} (hp : p < n) (hq : q < n) : Red n A o (fun i => A (swp p q i)) := fun f hf => by
  rw [o_ml]
  by_cases e : p = q
  · subst e
    congr 1
    funext i
    unfold swp
    by_cases a : i = p
    · rw [if_pos a, a]
    · rw [if_neg a, if_neg a]
  · rw [← hf.swap h2 A hp hq e]
    congr 1
    funext i
    unfold swp
    by_cases a : i = p
    · subst a; rw [if_pos rfl, setr_ne _ _ e, setr_at]
    · rw [if_neg a]
      by_cases b : i = q
      · subst b; rw [if_pos rfl, setr_at]
      · rw [if_neg b, setr_ne _ _ b, setr_ne _ _ a]
/-- A row, times a number. -/
def scl (A : Nat → Nat → K) (r : Nat) (c : K) : Nat → Nat → K := fun i j => if i = r then ml (A i j) c else A i j
theorem Rw.scale {n l : Nat} (A : Nat → Nat → K) (r : Nat) {c : K} (hc : c ≠ z) : Rw n l A (scl A r c) := by
  let D : K → Nat → Nat → K := fun c i j => if j = i then (if i = r then c else o) else z
  have hm : ∀ (c : K) (l : Nat) (B : Nat → Nat → K), Eqm n l (mm n (D c) B) (scl B r c) := fun c l B i j hi hj => by
    show sm (fun k => ml (if k = i then (if i = r then c else o) else z) (B k j)) n = _
    rw [sm_one (i := i) n hi fun k _ hk => by rw [if_neg hk, z_ml], if_pos rfl]
    unfold scl
    by_cases e : i = r
    · rw [if_pos e, if_pos e, ml_comm]
    · rw [if_neg e, if_neg e, o_ml]
  have hi : ∀ c d : K, ml c d = o → Eqm n n (mm n (D c) (D d)) idm := fun c d h => (hm c n (D d)).trans fun i j _ _ => by
    show (if i = r then ml (if j = i then (if i = r then d else o) else z) c else (if j = i then (if i = r then d else o) else z)) = if i = j then o else z
    by_cases e : i = j
    · subst e
      by_cases a : i = r
      · rw [if_pos a, if_pos rfl, if_pos a, if_pos rfl, ml_comm, h]
      · rw [if_neg a, if_pos rfl, if_neg a, if_pos rfl]
    · have e' : ¬ j = i := fun h => e h.symm
      rw [if_neg e', if_neg e, z_ml]
      split <;> rfl
  refine ⟨D c, D (iv c), ⟨hi _ _ (ml_iv c hc), hi _ _ (by rw [ml_comm]; exact ml_iv c hc)⟩, hm c l A, (hm (iv c) l _).trans fun i j _ _ => ?_⟩
  unfold scl
  by_cases a : i = r
  · rw [if_pos a, if_pos a, ml_assoc, ml_iv c hc, ml_o]
  · rw [if_neg a, if_neg a]
theorem Red.scale {n : Nat} (A : Nat → Nat → K) {r : Nat} (hr : r < n) {x : K} (hx : x ≠ z) : Red n A x (scl A r (iv x)) := fun f hf => by
  have h := hf.scale A hr (iv x)
  have e : scl A r (iv x) = setr A r (fun j => ml (iv x) (A r j)) := by
    funext i j
    unfold scl
    by_cases a : i = r
    · subst a; rw [if_pos rfl, setr_at, ml_comm]
    · rw [if_neg a, setr_ne _ _ a]
  rw [e, h, ← ml_assoc, ml_iv x hx, o_ml]
/-- To each row a multiple of one of them. -/
def elm (A : Nat → Nat → K) (r : Nat) (y : Nat → K) (t : Nat) : Nat → Nat → K := fun i j => if i < t then ad (A i j) (ml (A r j) (y i)) else A i j
theorem Rw.elim (h2 : ∀ a : K, ad a a = z) {n l : Nat} (A : Nat → Nat → K) {r : Nat} (hr : r < n) {y : Nat → K} (hy : y r = z) : Rw n l A (elm A r y n) := by
  let P : Nat → Nat → K := fun i k => ad (if k = i then o else z) (if k = r then y i else z)
  have hm : ∀ (l : Nat) (B : Nat → Nat → K), Eqm n l (mm n P B) (elm B r y n) := fun l B i j hi hj => by
    show sm (fun k => ml (ad (if k = i then o else z) (if k = r then y i else z)) (B k j)) n = _
    rw [sm_congr (g := fun k => ad (ml (if k = i then o else z) (B k j)) (ml (if k = r then y i else z) (B k j))) n fun k _ => ad_ml _ _ _, sm_ad,
      sm_one (f := fun k => ml (if k = i then o else z) (B k j)) (i := i) n hi fun k _ hk => by rw [if_neg hk, z_ml],
      sm_one (f := fun k => ml (if k = r then y i else z) (B k j)) (i := r) n hr fun k _ hk => by rw [if_neg hk, z_ml]]
    unfold elm
    rw [if_pos rfl, if_pos rfl, if_pos hi, o_ml, ml_comm (y i)]
  have hi : Eqm n n (mm n P P) idm := (hm n P).trans fun i j hi _ => by
    unfold elm
    rw [if_pos hi]
    show ad (ad (if j = i then o else z) (if j = r then y i else z)) (ml (ad (if j = r then o else z) (if j = r then y r else z)) (y i)) = if i = j then o else z
    rw [hy]
    by_cases a : j = r
    · rw [if_pos a, if_pos a, if_pos a, ad_z, o_ml, ad_assoc, h2, ad_z]
      by_cases e : i = j
      · rw [if_pos e, if_pos e.symm]
      · rw [if_neg e, if_neg fun h => e h.symm]
    · rw [if_neg a, if_neg a, if_neg a, ad_z, ad_z, z_ml, ad_z]
      by_cases e : i = j
      · rw [if_pos e, if_pos e.symm]
      · rw [if_neg e, if_neg fun h => e h.symm]
  refine ⟨P, P, ⟨hi, hi⟩, hm l A, (hm l _).trans fun i j hi hj => ?_⟩
  unfold elm
  rw [if_pos hi, if_pos hi, if_pos hr, hy, ml_z, ad_z, ad_assoc, h2, ad_z]
theorem Red.elim (n : Nat) (A : Nat → Nat → K) {r : Nat} (hr : r < n) {y : Nat → K} (hy : y r = z) : ∀ t, t ≤ n → Red n A o (elm A r y t)
  | 0, _ => fun f hf => by
    rw [o_ml]; congr 1
  | t + 1, ht => fun f hf => by
    rw [Red.elim n A hr hy t (by omega) f hf]
    congr 1
    by_cases e : t = r
    · subst e
      congr 1
      funext i j
      unfold elm
      by_cases a : i < t
      · rw [if_pos a, if_pos (by omega)]
      · rw [if_neg a]
        by_cases b : i = t
        · subst b; rw [if_pos (by omega), hy, ml_z, ad_z]
        · rw [if_neg (by omega)]
    · have h := hf.add (elm A r y t) (r := t) (s := r) (by omega) hr e (y t)
      rw [← h]
      congr 1
      funext i j
      by_cases b : i = t
      · subst b
        rw [setr_at]
        have q1 : elm A r y i i j = A i j := if_neg (Nat.lt_irrefl i)
        have q2 : elm A r y (i + 1) i j = ad (A i j) (ml (A r j) (y i)) := if_pos (Nat.lt_succ_self i)
        have q3 : elm A r y i r j = A r j := by
          unfold elm
          by_cases c : r < i
          · rw [if_pos c, hy, ml_z, ad_z]
          · rw [if_neg c]
        rw [q1, q2, q3, ml_comm]
      · rw [setr_ne _ _ b]
        unfold elm
        by_cases a : i < t
        · rw [if_pos a, if_pos (by omega)]
        · rw [if_neg a, if_neg (by omega)]
/-- On the way into reduced form: c columns are done. -/
structure Ech (n l : Nat) (A M : Nat → Nat → K) (pv : List Nat) (c : Nat) (d : K) : Prop where
  rw_ : Rw n l A M
  red : Red n A d M
  len : pv.length ≤ n
  asc : ∀ s t, s < t → t < pv.length → pv.getD s 0 < pv.getD t 0
  lt : ∀ t, t < pv.length → pv.getD t 0 < c
  unit : ∀ t, t < pv.length → ∀ i, i < n → M i (pv.getD t 0) = if i = t then o else z
  none : ∀ i j, pv.length ≤ i → i < n → j < c → M i j = z
  d_ne : d ≠ z
theorem Ech.start (n l : Nat) (A : Nat → Nat → K) : Ech n l A A [] 0 o where
  rw_ := Rw.refl n l A
  red := Red.refl n A
  len := Nat.zero_le _
  asc _ _ _ h := absurd h (by simp)
  lt _ h := absurd h (by simp)
  unit _ h := absurd h (by simp)
  none _ _ _ _ h := absurd h (by omega)
  d_ne := o_ne
theorem Ech.skip {n l : Nat} {A M : Nat → Nat → K} {pv : List Nat} {c : Nat} {d : K} (E : Ech n l A M pv c d) (h : ∀ i, pv.length ≤ i → i < n → M i c = z) : Ech n l A M pv (c + 1) d :=
  { E with
    lt := fun t ht => by have := E.lt t ht; omega
    none := fun i j hi hn hj => by
      by_cases e : j = c
      · subst e; exact h i hi hn
      · exact E.none i j hi hn (by omega) }
theorem Ech.full {n l : Nat} {A M : Nat → Nat → K} {pv : List Nat} {c c' : Nat} {d : K} (E : Ech n l A M pv c d) (h : pv.length = n) (hc : c ≤ c') : Ech n l A M pv c' d :=
  { E with
    lt := fun t ht => by have := E.lt t ht; omega
    none := fun i j hi hn hj => by omega }
/-- What one step makes of it. -/
def stepM (M : Nat → Nat → K) (r k c n : Nat) : Nat → Nat → K :=
  let M2 := scl (fun i => M (swp r k i)) r (iv (M k c))
  elm M2 r (fun i => if i = r then z else M2 i c) n
theorem Ech.step (h2 : ∀ a : K, ad a a = z) {n l : Nat} {A M : Nat → Nat → K} {pv : List Nat} {c : Nat} {d : K} (E : Ech n l A M pv c d) {k : Nat} (hk : pv.length ≤ k) (hkn : k < n) (hne : M k c ≠ z) :
    Ech n l A (stepM M pv.length k c n) (pv ++ [c]) (c + 1) (ml d (M k c)) := by
  obtain ⟨r, hr⟩ : ∃ r, r = pv.length := ⟨_, rfl⟩
  rw [← hr] at hk ⊢
  have hrn : r < n := by omega
  obtain ⟨M1, h1⟩ : ∃ M1, M1 = fun i => M (swp r k i) := ⟨_, rfl⟩
  have hx : M1 r c = M k c := by rw [h1]; show M (swp r k r) c = _; unfold swp; rw [if_pos rfl]
  obtain ⟨M2, hM2⟩ : ∃ M2, M2 = scl M1 r (iv (M k c)) := ⟨_, rfl⟩
  obtain ⟨y, hy⟩ : ∃ y : Nat → K, y = fun i => if i = r then z else M2 i c := ⟨_, rfl⟩
  have hyr : y r = z := by rw [hy]; exact if_pos rfl
  have e3 : stepM M r k c n = elm M2 r y n := by
    unfold stepM
    rw [hy, hM2, h1]
  have m2c : M2 r c = o := by rw [hM2]; unfold scl; rw [if_pos rfl, hx, ml_iv _ hne]
  -- a column of which the rows from r on are nothing stays
  have stay : ∀ j, (∀ i, r ≤ i → i < n → M i j = z) → ∀ i, i < n → elm M2 r y n i j = M i j := fun j hj i hi => by
    have a1 : ∀ i, i < n → M1 i j = M i j := fun i hi => by
      rw [h1]
      show M (swp r k i) j = M i j
      unfold swp
      by_cases a : i = r
      · rw [if_pos a, hj k hk hkn, hj i (by omega) hi]
      · rw [if_neg a]
        by_cases b : i = k
        · rw [if_pos b, hj r (Nat.le_refl _) hrn, hj i (by omega) hi]
        · rw [if_neg b]
    have a2 : ∀ i, i < n → M2 i j = M i j := fun i hi => by
      rw [hM2]
      unfold scl
      by_cases a : i = r
      · rw [if_pos a, a1 i hi, hj i (by omega) hi, z_ml]
      · rw [if_neg a, a1 i hi]
    unfold elm
    rw [if_pos hi, a2 i hi, a2 r hrn, hj r (Nat.le_refl _) hrn, z_ml, ad_z]
  have newc : ∀ i, i < n → elm M2 r y n i c = if i = r then o else z := fun i hi => by
    unfold elm
    rw [if_pos hi, m2c, o_ml]
    by_cases a : i = r
    · rw [if_pos a, a, hyr, ad_z, m2c]
    · rw [if_neg a, hy]
      show ad (M2 i c) (if i = r then z else M2 i c) = z
      rw [if_neg a, h2]
  have hz : ∀ j, j < c → ∀ i, r ≤ i → i < n → M i j = z := fun j hj i hi hin => E.none i j (by omega) hin hj
  have hg : ∀ t, t < r → (pv ++ [c]).getD t 0 = pv.getD t 0 := fun t ht => getD_app_l _ _ _ (by omega)
  have hgr : (pv ++ [c]).getD r 0 = c := by
    rw [getD_app_r _ _ _ (by omega), hr, Nat.sub_self]; rfl
  have hlen : (pv ++ [c]).length = r + 1 := by rw [List.length_append, hr]; rfl
  refine ⟨?_, ?_, by omega, ?_, ?_, ?_, ?_, ml_ne E.d_ne hne⟩
  · refine (E.rw_.trans ((Rw.swap M hrn hkn).trans ?_))
    rw [← h1, e3]
    exact (Rw.scale M1 r (iv_ne hne)).trans (hM2 ▸ Rw.elim h2 _ hrn hyr)
  · have r1 := E.red.trans (Red.swap h2 M hrn hkn)
    rw [← h1] at r1
    have r2 := r1.trans (Red.scale M1 hrn (x := M k c) hne)
    rw [← hM2] at r2
    have r3 := r2.trans (Red.elim n M2 hrn hyr n (Nat.le_refl _))
    rw [ml_o, ml_o] at r3
    rw [e3]
    exact r3
  · intro s t hst ht
    rw [hlen] at ht
    by_cases a : t = r
    · rw [a, hgr, hg s (by omega)]
      exact E.lt s (by omega)
    · rw [hg s (by omega), hg t (by omega)]
      exact E.asc s t hst (by omega)
  · intro t ht
    rw [hlen] at ht
    by_cases a : t = r
    · rw [a, hgr]; omega
    · rw [hg t (by omega)]
      have := E.lt t (by omega)
      omega
  · intro t ht i hi
    rw [hlen] at ht
    rw [e3]
    by_cases a : t = r
    · subst a; rw [hgr]; exact newc i hi
    · rw [hg t (by omega)]
      rw [stay _ (hz _ (E.lt t (by omega))) i hi]
      exact E.unit t (by omega) i hi
  · intro i j hi hin hj
    rw [hlen] at hi
    rw [e3]
    by_cases a : j = c
    · rw [a, newc i hin, if_neg (by omega)]
    · rw [stay _ (hz _ (by omega)) i hin]
      exact E.none i j (by omega) hin (by omega)

/-! ### What the reduced form tells -/
theorem sm_cut {f : Nat → K} {r n : Nat} (h : r ≤ n) (hz : ∀ k, r ≤ k → k < n → f k = z) : sm f n = sm f r := by
  obtain ⟨d, rfl⟩ : ∃ d, n = r + d := ⟨n - r, by omega⟩
  rw [sm_plus, sm_z d fun k hk => hz (r + k) (by omega) (by omega), ad_z]
theorem Ech.rank {n l : Nat} {A M : Nat → Nat → K} {pv : List Nat} {d : K} (E : Ech n l A M pv l d) : Rk n l pv.length A := by
  obtain ⟨P, Q, hI, hP, hQ⟩ := E.rw_
  refine ⟨Q, M, P, fun j t => if j = pv.getD t 0 then o else z, ?_, ?_⟩
  · refine hQ.symm.trans fun i j hi hj => ?_
    exact sm_cut E.len fun k hk hkn => by rw [E.none k j hk hkn hj, ml_z]
  · intro i t hi ht
    have e : mm n P (mm l A fun j t => if j = pv.getD t 0 then o else z) i t = mm l M (fun j t => if j = pv.getD t 0 then o else z) i t := by
      rw [← mm_assoc]
      exact mm_left (m := n) (l := pv.length) _ hP i t (by have := E.len; omega) ht
    rw [e]
    show sm (fun j => ml (M i j) (if j = pv.getD t 0 then o else z)) l = _
    rw [sm_one (i := pv.getD t 0) l (E.lt t ht) fun k _ hk => by rw [if_neg hk, ml_z], if_pos rfl, ml_o, E.unit t ht i (by have := E.len; omega)]
    rfl
/-- As many pivots as columns: each column has its own. -/
theorem asc_id {pv : List Nat} {n : Nat} (hl : pv.length = n) (asc : ∀ s t, s < t → t < pv.length → pv.getD s 0 < pv.getD t 0) (lt : ∀ t, t < pv.length → pv.getD t 0 < n) : ∀ t, t < n → pv.getD t 0 = t := by
  have low : ∀ t, t < n → t ≤ pv.getD t 0 := fun t => by
    induction t with
    | zero => intro _; omega
    | succ t ih => intro h; have h1 := ih (by omega); have h2 := asc t (t + 1) (by omega) (by omega); omega
  have high : ∀ d t, t + d + 1 = n → pv.getD t 0 ≤ t := fun d => by
    induction d with
    | zero => intro t h; have := lt t (by omega); omega
    | succ d ih => intro t h; have h1 := ih (t + 1) (by omega); have h2 := asc t (t + 1) (by omega) (by omega); omega
  intro t h
  have h1 := low t h
  have h2 := high (n - 1 - t) t (by omega)
  omega
theorem Ech.one {n l : Nat} {A M : Nat → Nat → K} {pv : List Nat} {d : K} (E : Ech n l A M pv n d) (h : pv.length = n) : Eqm n n M idm := fun i j hi hj => by
  have := E.unit j (by omega) i hi
  rwa [asc_id h E.asc E.lt j hj] at this
/-- Fewer pivots than rows: some rows together make nothing. -/
theorem Ech.null {n l c : Nat} {A M : Nat → Nat → K} {pv : List Nat} {d : K} (E : Ech n l A M pv c d) (hcl : c ≤ l) (h : pv.length < n) : ∃ v : Nat → K, (∃ i, i < n ∧ v i ≠ z) ∧ ∀ j, j < c → sm (fun i => ml (v i) (A i j)) n = z := by
  obtain ⟨P, Q, hI, hP, hQ⟩ := E.rw_
  refine ⟨P pv.length, ?_, fun j hj => ?_⟩
  · refine Classical.byContradiction fun hno => o_ne (K := K) ?_
    have h1 := hI.1 pv.length pv.length h h
    have h2 : mm n P Q pv.length pv.length = z := sm_z n fun k hk => by
      rw [show P pv.length k = z from Classical.byContradiction fun hn => hno ⟨k, hk, hn⟩, z_ml]
    rw [h2] at h1
    unfold idm at h1
    rw [if_pos rfl] at h1
    exact h1.symm
  · rw [← E.none pv.length j (Nat.le_refl _) h hj]
    exact hP pv.length j h (by omega)
def detOf (n : Nat) (pv : List Nat) (d : K) : K := if pv.length < n then z else d
theorem Ech.det {n l : Nat} {A M : Nat → Nat → K} {pv : List Nat} {d : K} (E : Ech n l A M pv n d) : Done n A (detOf n pv d) := by
  unfold detOf
  by_cases h : pv.length < n
  · rw [if_pos h]
    exact .inr ⟨rfl, d, M, pv.length, E.red, h, fun j hj => E.none _ j (Nat.le_refl _) h hj⟩
  · rw [if_neg h]
    exact .inl (E.red.congr (E.one (by have := E.len; omega)))
theorem Ech.det_z {n l : Nat} {A M : Nat → Nat → K} {pv : List Nat} {d : K} (E : Ech n l A M pv n d) (h : detOf n pv d = z) : pv.length < n := by
  unfold detOf at h
  by_cases e : pv.length < n
  · exact e
  · rw [if_neg e] at h; exact absurd h E.d_ne
/-- A with the units beside. -/
def wide (n : Nat) (A : Nat → Nat → K) : Nat → Nat → K := fun i j => if j < n then A i j else idm i (j - n)
theorem Ech.inverse (h2 : ∀ a : K, ad a a = z) {n : Nat} {A M : Nat → Nat → K} {pv : List Nat} {a d : K} (hA : Done n A a) (ha : a ≠ z) (E : Ech n (n + n) (wide n A) M pv n d) :
    Inv n A (fun i j => M i (n + j)) := by
  have hr : pv.length = n := by
    refine Classical.byContradiction fun hne => ha ?_
    have hlt : pv.length < n := by have := E.len; omega
    have h := E.det
    rw [detOf, if_pos hlt] at h
    have h' : Done n A z := by
      rcases h with h | ⟨-, d, B, r, h, q⟩
      · exact .inl fun f hf => by rw [← h f hf]; exact hf.congr fun i j _ hj => by unfold wide; rw [if_pos hj]
      · exact .inr ⟨rfl, d, B, r, fun f hf => by rw [← h f hf]; exact hf.congr fun i j _ hj => by unfold wide; rw [if_pos hj], q⟩
    rw [hA.dt h2, ← h'.dt h2]
  obtain ⟨P, Q, hI, hP, hQ⟩ := E.rw_
  have hPA : Eqm n n (mm n P A) idm := fun i j hi hj => by
    have h1 := hP i j hi (by omega)
    rw [E.one hr i j hi hj] at h1
    rw [← h1]
    exact sm_congr n fun k _ => by unfold wide; rw [if_pos hj]
  have hPM : Eqm n n (fun i j => M i (n + j)) P := fun i j hi hj => by
    have h1 := hP i (n + j) hi (by omega)
    show M i (n + j) = P i j
    rw [← h1, ← mm_id (m := n) (n := n) P i j hi hj]
    exact sm_congr n fun k _ => by unfold wide; rw [if_neg (by omega), show n + j - n = j by omega]
  have hAQ : Eqm n n A Q := hI.unique hPA
  refine ⟨(mm_congr hAQ hPM).trans hI.2, (mm_congr hPM (Eqm.refl n n A)).trans hPA⟩
/-- A with a column beside. -/
def beside (l : Nat) (A : Nat → Nat → K) (b : Nat → K) : Nat → Nat → K := fun i j => if j < l then A i j else b i
/-- The answer: the last column, at the pivots. -/
def answer (pv : List Nat) (M : Nat → Nat → K) (l : Nat) (j : Nat) : K := sm (fun t => if pv.getD t 0 = j then M t l else z) pv.length
theorem Ech.solves {n l : Nat} {A M : Nat → Nat → K} {b : Nat → K} {pv : List Nat} {d : K} (E : Ech n (l + 1) (beside l A b) M pv l d) (h : ∀ i, pv.length ≤ i → i < n → M i l = z) :
    ∀ i, i < n → sm (fun j => ml (A i j) (answer pv M l j)) l = b i := by
  obtain ⟨P, Q, hI, hP, hQ⟩ := E.rw_
  -- reduced, it is an answer
  have hr : ∀ i, i < n → sm (fun j => ml (M i j) (answer pv M l j)) l = M i l := fun i hi => by
    unfold answer
    have e1 : sm (fun j => ml (M i j) (sm (fun t => if pv.getD t 0 = j then M t l else z) pv.length)) l = sm (fun j => sm (fun t => ml (M i j) (if pv.getD t 0 = j then M t l else z)) pv.length) l := sm_congr l fun j _ => (sm_ml _ _ _).symm
    rw [e1, sm_swap]
    have e2 : sm (fun t => sm (fun j => ml (M i j) (if pv.getD t 0 = j then M t l else z)) l) pv.length = sm (fun t => if i = t then M t l else z) pv.length := sm_congr _ fun t ht => by
      rw [sm_one (i := pv.getD t 0) l (E.lt t ht) fun k _ hk => by rw [if_neg fun e => hk e.symm, ml_z], if_pos rfl, E.unit t ht i hi]
      by_cases e : i = t
      · rw [if_pos e, if_pos e, o_ml]
      · rw [if_neg e, if_neg e, z_ml]
    rw [e2]
    by_cases e : i < pv.length
    · rw [sm_one (i := i) _ e fun k _ hk => by rw [if_neg fun e => hk e.symm], if_pos rfl]
    · rw [sm_z _ fun k hk => by rw [if_neg (by omega)], h i (by omega) hi]
  intro i hi
  have hA : ∀ j, j < l → A i j = sm (fun k => ml (Q i k) (M k j)) n := fun j hj => by
    have h1 := hQ i j hi (by omega)
    unfold beside at h1
    rw [if_pos hj] at h1
    exact h1.symm
  have hb : b i = sm (fun k => ml (Q i k) (M k l)) n := by
    have h1 := hQ i l hi (by omega)
    unfold beside at h1
    rw [if_neg (by omega)] at h1
    exact h1.symm
  rw [hb, sm_congr l fun j hj => by rw [hA j hj]]
  have e1 : sm (fun j => ml (sm (fun k => ml (Q i k) (M k j)) n) (answer pv M l j)) l = sm (fun j => sm (fun k => ml (Q i k) (ml (M k j) (answer pv M l j))) n) l := sm_congr l fun j _ => by
    rw [← sm_ml_right]
    exact sm_congr n fun k _ => ml_assoc _ _ _
  rw [e1, sm_swap]
  exact sm_congr n fun k hk => by
    have : sm (fun j => ml (Q i k) (ml (M k j) (answer pv M l j))) l = ml (Q i k) (sm (fun j => ml (M k j) (answer pv M l j)) l) := sm_ml _ _ _
    rw [this, hr k hk]
theorem answer_at {n l : Nat} {A M : Nat → Nat → K} {pv : List Nat} {c : Nat} {d : K} (E : Ech n l A M pv c d) (q : Nat) {t : Nat} (ht : t < pv.length) : answer pv M q (pv.getD t 0) = M t q := by
  unfold answer
  rw [sm_one (i := t) _ ht fun k hk hkt => ?_, if_pos rfl]
  rw [if_neg]
  intro e
  rcases Nat.lt_or_ge k t with h | h
  · have := E.asc k t h ht; omega
  · have := E.asc t k (by omega) hk; omega
theorem answer_no {pv : List Nat} (M : Nat → Nat → K) (q : Nat) {j : Nat} (h : ∀ t, t < pv.length → pv.getD t 0 ≠ j) : answer pv M q j = z := sm_z _ fun t ht => by rw [if_neg (h t ht)]
end Fld
end Wm
