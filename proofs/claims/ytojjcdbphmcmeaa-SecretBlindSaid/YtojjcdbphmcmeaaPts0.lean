/-
  Plain: the polynomial through points (Lagrange), as the program makes it. No program in sight.
-/
import Derived.Test.YtojjcdbphmcmeaaZp3
set_option linter.unusedVariables false
set_option linter.unusedSimpArgs false
namespace Wm
open Fld

/-- The factors but one. -/
def pfac (P : Pr) (px : Nat → Nat) (i : Nat) (X : Zp P) (j : Nat) : Zp P := if j = i then o else sb X (zp P (px j))
structure FAt (P : Pr) (px py : Nat → Nat) (i k : Nat) (f : List Nat) : Prop where
  lt : ∀ x ∈ f, x < P.p
  len : f.length ≤ (if i < k then k else k + 1)
  ev : ∀ X, zp P (evN P.p f X) = ml (zp P (py i)) (pm (pfac P px i (zp P X)) k)
structure DAt (P : Pr) (px : Nat → Nat) (i k d : Nat) : Prop where
  lt : d < P.p
  ev : zp P d = pm (pfac P px i (zp P (px i))) k
theorem FAt.start {P : Pr} {px py : Nat → Nat} {i : Nat} (hy : py i < P.p) : FAt P px py i 0 [py i] where
  lt x hx := by simp at hx; omega
  len := by rw [if_neg (by omega)]; simp
  ev X := by
    show zp P ((0 * X + py i) % P.p) = ml (zp P (py i)) o
    rw [ml_o, Nat.zero_mul, Nat.zero_add, zp_mod]
theorem DAt.start (P : Pr) (px : Nat → Nat) (i : Nat) : DAt P px i 0 1 := ⟨P.two, rfl⟩
theorem FAt.skip {P : Pr} {px py : Nat → Nat} {i : Nat} {f : List Nat} (h : FAt P px py i i f) : FAt P px py i (i + 1) f where
  lt := h.lt
  len := by have := h.len; rw [if_neg (by omega)] at this; rw [if_pos (by omega)]; exact this
  ev X := by
    rw [h.ev X]
    show _ = ml _ (ml _ (pfac P px i (zp P X) i))
    rw [show pfac P px i (zp P X) i = o from if_pos rfl, ml_o]
theorem DAt.skip {P : Pr} {px : Nat → Nat} {i d : Nat} (h : DAt P px i i d) : DAt P px i (i + 1) d :=
  ⟨h.lt, by
    rw [h.ev]
    show _ = ml _ (pfac P px i (zp P (px i)) i)
    rw [show pfac P px i (zp P (px i)) i = o from if_pos rfl, ml_o]⟩
theorem evN_lin (P : Pr) {a : Nat} (ha : a < P.p) (X : Nat) : zp P (evN P.p [(P.p - a) % P.p, 1] X) = sb (zp P X) (zp P a) := by
  show zp P (((0 * X + 1) % P.p * X + (P.p - a) % P.p) % P.p) = _
  rw [zp_mod, zp_add, zp_mul, zp_mod, zp_mod, zp_ng P (by omega), Nat.zero_mul, Nat.zero_add, zp_one, o_ml]
  rfl
theorem FAt.step {P : Pr} {px py : Nat → Nat} {i k : Nat} {f : List Nat} (h : FAt P px py i k f) (hki : k ≠ i) (hx : px k < P.p) : FAt P px py i (k + 1) (mulL P.p f [(P.p - px k) % P.p, 1]) where
  lt := (mulL_isP P.pos _ _).1
  len := by
    have h1 := mulL_len P.p f [(P.p - px k) % P.p, 1]
    have h2 := h.len
    simp only [List.length_cons, List.length_nil, Nat.zero_add, Nat.reduceAdd] at h1
    by_cases hik : i < k
    · rw [if_pos hik] at h2; rw [if_pos (by omega)]; omega
    · rw [if_neg hik] at h2; rw [if_neg (by omega)]; omega
  ev X := by
    rw [evN_mul, zp_mod, zp_mul, h.ev X, evN_lin P hx]
    show _ = ml _ (ml _ (pfac P px i (zp P X) k))
    rw [show pfac P px i (zp P X) k = sb (zp P X) (zp P (px k)) from if_neg hki, ml_assoc]
theorem DAt.step {P : Pr} {px : Nat → Nat} {i k d : Nat} (h : DAt P px i k d) (hki : k ≠ i) (hx : px k < P.p) {e : Nat} (he : e = d * (px i + P.p - px k) % P.p) : DAt P px i (k + 1) e :=
  ⟨by rw [he]; exact Nat.mod_lt _ P.pos, by
    rw [he, zp_mod, zp_mul, h.ev]
    show ml _ _ = ml _ (pfac P px i (zp P (px i)) k)
    rw [show pfac P px i (zp P (px i)) k = sb (zp P (px i)) (zp P (px k)) from if_neg hki]
    congr 1
    rw [show px i + P.p - px k = px i + (P.p - px k) by omega, zp_add, zp_ng P (by omega)]; rfl⟩
theorem pm_ne {P : Pr} {f : Nat → Zp P} : ∀ n, (∀ k, k < n → f k ≠ z) → pm f n ≠ z
  | 0, _ => o_ne
  | n + 1, h => ml_ne (pm_ne n fun k hk => h k (by omega)) (h n (by omega))
theorem DAt.ne {P : Pr} {px : Nat → Nat} {i n d : Nat} (h : DAt P px i n d) (hlt : ∀ j, j ≤ i ∨ j < n → px j < P.p) (hd : ∀ j, j < n → j ≠ i → px j ≠ px i) : d ≠ 0 := fun e => by
  have h1 := h.ev
  rw [e] at h1
  refine pm_ne n (fun k hk => ?_) h1.symm
  unfold pfac
  split
  · exact o_ne
  · rename_i hki
    exact fun h2 => hd k hk hki (zp_inj (hlt k (.inr hk)) (hlt i (.inl (Nat.le_refl _))) (sb_eq h2).symm)
/-- One term of Lagrange's sum. -/
def lterm (P : Pr) (px py : Nat → Nat) (n : Nat) (X : Zp P) (i : Nat) : Zp P := ml (ml (zp P (py i)) (pm (pfac P px i X) n)) (iv (pm (pfac P px i (zp P (px i))) n))
/-- The sum under way. -/
structure OAt (P : Pr) (px py : Nat → Nat) (n i : Nat) (of : Nat → Nat) : Prop where
  lt : ∀ j, of j < P.p
  ev : ∀ X, zp P (evN P.p (mkL n of) X) = sm (lterm P px py n (zp P X)) i
theorem evN_zero (P : Pr) (n X : Nat) : zp P (evN P.p (mkL n fun _ => 0) X) = z := by
  rw [evN_evs, mkL_ser P n _ (fun _ _ => rfl)]
  exact evs_s0 _ _
theorem OAt.start (P : Pr) (px py : Nat → Nat) (n : Nat) : OAt P px py n 0 (fun _ => 0) := ⟨fun _ => P.pos, fun X => evN_zero P n X⟩
/-- A multiple is added, up to place t. -/
def addT (p : Nat) (f : List Nat) (c : Nat) (of : Nat → Nat) (t j : Nat) : Nat := if j < t then (of j + f.getD j 0 * c) % p else of j
theorem addT_at (p : Nat) (f : List Nat) (c : Nat) (of : Nat → Nat) (t : Nat) : addT p f c of t t = of t := if_neg (by omega)
theorem addT_zero (p : Nat) (f : List Nat) (c : Nat) (of : Nat → Nat) (j : Nat) : addT p f c of 0 j = of j := if_neg (by omega)
theorem addT_step (p : Nat) (f : List Nat) (c : Nat) (of : Nat → Nat) (t j : Nat) : addT p f c of (t + 1) j = if j = t then (of t + f.getD t 0 * c) % p else addT p f c of t j := by
  unfold addT
  by_cases h : j = t
  · subst h; rw [if_pos (by omega), if_pos rfl]
  · rw [if_neg h]
    by_cases h2 : j < t
    · rw [if_pos h2, if_pos (by omega)]
    · rw [if_neg h2, if_neg (by omega)]
theorem OAt.step {P : Pr} {px py : Nat → Nat} {n i c d : Nat} {of : Nat → Nat} {f : List Nat} (h : OAt P px py n i of) (hf : FAt P px py i n f) (hin : i < n) (hd : DAt P px i n d) (hc : zp P c = iv (zp P d)) : OAt P px py n (i + 1) (addT P.p f c of f.length) where
  lt j := by
    unfold addT
    split
    · exact Nat.mod_lt _ P.pos
    · exact h.lt j
  ev X := by
    have hl : f.length ≤ n := by have := hf.len; rwa [if_pos hin] at this
    have hs : ser P (mkL n (addT P.p f c of f.length)) = sad (ser P (mkL n of)) (ssc (zp P c) (ser P f)) := by
      funext j
      show zp P ((mkL n _).getD j 0) = ad (zp P ((mkL n of).getD j 0)) (ml (zp P c) (zp P (f.getD j 0)))
      by_cases hj : j < n
      · rw [mkL_get _ hj, mkL_get _ hj]
        unfold addT
        by_cases hjf : j < f.length
        · rw [if_pos hjf, zp_mod, zp_add, zp_mul, ml_comm]
        · rw [if_neg hjf, getD_big (l := f) (by omega), zp_zero, ml_z, ad_z]
      · rw [getD_big (l := mkL n _) (by rw [mkL_length]; omega), getD_big (l := mkL n of) (by rw [mkL_length]; omega), getD_big (l := f) (by omega), zp_zero, ml_z, ad_z]
    rw [evN_evs, hs, evs_ad, evs_sc, mkL_length]
    have e1 := evN_evs P (mkL n of) X
    rw [mkL_length] at e1
    rw [← e1, h.ev X, ← evN_more P f X hl, hf.ev X]
    show ad _ _ = ad _ (lterm P px py n (zp P X) i)
    unfold lterm
    rw [hc, hd.ev, ml_comm (iv _)]
theorem evN_trim (P : Pr) (l : List Nat) (X : Nat) : evN P.p (trimL l) X = evN P.p l X := by
  apply zp_inj (evN_lt P.pos _ _) (evN_lt P.pos _ _)
  have := trimL_len l
  rw [evN_more P (trimL l) X (n := l.length) this, evN_evs, trimL_ser]
/-- The polynomial through points. -/
structure Thru (P : Pr) (px py : Nat → Nat) (n : Nat) (F : List Nat) : Prop where
  isP : IsP P.p F
  len : F.length ≤ n
  ev : ∀ i, i < n → evN P.p F (px i) = py i
theorem OAt.done {P : Pr} {px py : Nat → Nat} {n : Nat} {of : Nat → Nat} (h : OAt P px py n n of) (hx : ∀ i, i < n → px i < P.p) (hy : ∀ i, i < n → py i < P.p) (hd : ∀ i j, i < n → j < n → px i = px j → i = j) : Thru P px py n (trimL (mkL n of)) := by
  refine ⟨trimL_isP (mkL_lt fun k _ => h.lt k), by have := trimL_len (mkL n of); rwa [mkL_length] at this, fun i hi => ?_⟩
  rw [evN_trim]
  apply zp_inj (evN_lt P.pos _ _) (hy i hi)
  rw [h.ev, sm_one (i := i) n hi fun j hj hji => ?_]
  · unfold lterm
    have hne : pm (pfac P px i (zp P (px i))) n ≠ z := pm_ne n fun k hk => by
      unfold pfac
      split
      · exact o_ne
      · rename_i hki
        exact fun h2 => hki (hd k i hk hi (zp_inj (hx k hk) (hx i hi) (sb_eq h2).symm))
    rw [ml_assoc, ml_iv _ hne, ml_o]
  · unfold lterm
    rw [pm_z n hi (f := pfac P px j (zp P (px i))) (by
      unfold pfac
      rw [if_neg fun e => hji e.symm]; exact sb_self _), ml_z, z_ml]
/-- There is one. -/
theorem thru_unique {P : Pr} {px py : Nat → Nat} {n : Nat} {F G : List Nat} (h : Thru P px py n F) (h' : Thru P px py n G) (hx : ∀ i, i < n → px i < P.p) (hd : ∀ i j, i < n → j < n → px i = px j → i = j) : F = G := by
  have hs : ser P F = ser P G := by
    apply eq_of_sub
    have key : ∀ y ∈ (List.range n).map (sad (ser P F) (sng (ser P G))), y = z := by
      refine coef_zero n _ (by simp) (fun i => zp P (px i)) (fun i j hi hj e => hd i j hi hj (zp_inj (hx i hi) (hx j hj) e)) fun i hi => ?_
      rw [ev_evs]
      have e1 : (fun k => ((List.range n).map (sad (ser P F) (sng (ser P G)))).getD k z) = sad (ser P F) (sng (ser P G)) := by
        funext k
        rw [List.getD_eq_getElem?_getD, List.getElem?_map]
        by_cases hk : k < n
        · rw [List.getElem?_range hk]; rfl
        · rw [List.getElem?_eq_none (by simpa using hk)]
          have hD : Dg n (sad (ser P F) (sng (ser P G))) := ((ser_dg P F).more h.len).ad ((ser_dg P G).more h'.len).ng
          exact (hD k (by omega)).symm
      have e2 : sng (ser P G) = ssc (ng o) (ser P G) := by
        funext k
        show ng (ser P G k) = ml (ng o) (ser P G k)
        rw [ng_ml, o_ml]
      rw [e1, e2, evs_ad, evs_sc, List.length_map, List.length_range, ← evN_more P F _ h.len, ← evN_more P G _ h'.len, h.ev i hi, h'.ev i hi, ng_ml, o_ml, ad_ng]
    funext k
    by_cases hk : k < n
    · exact key _ (List.mem_map.2 ⟨k, List.mem_range.2 hk, rfl⟩)
    · exact (((ser_dg P F).more h.len).ad ((ser_dg P G).more h'.len).ng) k (by omega)
  exact h.isP.ext h'.isP hs
end Wm
