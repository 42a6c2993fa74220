/-
  A finite commutative monoid whose elements but 0 cancel: multiplied as often as there are elements, each is itself. No program in sight.
-/
import Derived.Test.YtahchidghfeofaaUnits0
set_option linter.unusedVariables false
set_option linter.unusedSimpArgs false
namespace Wm
/-- Numbers below N, multiplied by a law of their own, in which all but 0 cancel. -/
structure Dom (N : Nat) (ml : Nat → Nat → Nat) : Prop where
  big : 1 < N
  lt : ∀ x y, x < N → y < N → ml x y < N
  comm : ∀ x y, x < N → y < N → ml x y = ml y x
  assoc : ∀ x y c, x < N → y < N → c < N → ml (ml x y) c = ml x (ml y c)
  one : ∀ x, x < N → ml 1 x = x
  zero : ∀ x, x < N → ml 0 x = 0
  canc : ∀ a x y, a < N → x < N → y < N → a ≠ 0 → ml a x = ml a y → x = y
def pwM (ml : Nat → Nat → Nat) (a : Nat) : Nat → Nat
  | 0 => 1
  | n + 1 => ml a (pwM ml a n)
def prM (ml : Nat → Nat → Nat) : List Nat → Nat
  | [] => 1
  | x :: l => ml x (prM ml l)
section
variable {N : Nat} {ml : Nat → Nat → Nat} (D : Dom N ml)
include D
theorem Dom.pw_lt {a : Nat} (ha : a < N) : ∀ n, pwM ml a n < N
  | 0 => D.big
  | n + 1 => D.lt _ _ ha (Dom.pw_lt ha n)
theorem Dom.pr_lt : ∀ {l : List Nat}, (∀ x ∈ l, x < N) → prM ml l < N
  | [], _ => D.big
  | x :: l, h => D.lt _ _ (h x (by simp)) (Dom.pr_lt fun y hy => h y (by simp [hy]))
theorem Dom.nz {x y : Nat} (hx : x < N) (hy : y < N) (h1 : x ≠ 0) (h2 : y ≠ 0) : ml x y ≠ 0 := fun h => by
  have h0 : ml x 0 = 0 := by rw [D.comm x 0 hx (by have := D.big; omega)]; exact D.zero x hx
  exact h2 (D.canc x y 0 hx hy (by have := D.big; omega) h1 (by rw [h, h0]))
theorem Dom.pr_nz : ∀ {l : List Nat}, (∀ x ∈ l, x < N ∧ x ≠ 0) → prM ml l ≠ 0
  | [], _ => by simp [prM]
  | x :: l, h => D.nz (h x (by simp)).1 (D.pr_lt fun y hy => (h y (by simp [hy])).1) (h x (by simp)).2 (Dom.pr_nz fun y hy => h y (by simp [hy]))
theorem Dom.pr_perm {l m : List Nat} (h : l.Perm m) : (∀ x ∈ l, x < N) → prM ml l = prM ml m := by
  induction h with
  | nil => intro _; rfl
  | cons x _ ih => intro hl; simp only [prM]; rw [ih fun y hy => hl y (by simp [hy])]
  | swap x y l =>
    intro hl
    have hx := hl x (by simp)
    have hy := hl y (by simp)
    have hp := D.pr_lt (l := l) fun c hc => hl c (by simp [hc])
    simp only [prM]
    rw [← D.assoc y x _ hy hx hp, ← D.assoc x y _ hx hy hp, D.comm y x hy hx]
  | trans h1 _ ih1 ih2 => intro hl; rw [ih1 hl, ih2 fun x hx => hl x (h1.mem_iff.2 hx)]
theorem Dom.pr_map {a : Nat} (ha : a < N) : ∀ {l : List Nat}, (∀ x ∈ l, x < N) → prM ml (l.map (ml a)) = ml (pwM ml a l.length) (prM ml l)
  | [], _ => (D.one 1 D.big).symm
  | x :: l, h => by
    have hx := h x (by simp)
    have hl := fun y hy => h y (List.mem_cons_of_mem x hy)
    have hp := D.pr_lt hl
    have hw := D.pw_lt ha l.length
    simp only [List.map_cons, prM, List.length_cons, pwM]
    rw [Dom.pr_map ha hl]
    have e1 := D.assoc a x (ml (pwM ml a l.length) (prM ml l)) ha hx (D.lt _ _ hw hp)
    have e2 := D.assoc a (pwM ml a l.length) (ml x (prM ml l)) ha hw (D.lt _ _ hx hp)
    have e3 := D.assoc x (pwM ml a l.length) (prM ml l) hx hw hp
    have e4 := D.assoc (pwM ml a l.length) x (prM ml l) hw hx hp
    rw [e1, e2, ← e3, ← e4, D.comm x _ hx hw]
/-- FERMAT. -/
theorem Dom.fermat {a : Nat} (ha : a < N) (h0 : a ≠ 0) : pwM ml a (N - 1) = 1 := by
  have hU : ∀ x, x ∈ (List.range N).erase 0 ↔ x < N ∧ x ≠ 0 := fun x => by
    rw [List.Nodup.mem_erase_iff List.nodup_range, List.mem_range]
    exact ⟨fun h => ⟨h.2, h.1⟩, fun h => ⟨h.2, h.1⟩⟩
  have hlen : ((List.range N).erase 0).length = N - 1 := by
    rw [List.length_erase_of_mem (List.mem_range.2 (by have := D.big; omega)), List.length_range]
  have hp := map_perm (l := (List.range N).erase 0) (ml a) (List.nodup_range.erase 0) (fun x hx => (hU _).2 ⟨D.lt _ _ ha ((hU x).1 hx).1, D.nz ha ((hU x).1 hx).1 h0 ((hU x).1 hx).2⟩)
    (fun x hx y hy h => D.canc a x y ha ((hU x).1 hx).1 ((hU y).1 hy).1 h0 h)
  have hl : ∀ x ∈ (List.range N).erase 0, x < N := fun x hx => ((hU x).1 hx).1
  have e1 := D.pr_map ha hl
  rw [D.pr_perm hp (fun x hx => by obtain ⟨y, hy, rfl⟩ := List.mem_map.1 hx; exact D.lt _ _ ha (hl y hy)), hlen] at e1
  have hP := D.pr_lt hl
  have hPn := D.pr_nz (l := (List.range N).erase 0) fun x hx => (hU x).1 hx
  have hw := D.pw_lt ha (N - 1)
  refine (D.canc _ _ _ hP hw D.big hPn ?_)
  rw [D.comm _ _ hP hw, ← e1, D.comm _ 1 hP D.big, D.one _ hP]
theorem Dom.frob {a : Nat} (ha : a < N) : pwM ml a N = a := by
  have hb := D.big
  obtain ⟨M, rfl⟩ : ∃ M, N = M + 1 := ⟨N - 1, by omega⟩
  by_cases h0 : a = 0
  · subst h0
    exact D.zero _ (D.pw_lt (by omega) M)
  · have := D.fermat ha h0
    rw [Nat.add_sub_cancel] at this
    show ml a (pwM ml a M) = a
    rw [this, D.comm _ _ ha D.big, D.one _ ha]
theorem Dom.pw_add {a : Nat} (ha : a < N) (n : Nat) : ∀ m, pwM ml a (m + n) = ml (pwM ml a m) (pwM ml a n)
  | 0 => by rw [Nat.zero_add]; exact (D.one _ (D.pw_lt ha n)).symm
  | m + 1 => by
    rw [Nat.succ_add]
    show ml a (pwM ml a (m + n)) = ml (ml a (pwM ml a m)) _
    rw [Dom.pw_add ha n m, D.assoc _ _ _ ha (D.pw_lt ha m) (D.pw_lt ha n)]
theorem Dom.pw_pw {a : Nat} (ha : a < N) (n : Nat) : ∀ m, pwM ml (pwM ml a n) m = pwM ml a (n * m)
  | 0 => rfl
  | m + 1 => by
    show ml (pwM ml a n) (pwM ml (pwM ml a n) m) = _
    rw [Dom.pw_pw ha n m, ← D.pw_add ha, Nat.mul_succ, Nat.add_comm]
end
end Wm
