/-
  Plain: the way up in a hash tree, and its levels. No program in sight.
-/
import Derived.Test.YtheklkgilcdhoaaBase
set_option linter.unusedVariables false
set_option linter.unusedSimpArgs false
namespace Wm

/-- The way up: n is the level's width, k the place, x the value there, l what the proof has left. -/
def climb (nd : Nat → Nat → Nat) (n k x : Nat) (l : List Nat) : Option (Nat × List Nat) :=
  if h : n ≤ 1 then some (x, l)
  else if k ^^^ 1 < n then
    match l with
    | [] => none
    | p :: ps => climb nd ((n + 1) / 2) (k / 2) (if k % 2 = 0 then nd x p else nd p x) ps
  else climb nd ((n + 1) / 2) (k / 2) x l
termination_by n
decreasing_by all_goals omega

theorem climb_end {nd : Nat → Nat → Nat} {n k x : Nat} {l : List Nat} (h : n ≤ 1) : climb nd n k x l = some (x, l) := by
  rw [climb.eq_def]; simp [h]
theorem climb_skip {nd : Nat → Nat → Nat} {n k x : Nat} {l : List Nat} (h : 1 < n) (hk : ¬ k ^^^ 1 < n) : climb nd n k x l = climb nd ((n + 1) / 2) (k / 2) x l := by
  conv => lhs; rw [climb.eq_def]
  rw [dif_neg (by omega), if_neg hk]
theorem climb_none {nd : Nat → Nat → Nat} {n k x : Nat} (h : 1 < n) (hk : k ^^^ 1 < n) : climb nd n k x [] = none := by
  rw [climb.eq_def, dif_neg (by omega), if_pos hk]
theorem climb_step {nd : Nat → Nat → Nat} {n k x p : Nat} {l : List Nat} (h : 1 < n) (hk : k ^^^ 1 < n) : climb nd n k x (p :: l) = climb nd ((n + 1) / 2) (k / 2) (if k % 2 = 0 then nd x p else nd p x) l := by
  conv => lhs; rw [climb.eq_def]
  rw [dif_neg (by omega), if_pos hk]

/-- How many the way takes. -/
def need (n k : Nat) : Nat := if h : n ≤ 1 then 0 else (if k ^^^ 1 < n then 1 else 0) + need ((n + 1) / 2) (k / 2)
termination_by n
decreasing_by omega
theorem need_end {n k : Nat} (h : n ≤ 1) : need n k = 0 := by rw [need]; simp [h]
theorem need_step {n k : Nat} (h : 1 < n) : need n k = (if k ^^^ 1 < n then 1 else 0) + need ((n + 1) / 2) (k / 2) := by
  conv => lhs; rw [need]
  rw [dif_neg (by omega)]

theorem climb_need (nd : Nat → Nat → Nat) : ∀ (n k x : Nat) (l : List Nat), (l.length < need n k → climb nd n k x l = none) ∧ (need n k ≤ l.length → ∃ y, climb nd n k x l = some (y, l.drop (need n k)) ∧ ∀ m, climb nd n k x (l ++ m) = some (y, l.drop (need n k) ++ m)) := by
  intro n
  induction n using Nat.strongRecOn with
  | ind n ih =>
    intro k x l
    rcases Nat.lt_or_ge 1 n with h | h
    · by_cases hk : k ^^^ 1 < n
      · rw [need_step h, if_pos hk]
        cases l with
        | nil =>
          rw [climb_none h hk]
          exact ⟨fun _ => rfl, fun h => by simp at h⟩
        | cons p l =>
          rw [climb_step h hk]
          have e := ih ((n + 1) / 2) (by omega) (k / 2) (if k % 2 = 0 then nd x p else nd p x) l
          refine ⟨fun hl => e.1 (by simp at hl; omega), fun hl => ?_⟩
          obtain ⟨y, h1, h2⟩ := e.2 (by simp at hl; omega)
          refine ⟨y, ?_, fun m => ?_⟩
          · rw [h1, Nat.add_comm 1 (need _ _), List.drop_succ_cons]
          · rw [List.cons_append, climb_step h hk, h2, Nat.add_comm 1 (need _ _), List.drop_succ_cons]
      · rw [need_step h, if_neg hk, climb_skip h hk, Nat.zero_add]
        have e := ih ((n + 1) / 2) (by omega) (k / 2) x l
        refine ⟨e.1, fun hl => ?_⟩
        obtain ⟨y, h1, h2⟩ := e.2 hl
        exact ⟨y, h1, fun m => by rw [climb_skip h hk, h2]⟩
    · rw [need_end h, climb_end h]
      refine ⟨fun h => by omega, fun _ => ⟨x, by simp, fun m => by rw [climb_end h]; simp⟩⟩

/-- What Check tells. -/
def shows (nd : Nat → Nat → Nat) (root n k x : Nat) (l : List Nat) : Bool :=
  match climb nd n k x l with
  | some (y, []) => y == root
  | _ => false
theorem shows_iff {nd : Nat → Nat → Nat} {root n k x : Nat} {l : List Nat} : shows nd root n k x l = true ↔ climb nd n k x l = some (root, []) := by
  unfold shows
  split
  · rename_i y h; rw [h]; simp
  · rename_i h
    constructor
    · intro h'; cases h'
    · intro h'; exact absurd h' (h root)
theorem shows_length {nd : Nat → Nat → Nat} {root n k x : Nat} {l : List Nat} (h : shows nd root n k x l = true) : l.length = need n k := by
  rw [shows_iff] at h
  have e := climb_need nd n k x l
  rcases Nat.lt_or_ge l.length (need n k) with h1 | h1
  · rw [e.1 h1] at h; cases h
  · obtain ⟨y, h2, -⟩ := e.2 h1
    rw [h2] at h
    simp only [Option.some.injEq, Prod.mk.injEq, List.drop_eq_nil_iff] at h
    omega

/-- The next level. -/
def upL (nd : Nat → Nat → Nat) : List Nat → List Nat
  | [] => []
  | [a] => [a]
  | a :: b :: l => nd a b :: upL nd l
theorem upL_length (nd : Nat → Nat → Nat) : ∀ l : List Nat, (upL nd l).length = (l.length + 1) / 2
  | [] => rfl
  | [a] => by simp [upL]
  | a :: b :: l => by simp only [upL, List.length_cons, upL_length nd l]; omega
theorem xor_one (k : Nat) : k ^^^ 1 = if k % 2 = 0 then k + 1 else k - 1 := by
  have h : (k ^^^ 1) % 2 = (k + 1) % 2 := by
    have := Nat.testBit_xor k 1 0
    rw [Nat.testBit_zero, Nat.testBit_zero, Nat.testBit_zero] at this
    rcases Nat.mod_two_eq_zero_or_one k with h | h <;> rcases Nat.mod_two_eq_zero_or_one (k ^^^ 1) with h' | h' <;> rw [h, h'] at this <;> simp at this <;> omega
  have hd : (k ^^^ 1) / 2 = k / 2 := by
    have e := Nat.shiftRight_xor_distrib (a := k) (b := 1) (i := 1)
    rw [Nat.shiftRight_eq_div_pow, Nat.shiftRight_eq_div_pow, Nat.shiftRight_eq_div_pow] at e
    simpa using e
  have e1 := Nat.div_add_mod (k ^^^ 1) 2
  have e2 := Nat.div_add_mod k 2
  rw [hd] at e1
  split <;> omega
theorem upL_get (nd : Nat → Nat → Nat) : ∀ (l : List Nat) (k : Nat), k < l.length → (upL nd l).getD (k / 2) 0 = if k ^^^ 1 < l.length then (if k % 2 = 0 then nd (l.getD k 0) (l.getD (k ^^^ 1) 0) else nd (l.getD (k ^^^ 1) 0) (l.getD k 0)) else l.getD k 0
  | [], k, h => by simp at h
  | [a], k, h => by
    obtain rfl : k = 0 := by simpa using h
    simp [upL]
  | a :: b :: l, k, h => by
    rcases Nat.lt_or_ge k 2 with h2 | h2
    · have : k = 0 ∨ k = 1 := by omega
      rcases this with rfl | rfl <;> simp [upL]
    · obtain ⟨j, rfl⟩ := Nat.exists_eq_add_of_le' h2
      have ih := upL_get nd l j (by simpa using h)
      have e1 : (j + 2) / 2 = j / 2 + 1 := by omega
      have e2 : (j + 2) ^^^ 1 = (j ^^^ 1) + 2 := by rw [xor_one, xor_one]; split <;> split <;> omega
      have e3 : (j + 2) % 2 = j % 2 := by omega
      rw [e1, e2, e3]
      simp only [upL, List.getD_cons_succ, List.length_cons]
      rw [ih]
      have : ((j ^^^ 1) + 2 < l.length + 1 + 1) ↔ (j ^^^ 1) < l.length := by omega
      simp only [this]

/-- The root. -/
def rootL (nd : Nat → Nat → Nat) (l : List Nat) : Nat := if h : l.length ≤ 1 then l.getD 0 0 else rootL nd (upL nd l)
termination_by l.length
decreasing_by rw [upL_length]; omega
theorem rootL_end {nd : Nat → Nat → Nat} {l : List Nat} (h : l.length ≤ 1) : rootL nd l = l.getD 0 0 := by rw [rootL]; simp [h]
theorem rootL_step {nd : Nat → Nat → Nat} {l : List Nat} (h : 1 < l.length) : rootL nd l = rootL nd (upL nd l) := by
  conv => lhs; rw [rootL]
  rw [dif_neg (by omega)]
/-- The proof. -/
def proveL (nd : Nat → Nat → Nat) (l : List Nat) (k : Nat) : List Nat := if h : l.length ≤ 1 then [] else (if k ^^^ 1 < l.length then [l.getD (k ^^^ 1) 0] else []) ++ proveL nd (upL nd l) (k / 2)
termination_by l.length
decreasing_by rw [upL_length]; omega
theorem proveL_end {nd : Nat → Nat → Nat} {l : List Nat} {k : Nat} (h : l.length ≤ 1) : proveL nd l k = [] := by rw [proveL]; simp [h]
theorem proveL_step {nd : Nat → Nat → Nat} {l : List Nat} {k : Nat} (h : 1 < l.length) : proveL nd l k = (if k ^^^ 1 < l.length then [l.getD (k ^^^ 1) 0] else []) ++ proveL nd (upL nd l) (k / 2) := by
  conv => lhs; rw [proveL]
  rw [dif_neg (by omega)]

theorem proves (nd : Nat → Nat → Nat) : ∀ (n : Nat) (l : List Nat) (k : Nat), l.length = n → k < n → climb nd n k (l.getD k 0) (proveL nd l k) = some (rootL nd l, []) := by
  intro n
  induction n using Nat.strongRecOn with
  | ind n ih =>
    intro l k hl hk
    rcases Nat.lt_or_ge 1 n with h | h
    · rw [proveL_step (by omega), rootL_step (by omega)]
      have e := ih ((n + 1) / 2) (by omega) (upL nd l) (k / 2) (by rw [upL_length, hl]) (by omega)
      rw [upL_get nd l k (by omega), hl] at e
      rw [hl]
      by_cases hx : k ^^^ 1 < n
      · rw [if_pos hx] at e ⊢
        rw [List.singleton_append, climb_step h hx, e]
      · rw [if_neg hx] at e ⊢
        rw [List.nil_append, climb_skip h hx, e]
    · rw [proveL_end (by omega), rootL_end (by omega), climb_end h]
      obtain rfl : k = 0 := by omega
      rfl
theorem proveL_length (nd : Nat → Nat → Nat) : ∀ (t n : Nat) (l : List Nat) (k : Nat), l.length = n → n ≤ 2 ^ t → (proveL nd l k).length ≤ t := by
  intro t
  induction t with
  | zero =>
    intro n l k hl h
    rw [proveL_end (by simp at h; omega)]
    simp
  | succ t ih =>
    intro n l k hl h
    rcases Nat.lt_or_ge 1 n with h1 | h1
    · rw [proveL_step (by omega), List.length_append]
      have := ih ((n + 1) / 2) (upL nd l) (k / 2) (by rw [upL_length, hl]) (by rw [Nat.pow_succ] at h; omega)
      split <;> simp <;> omega
    · rw [proveL_end (by omega)]
      simp

theorem shows_more {nd : Nat → Nat → Nat} {root n k x : Nat} {l : List Nat} (h : shows nd root n k x l = true) (b : Nat) : shows nd root n k x (l ++ [b]) = false := by
  cases h' : shows nd root n k x (l ++ [b])
  · rfl
  · have := shows_length h
    have := shows_length h'
    simp at this
    omega
theorem shows_less {nd : Nat → Nat → Nat} {root n k x : Nat} {l : List Nat} (h : shows nd root n k x l = true) (h0 : l ≠ []) : shows nd root n k x l.tail = false := by
  cases h' : shows nd root n k x l.tail
  · rfl
  · have := shows_length h
    have := shows_length h'
    cases l with
    | nil => exact absurd rfl h0
    | cons a l => simp at *; omega

end Wm
