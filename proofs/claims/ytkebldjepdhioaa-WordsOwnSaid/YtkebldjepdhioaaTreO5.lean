import Derived.Test.YtkebldjepdhioaaBase
import Derived.Test.YtkebldjepdhioaaApp
import Derived.Test.YtkebldjepdhioaaArith1
import Derived.Test.YtkebldjepdhioaaLaw
import Derived.Test.YtkebldjepdhioaaBits1
import Derived.Test.YtkebldjepdhioaaStrs
import Derived.Test.YtkebldjepdhioaaTri
import Derived.BigRegion
import Derived.Deep.RegionHeld3
import Derived.Deep.Cut
import Derived.Deep.CutRange
import Derived.Laws.AppendOwnNone
/-
  Plain: the way up in a hash tree, and its levels. No program in sight.
-/
set_option linter.unusedVariables false
set_option linter.unusedSimpArgs false
namespace Wm

/-- The way up: n is the level's width, k the place, x the value there, l what the proof has left. -/
def climb (nd : Nat → Nat → Nat) (n k x : Nat) (l : List Nat) : Option (Nat × List Nat) :=
  if h : n ≤ 1 then some (x, l)
  else if k ^^^ 1 < n then
    match l with
    | [] => none
    | p :: ps => climb nd ((n + 1) / 2) (k / 2) (if k % 2 = 0 then nd x p else nd p x) ps
  else climb nd ((n + 1) / 2) (k / 2) x l
termination_by n
decreasing_by all_goals omega

theorem climb_end {nd : Nat → Nat → Nat} {n k x : Nat} {l : List Nat} (h : n ≤ 1) : climb nd n k x l = some (x, l) := by
  rw [climb.eq_def]; simp [h]
theorem climb_skip {nd : Nat → Nat → Nat} {n k x : Nat} {l : List Nat} (h : 1 < n) (hk : ¬ k ^^^ 1 < n) : climb nd n k x l = climb nd ((n + 1) / 2) (k / 2) x l := by
  conv => lhs; rw [climb.eq_def]
  rw [dif_neg (by omega), if_neg hk]
theorem climb_none {nd : Nat → Nat → Nat} {n k x : Nat} (h : 1 < n) (hk : k ^^^ 1 < n) : climb nd n k x [] = none := by
  rw [climb.eq_def, dif_neg (by omega), if_pos hk]
theorem climb_step {nd : Nat → Nat → Nat} {n k x p : Nat} {l : List Nat} (h : 1 < n) (hk : k ^^^ 1 < n) : climb nd n k x (p :: l) = climb nd ((n + 1) / 2) (k / 2) (if k % 2 = 0 then nd x p else nd p x) l := by
  conv => lhs; rw [climb.eq_def]
  rw [dif_neg (by omega), if_pos hk]

/-- How many the way takes. -/
def tneed (n k : Nat) : Nat := if h : n ≤ 1 then 0 else (if k ^^^ 1 < n then 1 else 0) + tneed ((n + 1) / 2) (k / 2)
termination_by n
decreasing_by omega
theorem need_end {n k : Nat} (h : n ≤ 1) : tneed n k = 0 := by rw [tneed]; simp [h]
theorem need_step {n k : Nat} (h : 1 < n) : tneed n k = (if k ^^^ 1 < n then 1 else 0) + tneed ((n + 1) / 2) (k / 2) := by
  conv => lhs; rw [tneed]
  rw [dif_neg (by omega)]

theorem climb_need (nd : Nat → Nat → Nat) : ∀ (n k x : Nat) (l : List Nat), (l.length < tneed n k → climb nd n k x l = none) ∧ (tneed n k ≤ l.length → ∃ y, climb nd n k x l = some (y, l.drop (tneed n k)) ∧ ∀ m, climb nd n k x (l ++ m) = some (y, l.drop (tneed n k) ++ m)) := by
  intro n
  induction n using Nat.strongRecOn with
  | ind n ih =>
    intro k x l
    rcases Nat.lt_or_ge 1 n with h | h
    · by_cases hk : k ^^^ 1 < n
      · rw [need_step h, if_pos hk]
        cases l with
        | nil =>
          rw [climb_none h hk]
          exact ⟨fun _ => rfl, fun h => by simp at h⟩
        | cons p l =>
          rw [climb_step h hk]
          have e := ih ((n + 1) / 2) (by omega) (k / 2) (if k % 2 = 0 then nd x p else nd p x) l
          refine ⟨fun hl => e.1 (by simp at hl; omega), fun hl => ?_⟩
          obtain ⟨y, h1, h2⟩ := e.2 (by simp at hl; omega)
          refine ⟨y, ?_, fun m => ?_⟩
          · rw [h1, Nat.add_comm 1 (tneed _ _), List.drop_succ_cons]
          · rw [List.cons_append, climb_step h hk, h2, Nat.add_comm 1 (tneed _ _), List.drop_succ_cons]
      · rw [need_step h, if_neg hk, climb_skip h hk, Nat.zero_add]
        have e := ih ((n + 1) / 2) (by omega) (k / 2) x l
        refine ⟨e.1, fun hl => ?_⟩
        obtain ⟨y, h1, h2⟩ := e.2 hl
        exact ⟨y, h1, fun m => by rw [climb_skip h hk, h2]⟩
    · rw [need_end h, climb_end h]
      refine ⟨fun h => by omega, fun _ => ⟨x, by simp, fun m => by rw [climb_end h]; simp⟩⟩

/-- What Check tells. -/
def shows (nd : Nat → Nat → Nat) (root n k x : Nat) (l : List Nat) : Bool :=
  match climb nd n k x l with
  | some (y, []) => y == root
  | _ => false
theorem shows_iff {nd : Nat → Nat → Nat} {root n k x : Nat} {l : List Nat} : shows nd root n k x l = true ↔ climb nd n k x l = some (root, []) := by
  unfold shows
  split
  · rename_i y h; rw [h]; simp
  · rename_i h
    constructor
    · intro h'; cases h'
    · intro h'; exact absurd h' (h root)
theorem shows_length {nd : Nat → Nat → Nat} {root n k x : Nat} {l : List Nat} (h : shows nd root n k x l = true) : l.length = tneed n k := by
  rw [shows_iff] at h
  have e := climb_need nd n k x l
  rcases Nat.lt_or_ge l.length (tneed n k) with h1 | h1
  · rw [e.1 h1] at h; cases h
  · obtain ⟨y, h2, -⟩ := e.2 h1
    rw [h2] at h
    simp only [Option.some.injEq, Prod.mk.injEq, List.drop_eq_nil_iff] at h
    omega

/-- The next level. -/
def upL (nd : Nat → Nat → Nat) : List Nat → List Nat
  | [] => []
  | [a] => [a]
  | a :: b :: l => nd a b :: upL nd l
theorem upL_length (nd : Nat → Nat → Nat) : ∀ l : List Nat, (upL nd l).length = (l.length + 1) / 2
  | [] => rfl
  | [a] => by simp [upL]
  | a :: b :: l => by simp only [upL, List.length_cons, upL_length nd l]; omega
theorem xor_one (k : Nat) : k ^^^ 1 = if k % 2 = 0 then k + 1 else k - 1 := by
  have h : (k ^^^ 1) % 2 = (k + 1) % 2 := by
    have := Nat.testBit_xor k 1 0
    rw [Nat.testBit_zero, Nat.testBit_zero, Nat.testBit_zero] at this
    rcases Nat.mod_two_eq_zero_or_one k with h | h <;> rcases Nat.mod_two_eq_zero_or_one (k ^^^ 1) with h' | h' <;> rw [h, h'] at this <;> simp at this <;> omega
  have hd : (k ^^^ 1) / 2 = k / 2 := by
    have e := Nat.shiftRight_xor_distrib (a := k) (b := 1) (i := 1)
    rw [Nat.shiftRight_eq_div_pow, Nat.shiftRight_eq_div_pow, Nat.shiftRight_eq_div_pow] at e
    simpa using e
  have e1 := Nat.div_add_mod (k ^^^ 1) 2
  have e2 := Nat.div_add_mod k 2
  rw [hd] at e1
  split <;> omega
theorem upL_get (nd : Nat → Nat → Nat) : ∀ (l : List Nat) (k : Nat), k < l.length → (upL nd l).getD (k / 2) 0 = if k ^^^ 1 < l.length then (if k % 2 = 0 then nd (l.getD k 0) (l.getD (k ^^^ 1) 0) else nd (l.getD (k ^^^ 1) 0) (l.getD k 0)) else l.getD k 0
  | [], k, h => by simp at h
  | [a], k, h => by
    obtain rfl : k = 0 := by simpa using h
    simp [upL]
  | a :: b :: l, k, h => by
    rcases Nat.lt_or_ge k 2 with h2 | h2
    · have : k = 0 ∨ k = 1 := by omega
      rcases this with rfl | rfl <;> simp [upL]
    · obtain ⟨j, rfl⟩ := Nat.exists_eq_add_of_le' h2
      have ih := upL_get nd l j (by simpa using h)
      have e1 : (j + 2) / 2 = j / 2 + 1 := by omega
      have e2 : (j + 2) ^^^ 1 = (j ^^^ 1) + 2 := by rw [xor_one, xor_one]; split <;> split <;> omega
      have e3 : (j + 2) % 2 = j % 2 := by omega
      rw [e1, e2, e3]
      simp only [upL, List.getD_cons_succ, List.length_cons]
      rw [ih]
      have : ((j ^^^ 1) + 2 < l.length + 1 + 1) ↔ (j ^^^ 1) < l.length := by omega
      simp only [this]

/-- The root. -/
def rootL (nd : Nat → Nat → Nat) (l : List Nat) : Nat := if h : l.length ≤ 1 then l.getD 0 0 else rootL nd (upL nd l)
termination_by l.length
decreasing_by rw [upL_length]; omega
theorem rootL_end {nd : Nat → Nat → Nat} {l : List Nat} (h : l.length ≤ 1) : rootL nd l = l.getD 0 0 := by rw [rootL]; simp [h]
theorem rootL_step {nd : Nat → Nat → Nat} {l : List Nat} (h : 1 < l.length) : rootL nd l = rootL nd (upL nd l) := by
  conv => lhs; rw [rootL]
  rw [dif_neg (by omega)]
/-- The proof. -/
def proveL (nd : Nat → Nat → Nat) (l : List Nat) (k : Nat) : List Nat := if h : l.length ≤ 1 then [] else (if k ^^^ 1 < l.length then [l.getD (k ^^^ 1) 0] else []) ++ proveL nd (upL nd l) (k / 2)
termination_by l.length
decreasing_by rw [upL_length]; omega
theorem proveL_end {nd : Nat → Nat → Nat} {l : List Nat} {k : Nat} (h : l.length ≤ 1) : proveL nd l k = [] := by rw [proveL]; simp [h]
theorem proveL_step {nd : Nat → Nat → Nat} {l : List Nat} {k : Nat} (h : 1 < l.length) : proveL nd l k = (if k ^^^ 1 < l.length then [l.getD (k ^^^ 1) 0] else []) ++ proveL nd (upL nd l) (k / 2) := by
  conv => lhs; rw [proveL]
  rw [dif_neg (by omega)]

theorem proves (nd : Nat → Nat → Nat) : ∀ (n : Nat) (l : List Nat) (k : Nat), l.length = n → k < n → climb nd n k (l.getD k 0) (proveL nd l k) = some (rootL nd l, []) := by
  intro n
  induction n using Nat.strongRecOn with
  | ind n ih =>
    intro l k hl hk
    rcases Nat.lt_or_ge 1 n with h | h
    · rw [proveL_step (by omega), rootL_step (by omega)]
      have e := ih ((n + 1) / 2) (by omega) (upL nd l) (k / 2) (by rw [upL_length, hl]) (by omega)
      rw [upL_get nd l k (by omega), hl] at e
      rw [hl]
      by_cases hx : k ^^^ 1 < n
      · rw [if_pos hx] at e ⊢
        rw [List.singleton_append, climb_step h hx, e]
      · rw [if_neg hx] at e ⊢
        rw [List.nil_append, climb_skip h hx, e]
    · rw [proveL_end (by omega), rootL_end (by omega), climb_end h]
      obtain rfl : k = 0 := by omega
      rfl
theorem proveL_length (nd : Nat → Nat → Nat) : ∀ (t n : Nat) (l : List Nat) (k : Nat), l.length = n → n ≤ 2 ^ t → (proveL nd l k).length ≤ t := by
  intro t
  induction t with
  | zero =>
    intro n l k hl h
    rw [proveL_end (by simp at h; omega)]
    simp
  | succ t ih =>
    intro n l k hl h
    rcases Nat.lt_or_ge 1 n with h1 | h1
    · rw [proveL_step (by omega), List.length_append]
      have := ih ((n + 1) / 2) (upL nd l) (k / 2) (by rw [upL_length, hl]) (by rw [Nat.pow_succ] at h; omega)
      split <;> simp <;> omega
    · rw [proveL_end (by omega)]
      simp

theorem shows_more {nd : Nat → Nat → Nat} {root n k x : Nat} {l : List Nat} (h : shows nd root n k x l = true) (b : Nat) : shows nd root n k x (l ++ [b]) = false := by
  cases h' : shows nd root n k x (l ++ [b])
  · rfl
  · have := shows_length h
    have := shows_length h'
    simp at this
    omega
theorem shows_less {nd : Nat → Nat → Nat} {root n k x : Nat} {l : List Nat} (h : shows nd root n k x l = true) (h0 : l ≠ []) : shows nd root n k x l.tail = false := by
  cases h' : shows nd root n k x l.tail
  · rfl
  · have := shows_length h
    have := shows_length h'
    cases l with
    | nil => exact absurd rfl h0
    | cons a l => simp at *; omega

end Wm

/-
  The contracts of the hash functions of trees.
-/
set_option linter.unusedVariables false
set_option linter.unusedSimpArgs false
namespace Go.Proofs.Ytkebldjepdhioaa
open Go.RowKit

theorem num_eq {K : IntKind} {a b : Int} (h : a = b) : Value.int K a = Value.int K b := by rw [h]
theorem u64_wrap_in (x : Int) : 0 ≤ IntKind.u64.wrap x ∧ IntKind.u64.wrap x < 18446744073709551616 := by
  rw [IntKind.wrap_u64]
  exact ⟨Int.emod_nonneg _ (by omega), Int.emod_lt_of_pos _ (by omega)⟩
theorem u64_xor_in (x y : Int) : 0 ≤ bits .xor .u64 x y ∧ bits .xor .u64 x y < 18446744073709551616 := u64_wrap_in _

def mixI (x k : Int) : Int :=
  bits .xor .u64 (IntKind.u64.wrap (bits .xor .u64 (bits .xor .u64 x k) (bits .xor .u64 x k / 2147483648) * 11400714819323198485))
    (IntKind.u64.wrap (bits .xor .u64 (bits .xor .u64 x k) (bits .xor .u64 x k / 2147483648) * 11400714819323198485) / 536870912)
theorem mixI_in (x k : Int) : 0 ≤ mixI x k ∧ mixI x k < 18446744073709551616 := u64_xor_in _ _
theorem mix_any (x k : Int) (w : World) :
    Calls Try.prog 47 #[.int .u64 x, .int .u64 k] w fun e w' => e = .returned (.int .u64 (mixI x k)) ∧ w' = w := by
  go_enter Try.func47, Try.ntmps47
  go_wp2
  go_ret
  exact ⟨rfl, rfl⟩

def nodeI (l r : Int) : Int := mixI (IntKind.u64.wrap (IntKind.u64.wrap (mixI l 5 * 3) + r)) 3
theorem node_any (l r : Int) (w : World) :
    Calls Try.prog 27 #[.int .u64 l, .int .u64 r] w fun e w' => e = .returned (.int .u64 (nodeI l r)) ∧ w' = w := by
  have C := hide mix_any
  have e : nodeI l r = mixI (IntKind.u64.wrap (IntKind.u64.wrap (mixI l 5 * 3) + r)) 3 := rfl
  rw [e]
  clear e
  go_enter Try.func27, Try.ntmps27
  go_wp2_with fail
  refine (unhide C _ _ _).mono ?_
  rintro e w' ⟨rfl, rfl⟩
  go_wp2_with fail
  go_wp2_with fail
  refine (unhide C _ _ _).mono ?_
  rintro e w' ⟨rfl, rfl⟩
  go_wp2
  go_ret
  exact ⟨rfl, rfl⟩
def nd (l r : Nat) : Nat := (nodeI l r).toNat
theorem nd_cast (l r : Nat) : ((nd l r : Nat) : Int) = nodeI l r := Int.toNat_of_nonneg (mixI_in _ _).1
theorem Node_any (l r : Nat) (w : World) :
    Calls Try.prog 27 #[.int .u64 l, .int .u64 r] w fun e w' => e = .returned (.int .u64 (nd l r)) ∧ w' = w := by
  rw [nd_cast]
  exact node_any _ _ w

def leafAt (s : ByteArray) : Nat → Int
  | 0 => (s.size : Int)
  | i + 1 => IntKind.u64.wrap (bits .xor .u64 (leafAt s i) (IntKind.u64.wrap ((s.data.getD i 0).toNat : Int)) * 1099511628211)
def leafI (s : ByteArray) : Int := mixI (leafAt s s.size) 2
def lf (s : ByteArray) : Nat := (leafI s).toNat
theorem lf_cast (s : ByteArray) : ((lf s : Nat) : Int) = leafI s := Int.toNat_of_nonneg (mixI_in _ _).1

set_option maxRecDepth 100000 in
theorem Leaf_any (s : ByteArray) (w : World) (hs : (s.size : Int) ≤ 9223372036854775807) :
    Calls Try.prog 26 #[.string s] w fun e w' => e = .returned (.int .u64 (lf s)) ∧ w' = w := by
  rw [lf_cast]
  have C := hide mix_any
  have hw : IntKind.u64.wrap (s.size : Int) = (s.size : Int) := by rw [IntKind.wrap_u64]; omega
  go_enter Try.func26, Try.ntmps26
  go_wp2
  go_loopw [3, 10] (fun x i wr => ∃ k : Nat, k ≤ s.size ∧ i = .int .i64 k ∧ x = .int .u64 (leafAt s k) ∧ wr = w) (fun _ i _ => s.size - (intOf i).toNat)
  case atStart => exact ⟨0, Nat.zero_le _, rfl, rfl, rfl⟩
  case round =>
    obtain ⟨k, hk, rfl, rfl, rfl⟩ := hrel
    by_cases hlt : k < s.size
    · have hd : s.data[k]? = some (s.data.getD k 0) := by
        rw [Array.getD_eq_getD_getElem?, Array.getElem?_eq_getElem (by simpa using hlt)]; rfl
      have hn : leafAt s (k + 1) = IntKind.u64.wrap (bits .xor .u64 (leafAt s k) (IntKind.u64.wrap ((s[k]'hlt).toNat : Int)) * 1099511628211) := by
        rw [leafAt]
        have : s.data.getD k 0 = s[k]'hlt := by rw [Array.getD_eq_getD_getElem?, hd, Option.getD_some, Array.getD_eq_getD_getElem?, Array.getElem?_eq_getElem (by simpa using hlt)]; rfl
        rw [this]
      have HN := hide hn
      clear hn hd
      go_wp2
      go_roundw
      case rel => exact ⟨k + 1, by omega, num_eq (by push_cast; rfl), by rw [unhide HN], by first | rfl | trivial⟩
      case measure => simp [intOf]; omega
    · obtain rfl : k = s.size := by omega
      go_wp2_with fail
      go_wp2_with fail
      refine (unhide C _ _ _).mono ?_
      rintro e w' ⟨rfl, rfl⟩
      go_wp2
      go_ret
      exact ⟨rfl, rfl⟩
end Go.Proofs.Ytkebldjepdhioaa

/-
  The contract of Check for hash trees.
-/
set_option linter.unusedVariables false
set_option linter.unusedSimpArgs false
namespace Go.Proofs.Ytkebldjepdhioaa
open Go.RowKit Go.BigFrame

/-- A proof that came in: a slice of u64 numbers. -/
def Longs (w : World) (A : Option Addr) (n c : Nat) (l : List Nat) : Prop := Row w A n 1 (nats .u64 l) ∧ n ≤ c ∧ c ≤ 9223372036854775807
theorem Longs.len {w : World} {A : Option Addr} {n c : Nat} {l : List Nat} (h : Longs w A n c l) : l.length = n := h.1.numN
theorem Longs.tail {w : World} {A : Option Addr} {n c : Nat} {l : List Nat} (h : Longs w A n c l) (hn : 0 < n) : Longs w (if c = 1 then A else A.map (·.add (1 * 1))) (n - 1) (c - 1) l.tail := by
  obtain ⟨h1, h2, h3⟩ := h
  refine ⟨?_, by omega, by omega⟩
  have := h1.drop (k := 1) (by omega) h2
  rw [Nat.one_mul, nats_drop, List.drop_one] at this
  exact this
theorem Longs.tail' {w : World} {b o n c : Nat} {l : List Nat} (h : Longs w (some ⟨b, o, none⟩) n c l) (hn : 0 < n) : Longs w (if c = 1 then some ⟨b, o, none⟩ else some ⟨b, o + 1, none⟩) (n - 1) (c - 1) l.tail := by
  have := h.tail hn
  simpa [Addr.add] using this
theorem Longs.keep {w w' : World} {A : Option Addr} {n c : Nat} {l : List Nat} (h : Longs w A n c l) (E : Ext w w') : Longs w' A n c l := ⟨h.1.keep E, h.2⟩
theorem xor_i64 (k : Nat) (h : k < 1000) : bits .xor .i64 (k : Int) 1 = ((k ^^^ 1 : Nat) : Int) := i64_xor_nat k 1 (by omega) (by omega)

theorem shows_end {root x : Nat} {l : List Nat} (h : l = []) : Wm.shows nd root 1 0 x l = (x == root) := by
  subst h
  unfold Wm.shows
  rw [Wm.climb_end (by omega)]
theorem shows_end' {root x : Nat} {l : List Nat} (h : l ≠ []) : Wm.shows nd root 1 0 x l = false := by
  unfold Wm.shows
  rw [Wm.climb_end (by omega)]
  cases l with
  | nil => exact absurd rfl h
  | cons a l => rfl
theorem shows_skip {root n k x : Nat} {l : List Nat} (h : 1 < n) (hk : ¬ k ^^^ 1 < n) : Wm.shows nd root n k x l = Wm.shows nd root ((n + 1) / 2) (k / 2) x l := by
  unfold Wm.shows
  rw [Wm.climb_skip h hk]
theorem shows_none {root n k x : Nat} {l : List Nat} (h : 1 < n) (hk : k ^^^ 1 < n) (hl : l = []) : Wm.shows nd root n k x l = false := by
  subst hl
  unfold Wm.shows
  rw [Wm.climb_none h hk]
theorem shows_step {root n k x : Nat} {l : List Nat} (h : 1 < n) (hk : k ^^^ 1 < n) (hl : l ≠ []) : Wm.shows nd root n k x l = Wm.shows nd root ((n + 1) / 2) (k / 2) (if k % 2 = 0 then nd x (l.getD 0 0) else nd (l.getD 0 0) x) l.tail := by
  cases l with
  | nil => exact absurd rfl hl
  | cons a l =>
    unfold Wm.shows
    rw [Wm.climb_step h hk]
    rfl
theorem beq_cast (a b : Nat) : ((a : Int) == (b : Int)) = (a == b) := by
  by_cases h : a = b
  · subst h; simp
  · rw [beq_eq_false_iff_ne.2 h, beq_eq_false_iff_ne.2 (by omega)]

end Go.Proofs.Ytkebldjepdhioaa

/-
  The contracts of leaves and up for hash trees.
-/
set_option linter.unusedVariables false
set_option linter.unusedSimpArgs false
namespace Go.Proofs.Ytkebldjepdhioaa
open Go.RowKit Go.BigFrame

theorem longI : EInfo Try.prog 38 42 (.int .u64 0) 1 8 := EInfo.mk_ Try.underlying38 (by kernel_rfl) rfl (by omega)
theorem nats_snoc (K : IntKind) (l : List Nat) (x : Nat) : nats K (l ++ [x]) = nats K l ++ [.int K (x : Int)] := by simp [nats]

def LeavesPost (l : List ByteArray) (w w' : World) (e : Ending) : Prop := ∃ v, e = .returned (.tuple #[v, .int .i64 0]) ∧ w'.ownsRow w.heap.size 42 1 v l.length (nats .u64 (l.map lf))
set_option maxRecDepth 100000 in
set_option maxHeartbeats 1000000 in
theorem leaves_any (A : Option Addr) (n c : Nat) (l : List ByteArray) (w : World) (hn1 : 1 ≤ n) (hn : n ≤ 16) (hl : Row w A n 1 (strs l)) (hs : ∀ s ∈ l, (s.size : Int) ≤ 9223372036854775807) :
    Calls Try.prog 44 #[.slice A n c] w fun e w' => LeavesPost l w w' e ∧ Ext w w' := by
  have hlen := hl.strN
  have HS := hide hs
  clear hs
  go_enter Try.func44, Try.ntmps44
  go_wp2
  go_loopw [4, 17] (fun v i wr => ∃ k : Nat, k ≤ n ∧ i = .int .i64 k ∧ wr.ownsRow w.heap.size 42 1 v k (nats .u64 ((l.take k).map lf)) ∧ Ext w wr) (fun _ i _ => n - (intOf i).toNat)
  case atStart => exact ⟨0, Nat.zero_le _, rfl, World.ownsRow_nil _ _ _ _, Ext.refl _⟩
  case round =>
    obtain ⟨k, hk, rfl, hown, hext⟩ := hrel
    by_cases hlt : k < n
    · obtain ⟨b, o, rfl, hb, hc⟩ := (hl.keep hext).str hlt
      have hsm := unhide HS _ (getD_mem l ByteArray.empty (show k < l.length by omega))
      have htk : nats .u64 ((l.take (k + 1)).map lf) = nats .u64 ((l.take k).map lf) ++ [.int .u64 (lf (l.getD k ByteArray.empty))] := by
        rw [take_snoc l ByteArray.empty (by omega), List.map_append]
        exact nats_snoc _ _ _
      have HT := hide htk
      have HOW := hide hown
      generalize l.getD k ByteArray.empty = s at *
      have CL := hide (Leaf_any s · hsm)
      have hbd : (k + 1) * 8 ≤ 140737488355328 ∧ k + 1 ≤ 9223372036854775807 := by omega
      clear htk hown hsm hl hlen
      go_wp2_with fail
      refine (unhide CL _).mono ?_
      rintro e w' ⟨rfl, rfl⟩
      go_wp2_with (at_builtin; refine wpList_app rfl _ _ 38 (by rfl) 42 longI hext _ _ _ _ (by rfl) (unhide HOW) 1 1 (by rfl) rfl rfl hbd ?_)
      intro v' w2 hown' hext' _
      have hown2 : w2.ownsRow w.heap.size 42 1 v' (k + 1) (nats .u64 ((l.take (k + 1)).map lf)) := by rw [unhide HT, List.map_take]; exact hown'
      clear hown'
      go_wp2
      go_roundw
      case rel => exact ⟨k + 1, by omega, num_eq (by omega), hown2, hext'⟩
      case measure => simp [intOf]; omega
    · obtain rfl : k = n := by omega
      rw [List.take_of_length_le (by omega)] at hown
      have HOW := hide hown
      clear hown
      go_wp2
      go_ret2
      exact ⟨⟨_, rfl, by rw [hlen]; exact unhide HOW⟩, hext⟩

set_option maxRecDepth 100000 in
theorem leaves_bad (A : Option Addr) (n c : Nat) (w : World) (h : n < 1 ∨ 16 < n) :
    Calls Try.prog 44 #[.slice A n c] w fun e w' => e = .returned (.tuple #[.slice none 0 0, .int .i64 2]) ∧ w' = w := by
  rcases h with h | h
  · obtain rfl : n = 0 := by omega
    go_enter Try.func44, Try.ntmps44
    go_wp2
    go_ret2
    exact ⟨rfl, rfl⟩
  · have h1 : ¬ (n : Int) < 1 := by omega
    have h2 : (16 : Int) < (n : Int) := by omega
    clear h
    go_enter Try.func44, Try.ntmps44
    go_wp2
    go_ret2
    exact ⟨rfl, rfl⟩

theorem upL_take {f : Nat → Nat → Nat} : ∀ (l : List Nat) (j : Nat), 2 * j < l.length → (Wm.upL f l).take (j + 1) = (Wm.upL f l).take j ++ [if 2 * j + 1 = l.length then l.getD (2 * j) 0 else f (l.getD (2 * j) 0) (l.getD (2 * j + 1) 0)]
  | [], j, h => by simp at h
  | [a], j, h => by
    obtain rfl : j = 0 := by simp at h; omega
    simp [Wm.upL]
  | a :: b :: l, 0, h => by simp [Wm.upL]
  | a :: b :: l, j + 1, h => by
    have ih := upL_take (f := f) l j (by simp at h; omega)
    have e : 2 * (j + 1) = 2 * j + 1 + 1 := by omega
    have e2 : (2 * j + 1 + 1 + 1 = (a :: b :: l).length) ↔ (2 * j + 1 = l.length) := by simp
    simp only [Wm.upL, List.take_succ_cons, List.cons_append, ih, e, List.getD_cons_succ, e2]

set_option maxRecDepth 100000 in
set_option maxHeartbeats 2000000 in
theorem up_any (A : Option Addr) (n c : Nat) (l : List Nat) (w : World) (hn : n ≤ 16) (hl : Row w A n 1 (nats .u64 l)) :
    Calls Try.prog 45 #[.slice A n c] w fun e w' => (∃ v, e = .returned v ∧ w'.ownsRow w.heap.size 42 1 v ((n + 1) / 2) (nats .u64 (Wm.upL nd l))) ∧ Ext w w' := by
  have hlen := hl.numN
  have CN := hide Node_any
  have HUP := hide (fun j h => upL_take (f := nd) l j h)
  go_enter Try.func45, Try.ntmps45
  go_wp2
  go_loopw [3, 4] (fun v i wr => ∃ k : Nat, k ≤ (n + 1) / 2 ∧ i = .int .i64 ((2 * k : Nat) : Int) ∧ wr.ownsRow w.heap.size 42 1 v k (nats .u64 ((Wm.upL nd l).take k)) ∧ Ext w wr) (fun _ i _ => 40 - (intOf i).toNat)
  case atStart => exact ⟨0, Nat.zero_le _, rfl, World.ownsRow_nil _ _ _ _, Ext.refl _⟩
  case round =>
    obtain ⟨k, hk, rfl, hown, hext⟩ := hrel
    have hsz := hext.size
    by_cases hlt : 2 * k < n
    · obtain ⟨b, o, rfl, hb, hc⟩ := hl.nat hlt
      have hrow := hl
      have hc := hext.keep hc
      have hne := fun q hq => (hown.lt q hq).1
      have htk := unhide HUP k (by omega)
      have hbd : (k + 1) * 8 ≤ 140737488355328 ∧ k + 1 ≤ 9223372036854775807 := by omega
      have HOW := hide hown
      clear hown
      obtain ⟨i2, hi2⟩ : ∃ i2, i2 = 2 * k := ⟨_, rfl⟩
      rw [← hi2] at htk hc hlt ⊢
      have hi20 : (0 : Int) ≤ (i2 : Int) := by omega
      have hi2n : (i2 : Int) < (n : Int) := by omega
      by_cases hend : i2 + 1 = n
      · rw [if_pos (by omega)] at htk
        have hendI : (i2 : Int) + 1 = (n : Int) := by omega
        have HT := hide htk
        generalize l.getD i2 0 = x at *
        have HI2 := hide hi2
        have HH := hide hend
        clear htk hrow hl hlen hi2 hend
        go_wp2_with (at_builtin; refine wpList_app rfl _ _ 38 (by rfl) 42 longI hext _ _ _ _ (by rfl) (unhide HOW) 1 1 (by rfl) rfl rfl hbd ?_)
        intro v' w2 hown' hext' _
        have hown2 : w2.ownsRow w.heap.size 42 1 v' (k + 1) (nats .u64 ((Wm.upL nd l).take (k + 1))) := by rw [unhide HT, nats_snoc]; exact hown'
        clear hown'
        go_wp2
        go_roundw
        case rel => exact ⟨k + 1, by have := unhide HI2; have := unhide HH; omega, num_eq (by have := unhide HI2; omega), hown2, hext'⟩
        case measure => have := unhide HI2; simp [intOf]; omega
      · rw [if_neg (by omega)] at htk
        obtain ⟨b', o', e', hb', hc'⟩ := hrow.nat (k := i2 + 1) (by omega)
        injection e' with e'
        injection e' with e1 e2
        subst e1; subst e2
        have hc' := hext.keep hc'
        have hendI : ¬ (i2 : Int) + 1 = (n : Int) := by omega
        have hendB : ((i2 : Int) + 1 == (n : Int)) = false := by rw [beq_eq_false_iff_ne]; exact hendI
        have hi21 : (0 : Int) ≤ (i2 : Int) + 1 := by omega
        have hi2w : IntKind.i64.wrap ((i2 : Int) + 1) = (i2 : Int) + 1 := IntWalk.i64_in _ (by omega)
        have hi22 : (i2 : Int) + 1 < (n : Int) := by omega
        have hi23 : ((i2 : Int) + 1).toNat = i2 + 1 := by omega
        have HT := hide htk
        generalize l.getD i2 0 = x at *
        generalize l.getD (i2 + 1) 0 = y at *
        have HI2 := hide hi2
        have HH := hide hend
        clear htk hrow hl hlen hi2 hend
        go_upto_region 7 with fail
        obtain ⟨ht0, ⟨i0, hi0, hz0, hz1, hz2⟩, -, -⟩ := longI
        go_region_held3 (fun w' => w'.cell? ⟨b, o + i2, none⟩ = some (.int .u64 (x : Int)) ∧ w'.cell? ⟨b, o + (i2 + 1), none⟩ = some (.int .u64 (y : Int))) (go_keep)
          (first
            | (go_at_call 27; refine (unhide CN _ _ _).mono ?_; rintro e w' ⟨rfl, rfl⟩)
            | (refine step_append_own rfl _ _ 38 rfl w.heap.size 42 i0 (.int .u64 0) 1 8 ht0 hi0 hz0 hz1 hz2 rfl (by decide) _ k (nats .u64 ((Wm.upL nd l).take k)) rfl ?o ⟨wr.heap.size, 0, none⟩ 1 1 [.int .u64 (nd x y : Int)] rfl rfl ?c1 ?c2 ?c3 ?c4 ?c5 ?h
               case o => exact World.ownsRow.alloc (World.ownsRow.drew (unhide HOW)) _
               case c1 =>
                 intro j u hj
                 match j, hj with
                 | 0, hj => simp at hj; subst hj; exact (World.cell?_alloc_at _ _ _ _ rfl).trans rfl
               case c2 => intro u hu; simp at hu; subst hu; rfl
               case c3 => unfold maxLen; omega
               case c4 => omega
               case c5 => simp; omega
               intro v' w' hown' hgrow _
               have k1 := hgrow.cell (a := ⟨b, o + i2, none⟩) (v := .int .u64 (x : Int)) (by simp [*]) (by intro hq; first | (have := hne b hq; omega) | (have := hne b hq.symm; omega))
               have k2 := hgrow.cell (a := ⟨b, o + (i2 + 1), none⟩) (v := .int .u64 (y : Int)) (by simp [*]) (by intro hq; first | (have := hne b hq; omega) | (have := hne b hq.symm; omega))))
        have hown2 : w'.ownsRow w.heap.size 42 1 v' (k + 1) (nats .u64 ((Wm.upL nd l).take (k + 1))) := by rw [unhide HT, nats_snoc]; exact hown'
        have hext' := (hext.drew.alloc (.cells #[.int .u64 (nd x y : Int)] 42)).grown hgrow hne
        clear hown' hgrow k1 k2
        go_wp2
        go_roundw
        case rel => exact ⟨k + 1, by have := unhide HI2; have := unhide HH; omega, num_eq (by have := unhide HI2; omega), hown2, hext'⟩
        case measure => have := unhide HI2; simp [intOf]; omega
    · have hkn : k = (n + 1) / 2 := by omega
      rw [List.take_of_length_le (by rw [Wm.upL_length]; omega), hkn] at hown
      have HOW := hide hown
      have hltI : ¬ 2 * (k : Int) < (n : Int) := by omega
      clear hown
      go_wp2
      go_ret
      exact ⟨⟨_, rfl, unhide HOW⟩, hext⟩
end Go.Proofs.Ytkebldjepdhioaa

/-
  The contracts of Root and Prove for hash trees.
-/
set_option linter.unusedVariables false
set_option linter.unusedSimpArgs false
namespace Go.Proofs.Ytkebldjepdhioaa
open Go.RowKit Go.BigFrame

set_option maxRecDepth 100000 in
set_option maxHeartbeats 1000000 in
theorem Root_ok (A : Option Addr) (n c : Nat) (l : List ByteArray) (w : World) (hn1 : 1 ≤ n) (hn : n ≤ 16) (hl : Row w A n 1 (strs l)) (hs : ∀ s ∈ l, (s.size : Int) ≤ 9223372036854775807) :
    Calls Try.prog 25 #[.slice A n c] w fun e w' => e = .returned (.tuple #[.int .u64 (Wm.rootL nd (l.map lf)), .int .i64 0]) ∧ Ext w w' := by
  have CL := hide (leaves_any A n c l w hn1 hn hl hs)
  have hlen := hl.strN
  clear hl hs
  go_enter Try.func25, Try.ntmps25
  go_wp2_with fail
  refine (unhide CL).mono ?_
  rintro e w1 ⟨⟨v, rfl, hown⟩, E1⟩
  go_wp2
  go_loopw [4] (fun v wr => ∃ l' : List Nat, 1 ≤ l'.length ∧ l'.length ≤ 16 ∧ Hid (Wm.rootL nd (l.map lf) = Wm.rootL nd l') ∧ wr.ownsRow w.heap.size 42 1 v l'.length (nats .u64 l') ∧ Ext w wr) (fun v _ => match v with | .slice _ m _ => m | _ => 0)
  case atStart => exact ⟨l.map lf, by simp; omega, by simp; omega, hide rfl, by simpa using hown, E1⟩
  case round =>
    obtain ⟨l', h1, h16, hrt, hown', hext⟩ := hrel
    clear hown
    obtain ⟨A', c', rfl, hrow, hc, hcm, -⟩ := row_of_own hown'
    unfold maxLen at hcm
    by_cases hlt : 1 < l'.length
    · have CU := hide (up_any A' l'.length c' l' wr (by omega) hrow)
      have hst := Wm.rootL_step (nd := nd) hlt
      have HR := hide ((unhide hrt).trans hst)
      have hul := Wm.upL_length nd l'
      have HO := hide hown'
      clear hst hrt hrow hown'
      obtain ⟨m, hm⟩ : ∃ m, m = l'.length := ⟨_, rfl⟩
      rw [← hm] at CU hlt ⊢
      have HM := hide hm
      clear hm
      have hmI : (1 : Int) < (m : Int) := by omega
      have hm16 : m ≤ 16 := by have := unhide HM; omega
      go_wp2_with fail
      refine (unhide CU).mono ?_
      rintro e w2 ⟨⟨v2, rfl, hown2⟩, E2⟩
      have hm' := unhide HM
      have hown3 := row_mono hown2 hext.size
      have hlen2 : (Wm.upL nd l').length = (m + 1) / 2 := by rw [hul, hm']
      go_wp2
      go_roundw
      case rel => exact ⟨Wm.upL nd l', by omega, by omega, HR, by rw [hlen2]; exact hown3, hext.trans E2⟩
      case measure =>
        obtain ⟨A2, c2, rfl, -⟩ := row_of_own hown2
        show (m + 1) / 2 < m
        omega
    · obtain ⟨b, o, rfl, hb, hcell⟩ := hrow.nat (k := 0) (by omega)
      have hrt' := (unhide hrt).trans (Wm.rootL_end (nd := nd) (by omega))
      have HR := hide hrt'
      rw [Nat.add_zero] at hcell
      obtain hm : l'.length = 1 := by omega
      rw [hm]
      clear hrow hrt hrt' hown' hlen
      generalize l'.getD 0 0 = x at *
      go_wp2
      go_ret2
      exact ⟨by rw [unhide HR]; rfl, hext⟩

set_option maxRecDepth 100000 in
theorem Root_bad (A : Option Addr) (n c : Nat) (w : World) (h : n < 1 ∨ 16 < n) :
    Calls Try.prog 25 #[.slice A n c] w fun e w' => e = .returned (.tuple #[.int .u64 0, .int .i64 2]) ∧ w' = w := by
  have CL := hide (leaves_bad A n c w h)
  clear h
  go_enter Try.func25, Try.ntmps25
  go_wp2_with fail
  refine (unhide CL).mono ?_
  rintro e w' ⟨rfl, rfl⟩
  go_wp2
  go_ret2
  exact ⟨rfl, rfl⟩

/-- What trees() tries. -/
def sa : ByteArray := { data := #[97] }
def sb : ByteArray := { data := #[98] }
theorem root_ab : ((lf sa : Nat) : Int) ≠ ((nd (lf sa) (lf sb) : Nat) : Int) := by decide +kernel

set_option maxRecDepth 100000 in
set_option maxHeartbeats 1000000 in
theorem trees_any (w : World) : Calls Try.prog 7 #[] w fun e w' => e = .returned (.bool true) ∧ Ext w w' := by
  have hsz : ∀ s ∈ [sa], (s.size : Int) ≤ 9223372036854775807 := by intro s hs; simp at hs; subst hs; decide
  have hsz2 : ∀ s ∈ [sa, sb], (s.size : Int) ≤ 9223372036854775807 := by intro s hs; simp at hs; rcases hs with rfl | rfl <;> decide
  have c1 := fun w : World => Root_ok (some ⟨w.heap.size, 0, none⟩) 1 1 [sa] (w.alloc (.cells #[.string { data := #[97] }] 9)) (by omega) (by omega) (row_new w _ _ 1 1 rfl) hsz
  have c2 := fun w : World => Root_ok (some ⟨w.heap.size, 0, none⟩) 2 2 [sa, sb] (w.alloc (.cells #[.string { data := #[97] }, .string { data := #[98] }] 9)) (by omega) (by omega) (row_new w _ _ 2 1 rfl) hsz2
  have r1 : Wm.rootL nd ([sa].map lf) = lf sa := Wm.rootL_end (by simp)
  have r2 : Wm.rootL nd ([sa, sb].map lf) = nd (lf sa) (lf sb) := by rw [Wm.rootL_step (by simp)]; exact Wm.rootL_end (by simp [Wm.upL])
  rw [r1] at c1
  rw [r2] at c2
  have l1 := fun w : World => Leaf_any sa w (by decide)
  have l2 := fun w : World => Leaf_any sb w (by decide)
  have n1 := fun w : World => Node_any (lf sa) (lf sb) w
  have hne := root_ab
  have hneB : (((lf sa : Nat) : Int) != ((nd (lf sa) (lf sb) : Nat) : Int)) = true := by rw [bne_iff_ne]; exact hne
  generalize hx : lf sa = x at *
  generalize hy : lf sb = y at *
  generalize nd x y = z at *
  have C1 := hide c1
  have C2 := hide c2
  have L1 := hide l1
  have L2 := hide l2
  have N1 := hide n1
  clear c1 c2 l1 l2 n1 hx hy hsz hsz2 r1 r2 hne
  go_enter Try.func7, Try.ntmps7
  go_wp2_with fail
  refine (unhide C1 _).mono ?_
  rintro e w1 ⟨rfl, E1⟩
  go_wp2_with fail
  refine (unhide C2 _).mono ?_
  rintro e w2 ⟨rfl, E2⟩
  go_wp2_with fail
  refine (unhide L1 _).mono ?_
  rintro e w3 ⟨rfl, rfl⟩
  go_wp2_with fail
  refine (unhide L2 _).mono ?_
  rintro e w4 ⟨rfl, rfl⟩
  go_wp2_with fail
  refine (unhide N1 _).mono ?_
  rintro e w5 ⟨rfl, rfl⟩
  go_wp2
  go_ret
  exact ⟨rfl, (((Ext.refl w).alloc _).trans E1).trans (((Ext.refl w1).alloc _).trans E2)⟩
end Go.Proofs.Ytkebldjepdhioaa

/-
  The contract of Prove for hash trees.
-/
set_option linter.unusedVariables false
set_option linter.unusedSimpArgs false
namespace Go.Proofs.Ytkebldjepdhioaa
open Go.RowKit Go.BigFrame

def sliceLen : Value → Nat
  | .slice _ m _ => m
  | _ => 0
def ProvePost (l : List Nat) (k : Nat) (w w' : World) (e : Ending) : Prop := ∃ v, e = .returned (.tuple #[v, .int .i64 0]) ∧ w'.ownsRow w.heap.size 42 1 v (Wm.proveL nd l k).length (nats .u64 (Wm.proveL nd l k))
theorem nats_one' (l : List Nat) : ∀ u ∈ nats .u64 l, u.oneCell' = true := by
  intro u hu
  simp only [nats, List.mem_map] at hu
  obtain ⟨x, -, rfl⟩ := hu
  rfl

set_option maxRecDepth 100000 in
set_option maxHeartbeats 2000000 in
theorem Prove_ok (A : Option Addr) (n c k : Nat) (l : List ByteArray) (w : World) (hn1 : 1 ≤ n) (hn : n ≤ 16) (hk : k < n) (hl : Row w A n 1 (strs l)) (hs : ∀ s ∈ l, (s.size : Int) ≤ 9223372036854775807) :
    Calls Try.prog 18 #[.slice A n c, .int .i64 k] w fun e w' => ProvePost (l.map lf) k w w' e ∧ Ext w w' := by
  have CL := hide (leaves_any A n c l w hn1 hn hl hs)
  have hlen := hl.strN
  have hle : (Wm.proveL nd (l.map lf) k).length ≤ 4 := Wm.proveL_length nd 4 (l.map lf).length _ k rfl (by simp; omega)
  have hkd : decide (n ≤ k) = false := decide_eq_false (by omega)
  have hkd2 : decide ((n : Int) ≤ (k : Int)) = false := decide_eq_false (by omega)
  clear hl hs
  go_enter Try.func18, Try.ntmps18
  go_wp2_with fail
  refine (unhide CL).mono ?_
  rintro e w1 ⟨⟨v, rfl, hown⟩, E1⟩
  go_wp2
  go_loopw [1, 6, 8] (fun kk v out wr => ∃ (k' : Nat) (l' pre : List Nat), kk = .int .i64 k' ∧ k' < l'.length ∧ l'.length ≤ 16 ∧ Hid (Wm.proveL nd (l.map lf) k = pre ++ Wm.proveL nd l' k') ∧ wr.ownsRow w.heap.size 42 1 v l'.length (nats .u64 l') ∧
    wr.ownsRow w.heap.size 42 1 out pre.length (nats .u64 pre) ∧ (pre = [] → out = .slice none 0 0) ∧ (∀ q, v.ownBlock = some q → out.ownBlock ≠ some q) ∧ Ext w wr) (fun _ v _ _ => sliceLen v)
  case atStart => exact ⟨k, l.map lf, [], rfl, by simp; omega, by simp; omega, hide rfl, by simpa using hown, World.ownsRow_nil _ _ _ _, fun _ => rfl, fun q _ h => by simp [Value.ownBlock] at h, E1⟩
  case round =>
    obtain ⟨k', l', pre, rfl, hk', h16, hpr, hown', hout, hnil, hapart, hext⟩ := hrel
    clear hown
    have hown0 := hown'
    obtain ⟨A', c', rfl, hrow, hc, hcm, hab⟩ := row_of_own hown'
    unfold maxLen at hcm
    have hpl : pre.length ≤ 4 := by
      have := congrArg List.length (unhide hpr)
      rw [List.length_append] at this
      omega
    by_cases hlt : 1 < l'.length
    · have hst := Wm.proveL_step (nd := nd) (k := k') hlt
      have hul := Wm.upL_length nd l'
      have HO := hide hown'
      obtain ⟨m, hm⟩ : ∃ m, m = l'.length := ⟨_, rfl⟩
      rw [← hm] at hlt hst hk' ⊢
      have HM := hide hm
      have hx := xor_i64 k' (by omega)
      have hmI : (1 : Int) < (m : Int) := by omega
      have hm16 : m ≤ 16 := by omega
      have CU := hide (fun (wz : World) (E : Ext w wz) (hr : Row wz A' m 1 (nats .u64 l')) => up_any A' m c' l' wz hm16 hr)
      by_cases hx1 : k' ^^^ 1 < m
      · rw [if_pos hx1] at hst
        obtain ⟨b, o, rfl, hb, hcell⟩ := hrow.nat (k := k' ^^^ 1) (by omega)
        have hrow2 := hrow
        obtain ⟨x, hxe⟩ : ∃ x, x = l'.getD (k' ^^^ 1) 0 := ⟨_, rfl⟩
        rw [← hxe] at hcell hst
        obtain ⟨j, hj⟩ : ∃ j, j = k' ^^^ 1 := ⟨_, rfl⟩
        rw [← hj] at hcell hx1 hx
        have HR := hide ((unhide hpr).trans (by rw [hst, ← List.append_assoc]))
        have hj0 : (0 : Int) ≤ (j : Int) := by omega
        have hjm : (j : Int) < (m : Int) := by omega
        have hbd : (pre.length + 1) * 8 ≤ 140737488355328 ∧ pre.length + 1 ≤ 9223372036854775807 := by omega
        have HOUT := hide hout
        have HROW := hide hrow2
        have hbq := fun v' w' (h : OutOf wr _ w' v') (q : Nat) (hq : some b = some q) => (by
          injection hq with hq
          subst hq
          intro h3
          rcases h.2 with h4 | ⟨j2, h4, h5⟩
          · exact hapart b rfl (h4 ▸ h3)
          · rw [h3] at h4; injection h4 with h4; omega : v'.ownBlock ≠ some q)
        have HBQ := hide hbq
        clear hst hrow hrow2 hown' hout hxe hj hpr hm hlen hbq
        go_wp2_with (at_builtin; refine wpList_apx rfl _ _ 38 (by rfl) 42 longI hext _ _ _ _ (by rfl) (unhide HOUT) 1 1 (by rfl) rfl rfl hbd (OutOf.refl _ _) ?_)
        intro v' w2 hown2 hext2 hout2
        have hrow2 := hout2.row (unhide HROW) (fun b' o' e => hapart b' (by rw [e]; rfl))
        rw [← unhide HM] at hrow2
        have C2 := hide (unhide CU w2 hext2 hrow2)
        have hown3 : w2.ownsRow w.heap.size 42 1 v' (pre ++ [x]).length (nats .u64 (pre ++ [x])) := by rw [nats_snoc, List.length_append]; exact hown2
        clear hown2 hrow2 hapart hab hout2
        have H3 := hide hown3
        clear hown3
        go_wp2_with fail
        refine (unhide C2).mono ?_
        rintro e w3 ⟨⟨v3, rfl, hown4⟩, E3⟩
        obtain ⟨A2, c2, rfl, -⟩ := row_of_own hown4
        have hlm := unhide HM
        have hlen2 : (Wm.upL nd l').length = (m + 1) / 2 := by rw [hul, hlm]
        have H4 := hide hown4
        clear hown4 hlm
        go_wp2
        go_roundw
        case rel =>
          refine ⟨k' / 2, Wm.upL nd l', pre ++ [x], num_eq (by omega), by omega, by omega, HR, ?_, row_ext (unhide H3) E3, fun h => by simp at h, fun q hq h => ?_, hext2.trans E3⟩
          · rw [hlen2]; exact row_mono (unhide H4) hext2.size
          · have h1 := ((unhide H4).lt q hq).1
            have h2 := ((unhide H3).lt q h).2
            omega
        case measure =>
          show (m + 1) / 2 < m
          omega
      · rw [if_neg hx1, List.nil_append] at hst
        have HR := hide ((unhide hpr).trans (by rw [hst]))
        have hrow2 := hrow
        rw [← unhide HM] at hrow2
        have C2 := hide (unhide CU wr hext hrow2)
        have H3 := hide hout
        clear hst hrow hrow2 hown' hout hpr hm hlen
        go_wp2_with fail
        refine (unhide C2).mono ?_
        rintro e w3 ⟨⟨v3, rfl, hown4⟩, E3⟩
        obtain ⟨A2, c2, rfl, -⟩ := row_of_own hown4
        have hlm := unhide HM
        have hlen2 : (Wm.upL nd l').length = (m + 1) / 2 := by rw [hul, hlm]
        have H4 := hide hown4
        clear hown4 hlm
        go_wp2
        go_roundw
        case rel =>
          refine ⟨k' / 2, Wm.upL nd l', pre, num_eq (by omega), by omega, by omega, HR, ?_, row_ext (unhide H3) E3, hnil, fun q hq h => ?_, hext.trans E3⟩
          · rw [hlen2]; exact row_mono (unhide H4) hext.size
          · have h1 := ((unhide H4).lt q hq).1
            have h2 := ((unhide H3).lt q h).2
            omega
        case measure =>
          show (m + 1) / 2 < m
          omega
    · have hpe := unhide hpr
      rw [Wm.proveL_end (nd := nd) (l := l') (k := k') (by omega), List.append_nil] at hpe
      have HP := hide hpe
      obtain ⟨ht0, ⟨i0, hi, hz0, hz1, hz2⟩, -, -⟩ := longI
      have hsz := hext.size
      have hm1 : l'.length = 1 := by omega
      rw [hm1]
      clear hown' hown0 hrow hpr hpe hlen hab hapart
      by_cases hl0 : pre = []
      · obtain rfl := hnil hl0
        have hmk0 : ∀ w : World, (Instr.makeSlice 38 (.int .i64 0) (.int .i64 0)).run Try.prog w = .ok (.slice (some ⟨w.heap.size, 0, none⟩) 0 0) (w.alloc (.cells (madeCells (Value.int .u64 0).cells (0 * 1)) 42)) := make_run0 longI 0 (by omega) (by omega)
        have hmade := World.ownsRow_made (base := w.heap.size) (e := 42) (size := 1) wr (madeCells (Value.int .u64 0).cells (0 * 1)) 0 hsz (by unfold maxLen; omega) (made_size _ _)
        have HMM := hide hmade
        clear hmade
        go_wp2_with (at_builtin; go_loud (refine wpList_append_own_none rfl _ _ 38 (by rfl) w.heap.size 42 i0 1 Try.underlying38 hi _ 0 [] (by rfl) (unhide HMM) (by rfl) ?_))
        go_wp2
        go_ret2
        exact ⟨⟨_, rfl, by rw [unhide HP, hl0]; exact unhide HMM⟩, hext.alloc _⟩
      · have hl0' : 0 < pre.length := List.length_pos_iff.2 hl0
        obtain ⟨g, cap, rfl, hg1, hg2, hg3, hg4, hcell⟩ := row_open hout hl0'
        have hmk := make_run0 longI pre.length (by omega) (by omega)
        have hmade := World.ownsRow_made (base := w.heap.size) (e := 42) (size := 1) wr (madeCells #[Value.int .u64 0] pre.length) pre.length hsz (by unfold maxLen; omega) (by rw [made_size]; omega)
        have HMM := hide hmade
        have HC := hide hcell
        clear hmade hcell hout hnil
        unfold maxLen at hg4
        go_wp2_with (at_builtin; refine wpList_append_own _ rfl _ _ 38 (by rfl) w.heap.size 42 i0 _ 1 8 Try.underlying38 hi hz0 hz1 hz2 rfl (by decide) _ 0 [] (by rfl) (unhide HMM) ⟨g, 0, none⟩ pre.length cap (nats .u64 pre) (by rfl) (by rw [nats_length]; omega) ?c1 (nats_one' _) ?c3 ?c4 ?c5 ?_)
        case c1 =>
          intro j u hj
          have hjl : j < pre.length * 1 := by
            have := (List.getElem?_eq_some_iff.1 hj).1
            rw [nats_length] at this
            omega
          have : (⟨g, 0, none⟩ : Addr).add j = ⟨g, j, none⟩ := by
            unfold Addr.add
            split
            · rename_i h0; simp [h0]
            · simp
          rw [this]
          exact (World.cell?_alloc_lt _ _ _ hg2).trans ((unhide HC j hjl).trans hj)
        case c3 => unfold maxLen; omega
        case c4 => omega
        case c5 => simp; omega
        intro v' w' hown' hgrow _
        have hown2 : w'.ownsRow w.heap.size 42 1 v' pre.length (nats .u64 pre) := by simpa using hown'
        have hext2 := (hext.alloc (.cells (madeCells #[Value.int .u64 0] pre.length) 42)).grown hgrow (fun q hq => by simp [Value.ownBlock] at hq; omega)
        clear hown' hgrow hmk
        go_wp2
        go_ret2
        exact ⟨⟨_, rfl, by rw [unhide HP]; exact hown2⟩, hext2⟩
end Go.Proofs.Ytkebldjepdhioaa
