/-
  The contract of Check for hash trees.
-/
import Derived.Test.YtheklkgilcdhoaaTree1
import Derived.Test.YtheklkgilcdhoaaBits1
set_option linter.unusedVariables false
set_option linter.unusedSimpArgs false
namespace Go.Proofs.Ytheklkgilcdhoaa
open Go.RowKit Go.BigFrame

/-- A proof that came in: a slice of u64 numbers. -/
def Longs (w : World) (A : Option Addr) (n c : Nat) (l : List Nat) : Prop := Row w A n 1 (nats .u64 l) ∧ n ≤ c ∧ c ≤ 9223372036854775807
theorem Longs.len {w : World} {A : Option Addr} {n c : Nat} {l : List Nat} (h : Longs w A n c l) : l.length = n := h.1.numN
theorem Longs.tail {w : World} {A : Option Addr} {n c : Nat} {l : List Nat} (h : Longs w A n c l) (hn : 0 < n) : Longs w (if c = 1 then A else A.map (·.add (1 * 1))) (n - 1) (c - 1) l.tail := by
  obtain ⟨h1, h2, h3⟩ := h
  refine ⟨?_, by omega, by omega⟩
  have := h1.drop (k := 1) (by omega) h2
  rw [Nat.one_mul, nats_drop, List.drop_one] at this
  exact this
theorem Longs.tail' {w : World} {b o n c : Nat} {l : List Nat} (h : Longs w (some ⟨b, o, none⟩) n c l) (hn : 0 < n) : Longs w (if c = 1 then some ⟨b, o, none⟩ else some ⟨b, o + 1, none⟩) (n - 1) (c - 1) l.tail := by
  have := h.tail hn
  simpa [Addr.add] using this
theorem Longs.keep {w w' : World} {A : Option Addr} {n c : Nat} {l : List Nat} (h : Longs w A n c l) (E : Ext w w') : Longs w' A n c l := ⟨h.1.keep E, h.2⟩
theorem xor_i64 (k : Nat) (h : k < 1000) : bits .xor .i64 (k : Int) 1 = ((k ^^^ 1 : Nat) : Int) := i64_xor_nat k 1 (by omega) (by omega)

theorem shows_end {root x : Nat} {l : List Nat} (h : l = []) : Wm.shows nd root 1 0 x l = (x == root) := by
  subst h
  unfold Wm.shows
  rw [Wm.climb_end (by omega)]
theorem shows_end' {root x : Nat} {l : List Nat} (h : l ≠ []) : Wm.shows nd root 1 0 x l = false := by
  unfold Wm.shows
  rw [Wm.climb_end (by omega)]
  cases l with
  | nil => exact absurd rfl h
  | cons a l => rfl
theorem shows_skip {root n k x : Nat} {l : List Nat} (h : 1 < n) (hk : ¬ k ^^^ 1 < n) : Wm.shows nd root n k x l = Wm.shows nd root ((n + 1) / 2) (k / 2) x l := by
  unfold Wm.shows
  rw [Wm.climb_skip h hk]
theorem shows_none {root n k x : Nat} {l : List Nat} (h : 1 < n) (hk : k ^^^ 1 < n) (hl : l = []) : Wm.shows nd root n k x l = false := by
  subst hl
  unfold Wm.shows
  rw [Wm.climb_none h hk]
theorem shows_step {root n k x : Nat} {l : List Nat} (h : 1 < n) (hk : k ^^^ 1 < n) (hl : l ≠ []) : Wm.shows nd root n k x l = Wm.shows nd root ((n + 1) / 2) (k / 2) (if k % 2 = 0 then nd x (l.getD 0 0) else nd (l.getD 0 0) x) l.tail := by
  cases l with
  | nil => exact absurd rfl hl
  | cons a l =>
    unfold Wm.shows
    rw [Wm.climb_step h hk]
    rfl
theorem beq_cast (a b : Nat) : ((a : Int) == (b : Int)) = (a == b) := by
  by_cases h : a = b
  · subst h; simp
  · rw [beq_eq_false_iff_ne.2 h, beq_eq_false_iff_ne.2 (by omega)]

set_option maxRecDepth 100000 in
set_option maxHeartbeats 1000000 in
theorem check_any (root n k : Nat) (s : ByteArray) (A : Option Addr) (m c : Nat) (l : List Nat) (w : World) (hn1 : 1 ≤ n) (hn : n ≤ 16) (hk : k < n) (hs : (s.size : Int) ≤ 9223372036854775807) (hl : Longs w A m c l) :
    Calls Try.prog 9 #[.int .u64 root, .int .i64 n, .int .i64 k, .string s, .slice A m c] w fun e w' => e = .returned (.tuple #[.bool (Wm.shows nd root n k (lf s) l), .int .i64 0]) ∧ w' = w := by
  have CL := hide (Leaf_any s · hs)
  have CN := hide Node_any
  clear hs
  go_enter Try.func9, Try.ntmps9
  go_wp2_with fail
  refine (unhide CL _).mono ?_
  rintro e w' ⟨rfl, rfl⟩
  go_wp2
  go_loopw [1, 2, 4, 12] (fun a b v x wr => ∃ (n' k' x' : Nat) (A' : Option Addr) (m' c' : Nat) (l' : List Nat), 1 ≤ n' ∧ n' ≤ 16 ∧ k' < n' ∧ a = .int .i64 n' ∧ b = .int .i64 k' ∧ v = .slice A' m' c' ∧ x = .int .u64 x' ∧ Longs wr A' m' c' l' ∧
    Hid (Wm.shows nd root n k (lf s) l = Wm.shows nd root n' k' x' l') ∧ wr = w') (fun a _ _ _ _ => (intOf a).toNat)
  case atStart => exact ⟨n, k, lf s, A, m, c, l, hn1, hn, hk, rfl, rfl, rfl, rfl, hl, hide rfl, rfl⟩
  case round =>
    obtain ⟨n', k', x', A', m', c', l', hn1', hn', hk', rfl, rfl, rfl, rfl, hl', hsh, rfl⟩ := hrel
    clear hl hn hn1 hk
    have hc1 := hl'.2.1
    have hc2 := hl'.2.2
    have hlen := hl'.len
    by_cases h1 : 1 < n'
    · have hx := xor_i64 k' (by omega)
      by_cases hx1 : k' ^^^ 1 < n'
      · by_cases hm : m' = 0
        · have hs' := shows_none (root := root) (x := x') (l := l') h1 hx1 (List.eq_nil_of_length_eq_zero (by omega))
          have HE := hide ((unhide hsh).trans hs')
          subst hm
          clear hsh hlen hs'
          go_wp2
          go_ret2
          exact ⟨by rw [unhide HE]; rfl, rfl⟩
        · have hs' := shows_step (root := root) (x := x') (l := l') h1 hx1 (fun h => by subst h; simp at hlen; omega)
          obtain ⟨b, o, rfl, hb, hcell⟩ := hl'.1.nat (k := 0) (by omega)
          have ht := hl'.tail' (by omega)
          rw [Nat.add_zero] at hcell
          generalize l'.getD 0 0 = p0 at *
          have hmI : ¬ (m' : Int) = 0 := by omega
          by_cases hk2 : k' % 2 = 0
          · rw [if_pos hk2] at hs'
            have HSH : Hid (Wm.shows nd root n k (lf s) l = _) := hide ((unhide hsh).trans hs')
            have HT := hide ht
            clear hsh hs' ht hl' hlen
            go_wp2_with fail
            go_wp2_with fail
            refine (unhide CN _ _ _).mono ?_
            rintro e w' ⟨rfl, rfl⟩
            go_wp2
            go_roundw
            case rel => exact ⟨(n' + 1) / 2, k' / 2, _, _, _, _, _, by omega, by omega, by omega, num_eq (by omega), num_eq (by omega), rfl, rfl, unhide HT, HSH, by first | rfl | trivial⟩
            case measure => simp [intOf]; omega
          · rw [if_neg hk2] at hs'
            have HSH : Hid (Wm.shows nd root n k (lf s) l = _) := hide ((unhide hsh).trans hs')
            have HT := hide ht
            clear hsh hs' ht hl' hlen
            go_wp2_with fail
            go_wp2_with fail
            refine (unhide CN _ _ _).mono ?_
            rintro e w' ⟨rfl, rfl⟩
            go_wp2
            go_roundw
            case rel => exact ⟨(n' + 1) / 2, k' / 2, _, _, _, _, _, by omega, by omega, by omega, num_eq (by omega), num_eq (by omega), rfl, rfl, unhide HT, HSH, by first | rfl | trivial⟩
            case measure => simp [intOf]; omega
      · have hs' := shows_skip (root := root) (x := x') (l := l') h1 hx1
        have HSH : Hid (Wm.shows nd root n k (lf s) l = _) := hide ((unhide hsh).trans hs')
        clear hsh hs' hlen
        go_wp2
        go_roundw
        case rel => exact ⟨(n' + 1) / 2, k' / 2, x', A', m', c', l', by omega, by omega, by omega, num_eq (by omega), num_eq (by omega), rfl, rfl, hl', HSH, by first | rfl | trivial⟩
        case measure => simp [intOf]; omega
    · obtain rfl : n' = 1 := by omega
      obtain rfl : k' = 0 := by omega
      by_cases hm : m' = 0
      · have hs' := shows_end (root := root) (x := x') (l := l') (List.eq_nil_of_length_eq_zero (by omega))
        have HE := hide ((unhide hsh).trans (hs'.trans (beq_cast x' root).symm))
        subst hm
        clear hsh hlen hs'
        go_wp2
        go_ret2
        exact ⟨by rw [unhide HE]; rfl, rfl⟩
      · have hs' := shows_end' (root := root) (x := x') (l := l') (fun h => by subst h; simp at hlen; omega)
        have HE := hide ((unhide hsh).trans hs')
        have hmI : ¬ (m' : Int) = 0 := by omega
        clear hsh hlen hs'
        go_wp2
        go_ret2
        exact ⟨by rw [unhide HE]; rfl, rfl⟩

set_option maxRecDepth 100000 in
theorem check_bad (root : Nat) (n k : Int) (s : ByteArray) (P : Value) (w : World) (h : ¬ (1 ≤ n ∧ n ≤ 16) ∨ ¬ (0 ≤ k ∧ k < n)) :
    Calls Try.prog 9 #[.int .u64 root, .int .i64 n, .int .i64 k, .string s, P] w fun e w' => e = .returned (.tuple #[.bool false, .int .i64 (if 1 ≤ n ∧ n ≤ 16 then 4 else 2)]) ∧ w' = w := by
  by_cases h1 : n < 1
  · have e : (if 1 ≤ n ∧ n ≤ 16 then (4 : Int) else 2) = 2 := if_neg (by omega)
    rw [e]
    clear e h
    go_enter Try.func9, Try.ntmps9
    go_wp2
    go_ret2
    exact ⟨rfl, rfl⟩
  · by_cases h2 : 16 < n
    · have e : (if 1 ≤ n ∧ n ≤ 16 then (4 : Int) else 2) = 2 := if_neg (by omega)
      rw [e]
      clear e h
      go_enter Try.func9, Try.ntmps9
      go_wp2
      go_ret2
      exact ⟨rfl, rfl⟩
    · have e : (if 1 ≤ n ∧ n ≤ 16 then (4 : Int) else 2) = 4 := if_pos (by omega)
      rw [e]
      clear e
      have hk : k < 0 ∨ (¬ k < 0 ∧ n ≤ k) := by omega
      clear h
      rcases hk with hk | ⟨hk, hk2⟩
      · go_enter Try.func9, Try.ntmps9
        go_wp2
        go_ret2
        exact ⟨rfl, rfl⟩
      · go_enter Try.func9, Try.ntmps9
        go_wp2
        go_ret2
        exact ⟨rfl, rfl⟩
end Go.Proofs.Ytheklkgilcdhoaa
