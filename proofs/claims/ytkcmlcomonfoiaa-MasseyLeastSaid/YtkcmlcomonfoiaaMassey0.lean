/-
  Plain: linear recurrences over bits, the shortest one (Berlekamp, Massey). No program in sight.
-/
import Derived.Test.YtkcmlcomonfoiaaBase
set_option linter.unusedVariables false
set_option linter.unusedSimpArgs false
namespace Wm

/-- The sum of bits. -/
def xs (f : Nat → Bool) : Nat → Bool
  | 0 => false
  | n + 1 => xor (xs f n) (f n)
theorem xs_congr {f g : Nat → Bool} : ∀ n, (∀ k, k < n → f k = g k) → xs f n = xs g n
  | 0, _ => rfl
  | n + 1, h => by simp only [xs]; rw [xs_congr n fun k hk => h k (by omega), h n (by omega)]
theorem xs_false {f : Nat → Bool} : ∀ n, (∀ k, k < n → f k = false) → xs f n = false
  | 0, _ => rfl
  | n + 1, h => by simp only [xs]; rw [xs_false n fun k hk => h k (by omega), h n (by omega)]; rfl
theorem xs_xor (f g : Nat → Bool) : ∀ n, xs (fun k => xor (f k) (g k)) n = xor (xs f n) (xs g n)
  | 0 => rfl
  | n + 1 => by
    simp only [xs]
    rw [xs_xor f g n]
    cases xs f n <;> cases xs g n <;> cases f n <;> cases g n <;> rfl
theorem xs_and (c : Bool) (f : Nat → Bool) : ∀ n, xs (fun k => c && f k) n = (c && xs f n)
  | 0 => by cases c <;> rfl
  | n + 1 => by
    simp only [xs]
    rw [xs_and c f n]
    cases c <;> simp
theorem xs_swap (f : Nat → Nat → Bool) (m : Nat) : ∀ n, xs (fun k => xs (f k) m) n = xs (fun h => xs (fun k => f k h) n) m
  | 0 => by
    simp only [xs]
    exact (xs_false m fun _ _ => rfl).symm
  | n + 1 => by
    simp only [xs]
    rw [xs_swap f m n, ← xs_xor]
/-- More of nothing. -/
theorem xs_more {f : Nat → Bool} {m : Nat} : ∀ n, m ≤ n → (∀ k, m ≤ k → k < n → f k = false) → xs f n = xs f m
  | 0, h, _ => by rw [show m = 0 by omega]
  | n + 1, h, hf => by
    by_cases e : m = n + 1
    · rw [e]
    · simp only [xs]
      rw [xs_more n (by omega) fun k h1 h2 => hf k h1 (by omega), hf n (by omega) (by omega)]
      simp
theorem xs_first (f : Nat → Bool) : ∀ n, xs f (n + 1) = xor (f 0) (xs (fun k => f (k + 1)) n)
  | 0 => by simp [xs]
  | n + 1 => by
    rw [show xs f (n + 1 + 1) = xor (xs f (n + 1)) (f (n + 1)) from rfl, xs_first f n]
    simp only [xs]
    cases f 0 <;> cases xs (fun k => f (k + 1)) n <;> cases f (n + 1) <;> rfl
/-- Shifted by g. -/
theorem xs_shift (f : Nat → Bool) (g : Nat) : ∀ n, xs (fun k => decide (g ≤ k) && f (k - g)) (g + n) = xs f n
  | 0 => by
    refine xs_false _ fun k hk => ?_
    rw [decide_eq_false (by omega)]; rfl
  | n + 1 => by
    show xor (xs (fun k => decide (g ≤ k) && f (k - g)) (g + n)) (decide (g ≤ g + n) && f (g + n - g)) = _
    rw [xs_shift f g n, decide_eq_true (by omega), show g + n - g = n by omega]
    simp [xs]

/-- What the polynomial C makes of the bits up to place i, over its first M numbers. -/
def dot (C s : Nat → Bool) (i M : Nat) : Bool := xs (fun k => C k && s (i - k)) M
def Gen (s C : Nat → Bool) (L n : Nat) : Prop := (∀ k, L < k → C k = false) ∧ C 0 = true ∧ ∀ i, L ≤ i → i < n → dot C s i (L + 1) = false
theorem dot_more {s C : Nat → Bool} {L i M : Nat} (h : ∀ k, L < k → C k = false) (hM : L + 1 ≤ M) : dot C s i M = dot C s i (L + 1) := by
  unfold dot
  exact xs_more M hM fun k h1 h2 => by rw [h k (by omega)]; rfl
theorem Gen.less {s C : Nat → Bool} {L n m : Nat} (h : Gen s C L n) (hm : m ≤ n) : Gen s C L m := ⟨h.1, h.2.1, fun i h1 h2 => h.2.2 i h1 (by omega)⟩
theorem Gen.next {s C : Nat → Bool} {L n : Nat} (h : Gen s C L n) (hd : dot C s n (L + 1) = false) : Gen s C L (n + 1) := ⟨h.1, h.2.1, fun i h1 h2 => by
  by_cases e : i < n
  · exact h.2.2 i h1 e
  · obtain rfl : i = n := by omega
    exact hd⟩
theorem Gen.congr {s t C : Nat → Bool} {L n : Nat} (h : Gen s C L n) (hst : ∀ k, k < n → s k = t k) : Gen t C L n := ⟨h.1, h.2.1, fun i h1 h2 => by
  rw [← h.2.2 i h1 h2]
  exact xs_congr _ fun k hk => by rw [hst (i - k) (by omega)]⟩

/-- MASSEY's lemma. -/
theorem massey {s C C' : Nat → Bool} {L L' i : Nat} (h : Gen s C L i) (hL : L ≤ i) (hd : dot C s i (L + 1) = true) (h' : Gen s C' L' (i + 1)) : i + 1 ≤ L + L' := by
  rcases Nat.lt_or_ge i (L + L') with hlt | hge
  · exact hlt
  · exfalso
    have e1 : xs (fun k => xs (fun j => (C' k && C j) && s (i - k - j)) (L + 1)) (L' + 1) = true := by
      have : xs (fun k => xs (fun j => (C' k && C j) && s (i - k - j)) (L + 1)) (L' + 1) = xs (fun k => C' k && dot C s (i - k) (L + 1)) (L' + 1) := xs_congr _ fun k _ => by
        rw [dot, ← xs_and]
        exact xs_congr _ fun j _ => by cases C' k <;> simp
      rw [this, xs_first]
      rw [h'.2.1, Nat.sub_zero, hd]
      rw [xs_false L' fun k hk => by rw [h.2.2 (i - (k + 1)) (by omega) (by omega)]; simp]
      rfl
    have e2 : xs (fun k => xs (fun j => (C' k && C j) && s (i - k - j)) (L + 1)) (L' + 1) = false := by
      rw [xs_swap]
      refine xs_false _ fun j hj => ?_
      have : xs (fun k => (C' k && C j) && s (i - k - j)) (L' + 1) = (C j && dot C' s (i - j) (L' + 1)) := by
        rw [dot, ← xs_and]
        exact xs_congr _ fun k _ => by
          rw [show i - j - k = i - k - j by omega]
          cases C j <;> cases C' k <;> simp
      rw [this, h'.2.2 (i - j) (by omega) (by omega)]
      simp
    rw [e1] at e2
    cases e2

/-- Put right by one that failed before. -/
def fixed (C B : Nat → Bool) (g : Nat) : Nat → Bool := fun k => xor (C k) (decide (g ≤ k) && B (k - g))
theorem Gen.fix {s C B : Nat → Bool} {L LB m g i : Nat} (h : Gen s C L i) (hd : dot C s i (L + 1) = true) (hB : Gen s B LB m) (hdB : dot B s m (LB + 1) = true) (hLB : LB ≤ m) (hg : 1 ≤ g) (hi : i = m + g) (hs : LB + L = m + 1) :
    Gen s (fixed C B g) (max L (i + 1 - L)) (i + 1) := by
  have hgL : g + LB ≤ max L (i + 1 - L) := by omega
  have hdot : ∀ j, max L (i + 1 - L) ≤ j → j ≤ i → dot (fixed C B g) s j (max L (i + 1 - L) + 1) = xor (dot C s j (L + 1)) (dot B s (j - g) (LB + 1)) := fun j h1 h2 => by
    have e : dot (fixed C B g) s j (max L (i + 1 - L) + 1) = xor (dot C s j (max L (i + 1 - L) + 1)) (xs (fun k => decide (g ≤ k) && (B (k - g) && s (j - g - (k - g)))) (max L (i + 1 - L) + 1)) := by
      unfold dot
      rw [← xs_xor]
      refine xs_congr _ fun k _ => ?_
      unfold fixed
      by_cases hk : g ≤ k
      · rw [decide_eq_true hk, show j - g - (k - g) = j - k by omega]
        cases C k <;> cases B (k - g) <;> simp
      · rw [decide_eq_false hk]
        cases C k <;> simp
    rw [e, dot_more h.1 (by omega)]
    congr 1
    obtain ⟨r, hr⟩ : ∃ r, max L (i + 1 - L) + 1 = g + r := ⟨max L (i + 1 - L) + 1 - g, by omega⟩
    rw [hr, xs_shift (fun k => B k && s (j - g - k)) g r]
    exact dot_more hB.1 (by omega)
  refine ⟨fun k hk => ?_, ?_, fun j h1 h2 => ?_⟩
  · unfold fixed
    rw [h.1 k (by omega), hB.1 (k - g) (by omega)]
    simp
  · unfold fixed
    rw [h.2.1, decide_eq_false (by omega)]
    rfl
  · rw [hdot j h1 (by omega)]
    by_cases e : j < i
    · rw [h.2.2 j (by omega) e, hB.2.2 (j - g) (by omega) (by omega)]; rfl
    · obtain rfl : j = i := by omega
      rw [hd, show j - g = m by omega, hdB]; rfl

def one : Nat → Bool := fun k => decide (k = 0)
/-- What the algorithm keeps, after i bits. -/
def St (s : Nat → Bool) (i : Nat) (C : Nat → Bool) (L : Nat) (B : Nat → Bool) (g : Nat) : Prop :=
  Gen s C L i ∧ (∀ C' L', Gen s C' L' i → L ≤ L') ∧ L ≤ i ∧ 1 ≤ g ∧
  ((L = 0 ∧ B = one ∧ g = i + 1) ∨ ∃ m LB, Gen s B LB m ∧ dot B s m (LB + 1) = true ∧ LB ≤ m ∧ i = m + g ∧ LB + L = m + 1)
theorem gen_zero (s : Nat → Bool) : Gen s one 0 0 := ⟨fun k hk => by unfold one; exact decide_eq_false (by omega), rfl, fun i h1 h2 => by omega⟩
theorem St.start (s : Nat → Bool) : St s 0 one 0 one 1 := ⟨gen_zero s, fun _ _ _ => Nat.zero_le _, Nat.le_refl _, Nat.le_refl _, .inl ⟨rfl, rfl, rfl⟩⟩
theorem St.keep {s C B : Nat → Bool} {i L g : Nat} (h : St s i C L B g) (hd : dot C s i (L + 1) = false) : St s (i + 1) C L B (g + 1) := by
  obtain ⟨h1, h2, h3, h4, h5⟩ := h
  refine ⟨h1.next hd, fun C' L' h' => h2 C' L' (h'.less (by omega)), by omega, by omega, ?_⟩
  rcases h5 with ⟨a, b, c⟩ | ⟨m, LB, a, b, c, d, e⟩
  · exact .inl ⟨a, b, by omega⟩
  · exact .inr ⟨m, LB, a, b, c, by omega, e⟩
theorem St.min' {s C B : Nat → Bool} {i L g : Nat} (h : St s i C L B g) (hd : dot C s i (L + 1) = true) : ∀ C' L', Gen s C' L' (i + 1) → max L (i + 1 - L) ≤ L' := fun C' L' h' => by
  have a := h.2.1 C' L' (h'.less (by omega))
  have b := massey h.1 h.2.2.1 hd h'
  omega
theorem St.same {s C B : Nat → Bool} {i L g : Nat} (h : St s i C L B g) (hd : dot C s i (L + 1) = true) (hL : i < 2 * L) : St s (i + 1) (fixed C B g) L B (g + 1) := by
  have hmin := h.min' hd
  obtain ⟨h1, h2, h3, h4, h5⟩ := h
  rcases h5 with ⟨a, b, c⟩ | ⟨m, LB, a, b, c, d, e⟩
  · omega
  · have hf := h1.fix hd a b c h4 d e
    rw [show max L (i + 1 - L) = L by omega] at hf hmin
    exact ⟨hf, hmin, by omega, by omega, .inr ⟨m, LB, a, b, c, by omega, e⟩⟩
theorem St.turn {s C B : Nat → Bool} {i L g : Nat} (h : St s i C L B g) (hd : dot C s i (L + 1) = true) (hL : 2 * L ≤ i) : St s (i + 1) (fixed C B g) (i + 1 - L) C 1 := by
  have hmin := h.min' hd
  obtain ⟨h1, h2, h3, h4, h5⟩ := h
  rw [show max L (i + 1 - L) = i + 1 - L by omega] at hmin
  refine ⟨?_, hmin, by omega, Nat.le_refl _, .inr ⟨i, L, h1, hd, h3, rfl, by omega⟩⟩
  rcases h5 with ⟨rfl, rfl, rfl⟩ | ⟨m, LB, a, b, c, d, e⟩
  · refine ⟨fun k hk => ?_, ?_, fun j a b => by omega⟩
    · unfold fixed one
      rw [h1.1 k (by omega), decide_eq_false (show ¬ k - (i + 1) = 0 by omega)]
      simp
    · unfold fixed
      rw [h1.2.1, decide_eq_false (by omega)]
      rfl
  · have hf := h1.fix hd a b c h4 d e
    rw [show max L (i + 1 - L) = i + 1 - L by omega] at hf
    exact hf

/-- Two shortest rules of a long sequence are one. -/
theorem unique {s C C' : Nat → Bool} {L n : Nat} (h : Gen s C L n) (h' : Gen s C' L n) (hmin : ∀ C'' L'', Gen s C'' L'' n → L ≤ L'') (hn : 2 * L ≤ n) : ∀ k, C k = C' k := by
  intro k0
  rcases Bool.eq_false_or_eq_true (xor (C k0) (C' k0)) with hx | hx
  · exfalso
    -- the first place where they differ
    have hex : ∃ j, xor (C j) (C' j) = true ∧ ∀ k, k < j → xor (C k) (C' k) = false := by
      have : ∀ n, (∃ j, j < n ∧ xor (C j) (C' j) = true ∧ ∀ k, k < j → xor (C k) (C' k) = false) ∨ ∀ k, k < n → xor (C k) (C' k) = false := by
        intro n
        induction n with
        | zero => exact .inr fun k hk => by omega
        | succ n ih =>
          rcases ih with ⟨j, h1, h2⟩ | ih
          · exact .inl ⟨j, by omega, h2⟩
          · rcases Bool.eq_false_or_eq_true (xor (C n) (C' n)) with e | e
            · exact .inl ⟨n, by omega, e, ih⟩
            · refine .inr fun k hk => ?_
              by_cases hkn : k < n
              · exact ih k hkn
              · obtain rfl : k = n := by omega
                exact e
      rcases this (k0 + 1) with ⟨j, -, h1, h2⟩ | h
      · exact ⟨j, h1, h2⟩
      · rw [h k0 (by omega)] at hx; cases hx
    obtain ⟨j, hj, hlow⟩ := hex
    have hj1 : 1 ≤ j := by
      rcases Nat.eq_zero_or_pos j with e | e
      · subst e; rw [h.2.1, h'.2.1] at hj; cases hj
      · exact e
    have hjL : j ≤ L := by
      rcases Nat.lt_or_ge L j with e | e
      · rw [h.1 j e, h'.1 j e] at hj; cases hj
      · exact e
    -- what is left of the difference, shifted
    have hE : ∀ p, p ≤ n → (∀ i, L - j ≤ i → i < p → dot (fun k => xor (C (k + j)) (C' (k + j))) s i (L - j + 1) = false) → Gen s (fun k => xor (C (k + j)) (C' (k + j))) (L - j) p := fun p _ hp =>
      ⟨fun k hk => by show xor (C (k + j)) (C' (k + j)) = false; rw [h.1 (k + j) (by omega), h'.1 (k + j) (by omega)]; rfl, by show xor (C (0 + j)) (C' (0 + j)) = true; rw [Nat.zero_add]; exact hj, hp⟩
    have hdot : ∀ i, L - j ≤ i → i + j < n → dot (fun k => xor (C (k + j)) (C' (k + j))) s i (L - j + 1) = false := fun i h1 h2 => by
      have e := xs_xor (fun k => C k && s (i + j - k)) (fun k => C' k && s (i + j - k)) (L + 1)
      have a := h.2.2 (i + j) (by omega) h2
      have b := h'.2.2 (i + j) (by omega) h2
      unfold dot at a b
      rw [a, b] at e
      have e2 : xs (fun k => xor (C k && s (i + j - k)) (C' k && s (i + j - k))) (L + 1) = xs (fun k => decide (j ≤ k) && (fun k => xor (C (k + j)) (C' (k + j)) && s (i - k)) (k - j)) (j + (L - j + 1)) := by
        rw [show j + (L - j + 1) = L + 1 by omega]
        refine xs_congr _ fun k _ => ?_
        by_cases hk : j ≤ k
        · rw [decide_eq_true hk]
          dsimp only
          rw [show k - j + j = k by omega, show i - (k - j) = i + j - k by omega]
          cases C k <;> cases C' k <;> simp
        · rw [decide_eq_false hk]
          have := hlow k (by omega)
          revert this
          cases C k <;> cases C' k <;> simp
      rw [e2, xs_shift (fun k => xor (C (k + j)) (C' (k + j)) && s (i - k)) j (L - j + 1)] at e
      exact e
    have g0 : Gen s (fun k => xor (C (k + j)) (C' (k + j))) (L - j) (n - j) := hE (n - j) (by omega) fun i h1 h2 => hdot i h1 (by omega)
    -- it fails somewhere, or is shorter
    have hrun : ∀ p, n - j + p ≤ n → Gen s (fun k => xor (C (k + j)) (C' (k + j))) (L - j) (n - j + p) := by
      intro p
      induction p with
      | zero => intro _; exact g0
      | succ p ih =>
        intro hp
        have g := ih (by omega)
        rcases Bool.eq_false_or_eq_true (dot (fun k => xor (C (k + j)) (C' (k + j))) s (n - j + p) (L - j + 1)) with e | e
        · have := massey g (by omega) e (h.less (show n - j + p + 1 ≤ n by omega))
          omega
        · exact g.next e
    have := hmin _ _ (by have := hrun j (by omega); rw [show n - j + j = n by omega] at this; exact this)
    omega
  · revert hx
    cases C k0 <;> cases C' k0 <;> simp

/-- The lengths, from one prefix to the next. -/
theorem grows {s : Nat → Bool} {i L L' : Nat} {C B C' : Nat → Bool} {g : Nat} (h : St s i C L B g) (h' : Gen s C' L' (i + 1)) (hmin : ∀ C'' L'', Gen s C'' L'' (i + 1) → L' ≤ L'') : L' = L ∨ (L' = i + 1 - L ∧ L < L') := by
  rcases Bool.eq_false_or_eq_true (dot C s i (L + 1)) with hd | hd
  · by_cases hL : 2 * L ≤ i
    · have t := h.turn hd hL
      have a := t.2.1 _ _ h'
      have b := hmin _ _ t.1
      right; omega
    · have t := h.same hd (by omega)
      have a := t.2.1 _ _ h'
      have b := hmin _ _ t.1
      left; omega
  · have t := h.keep hd
    have a := t.2.1 _ _ h'
    have b := hmin _ _ t.1
    left; omega
end Wm
