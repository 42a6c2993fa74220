/-
  Plain facts on factorizations: what the trial division keeps true; valuations; factorizations of products. No program in sight.
-/
import Derived.Test.YtlfpmmgfgmeilaaPrime0
set_option linter.unusedVariables false
set_option linter.unusedSimpArgs false
namespace Wm

def prodP : List (Nat × Nat) → Nat
  | [] => 1
  | x :: l => x.1 ^ x.2 * prodP l
theorem prodP_append : ∀ l m : List (Nat × Nat), prodP (l ++ m) = prodP l * prodP m
  | [], m => by simp [prodP]
  | x :: l, m => by simp only [List.cons_append, prodP, prodP_append l m, Nat.mul_assoc]

def IsFac (n : Nat) (l : List (Nat × Nat)) : Prop := (l.Pairwise fun a b => a.1 < b.1) ∧ (∀ x ∈ l, Prime x.1 ∧ 1 ≤ x.2) ∧ prodP l = n

/-- What holds at the head of the trial division: n = prodP l * r, and what is left has no divisor below d. -/
def FacAt (n r d : Nat) (l : List (Nat × Nat)) : Prop :=
  prodP l * r = n ∧ (l.Pairwise fun a b => a.1 < b.1) ∧ (∀ x ∈ l, Prime x.1 ∧ 1 ≤ x.2 ∧ x.1 < d) ∧ 1 ≤ r ∧ (∀ e, 2 ≤ e → e < d → ¬ e ∣ r) ∧ 2 ≤ d

theorem FacAt.start {n : Nat} (h : 1 ≤ n) : FacAt n n 2 [] := ⟨by simp [prodP], List.Pairwise.nil, fun x h => by simp at h, h, fun e h1 h2 => by omega, Nat.le_refl _⟩
theorem FacAt.done {n r d : Nat} {l : List (Nat × Nat)} (h : FacAt n r d l) (hr : r ≤ 1) : IsFac n l := by
  obtain ⟨h1, h2, h3, h4, -, -⟩ := h
  obtain rfl : r = 1 := by omega
  exact ⟨h2, fun x hx => ⟨(h3 x hx).1, (h3 x hx).2.1⟩, by rw [← h1, Nat.mul_one]⟩
/-- Where d * d is greater than what is left, that is a prime: d is set to it. -/
theorem FacAt.jump {n r d : Nat} {l : List (Nat × Nat)} (h : FacAt n r d l) (hr : 1 < r) (hd : r < d * d) : FacAt n r r l := by
  obtain ⟨h1, h2, h3, h4, h5, h6⟩ := h
  have hp : Prime r := prime_of_trial hr hd h5
  have hdr : d ≤ r := by
    rcases Nat.lt_or_ge r d with h | h
    · exact absurd (Nat.dvd_refl r) (h5 r hr h)
    · exact h
  refine ⟨h1, h2, fun x hx => ⟨(h3 x hx).1, (h3 x hx).2.1, Nat.lt_of_lt_of_le (h3 x hx).2.2 hdr⟩, h4, fun e he1 he2 hdv => ?_, by omega⟩
  rcases hp.2 e hdv with h | h <;> omega
theorem FacAt.skip {n r d : Nat} {l : List (Nat × Nat)} (h : FacAt n r d l) (hno : ¬ d ∣ r) : FacAt n r (d + 1) l := by
  obtain ⟨h1, h2, h3, h4, h5, h6⟩ := h
  refine ⟨h1, h2, fun x hx => ⟨(h3 x hx).1, (h3 x hx).2.1, by have := (h3 x hx).2.2; omega⟩, h4, fun e he1 he2 => ?_, by omega⟩
  by_cases h : e = d
  · rw [h]; exact hno
  · exact h5 e he1 (by omega)
theorem FacAt.take {n r d k s : Nat} {l : List (Nat × Nat)} (h : FacAt n r d l) (hk : 0 < k) (hs : r = d ^ k * s) (hno : ¬ d ∣ s) : FacAt n s (d + 1) (l ++ [(d, k)]) := by
  obtain ⟨h1, h2, h3, h4, h5, h6⟩ := h
  have hdr : d ∣ r := by
    rw [hs]
    exact Nat.dvd_trans (Nat.dvd_of_mod_eq_zero (by obtain ⟨j, rfl⟩ : ∃ j, k = j + 1 := ⟨k - 1, by omega⟩; rw [Nat.pow_succ]; exact Nat.mul_mod_left _ _)) (Nat.dvd_mul_right _ _)
  have hsr : s ∣ r := ⟨d ^ k, by rw [hs, Nat.mul_comm]⟩
  have hp : Prime d := ⟨by omega, fun e he => by
    have he0 : e ≤ d := Nat.le_of_dvd (by omega) he
    have he1 : 0 < e := Nat.pos_of_dvd_of_pos he (by omega)
    by_cases hlt : e < d
    · left
      by_cases h2 : 2 ≤ e
      · exact absurd (Nat.dvd_trans he hdr) (h5 e h2 hlt)
      · omega
    · right; omega⟩
  have hs1 : 1 ≤ s := by
    rcases Nat.eq_zero_or_pos s with h | h
    · rw [h] at hs; omega
    · exact h
  refine ⟨?_, ?_, ?_, hs1, fun e he1 he2 hdv => ?_, by omega⟩
  · rw [prodP_append, ← h1, hs]
    simp [prodP, Nat.mul_assoc]
  · rw [List.pairwise_append]
    refine ⟨h2, by simp, fun a ha b hb => ?_⟩
    simp only [List.mem_singleton] at hb
    subst hb
    exact (h3 a ha).2.2
  · intro x hx
    simp only [List.mem_append, List.mem_singleton] at hx
    rcases hx with hx | rfl
    · have := h3 x hx
      exact ⟨this.1, this.2.1, by omega⟩
    · exact ⟨hp, hk, by omega⟩
  · by_cases h : e = d
    · rw [h] at hdv; exact hno hdv
    · exact h5 e he1 (by omega) (Nat.dvd_trans hdv hsr)

theorem prodP_pos : ∀ {l : List (Nat × Nat)}, (∀ x ∈ l, Prime x.1 ∧ 1 ≤ x.2) → 2 ^ l.length ≤ prodP l
  | [], _ => by simp [prodP]
  | x :: l, h => by
    have ih := prodP_pos (l := l) fun y hy => h y (by simp [hy])
    have hx := h x (by simp)
    have h2 : 2 ≤ x.1 ^ x.2 := by
      have a : 2 ≤ x.1 := hx.1.1
      exact Nat.le_trans a (Nat.le_self_pow (by omega) _)
    simp only [prodP, List.length_cons, Nat.pow_succ]
    rw [Nat.mul_comm]
    exact Nat.mul_le_mul h2 ih
theorem FacAt.len {n r d : Nat} {l : List (Nat × Nat)} (h : FacAt n r d l) (hn : n ≤ 1000000) : l.length ≤ 1000000 := by
  obtain ⟨h1, h2, h3, h4, -, -⟩ := h
  have := prodP_pos (l := l) fun x hx => ⟨(h3 x hx).1, (h3 x hx).2.1⟩
  have h5 : l.length < 2 ^ l.length := Nat.lt_two_pow_self
  have h6 : prodP l * 1 ≤ prodP l * r := Nat.mul_le_mul_left _ h4
  omega

/-! ### Valuations -/
/-- p divides n just k times. -/
def Val (p k n : Nat) : Prop := p ^ k ∣ n ∧ ¬ p ^ (k + 1) ∣ n
theorem Val.unique {p j k n : Nat} (h : Val p j n) (h' : Val p k n) : j = k := by
  rcases Nat.lt_trichotomy j k with hlt | rfl | hlt
  · exact absurd (Nat.dvd_trans (Nat.pow_dvd_pow p hlt) h'.1) h.2
  · rfl
  · exact absurd (Nat.dvd_trans (Nat.pow_dvd_pow p hlt) h.1) h'.2
theorem val_one {p : Nat} (h : 1 < p) : Val p 0 1 := ⟨by simp, fun hd => by
  rw [Nat.zero_add, Nat.pow_one] at hd
  have := Nat.le_of_dvd (by omega) hd
  omega⟩
theorem Val.form {p k n : Nat} (hp : 0 < p) (h : Val p k n) : ∃ r, n = p ^ k * r ∧ ¬ p ∣ r := by
  obtain ⟨r, rfl⟩ := h.1
  refine ⟨r, rfl, fun hd => h.2 ?_⟩
  obtain ⟨q, rfl⟩ := hd
  exact ⟨q, by rw [Nat.pow_succ, Nat.mul_assoc]⟩
theorem val_of_form {p k r : Nat} (hp : 0 < p) (h : ¬ p ∣ r) : Val p k (p ^ k * r) := ⟨⟨r, rfl⟩, fun hd => h (by
  rw [Nat.pow_succ] at hd
  exact Nat.dvd_of_mul_dvd_mul_left (Nat.pow_pos hp) hd)⟩
theorem Val.mul {p j k a b : Nat} (hp : Prime p) (ha : Val p j a) (hb : Val p k b) : Val p (j + k) (a * b) := by
  obtain ⟨r, rfl, hr⟩ := ha.form hp.pos
  obtain ⟨s, rfl, hs⟩ := hb.form hp.pos
  have : p ^ j * r * (p ^ k * s) = p ^ (j + k) * (r * s) := by
    rw [Nat.pow_add]; ac_rfl
  rw [this]
  exact val_of_form hp.pos fun hd => by rcases hp.dvd_mul hd with h | h <;> contradiction
theorem val_pow_same {p : Nat} (hp : Prime p) (k : Nat) : Val p k (p ^ k) := by
  have := val_of_form (k := k) hp.pos (r := 1) (fun hd => by have := Nat.le_of_dvd (by omega) hd; have := hp.1; omega)
  rwa [Nat.mul_one] at this
theorem prime_dvd_pow {p q k : Nat} (hp : Prime p) (h : p ∣ q ^ k) : p ∣ q := by
  induction k with
  | zero =>
    rw [Nat.pow_zero] at h
    have := Nat.le_of_dvd (by omega) h
    have := hp.1
    omega
  | succ k ih =>
    rw [Nat.pow_succ] at h
    rcases hp.dvd_mul h with h | h
    · exact ih h
    · exact h
theorem val_pow_other {p q : Nat} (hp : Prime p) (hq : Prime q) (h : p ≠ q) (k : Nat) : Val p 0 (q ^ k) := ⟨by simp, fun hd => by
  rw [Nat.zero_add, Nat.pow_one] at hd
  have := hq.2 p (prime_dvd_pow hp hd)
  have := hp.1
  omega⟩

/-- How often a factorization names a prime. -/
def cnt (p : Nat) : List (Nat × Nat) → Nat
  | [] => 0
  | x :: l => (if x.1 = p then x.2 else 0) + cnt p l
theorem cnt_append (p : Nat) : ∀ l m, cnt p (l ++ m) = cnt p l + cnt p m
  | [], m => by simp [cnt]
  | x :: l, m => by simp only [List.cons_append, cnt, cnt_append p l m, Nat.add_assoc]
theorem cnt_val {p : Nat} (hp : Prime p) : ∀ {l : List (Nat × Nat)}, (∀ x ∈ l, Prime x.1 ∧ 1 ≤ x.2) → Val p (cnt p l) (prodP l)
  | [], _ => val_one hp.1
  | x :: l, h => by
    have ih := cnt_val hp (l := l) fun y hy => h y (by simp [hy])
    have hx := h x (by simp)
    simp only [cnt, prodP]
    refine Val.mul hp ?_ ih
    split
    · rename_i e; rw [← e]; exact val_pow_same hx.1 x.2
    · rename_i e; exact val_pow_other hp hx.1 (fun h => e h.symm) x.2
theorem cnt_mem {l : List (Nat × Nat)} (hs : l.Pairwise fun a b => a.1 < b.1) {x : Nat × Nat} (hx : x ∈ l) : cnt x.1 l = x.2 := by
  induction l with
  | nil => simp at hx
  | cons y l ih =>
    rw [List.pairwise_cons] at hs
    have hz : ∀ m : List (Nat × Nat), (∀ z ∈ m, y.1 < z.1) → cnt y.1 m = 0 := fun m => by
      induction m with
      | nil => intro _; rfl
      | cons z m ihm =>
        intro h
        simp only [cnt]
        rw [if_neg (by have := h z (by simp); omega), ihm fun q hq => h q (by simp [hq])]
    simp only [List.mem_cons] at hx
    rcases hx with rfl | hx
    · simp only [cnt, if_true]
      rw [hz l hs.1]; rfl
    · simp only [cnt]
      rw [if_neg (by have := hs.1 x hx; omega), ih hs.2 hx, Nat.zero_add]
theorem cnt_pos {l : List (Nat × Nat)} {p : Nat} (h : 0 < cnt p l) : ∃ x ∈ l, x.1 = p := by
  induction l with
  | nil => simp [cnt] at h
  | cons y l ih =>
    simp only [cnt] at h
    by_cases e : y.1 = p
    · exact ⟨y, by simp, e⟩
    · rw [if_neg e, Nat.zero_add] at h
      obtain ⟨x, hx, hp⟩ := ih h
      exact ⟨x, by simp [hx], hp⟩
/-- GAUSS: the primes of a product are those of both. -/
theorem fac_mul {a b : Nat} {x y z : List (Nat × Nat)} (hx : IsFac a x) (hy : IsFac b y) (hz : IsFac (a * b) z) {p : Nat} (hp : Prime p) : cnt p z = cnt p (x ++ y) := by
  have h1 := cnt_val hp hx.2.1
  have h2 := cnt_val hp hy.2.1
  have h3 := cnt_val hp hz.2.1
  rw [hx.2.2] at h1
  rw [hy.2.2] at h2
  rw [hz.2.2] at h3
  rw [cnt_append]
  exact h3.unique (h1.mul hp h2)
/-- A number has one factorization alone. -/
theorem fac_cnt {n : Nat} {x y : List (Nat × Nat)} (hx : IsFac n x) (hy : IsFac n y) {p : Nat} (hp : Prime p) : cnt p x = cnt p y := by
  have h1 := cnt_val hp hx.2.1
  have h2 := cnt_val hp hy.2.1
  rw [hx.2.2] at h1
  rw [hy.2.2] at h2
  exact h1.unique h2
theorem fac_unique {n : Nat} {x y : List (Nat × Nat)} (hx : IsFac n x) (hy : IsFac n y) : x = y := by
  have key : ∀ {x y : List (Nat × Nat)}, IsFac n x → IsFac n y → ∀ q ∈ x, q ∈ y := fun {x y} hx hy q hq => by
    have hp := (hx.2.1 q hq).1
    have h1 := cnt_mem hx.1 hq
    rw [fac_cnt hx hy hp] at h1
    obtain ⟨z, hz, hzp⟩ := cnt_pos (l := y) (p := q.1) (by rw [h1]; exact (hx.2.1 q hq).2)
    have h2 := cnt_mem hy.1 hz
    rw [hzp, h1] at h2
    have : z = q := Prod.ext hzp h2.symm
    rw [← this]; exact hz
  have sorted : ∀ {x y : List (Nat × Nat)}, x.Pairwise (fun a b => a.1 < b.1) → y.Pairwise (fun a b => a.1 < b.1) → (∀ q, q ∈ x ↔ q ∈ y) → x = y := fun {x} => by
    induction x with
    | nil =>
      intro y _ _ h
      cases y with
      | nil => rfl
      | cons b y => exact absurd ((h b).2 (by simp)) (by simp)
    | cons a x ih =>
      intro y h1 h2 h
      cases y with
      | nil => exact absurd ((h a).1 (by simp)) (by simp)
      | cons b y =>
        rw [List.pairwise_cons] at h1 h2
        have hab : a = b := by
          have ha := (h a).1 (by simp)
          have hb := (h b).2 (by simp)
          simp only [List.mem_cons] at ha hb
          rcases ha with ha | ha
          · exact ha
          · rcases hb with hb | hb
            · exact hb.symm
            · have := h1.1 b hb
              have := h2.1 a ha
              omega
        subst hab
        congr 1
        refine ih h1.2 h2.2 fun q => ?_
        have hq := h q
        simp only [List.mem_cons] at hq
        constructor
        · intro hx
          rcases hq.1 (.inr hx) with rfl | h
          · have := h1.1 q hx; omega
          · exact h
        · intro hy
          rcases hq.2 (.inr hy) with rfl | h
          · have := h2.1 q hy; omega
          · exact h
  exact sorted hx.1 hy.1 fun q => ⟨key hx hy q, key hy hx q⟩

end Wm
