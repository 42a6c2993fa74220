/-
  Plain facts modulo a prime: pairs, WILSON's theorem, EULER's criterion, both ways. No program in sight.
-/
import Derived.Test.YtdcpijodoppncaaUnits0
set_option linter.unusedVariables false
set_option linter.unusedSimpArgs false
namespace Wm

theorem fermat_one {p a : Nat} (hp : Prime p) (ha : ¬ p ∣ a) : a ^ (p - 1) % p = 1 := by
  have h := fermat_nat hp a
  have hp1 := hp.1
  have e : a ^ p = a ^ (p - 1) * a := by rw [← Nat.pow_succ]; congr 1; omega
  rw [e] at h
  have hc : Nat.gcd a p = 1 := by rw [Nat.gcd_comm]; exact hp.coprime ha
  have := mod_cancel (m := p) (a := a ^ (p - 1)) (b := 1) hc (by rw [h, Nat.one_mul])
  rw [this]
  exact Nat.mod_eq_of_lt hp1

theorem mul_mod_cong {p a b c d : Nat} (h1 : a % p = b % p) (h2 : c % p = d % p) : a * c % p = b * d % p := by
  rw [Nat.mul_mod, h1, h2, ← Nat.mul_mod]
theorem pow_mod_cong {p a b : Nat} (h : a % p = b % p) : ∀ n, a ^ n % p = b ^ n % p
  | 0 => rfl
  | n + 1 => by rw [Nat.pow_succ, Nat.pow_succ]; exact mul_mod_cong (pow_mod_cong h n) h

theorem prod_erase {x : Nat} {l : List Nat} (h : x ∈ l) : l.prod = x * (l.erase x).prod := by
  have := (List.perm_cons_erase h).prod_nat
  rw [this, List.prod_cons]

/-- Numbers in pairs, each of which makes a. -/
theorem pair_prod {p a : Nat} (f : Nat → Nat) : ∀ (n : Nat) (l : List Nat), l.length ≤ n → l.Nodup → (∀ x ∈ l, f x ∈ l ∧ f (f x) = x ∧ f x ≠ x ∧ x * f x % p = a % p) →
    l.prod % p = a ^ (l.length / 2) % p ∧ l.length % 2 = 0
  | 0, l, hn, _, _ => by
    have : l = [] := List.eq_nil_of_length_eq_zero (by omega)
    subst this; simp
  | n + 1, [], _, _, _ => by simp
  | n + 1, x :: m, hn, hd, h => by
    have hx := h x (by simp)
    have hfm : f x ∈ m := by
      have := hx.1
      simp only [List.mem_cons] at this
      rcases this with h1 | h1
      · exact absurd h1 hx.2.2.1
      · exact h1
    rw [List.nodup_cons] at hd
    have hlen : (m.erase (f x)).length = m.length - 1 := List.length_erase_of_mem hfm
    have hm0 : 0 < m.length := List.length_pos_of_mem hfm
    have ih := pair_prod (p := p) (a := a) f n (m.erase (f x)) (by simp only [List.length_cons] at hn; omega) (hd.2.erase _) (fun y hy => by
      have hym : y ∈ m := List.mem_of_mem_erase hy
      have hyl := h y (by simp [hym])
      have hyx : y ≠ x := fun e => hd.1 (e ▸ hym)
      have hyf : y ≠ f x := fun e => by
        rw [e] at hy
        exact (hd.2.not_mem_erase) hy
      refine ⟨?_, hyl.2⟩
      have h1 := hyl.1
      simp only [List.mem_cons] at h1
      rcases h1 with h1 | h1
      · exfalso; apply hyf; rw [← h1, hyl.2.1]
      · refine (List.mem_erase_of_ne ?_).2 h1
        intro e
        apply hyx
        rw [← hyl.2.1, e, hx.2.1])
    rw [List.prod_cons, prod_erase hfm, List.length_cons]
    have hl2 : (m.length + 1) / 2 = (m.erase (f x)).length / 2 + 1 := by rw [hlen]; omega
    refine ⟨?_, by have := ih.2; omega⟩
    rw [hl2, Nat.pow_succ, ← Nat.mul_assoc, Nat.mul_comm (a ^ _) a]
    exact mul_mod_cong hx.2.2.2 ih.1

/-- The numbers from 1 to p - 1. -/
def below (p : Nat) : List Nat := (List.range (p - 1)).map (· + 1)
theorem mem_below {p x : Nat} : x ∈ below p ↔ 0 < x ∧ x < p := by
  unfold below
  rw [List.mem_map]
  constructor
  · rintro ⟨k, hk, rfl⟩; have := List.mem_range.1 hk; omega
  · rintro ⟨h1, h2⟩; exact ⟨x - 1, List.mem_range.2 (by omega), by omega⟩
theorem below_nodup (p : Nat) : (below p).Nodup := by
  unfold below
  exact List.Pairwise.map _ (fun a b h e => h (by omega)) List.nodup_range
theorem below_length (p : Nat) : (below p).length = p - 1 := by simp [below]

theorem not_dvd_of_lt {p x : Nat} (h1 : 0 < x) (h2 : x < p) : ¬ p ∣ x := fun h => by have := Nat.le_of_dvd h1 h; omega

/-- What makes a with x. -/
def mate (p a x : Nat) : Nat := a * x ^ (p - 2) % p
theorem mate_mul {p a x : Nat} (hp : Prime p) (hx : ¬ p ∣ x) : x * mate p a x % p = a % p := by
  have hp1 := hp.1
  unfold mate
  rw [Nat.mul_mod_mod, Nat.mul_left_comm]
  have e : x * x ^ (p - 2) = x ^ (p - 1) := by rw [Nat.mul_comm, ← Nat.pow_succ]; congr 1; omega
  rw [e, Nat.mul_mod, fermat_one hp hx, Nat.mul_one, Nat.mod_mod]
theorem mate_in {p a x : Nat} (hp : Prime p) (ha : ¬ p ∣ a) (hx : ¬ p ∣ x) : mate p a x ∈ below p := by
  rw [mem_below]
  have h := mate_mul (a := a) hp hx
  refine ⟨?_, Nat.mod_lt _ hp.pos⟩
  rcases Nat.eq_zero_or_pos (mate p a x) with h0 | h0
  · rw [h0, Nat.mul_zero, Nat.zero_mod] at h
    exact absurd (Nat.dvd_of_mod_eq_zero h.symm) ha
  · exact h0
theorem mate_mate {p a x : Nat} (hp : Prime p) (ha : ¬ p ∣ a) (h0 : 0 < x) (hlt : x < p) : mate p a (mate p a x) = x := by
  have hx := not_dvd_of_lt h0 hlt
  have hm := mem_below.1 (mate_in hp ha hx)
  have hmx := not_dvd_of_lt hm.1 hm.2
  have h1 := mate_mul (a := a) hp hx
  have h2 := mate_mul (a := a) hp hmx
  have hc : Nat.gcd (mate p a x) p = 1 := by rw [Nat.gcd_comm]; exact hp.coprime hmx
  have h3 := mod_cancel (m := p) (a := mate p a (mate p a x)) (b := x) hc (by rw [Nat.mul_comm, h2, h1])
  have hmlt : mate p a (mate p a x) < p := Nat.mod_lt _ hp.pos
  rwa [Nat.mod_eq_of_lt hlt, Nat.mod_eq_of_lt hmlt] at h3

theorem sq_one {p x : Nat} (hp : Prime p) (hlt : x < p) (h : x * x % p = 1) : x = 1 ∨ x = p - 1 := by
  have hp1 := hp.1
  have hx : 0 < x := by
    rcases Nat.eq_zero_or_pos x with h0 | h0
    · rw [h0] at h; simp at h
    · exact h0
  have hd : p ∣ (x - 1) * (x + 1) := by
    have e : (x - 1) * (x + 1) + 1 = x * x := by
      obtain ⟨y, rfl⟩ : ∃ y, x = y + 1 := ⟨x - 1, by omega⟩
      simp only [Nat.add_sub_cancel]
      simp only [Nat.mul_add, Nat.add_mul, Nat.mul_one, Nat.one_mul]; omega
    have h1 : ((x - 1) * (x + 1) + 1) % p = (0 + 1) % p := by rw [e, h, Nat.zero_add, Nat.mod_eq_of_lt hp1]
    have h2 : (((x - 1) * (x + 1) + 1 : Nat) : Int) % (p : Int) = ((0 + 1 : Nat) : Int) % (p : Int) := by exact_mod_cast h1
    have h3 := Int.dvd_of_emod_eq_zero (Int.emod_eq_emod_iff_emod_sub_eq_zero.1 h2)
    have h4 : (((x - 1) * (x + 1) + 1 : Nat) : Int) - ((0 + 1 : Nat) : Int) = (((x - 1) * (x + 1) : Nat) : Int) := by omega
    rw [h4] at h3
    exact_mod_cast h3
  rcases hp.dvd_mul hd with h | h
  · left
    rcases Nat.eq_zero_or_pos (x - 1) with h0 | h0
    · omega
    · have := Nat.le_of_dvd h0 h; omega
  · right
    have := Nat.le_of_dvd (by omega) h; omega

/-- WILSON. -/
theorem wilson_prod {p : Nat} (hp : Prime p) (h3 : 3 ≤ p) : (below p).prod % p = p - 1 := by
  have hp1 := hp.1
  have m1 : 1 ∈ below p := mem_below.2 ⟨by omega, by omega⟩
  have m2 : p - 1 ∈ (below p).erase 1 := (List.mem_erase_of_ne (by omega)).2 (mem_below.2 ⟨by omega, by omega⟩)
  have hn1 : ((below p).erase 1).Nodup := (below_nodup p).erase _
  have h1 : ¬ p ∣ 1 := not_dvd_of_lt (by omega) hp1
  have hW := pair_prod (p := p) (a := 1) (mate p 1) _ (((below p).erase 1).erase (p - 1)) (Nat.le_refl _) (hn1.erase _) (fun x hx => by
    have hxa : x ∈ (below p).erase 1 := List.mem_of_mem_erase hx
    have hxb : x ∈ below p := List.mem_of_mem_erase hxa
    have hx1 : x ≠ 1 := fun e => by rw [e] at hxa; exact ((below_nodup p).not_mem_erase) hxa
    have hx2 : x ≠ p - 1 := fun e => by rw [e] at hx; exact (hn1.not_mem_erase) hx
    obtain ⟨hx0, hxp⟩ := mem_below.1 hxb
    have hxd := not_dvd_of_lt hx0 hxp
    have hm := mate_in hp h1 hxd
    have hmm := mate_mate hp h1 hx0 hxp
    have hmul := mate_mul (a := 1) hp hxd
    have h1p : (1 : Nat) % p = 1 := Nat.mod_eq_of_lt hp1
    refine ⟨(List.mem_erase_of_ne ?_).2 ((List.mem_erase_of_ne ?_).2 hm), hmm, ?_, hmul⟩
    · intro e
      rw [e] at hmm
      have : mate p 1 (p - 1) = p - 1 := by
        have hq := mate_mul (p := p) (a := 1) (x := p - 1) hp (not_dvd_of_lt (by omega) (by omega))
        rw [hmm, h1p] at hq
        have hxx := mate_mul (p := p) (a := 1) (x := x) hp hxd
        rw [e, h1p] at hxx
        -- x (p-1) = 1, so x = p - 1
        have hpp : (p - 1) * (p - 1) % p = 1 := by
          obtain ⟨q, rfl⟩ : ∃ q, p = q + 1 := ⟨p - 1, by omega⟩
          simp only [Nat.add_sub_cancel]
          obtain ⟨s, rfl⟩ : ∃ s, q = s + 1 := ⟨q - 1, by omega⟩
          have : (s + 1) * (s + 1) = 1 + s * (s + 1 + 1) := by simp only [Nat.mul_add, Nat.add_mul, Nat.mul_one, Nat.one_mul]; omega
          rw [this, Nat.add_mul_mod_self_right]
          exact Nat.mod_eq_of_lt (by omega)
        have hc : Nat.gcd (p - 1) p = 1 := by rw [Nat.gcd_comm]; exact hp.coprime (not_dvd_of_lt (by omega) (by omega))
        have := mod_cancel (m := p) (a := x) (b := p - 1) hc (by rw [hxx, hpp])
        rw [Nat.mod_eq_of_lt hxp, Nat.mod_eq_of_lt (by omega)] at this
        exact absurd this hx2
      rw [this] at hmm
      exact hx2 hmm.symm
    · intro e
      rw [e, Nat.mul_one, h1p, Nat.mod_eq_of_lt hxp] at hmul
      exact hx1 hmul
    · intro e
      rw [e, h1p] at hmul
      rcases sq_one hp hxp hmul with h | h
      · exact hx1 h
      · exact hx2 h)
  rw [prod_erase m1, prod_erase m2, Nat.one_mul, Nat.mul_mod, hW.1, Nat.one_pow, Nat.mod_eq_of_lt hp1, Nat.mul_one, Nat.mod_mod, Nat.mod_eq_of_lt (by omega)]

theorem half_two {p : Nat} (h : p % 2 = 1) : 2 * ((p - 1) / 2) = p - 1 := by omega

/-- EULER's criterion: of a number that is no square .. -/
theorem euler_non {p a : Nat} (hp : Prime p) (h3 : 3 ≤ p) (ha : ¬ p ∣ a) (hno : ∀ x, x < p → x * x % p ≠ a % p) : a ^ ((p - 1) / 2) % p = p - 1 := by
  have h := pair_prod (p := p) (a := a) (mate p a) _ (below p) (Nat.le_refl _) (below_nodup p) (fun x hx => by
    obtain ⟨hx0, hxp⟩ := mem_below.1 hx
    have hxd := not_dvd_of_lt hx0 hxp
    have hmul := mate_mul (a := a) hp hxd
    refine ⟨mate_in hp ha hxd, mate_mate hp ha hx0 hxp, fun e => ?_, hmul⟩
    rw [e] at hmul
    exact hno x hxp hmul)
  rw [below_length, wilson_prod hp h3] at h
  exact h.1.symm
/-- .. and of a square. -/
theorem euler_yes {p a x : Nat} (hp : Prime p) (ho : p % 2 = 1) (ha : ¬ p ∣ a) (hx : x * x % p = a % p) : a ^ ((p - 1) / 2) % p = 1 := by
  have hxd : ¬ p ∣ x := fun h => ha (by
    obtain ⟨c, rfl⟩ := h
    rw [Nat.mul_assoc, Nat.mul_mod_right] at hx
    exact Nat.dvd_of_mod_eq_zero hx.symm)
  rw [← pow_mod_cong hx, ← Nat.pow_two, ← Nat.pow_mul, half_two ho]
  exact fermat_one hp hxd
theorem euler_zero {p a : Nat} (hp : Prime p) (h3 : 3 ≤ p) (ha : p ∣ a) : a ^ ((p - 1) / 2) % p = 0 := by
  obtain ⟨k, hk⟩ : ∃ k, (p - 1) / 2 = k + 1 := ⟨(p - 1) / 2 - 1, by omega⟩
  rw [hk, Nat.pow_succ, Nat.mul_mod, Nat.mod_eq_zero_of_dvd ha, Nat.mul_zero, Nat.zero_mod]
/-- Three answers alone. -/
theorem euler_three {p a : Nat} (hp : Prime p) (h3 : 3 ≤ p) (ho : p % 2 = 1) : a ^ ((p - 1) / 2) % p = 0 ∨ a ^ ((p - 1) / 2) % p = 1 ∨ a ^ ((p - 1) / 2) % p = p - 1 := by
  by_cases ha : p ∣ a
  · exact .inl (euler_zero hp h3 ha)
  · by_cases hx : ∃ x, x < p ∧ x * x % p = a % p
    · obtain ⟨x, -, hx⟩ := hx
      exact .inr (.inl (euler_yes hp ho ha hx))
    · exact .inr (.inr (euler_non hp h3 ha fun x hxp h => hx ⟨x, hxp, h⟩))
theorem prime_odd {p : Nat} (hp : Prime p) (h3 : 3 ≤ p) : p % 2 = 1 := by
  rcases Nat.mod_two_eq_zero_or_one p with h | h
  · rcases hp.2 2 (Nat.dvd_of_mod_eq_zero h) with h' | h' <;> omega
  · exact h

end Wm
