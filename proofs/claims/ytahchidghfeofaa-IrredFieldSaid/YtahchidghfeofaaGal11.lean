/-
  The powers of x by a polynomial without divisors, as the law computes them; what is the first of degree 3 by 2. No program in sight.
-/
import Derived.Test.YtahchidghfeofaaGal10
set_option linter.unusedVariables false
set_option linter.unusedSimpArgs false
namespace Wm
open Fld
/-- The m-th power of a number's polynomial, its rest. -/
noncomputable def pwG (P : Pr) (f : List Nat) (k a m : Nat) : List Nat := polN P.p k (pwM (mlG P f k) a m)
theorem pwG_isP (P : Pr) (f : List Nat) (k a m : Nat) : IsP P.p (pwG P f k a m) := polN_isP P.pos _ _
theorem pwG_len (P : Pr) (f : List Nat) (k a m : Nat) : (pwG P f k a m).length ≤ k := polN_len _ _ _
section
variable {P : Pr} {f : List Nat} {k : Nat} (I : Irl P f) (hk : f.length = k + 1)
include I hk
theorem Irl.pwG_step (a m : Nat) {q r : List Nat} (D : IsDiv P (mulL P.p (pwG P f k a m) (polN P.p k a)) f q r) : r = pwG P f k a (m + 1) := by
  obtain ⟨q', D'⟩ := I.mlG_pol hk a (pwM (mlG P f k) a m)
  have e : mulL P.p (polN P.p k a) (polN P.p k (pwM (mlG P f k) a m)) = mulL P.p (pwG P f k a m) (polN P.p k a) := (mulL_isP P.pos _ _).ext (mulL_isP P.pos _ _) (by rw [mulL_ser, mulL_ser, conv_comm]; rfl)
  rw [e] at D'
  exact (D.unique I.isP D').2
theorem Irl.pwG_zero (a : Nat) : pwG P f k a 0 = [1] := by
  show polN P.p k 1 = [1]
  have hk1 : 1 ≤ k := by have := I.two; omega
  have h1 : IsP P.p [1] := ⟨fun x hx => by simp at hx; subst hx; exact P.two, fun _ => by simp⟩
  have hc : codN P.p k [1] = 1 := by
    unfold codN mkL
    obtain ⟨j, rfl⟩ : ∃ j, k = j + 1 := ⟨k - 1, by omega⟩
    rw [List.range_succ_eq_map, List.map_cons, List.map_map]
    simp only [numG]
    have : ∀ l : List Nat, numG P.p (l.map ((fun i => [1].getD i 0) ∘ Nat.succ)) = 0 := fun l => by
      induction l with
      | nil => rfl
      | cons a l ih =>
        simp only [List.map_cons, numG, ih, Nat.mul_zero, Nat.add_zero]
        rfl
    rw [this]; rfl
  have h2 := pol_cod (P := P) (k := k) h1 (by simpa using hk1)
  rwa [hc] at h2
/-- The p-th power of the p^i-th power. -/
theorem Irl.pwG_pw {a : Nat} (ha : a < P.p ^ k) (i : Nat) : pwG P f k (pwM (mlG P f k) a (P.p ^ i)) P.p = pwG P f k a (P.p ^ (i + 1)) := by
  unfold pwG
  rw [(I.dom hk).pw_pw ha, Nat.pow_succ]
theorem Irl.pwG_last {a : Nat} (ha : a < P.p ^ k) : pwG P f k a (P.p ^ k) = polN P.p k a := by
  unfold pwG
  rw [(I.dom hk).frob ha]
theorem Irl.pw_lt {a : Nat} (ha : a < P.p ^ k) (n : Nat) : pwM (mlG P f k) a n < P.p ^ k := (I.dom hk).pw_lt ha n
end
/-- The number of x. -/
def xN (P : Pr) (k : Nat) : Nat := codN P.p k [0, 1]
theorem x_isP (P : Pr) : IsP P.p [0, 1] := ⟨fun x hx => by
  have := P.two
  simp at hx
  omega, fun _ => by simp⟩
theorem xN_lt (P : Pr) (k : Nat) : xN P k < P.p ^ k := codN_lt (x_isP P)
theorem xN_pol (P : Pr) {k : Nat} (hk : 2 ≤ k) : polN P.p k (xN P k) = [0, 1] := pol_cod (x_isP P) (by simpa using hk)
theorem pw_one {P : Pr} {f : List Nat} {k : Nat} (I : Irl P f) (hk : f.length = k + 1) {a : Nat} (ha : a < P.p ^ k) : pwM (mlG P f k) a 1 = a := by
  show mlG P f k a 1 = a
  have D := I.dom hk
  rw [D.comm _ _ ha D.big, D.one _ ha]
/-- What is shorter, but for nothing, is coprime to it. -/
theorem Irl.gcd_one {P : Pr} {f g d : List Nat} (I : Irl P f) (hg : IsP P.p g) (h0 : g ≠ []) (hl : g.length < f.length) (G : IsGcd P f g d) : d = [1] := by
  refine G.unique (I.coprime hg fun h => ?_)
  have := dv_len I.isP hg h h0
  omega
theorem Irl.gcd_all {P : Pr} {f d : List Nat} (I : Irl P f) (G : IsGcd P f [] d) : d.length = f.length := by
  have hf0 : f ≠ [] := fun e => by have := I.two; rw [e] at this; simp at this
  have hd0 : d ≠ [] := fun e => hf0 (G.nil e).1
  have h : Dv (ser P f) (ser P d) := G.all _ (Dv.refl _) (by rw [ser_nil]; exact dv_s0 _)
  have l1 := dv_len I.isP G.isP h hd0
  have l2 := dv_len G.isP I.isP G.left hf0
  omega
theorem prime_2g : Prime 2 := pchk_spec (r := 0) (by decide +kernel)
def P2g : Pr := ⟨2, prime_2g⟩
theorem irl_1101 : Irl P2g [1, 1, 0, 1] := irr_found (k := 3) (by omega) (by omega) ⟨by decide, fun _ => by decide⟩ rfl rfl (by decide +kernel)
theorem irr_3 : Irr P2g (monL P2g.p 3 3) := by
  have e : monL P2g.p 3 3 = [1, 1, 0, 1] := by decide +kernel
  rw [e]; exact irr_of_irl irl_1101
theorem not_irr_3 : ∀ k, k < 3 → ¬ Irr P2g (monL P2g.p 3 k) := fun k hk => by
  rcases (show k = 0 ∨ k = 1 ∨ k = 2 by omega) with rfl | rfl | rfl
  · have e : monL P2g.p 3 0 = mulL P2g.p [0, 1] [0, 0, 1] := by decide +kernel
    rw [e]; exact not_irr ⟨by decide, fun _ => by decide⟩ ⟨by decide, fun _ => by decide⟩ (by decide) (by decide)
  · have e : monL P2g.p 3 1 = mulL P2g.p [1, 1] [1, 1, 1] := by decide +kernel
    rw [e]; exact not_irr ⟨by decide, fun _ => by decide⟩ ⟨by decide, fun _ => by decide⟩ (by decide) (by decide)
  · have e : monL P2g.p 3 2 = mulL P2g.p [0, 1] [1, 0, 1] := by decide +kernel
    rw [e]; exact not_irr ⟨by decide, fun _ => by decide⟩ ⟨by decide, fun _ => by decide⟩ (by decide) (by decide)
theorem first_3 {k : Nat} (h : Irr P2g (monL P2g.p 3 k)) (hn : ∀ k', k' < k → ¬ Irr P2g (monL P2g.p 3 k')) : monL P2g.p 3 k = [1, 1, 0, 1] := by
  have : k = 3 := by
    rcases Nat.lt_trichotomy k 3 with c | c | c
    · exact absurd h (not_irr_3 k c)
    · exact c
    · exact absurd irr_3 (hn 3 c)
  subst this
  decide +kernel
/-- There are witnesses for all that may be asked. -/
theorem ex_all (P : Pr) (h9 : P.p ≤ 997) {k : Nat} (h2 : 2 ≤ k) (h5 : k ≤ 5) (hpw : P.p ^ k ≤ 1000000) : exB k P.p = true := by
  have up : ∀ c, c ≤ P.p → c ^ k ≤ 1000000 := fun c hc => Nat.le_trans (Nat.pow_le_pow_left hc k) hpw
  rcases (show k = 2 ∨ k = 3 ∨ k = 4 ∨ k = 5 by omega) with rfl | rfl | rfl | rfl
  · exact List.all_eq_true.1 ex2 _ (List.mem_range.2 (by omega))
  · exact List.all_eq_true.1 ex3 _ (List.mem_range.2 (by
      rcases Nat.lt_or_ge P.p 101 with h | h
      · exact h
      · have := up 101 h; omega))
  · exact List.all_eq_true.1 ex4 _ (List.mem_range.2 (by
      rcases Nat.lt_or_ge P.p 32 with h | h
      · exact h
      · have := up 32 h; omega))
  · exact List.all_eq_true.1 ex5 _ (List.mem_range.2 (by
      rcases Nat.lt_or_ge P.p 16 with h | h
      · exact h
      · have := up 16 h; omega))
end Wm
