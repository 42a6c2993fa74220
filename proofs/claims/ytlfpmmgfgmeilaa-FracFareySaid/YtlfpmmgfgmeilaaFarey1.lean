/-
  What the lists of fractions tell; how they lie in memory; the comparison.
-/
import Derived.Test.YtlfpmmgfgmeilaaFarey0
import Derived.Test.YtlfpmmgfgmeilaaShelfs18
import Derived.Test.YtlfpmmgfgmeilaaEuclid1
import Derived.Test.YtlfpmmgfgmeilaaApp
import Derived.Shelf.SlSortCmp.WholeK
set_option linter.unusedVariables false
set_option linter.unusedSimpArgs false
namespace Wm
open Go.Sort Go.Lib Go.Proofs
theorem raw_len : ∀ n : Nat, (rawF n).length ≤ n * 40 ∨ 30 < n
  | 0 => .inl (by simp [rawF])
  | n + 1 => by
    rcases raw_len n with h | h
    · by_cases c : 30 < n + 1
      · exact .inr c
      · left
        have : (rowF (n + 1) (n + 2)).length ≤ n + 2 := by
          unfold rowF
          rw [List.length_map]
          exact Nat.le_trans (List.length_filter_le _ _) (by simp)
        simp only [rawF, List.length_append]
        omega
    · exact .inr (by omega)
theorem pairB_spec : ∀ {l : List (Nat × Nat)}, pairB l = true → l.Pairwise fun a b => ltN a b = true
  | [], _ => List.Pairwise.nil
  | x :: l, h => by
    simp only [pairB, Bool.and_eq_true, List.all_eq_true] at h
    exact List.Pairwise.cons h.1 (pairB_spec h.2)
structure OkF (n : Nat) : Prop where
  strict : (srtF n).Pairwise fun a b => ltN a b = true
  next : nextB (srtF n) = true
  len : (srtF n).length = sumPh n
  bound : ∀ x ∈ rawF n, x.1 ≤ 30 ∧ 1 ≤ x.2 ∧ x.2 ≤ 30
  fac : IsFac n (facT n)
theorem okF {n : Nat} (h1 : 1 ≤ n) (h30 : n ≤ 30) : OkF n := by
  have h := ok_of h1 h30
  simp only [okB, Bool.and_eq_true, List.all_eq_true, decide_eq_true_eq] at h
  exact ⟨pairB_spec h.1.1.1.1, h.1.1.1.2, h.1.1.2, fun x hx => ⟨(h.1.2 x hx).1.1, (h.1.2 x hx).1.2, (h.1.2 x hx).2⟩, facB_spec h.2⟩
theorem nextB_spec : ∀ {l : List (Nat × Nat)}, nextB l = true → ∀ i, i + 1 < l.length → gP l (i + 1) * gQ l i = gP l i * gQ l (i + 1) + 1
  | [], _, i, hi => by simp at hi
  | [a], _, i, hi => by simp at hi
  | a :: b :: l, h, i, hi => by
    simp only [nextB, Bool.and_eq_true, decide_eq_true_eq] at h
    cases i with
    | zero => exact h.1
    | succ i => exact nextB_spec h.2 i (by simp at hi ⊢; omega)
theorem cf_lt {a b : Nat × Nat} (ha : a.1 ≤ 30 ∧ 1 ≤ a.2 ∧ a.2 ≤ 30) (hb : b.1 ≤ 30 ∧ 1 ≤ b.2 ∧ b.2 ≤ 30) : ltOf cfF (toF a) (toF b) = ltN a b := by
  unfold ltOf cfF ltN toF
  have e1 : a.1 % 31 = a.1 := Nat.mod_eq_of_lt (by omega)
  have e2 : (a.2 - 1) % 30 + 1 = a.2 := by rw [Nat.mod_eq_of_lt (by omega)]; omega
  have e3 : b.1 % 31 = b.1 := Nat.mod_eq_of_lt (by omega)
  have e4 : (b.2 - 1) % 30 + 1 = b.2 := by rw [Nat.mod_eq_of_lt (by omega)]; omega
  simp only [e1, e2, e3, e4]
  rw [decide_eq_decide]
  omega
theorem swoF : SWO (ltOf cfF) where
  irrefl x := by unfold ltOf cfF; rw [decide_eq_false_iff_not]; omega
  trans x y z h1 h2 := by
    unfold ltOf cfF at *
    rw [decide_eq_true_eq] at *
    have a : x.1.val * (y.2.val + 1) < y.1.val * (x.2.val + 1) := by omega
    have b : y.1.val * (z.2.val + 1) < z.1.val * (y.2.val + 1) := by omega
    have c : x.1.val * (z.2.val + 1) < z.1.val * (x.2.val + 1) := by
      have a' := Nat.mul_lt_mul_of_pos_right a (show 0 < z.2.val + 1 by omega)
      have b' := Nat.mul_lt_mul_of_pos_right b (show 0 < x.2.val + 1 by omega)
      have e : y.1.val * (x.2.val + 1) * (z.2.val + 1) = y.1.val * (z.2.val + 1) * (x.2.val + 1) := Nat.mul_right_comm _ _ _
      refine Nat.lt_of_mul_lt_mul_right (a := y.2.val + 1) ?_
      calc x.1.val * (z.2.val + 1) * (y.2.val + 1) = x.1.val * (y.2.val + 1) * (z.2.val + 1) := Nat.mul_right_comm _ _ _
        _ < y.1.val * (x.2.val + 1) * (z.2.val + 1) := a'
        _ = y.1.val * (z.2.val + 1) * (x.2.val + 1) := e
        _ < z.1.val * (y.2.val + 1) * (x.2.val + 1) := b'
        _ = z.1.val * (x.2.val + 1) * (y.2.val + 1) := Nat.mul_right_comm _ _ _
    omega
  ntrans x y z h1 h2 := by
    unfold ltOf cfF at *
    rw [decide_eq_false_iff_not] at *
    have a : y.1.val * (x.2.val + 1) ≤ x.1.val * (y.2.val + 1) := by omega
    have b : z.1.val * (y.2.val + 1) ≤ y.1.val * (z.2.val + 1) := by omega
    have c : z.1.val * (x.2.val + 1) ≤ x.1.val * (z.2.val + 1) := by
      have a' := Nat.mul_le_mul_right (z.2.val + 1) a
      have b' := Nat.mul_le_mul_right (x.2.val + 1) b
      have e : y.1.val * (x.2.val + 1) * (z.2.val + 1) = y.1.val * (z.2.val + 1) * (x.2.val + 1) := Nat.mul_right_comm _ _ _
      refine Nat.le_of_mul_le_mul_right (c := y.2.val + 1) ?_ (by omega)
      calc z.1.val * (x.2.val + 1) * (y.2.val + 1) = z.1.val * (y.2.val + 1) * (x.2.val + 1) := Nat.mul_right_comm _ _ _
        _ ≤ y.1.val * (z.2.val + 1) * (x.2.val + 1) := b'
        _ = y.1.val * (x.2.val + 1) * (z.2.val + 1) := e.symm
        _ ≤ x.1.val * (y.2.val + 1) * (z.2.val + 1) := a'
        _ = x.1.val * (z.2.val + 1) * (y.2.val + 1) := Nat.mul_right_comm _ _ _
    omega
theorem pair_tri {α : Type} {R : α → α → Prop} : ∀ {l : List α}, l.Pairwise R → ∀ a ∈ l, ∀ b ∈ l, a = b ∨ R a b ∨ R b a
  | [], _, a, h, _, _ => by cases h
  | x :: l, hp, a, ha, b, hb => by
    rw [List.pairwise_cons] at hp
    rcases List.mem_cons.1 ha with ha1 | ha1
    · rcases List.mem_cons.1 hb with hb1 | hb1
      · exact .inl (ha1.trans hb1.symm)
      · exact .inr (.inl (by rw [ha1]; exact hp.1 b hb1))
    · rcases List.mem_cons.1 hb with hb1 | hb1
      · exact .inr (.inr (by rw [hb1]; exact hp.1 a ha1))
      · exact pair_tri hp.2 a ha1 b hb1
/-- A sorted permutation is the list. -/
theorem far_sorted {n : Nat} (h1 : 1 ≤ n) (h30 : n ≤ 30) {l : List Fr} (hp : l.Perm ((rawF n).map toF)) (hs : l.Pairwise fun a b => ltOf cfF b a = false) : l = (srtF n).map toF := by
  have O := okF h1 h30
  have hb : ∀ x ∈ srtF n, x.1 ≤ 30 ∧ 1 ≤ x.2 ∧ x.2 ≤ 30 := fun x hx => O.bound x ((srtF_perm n).mem_iff.1 hx)
  have hst : ((srtF n).map toF).Pairwise fun a b => ltOf cfF a b = true := by
    rw [List.pairwise_map]
    exact O.strict.imp_of_mem fun ha hb' h => by rw [cf_lt (hb _ ha) (hb _ hb')]; exact h
  have hpp : l.Perm ((srtF n).map toF) := hp.trans ((srtF_perm n).map toF).symm
  refine hpp.eq_of_pairwise (fun a b ha hb' r1 r2 => ?_) hs (hst.imp fun {a b} h => ?_)
  · rcases pair_tri hst a (hpp.mem_iff.1 ha) b hb' with h | h | h
    · exact h
    · rw [h] at r2; cases r2
    · rw [h] at r1; cases r1
  · cases hba : ltOf cfF b a with
    | false => rfl
    | true =>
      have := swoF.trans a b a h hba
      rw [swoF.irrefl] at this
      cases this
end Wm
