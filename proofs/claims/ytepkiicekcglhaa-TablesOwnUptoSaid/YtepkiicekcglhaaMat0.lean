/-
  Plain: matrices over a field, as functions of two places with their sizes beside. No program in sight.
-/
import Derived.Test.YtepkiicekcglhaaPoly0
set_option linter.unusedVariables false
set_option linter.unusedSimpArgs false
set_option linter.unusedSectionVars false
namespace Wm
namespace Fld
variable {K : Type}
def tr (A : Nat → Nat → K) : Nat → Nat → K := fun i j => A j i
/-- Alike within m rows and n columns. -/
def Eqm (m n : Nat) (A B : Nat → Nat → K) : Prop := ∀ i j, i < m → j < n → A i j = B i j
theorem Eqm.refl (m n : Nat) (A : Nat → Nat → K) : Eqm m n A A := fun _ _ _ _ => rfl
theorem Eqm.symm {m n : Nat} {A B : Nat → Nat → K} (h : Eqm m n A B) : Eqm m n B A := fun i j hi hj => (h i j hi hj).symm
theorem Eqm.trans {m n : Nat} {A B C : Nat → Nat → K} (h : Eqm m n A B) (k : Eqm m n B C) : Eqm m n A C := fun i j hi hj => (h i j hi hj).trans (k i j hi hj)
theorem tr_tr (A : Nat → Nat → K) : tr (tr A) = A := rfl
variable [Fld K]
/-- The product, n the size in common. -/
def mm (n : Nat) (A B : Nat → Nat → K) : Nat → Nat → K := fun i j => sm (fun k => ml (A i k) (B k j)) n
def idm : Nat → Nat → K := fun i j => if i = j then o else z
theorem mm_congr {m n l : Nat} {A A' B B' : Nat → Nat → K} (h : Eqm m n A A') (k : Eqm n l B B') : Eqm m l (mm n A B) (mm n A' B') := fun i j hi hj =>
  sm_congr n fun t ht => by rw [h i t hi ht, k t j ht hj]
theorem sm_ml_right (c : K) (f : Nat → K) (n : Nat) : sm (fun k => ml (f k) c) n = ml (sm f n) c := by
  rw [ml_comm, ← sm_ml]
  exact sm_congr n fun k _ => ml_comm _ _
theorem mm_assoc (m n : Nat) (A B C : Nat → Nat → K) : mm n (mm m A B) C = mm m A (mm n B C) := by
  funext i j
  show sm (fun k => ml (sm (fun t => ml (A i t) (B t k)) m) (C k j)) n = sm (fun t => ml (A i t) (sm (fun k => ml (B t k) (C k j)) n)) m
  have h1 : sm (fun k => ml (sm (fun t => ml (A i t) (B t k)) m) (C k j)) n = sm (fun k => sm (fun t => ml (A i t) (ml (B t k) (C k j))) m) n :=
    sm_congr n fun k _ => by
      rw [← sm_ml_right]
      exact sm_congr m fun t _ => ml_assoc _ _ _
  have h2 : sm (fun t => ml (A i t) (sm (fun k => ml (B t k) (C k j)) n)) m = sm (fun t => sm (fun k => ml (A i t) (ml (B t k) (C k j))) n) m :=
    sm_congr m fun t _ => (sm_ml _ _ _).symm
  rw [h1, h2, sm_swap]
theorem mm_id {m n : Nat} (A : Nat → Nat → K) : Eqm m n (mm n A idm) A := fun i j _ hj => by
  show sm (fun k => ml (A i k) (if k = j then o else z)) n = A i j
  rw [sm_one (i := j) n hj fun k _ hk => by rw [if_neg hk, ml_z], if_pos rfl, ml_o]
theorem id_mm {m n : Nat} (A : Nat → Nat → K) : Eqm m n (mm m idm A) A := fun i j hi _ => by
  show sm (fun k => ml (if i = k then o else z) (A k j)) m = A i j
  rw [sm_one (i := i) m hi fun k _ hk => by rw [if_neg fun e => hk e.symm, z_ml], if_pos rfl, o_ml]
theorem tr_mm (n : Nat) (A B : Nat → Nat → K) : tr (mm n A B) = mm n (tr B) (tr A) := by
  funext i j
  exact sm_congr n fun k _ => ml_comm _ _
theorem tr_id : tr (idm : Nat → Nat → K) = idm := by
  funext i j
  show (if j = i then o else z) = if i = j then o else z
  by_cases h : i = j
  · rw [if_pos h, if_pos h.symm]
  · rw [if_neg h, if_neg fun e => h e.symm]
/-- A matrix that can be undone: on both sides. -/
def Inv (n : Nat) (A B : Nat → Nat → K) : Prop := Eqm n n (mm n A B) idm ∧ Eqm n n (mm n B A) idm
theorem Inv.symm {n : Nat} {A B : Nat → Nat → K} (h : Inv n A B) : Inv n B A := ⟨h.2, h.1⟩
theorem Inv.mul {n : Nat} {A B C D : Nat → Nat → K} (h : Inv n A B) (k : Inv n C D) : Inv n (mm n A C) (mm n D B) := by
  have key : ∀ {A B C D : Nat → Nat → K}, Eqm n n (mm n A B) idm → Eqm n n (mm n C D) idm → Eqm n n (mm n (mm n A C) (mm n D B)) idm := fun {A B C D} h k => by
    rw [mm_assoc, ← mm_assoc n n C D B]
    exact (mm_congr (Eqm.refl n n A) ((mm_congr k (Eqm.refl n n B)).trans (id_mm B))).trans h
  exact ⟨key h.1 k.1, key k.2 h.2⟩
/-- One-sided inverses agree. -/
theorem Inv.unique {n : Nat} {A B C : Nat → Nat → K} (h : Inv n A B) (k : Eqm n n (mm n A C) idm) : Eqm n n C B := by
  have h1 : Eqm n n (mm n B (mm n A C)) B := (mm_congr (Eqm.refl n n B) k).trans (mm_id B)
  have h2 : Eqm n n (mm n B (mm n A C)) C := by
    rw [← mm_assoc]
    exact (mm_congr h.2 (Eqm.refl n n C)).trans (id_mm C)
  exact h2.symm.trans h1
end Fld
end Wm
