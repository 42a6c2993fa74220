/-
  The contract of reed.Mend.
-/
import Derived.Test.YtekkghhihnnpjaaDoorReed3
import Derived.Test.YtekkghhihnnpjaaDoorDuo
import Derived.BigRegion
import Derived.Deep.Cut
import Derived.BigQuiet
set_option linter.unusedVariables false
set_option linter.unusedSimpArgs false
namespace Wm
/-- The places that are taken, of the first x: at most k. -/
def pt (H : Nat → Bool) (k x : Nat) : List Nat := (pk H x).take k
theorem pt_length (H : Nat → Bool) (k x : Nat) : (pt H k x).length = min k (cntR H x) := by simp [pt, pk_length]
theorem pt_nodup (H : Nat → Bool) (k x : Nat) : (pt H k x).Nodup := (pk_nodup H x).sublist (List.take_sublist _ _)
theorem pt_mem {H : Nat → Bool} {k x i : Nat} (h : i ∈ pt H k x) : i < x ∧ H i = true := pk_mem x (List.mem_of_mem_take h)
theorem pt_skip {H : Nat → Bool} {k x : Nat} (h : H x = false) : pt H k (x + 1) = pt H k x := by simp [pt, pk, h]
theorem pt_full {H : Nat → Bool} {k x : Nat} (h : k ≤ (pt H k x).length) : pt H k (x + 1) = pt H k x := by
  unfold pt at h ⊢
  simp only [pk]
  split
  · rw [List.take_append_of_le_length (by rw [List.length_take] at h; omega)]
  · rfl
theorem pt_step {H : Nat → Bool} {k x : Nat} (h : H x = true) (hk : (pt H k x).length < k) : pt H k (x + 1) = pt H k x ++ [x] := by
  unfold pt at hk ⊢
  rw [List.length_take] at hk
  simp only [pk, h, if_pos]
  rw [List.take_of_length_le (by simp; omega), List.take_of_length_le (by omega)]
/-- Cells: whether a byte is there, and which. -/
def cH (l : List (Bool × Nat)) (i : Nat) : Bool := (l.getD i (false, 0)).1
def cB (l : List (Bool × Nat)) (i : Nat) : Nat := (l.getD i (false, 0)).2
def mendL (l : List (Bool × Nat)) (k : Nat) : List Nat := rowL (pt (cH l) k l.length) ((pt (cH l) k l.length).map (cB l)) l.length
/-- Does one of the first x say otherwise? -/
def mendN (l : List (Bool × Nat)) (k : Nat) : Nat → Bool
  | 0 => false
  | x + 1 => mendN l k x || (cH l x && decide (cB l x ≠ (mendL l k).getD x 0))
theorem mendN_no {l : List (Bool × Nat)} {k : Nat} : ∀ {x : Nat}, mendN l k x = false → ∀ i, i < x → cH l i = true → cB l i = (mendL l k).getD i 0
  | 0, _, i, hi, _ => by omega
  | x + 1, h, i, hi, hc => by
    simp only [mendN, Bool.or_eq_false_iff] at h
    by_cases e : i = x
    · subst e
      have := h.2
      rw [hc] at this
      simpa using this
    · exact mendN_no h.1 i (by omega) hc
theorem mendN_of {l : List (Bool × Nat)} {k : Nat} : ∀ {x : Nat}, (∀ i, i < x → cH l i = true → cB l i = (mendL l k).getD i 0) → mendN l k x = false
  | 0, _ => rfl
  | x + 1, h => by
    simp only [mendN]
    rw [mendN_of fun i hi => h i (by omega)]
    cases e : cH l x with
    | false => rfl
    | true => simp [h x (by omega) e]
theorem mendN_mono {l : List (Bool × Nat)} {k : Nat} : ∀ {n x : Nat}, x ≤ n → mendN l k x = true → mendN l k n = true
  | 0, x, h, hx => by obtain rfl : x = 0 := by omega
                      exact hx
  | n + 1, x, h, hx => by
    by_cases e : x = n + 1
    · subst e; exact hx
    · simp only [mendN, Bool.or_eq_true]; exact .inl (mendN_mono (by omega) hx)
end Wm
namespace Go.Proofs.YtekkghhihnnpjaaDoor
open Go.RowKit Go.BigFrame

/-- Cells in memory: two values each. -/
def cls : List (Bool × Nat) → List Value
  | [] => []
  | p :: l => .bool p.1 :: .int .u8 ((p.2 : Nat) : Int) :: cls l
theorem cls_length : ∀ l : List (Bool × Nat), (cls l).length = l.length * 2
  | [] => rfl
  | p :: l => by simp only [cls, List.length_cons, cls_length l]; omega
theorem cls_append : ∀ l m : List (Bool × Nat), cls l ++ cls m = cls (l ++ m)
  | [], _ => rfl
  | p :: l, m => by simp only [cls, List.cons_append, cls_append l m]
theorem cls_get : ∀ (l : List (Bool × Nat)) (k : Nat), k < l.length → (cls l)[k * 2]? = some (.bool (l.getD k (false, 0)).1) ∧ (cls l)[k * 2 + 1]? = some (.int .u8 (((l.getD k (false, 0)).2 : Nat) : Int))
  | [], k, h => by simp at h
  | p :: l, 0, _ => by simp [cls]
  | p :: l, k + 1, h => by
    have := cls_get l k (by simpa using h)
    rw [show (k + 1) * 2 = k * 2 + 1 + 1 by omega]
    simpa [cls] using this
theorem Row.cln {w : World} {A : Option Addr} {n : Nat} {l : List (Bool × Nat)} (h : Row w A n 2 (cls l)) : l.length = n := by have := h.1; rw [cls_length] at this; omega
theorem Row.cl {w : World} {A : Option Addr} {n k : Nat} {l : List (Bool × Nat)} (h : Row w A n 2 (cls l)) (hk : k < n) : ∃ b o, A = some ⟨b, o, none⟩ ∧ b < w.heap.size ∧
    w.cell? ⟨b, o + k * 2, none⟩ = some (.bool (Wm.cH l k)) ∧ w.cell? ⟨b, o + k * 2 + 1, none⟩ = some (.int .u8 ((Wm.cB l k : Nat) : Int)) := by
  obtain ⟨b, o, hA, hb, hc⟩ := h.2 (by omega)
  have := cls_get l k (by have := h.cln; omega)
  exact ⟨b, o, hA, hb, (hc (k * 2) (by omega)).trans this.1, by rw [Nat.add_assoc]; exact (hc (k * 2 + 1) (by omega)).trans this.2⟩

/-- What Mend answers. -/
def MendOut (w w' : World) (l : List (Bool × Nat)) (k n : Nat) (e : Ending) : Prop :=
  (Wm.cntR (Wm.cH l) n < k ∧ e = .returned (.tuple #[.slice none 0 0, .int .i64 9])) ∨
  (k ≤ Wm.cntR (Wm.cH l) n ∧ Wm.mendN l k n = true ∧ e = .returned (.tuple #[.slice none 0 0, .int .i64 8])) ∨
  (k ≤ Wm.cntR (Wm.cH l) n ∧ Wm.mendN l k n = false ∧ ∃ v, e = .returned (.tuple #[v, .int .i64 0]) ∧ Made w' w.heap.size 5 1 v n (nats .u8 (Wm.mendL l k)))

end Go.Proofs.YtekkghhihnnpjaaDoor
