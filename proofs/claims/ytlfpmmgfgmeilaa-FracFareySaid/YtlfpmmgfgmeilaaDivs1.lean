/-
  The contract of divide.Divisors.
-/
import Derived.Test.YtlfpmmgfgmeilaaFactor1
import Derived.Test.YtlfpmmgfgmeilaaDivs0
import Derived.Test.YtlfpmmgfgmeilaaShelfs18
import Derived.Sort.OwnSortedInts
set_option linter.unusedVariables false
set_option linter.unusedSimpArgs false
namespace Go.Proofs.Ytlfpmmgfgmeilaa
open Go.RowKit Go.BigFrame Go.Sort

theorem nats_ints (l : List Nat) : nats .i64 l = ints (l.map fun x : Nat => (x : Int)) := by simp [nats, ints]
theorem nats_one (K : IntKind) (l : List Nat) : ∀ u ∈ nats K l, u.oneCell' = true := fun u hu => by
  obtain ⟨x, -, rfl⟩ := List.mem_map.1 hu
  rfl

theorem num_eq' {K : IntKind} {a b : Int} (h : a = b) : Value.int K a = Value.int K b := by rw [h]
/-- What Divisors tells. -/
def DivsPost (n : Nat) (w w' : World) (e : Ending) : Prop := ∃ (l : List (Nat × Nat)) (T : List Nat) (v : Value), Wm.IsFac n l ∧ T.Perm (Wm.dv l) ∧ T.Pairwise (· < ·) ∧ e = .returned (.tuple #[v, .int .i64 0]) ∧ Made w' w.heap.size 3 1 v T.length (nats .i64 T)

/-- A sorted list of naturals, out of a sorted list of numbers. -/
theorem sorted_nats (L : List Nat) (hd : L.Nodup) : ∃ T : List Nat, T.Perm L ∧ T.Pairwise (· < ·) ∧ (L.map fun x : Nat => (x : Int)).mergeSort (fun x y => decide (x ≤ y)) = T.map fun x : Nat => (x : Int) := by
  refine ⟨L.mergeSort fun x y => decide (x ≤ y), List.mergeSort_perm _ _, ?_, ?_⟩
  · have hs := List.pairwise_mergeSort (le := fun x y : Nat => decide (x ≤ y)) (fun a b c h1 h2 => by simp at *; omega) (fun a b => by simp; omega) L
    have hn : (L.mergeSort fun x y => decide (x ≤ y)).Nodup := (List.mergeSort_perm _ _).nodup_iff.2 hd
    exact (hs.and hn).imp fun {a b} ⟨h1, h2⟩ => by simp at h1; omega
  · rw [List.map_mergeSort]
    intro a _ b _
    simp

theorem dv_pos {l : List (Nat × Nat)} (h : Wm.Good l) {d : Nat} (hd : d ∈ Wm.dv l) : 0 < d := Nat.pos_of_dvd_of_pos ((Wm.mem_dv h d).1 hd) h.pos
theorem good_take {n : Nat} {l : List (Nat × Nat)} (h : Wm.IsFac n l) (k : Nat) : Wm.Good (l.take k) := ⟨h.1.sublist (List.take_sublist _ _), fun x hx => h.2.1 x (List.mem_of_mem_take hx)⟩
theorem take_dvd {n : Nat} {l : List (Nat × Nat)} (h : Wm.IsFac n l) (k : Nat) : Wm.prodP (l.take k) ∣ n := by
  have := Wm.prodP_append (l.take k) (l.drop k)
  rw [List.take_append_drop, h.2.2] at this
  exact ⟨_, this⟩

/-- The list while the i-th divisor is being multiplied. -/
def contI (D : List Nat) (P K i : Nat) : List Nat := D ++ (D.take i).flatMap fun d => (List.range K).map fun j => d * P ^ (j + 1)
theorem contI_zero (D : List Nat) (P K : Nat) : contI D P K 0 = D := by simp [contI]
theorem contI_succ (D : List Nat) (P K i : Nat) (h : i < D.length) : contI D P K (i + 1) = contI D P K i ++ (List.range K).map fun j => D.getD i 0 * P ^ (j + 1) := by
  unfold contI
  rw [take_snoc D 0 h, List.flatMap_append, List.append_assoc]
  simp
theorem contI_all (D : List Nat) (P K : Nat) : contI D P K D.length = Wm.dstep D P K := by
  unfold contI Wm.dstep
  rw [List.take_length]
theorem contI_length (D : List Nat) (P K i : Nat) (h : i ≤ D.length) : (contI D P K i).length = D.length + i * K := by
  unfold contI
  rw [List.length_append, Wm.length_flat, List.length_take, Nat.min_eq_left h]
theorem range_map_succ (d P t : Nat) : ((List.range (t + 1)).map fun j => d * P ^ (j + 1)) = ((List.range t).map fun j => d * P ^ (j + 1)) ++ [d * P ^ (t + 1)] := by
  rw [List.range_succ, List.map_append]; rfl

end Go.Proofs.Ytlfpmmgfgmeilaa
