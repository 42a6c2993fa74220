/-
  slices.Sort at uint16, up to 64 values of a slice of the call's own.
-/
import Derived.Test.YtkebldjepdhioaaSrt10
set_option linter.unusedVariables false
set_option linter.unusedSimpArgs false
namespace Go.Proofs.Ytkebldjepdhioaa
open Go.RowKit Go.BigFrame

theorem len_64 : ∀ L, L < 65 → Lib.bitLen L ≤ 1000 := by decide +kernel
set_option maxRecDepth 100000 in
set_option maxHeartbeats 1000000 in
theorem sort_sl (base g n c : Nat) (f : Nat → Nat) (w : World) (S : Sl w w base g n c f) (hn : n ≤ 64) :
    Calls Try.prog 49 #[.slice (some ⟨g, 0, none⟩) n c] w fun e w' => e = .returned (.tuple #[]) ∧ SrtPost w base g n c 0 n f (Wm.Srtd 0 n) w' := by
  have hLen : ∀ w, Calls Try.prog 59 #[.int .u64 (n : Int)] w fun e w' => e = .returned (.int .i64 (Lib.bitLen n : Nat)) ∧ w' = w := fun w => by
    have h := Try.bits_Len (n : Int) w (by omega) (by omega)
    rwa [Int.toNat_natCast] at h
  have hk := len_64 n (by omega)
  have CL := hide hLen
  clear hLen
  generalize Lib.bitLen n = k at *
  have C := hide (pdq_u16 base g n c (by omega) n 0 n k f w (by omega) S (Nat.zero_le _) (by omega) (Nat.le_refl _) hk (fun h => absurd h (by omega)))
  rw [show ((0 : Nat) : Int) = 0 from rfl] at C
  clear S
  go_enter Try.func49, Try.ntmps49
  go_wp2_with fail
  refine (unhide CL _).mono ?_
  rintro e w' ⟨rfl, rfl⟩
  go_wp2_with fail
  refine (unhide C).mono ?_
  rintro e w2 ⟨rfl, P⟩
  have HP := hide P
  clear P
  go_wp2
  go_end0
  exact ⟨rfl, unhide HP⟩
/-- In plain words: the list is sorted. -/
def srt (l : List Nat) : List Nat := l.mergeSort (fun a b => decide (a ≤ b))
theorem srt_perm (l : List Nat) : (srt l).Perm l := List.mergeSort_perm _ _
theorem srt_sorted (l : List Nat) : (srt l).Pairwise (· ≤ ·) := by
  have := List.pairwise_mergeSort (le := fun a b : Nat => decide (a ≤ b)) (fun a b c h1 h2 => by simp at *; omega) (fun a b => by simp; omega) l
  exact this.imp fun h => by simpa using h
theorem srt_unique {l m : List Nat} (h : m.Perm l) (hs : m.Pairwise (· ≤ ·)) : m = srt l :=
  (h.trans (srt_perm l).symm).eq_of_pairwise (fun a b _ _ h1 h2 => Nat.le_antisymm h1 h2) hs (srt_sorted l)
theorem sort_u16 (base g n c : Nat) (l : List Nat) (w : World) (M : Made w base 26 1 (.slice (some ⟨g, 0, none⟩) n c) n (nats .u16 l)) (hn : n ≤ 64) :
    Calls Try.prog 49 #[.slice (some ⟨g, 0, none⟩) n c] w fun e w' => e = .returned (.tuple #[]) ∧ Made w' base 26 1 (.slice (some ⟨g, 0, none⟩) n c) n (nats .u16 (srt l)) ∧ Oth g w w' := by
  have hl : l.length = n := by have := M.1; rw [nats_length] at this; omega
  have e : Wm.mkS n (fun i => l.getD i 0) = l := by rw [← hl]; exact Wm.mkS_self l
  refine (sort_sl base g n c (fun i => l.getD i 0) w ⟨by rw [e]; exact M, Oth.refl g w⟩ hn).mono ?_
  rintro e w' ⟨rfl, f', F, O, S⟩
  have hp := F.perm n (Nat.le_refl _)
  rw [e] at hp
  have hs : (Wm.mkS n f').Pairwise (· ≤ ·) := by
    unfold Wm.mkS
    rw [List.pairwise_map]
    exact List.pairwise_lt_range.imp_of_mem fun {x y} hx hy h => O x y (Nat.zero_le _) h (List.mem_range.1 hy)
  refine ⟨rfl, ?_, S.oth⟩
  rw [← srt_unique hp hs]
  exact S.made
end Go.Proofs.Ytkebldjepdhioaa
