/-
  The contracts of piece.right and piece.size.
-/
import Derived.Test.YtekkghhihnnpjaaDoorPiece1
set_option linter.unusedVariables false
set_option linter.unusedSimpArgs false
namespace Go.Proofs.YtekkghhihnnpjaaDoor
open Go.RowKit Go.BigFrame

theorem right_any (k n : Int) (w : World) :
    Calls Tryd.prog 23 #[.int .i64 k, .int .i64 n] w fun e w' => e = .returned (.bool (decide (1 ≤ k ∧ k ≤ n ∧ n ≤ 10))) ∧ w' = w := by
  by_cases h1 : 1 ≤ k
  · by_cases h2 : k ≤ n
    · by_cases h3 : n ≤ 10
      · rw [show decide (1 ≤ k ∧ k ≤ n ∧ n ≤ 10) = true from decide_eq_true ⟨h1, h2, h3⟩]
        go_enter Tryd.func23, Tryd.ntmps23
        go_wp2
        go_ret
        exact ⟨rfl, rfl⟩
      · rw [show decide (1 ≤ k ∧ k ≤ n ∧ n ≤ 10) = false from decide_eq_false (fun h => h3 h.2.2)]
        go_enter Tryd.func23, Tryd.ntmps23
        go_wp2
        go_ret
        exact ⟨rfl, rfl⟩
    · rw [show decide (1 ≤ k ∧ k ≤ n ∧ n ≤ 10) = false from decide_eq_false (fun h => h2 h.2.1)]
      go_enter Tryd.func23, Tryd.ntmps23
      go_wp2
      go_ret
      exact ⟨rfl, rfl⟩
  · rw [show decide (1 ≤ k ∧ k ≤ n ∧ n ≤ 10) = false from decide_eq_false (fun h => h1 h.1)]
    go_enter Tryd.func23, Tryd.ntmps23
    go_wp2
    go_ret
    exact ⟨rfl, rfl⟩

theorem size_any (l k : Nat) (w : World) (hl : l ≤ 1000000) (hk : 1 ≤ k) (hk2 : k ≤ 1000000) :
    Calls Tryd.prog 24 #[.int .i64 (l : Int), .int .i64 (k : Int)] w fun e w' => e = .returned (.int .i64 (((l + k - 1) / k : Nat) : Int)) ∧ w' = w := by
  obtain ⟨q, hq⟩ : ∃ q, q = (l + k - 1) / k := ⟨_, rfl⟩
  have hql : q ≤ l + k - 1 := by rw [hq]; exact Nat.div_le_self _ _
  have hd : ((l : Int) + (k : Int) - 1).tdiv (k : Int) = (q : Int) := by
    rw [Int.tdiv_eq_ediv_of_nonneg (by omega), hq, show ((l : Int) + (k : Int) - 1) = ((l + k - 1 : Nat) : Int) from by omega]; rfl
  have hw1 : IntKind.i64.wrap ((l : Int) + (k : Int)) = (l : Int) + (k : Int) := IntWalk.i64_in _ (by omega)
  have hw2 : IntKind.i64.wrap ((l : Int) + (k : Int) - 1) = (l : Int) + (k : Int) - 1 := IntWalk.i64_in _ (by omega)
  have hw3 : IntKind.i64.wrap (q : Int) = (q : Int) := IntWalk.i64_in _ (by omega)
  have k0 : ((k : Int) == 0) = false := by rw [beq_eq_false_iff_ne]; omega
  have k1 : ¬ (k : Int) = 0 := by omega
  have k2 : ¬ k = 0 := by omega
  rw [← hq]
  clear hq hl hk2
  go_enter Tryd.func24, Tryd.ntmps24
  go_wp2
  go_ret
  exact ⟨rfl, rfl⟩
end Go.Proofs.YtekkghhihnnpjaaDoor
