/-
  What chinese.Join says of any system, and the laws' own trial.
-/
import Derived.Test.YtjlofcccijcanaaChinese2
set_option linter.unusedVariables false
set_option linter.unusedSimpArgs false
namespace Go.Proofs.Ytjlofcccijcanaa
open Go.RowKit Go.BigFrame

/-- What Join says of any system. -/
def JoinRes (n : Nat) (l : List (Int × Int)) (a b c : Int) : Prop :=
  (6 < n ∧ a = 0 ∧ b = 0 ∧ c = 2) ∨ (n ≤ 6 ∧ (¬ ∀ p ∈ l, RestOk p) ∧ a = 0 ∧ b = 0 ∧ c = 1) ∨ (n ≤ 6 ∧ (∀ p ∈ l, RestOk p) ∧ (¬ ∃ t, Wm.Fits t (natl l)) ∧ a = 0 ∧ b = 0 ∧ c = 4) ∨
    (n ≤ 6 ∧ (∀ p ∈ l, RestOk p) ∧ ∃ N M : Nat, Wm.Joined (natl l) N M ∧ M ≤ 1000000000000000000 ∧ a = N ∧ b = M ∧ c = 0)

set_option maxHeartbeats 1000000 in
theorem Join_err (A : Option Addr) (n c : Nat) (v : Int) (w : World) (hv : (v != 0) = true) (hc : ∀ w : World, Calls Try.prog 65 #[.slice A n c] w fun e w' => e = .returned (.int .i64 v) ∧ Ext w w') (w0 : World) :
    Calls Try.prog 34 #[.slice A n c] w0 fun e w' => e = .returned (.tuple #[.int .i64 0, .int .i64 0, .int .i64 v]) ∧ Ext w0 w' := by
  have HC := hide hc
  clear hc
  go_enter Try.func34, Try.ntmps34
  go_wp2_with fail
  refine (unhide HC _).mono ?_
  rintro e w' ⟨rfl, E0⟩
  go_wp2
  go_ret3
  exact ⟨rfl, E0⟩

set_option maxHeartbeats 1000000 in
theorem Join_err1 (A : Option Addr) (n c : Nat) (v : Int) (w : World) (hv : (v != 0) = true) (hc : Calls Try.prog 65 #[.slice A n c] w fun e w' => e = .returned (.int .i64 v) ∧ Ext w w') :
    Calls Try.prog 34 #[.slice A n c] w fun e w' => e = .returned (.tuple #[.int .i64 0, .int .i64 0, .int .i64 v]) ∧ Ext w w' := by
  have HC := hide hc
  clear hc
  go_enter Try.func34, Try.ntmps34
  go_wp2_with fail
  refine (unhide HC).mono ?_
  rintro e w' ⟨rfl, E0⟩
  go_wp2
  go_ret3
  exact ⟨rfl, E0⟩

theorem Join_any (A : Option Addr) (n c : Nat) (l : List (Int × Int)) (w : World) (R : Row w A n 2 (prs l)) (hn : (n : Int) ≤ 9223372036854775807) :
    Calls Try.prog 34 #[.slice A n c] w fun e w' => (∃ x y z : Int, JoinRes n l x y z ∧ e = .returned (.tuple #[.int .i64 x, .int .i64 y, .int .i64 z])) ∧ Ext w w' := by
  by_cases h6 : n ≤ 6
  · by_cases hall : ∀ p ∈ l, RestOk p
    · refine (cJoin_ok A n c l w R h6 hall).mono fun e w' ⟨hj, hx⟩ => ⟨?_, hx⟩
      rcases hj with ⟨N, M, h1, h2, h3⟩ | ⟨h1, h2⟩
      · exact ⟨N, M, 0, .inr (.inr (.inr ⟨h6, hall, N, M, h1, h2, rfl, rfl, rfl⟩)), h3⟩
      · exact ⟨0, 0, 4, .inr (.inr (.inl ⟨h6, hall, h1, rfl, rfl, rfl⟩)), h2⟩
    · exact (Join_err1 A n c 1 w rfl (cCheck_bad A n c l w R h6 hall)).mono fun e w' ⟨he, hx⟩ => ⟨⟨0, 0, 1, .inr (.inl ⟨h6, hall, rfl, rfl, rfl⟩), he⟩, hx⟩
  · exact (Join_err1 A n c 2 w rfl (cCheck_large A n c w (by omega) hn)).mono fun e w' ⟨he, hx⟩ => ⟨⟨0, 0, 2, .inl ⟨by omega, rfl, rfl, rfl⟩, he⟩, hx⟩

theorem joined_eg : Wm.Joined (natl [(2, 3), (3, 5)]) 8 15 := by
  have h1 := Wm.Joined.nil.step (k := 2) (R := 2) (M := 3) (by omega) (by decide) (by decide)
  have h2 := h1.step (k := 2) (R := 3) (M := 5) (by omega) (by decide) (by decide)
  exact h2

set_option maxHeartbeats 1000000 in
theorem joins_any (w : World) : Calls Try.prog 29 #[] w fun e w' => e = .returned (.bool true) ∧ Ext w w' := by
  have hc : ∀ w : World, Calls Try.prog 34 #[.slice (some ⟨w.heap.size, 0, none⟩) 2 2] (w.alloc (.cells #[.int .i64 2, .int .i64 3, .int .i64 3, .int .i64 5] 48)) fun e w' =>
      e = .returned (.tuple #[.int .i64 8, .int .i64 15, .int .i64 0]) ∧ Ext w w' := fun w => by
    refine (cJoin_ok _ 2 2 [(2, 3), (3, 5)] _ (row_new w #[.int .i64 2, .int .i64 3, .int .i64 3, .int .i64 5] 48 2 2 rfl) (by omega) ?_).mono ?_
    · intro p hp
      simp only [List.mem_cons, List.not_mem_nil, or_false] at hp
      rcases hp with rfl | rfl <;> (unfold RestOk; omega)
    · rintro e w' ⟨hj, hx⟩
      refine ⟨?_, ((Ext.refl w).alloc _).trans hx⟩
      rcases hj with ⟨N, M, h1, h2, h3⟩ | ⟨h1, h2⟩
      · obtain ⟨rfl, rfl⟩ := h1.unique joined_eg
        exact h3
      · exact absurd ⟨8, joined_eg.fits⟩ h1
  have HC := hide hc
  clear hc
  go_enter Try.func29, Try.ntmps29
  go_wp2_with fail
  refine (unhide HC _).mono ?_
  rintro e w' ⟨rfl, E0⟩
  go_wp2
  go_ret
  exact ⟨rfl, E0⟩

end Go.Proofs.Ytjlofcccijcanaa
