import Derived.Test.YtpenkbhljkmliaaGreatDoorTri
import Derived.WalkLawsBesides
import Derived.Lib.LaidTab
/-
  The contracts of the desk's small functions: check.
-/
set_option linter.unusedVariables false
set_option linter.unusedSimpArgs false
namespace Go.Proofs.YtpenkbhljkmliaaGreatDoor
open Go.RowKit Go.BigFrame

/-- The panic that a line's failure is. -/
def thrown (e : Int) : Ending := .panicked [{ v := .iface 48 (.agg #[.int .i64 e]), recovered := false }]
set_option maxRecDepth 100000 in
theorem check_ok (w : World) : Calls Tryz.prog 30 #[.int .i64 0] w fun e w' => e = .returned (.tuple #[]) ∧ w' = w := by
  go_enter Tryz.func30, Tryz.ntmps30
  go_wp2
  go_end0
  exact ⟨rfl, rfl⟩
set_option maxRecDepth 100000 in
theorem check_bad (n : Int) (h : n ≠ 0) (w : World) : Calls Tryz.prog 30 #[.int .i64 n] w fun e w' => e = thrown n ∧ w' = w := by
  have hB : (n != 0) = true := by simpa using h
  go_enter Tryz.func30, Tryz.ntmps30
  go_wp2
  exact ⟨rfl, rfl, rfl⟩
end Go.Proofs.YtpenkbhljkmliaaGreatDoor

/-
  A table of the library's stays as it is while only new memory is made.
-/
set_option linter.unusedVariables false
set_option linter.unusedSimpArgs false
namespace Go.Proofs.YtpenkbhljkmliaaGreatDoor
open Go.RowKit Go.BigFrame

theorem tab_ext {w w' : World} {name : String} {k : IntKind} {zs : List Int} (h : Lib.TabIs Tryz.prog w name k zs) (E : Ext w w') : Lib.TabIs Tryz.prog w' name k zs := by
  unfold Lib.TabIs World.var? at h ⊢
  cases hg : Tryz.prog.globalNamed name with
  | none => rw [hg] at h; exact h
  | some g =>
    rw [hg] at h
    simp only [Option.bind_some] at h ⊢
    have hlt : g < w.heap.size := by
      rcases Nat.lt_or_ge g w.heap.size with h' | h'
      · exact h'
      · rw [Array.getElem?_eq_none h'] at h; cases h
    rw [Below.block E g hlt]; exact h
end Go.Proofs.YtpenkbhljkmliaaGreatDoor
