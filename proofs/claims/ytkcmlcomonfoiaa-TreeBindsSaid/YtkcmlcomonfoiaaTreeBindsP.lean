/-
  TreeBinds: for every input the law returns true and leaves its arguments as they were. The frame of the row, over the walk binds_law. No condition.
-/
import Derived.Test.YtkcmlcomonfoiaaBindsW
import Derived.Test.YtkcmlcomonfoiaaLaw
set_option linter.unusedVariables false
set_option linter.unusedSimpArgs false
namespace Go.Proofs.Ytkcmlcomonfoiaa.treeBinds
open Go.ChangeShapes Go.WideShapes Go.ChangeAt Go.RowKit

set_option linter.unusedVariables false
set_option maxRecDepth 100000 in
theorem lifted (os : Os) (started : os.Started) (H : Type) (enc : TypeId × Value → H) :
    ReturnsInHanded {} Try.checked os 9 .any (Rows.treeBindsSpec.pre6 enc Try.prog Try.f9 Rows.treeBindsRow.domain false) (Rows.treeBindsSpec.post enc Try.prog Try.f9 false true false false) := by
  refine returnsInHanded_of_change_sized (C := Try.checked) own started (by kernel_rfl) Try.func9
    (ChangeSpec.witness6 (enc := enc) (C := Try.checked) false ⟨#[], #[.int .u64 0, .int .i64 0, .int .i64 0, .string ByteArray.empty, .string ByteArray.empty, .slice none 0 0, .slice none 0 0], []⟩ 8 (by kernel_rfl) (by kernel_rfl) (by kernel_rfl) (by kernel_rfl)) ?_
  intro W base args ds gs before hval0 hW hcnd hsz0 _
  have hsz : (DataW.weightsEach Try.prog (Try.f9.params.toList ++ Rows.treeBindsSpec.plain.varTypes Try.prog) (ds ++ gs)).all (· ≤ reachBytes) = true := hsz0
  have hval : ∀ (j : Nat) t v, Try.f9.params[j]? = some t → args[j]? = some v → Value.okWide Try.prog W .any base t v := hval0
  have hW' := hW
  obtain ⟨p, q, hA0, hV, rfl, hfz, hnd⟩ := hW
  have hA : DataW.TrodAll enc Try.prog W 0 (fun _ => true) true Try.f9.params.toList args.toList ds p := hA0
  rw [Try.params9] at hA hval hsz
  obtain ⟨v0, vs0, d0, ds0, p0, q0, hargs, rfl, rfl, h0, r0⟩ := trodAll_cons hA
  obtain ⟨v1, vs1, d1, ds1, p1, q1, rfl, rfl, rfl, h1, r1⟩ := trodAll_cons r0
  obtain ⟨v2, vs2, d2, ds2, p2, q2, rfl, rfl, rfl, h2, r2⟩ := trodAll_cons r1
  obtain ⟨v3, vs3, d3, ds3, p3, q3, rfl, rfl, rfl, h3, r3⟩ := trodAll_cons r2
  obtain ⟨v4, vs4, d4, ds4, p4, q4, rfl, rfl, rfl, h4, r4⟩ := trodAll_cons r3
  obtain ⟨v5, vs5, d5, ds5, p5, q5, rfl, rfl, rfl, h5, r5⟩ := trodAll_cons r4
  obtain ⟨v6, vs6, d6, ds6, p6, q6, rfl, rfl, rfl, h6, r6⟩ := trodAll_cons r5
  obtain ⟨rfl, rfl, rfl⟩ := trodAll_nil r6
  obtain rfl : args = #[v0, v1, v2, v3, v4, v5, v6] := by cases args; simp_all
  obtain ⟨rfl, rfl⟩ := trodVars_none hV
  obtain ⟨a0, rfl, u0⟩ := open_nat64 Try.underlying48 (hval 0 48 v0 rfl rfl) h0
  obtain ⟨a1, rfl, b1⟩ := open_num Try.underlying3 (hval 1 3 v1 rfl rfl) h1
  obtain ⟨a2, rfl, b2⟩ := open_num Try.underlying3 (hval 2 3 v2 rfl rfl) h2
  obtain ⟨s3, rfl, e3⟩ := open_str Try.underlying9 (hval 3 9 v3 rfl rfl) h3
  subst e3
  obtain ⟨s4, rfl, e4⟩ := open_str Try.underlying9 (hval 4 9 v4 rfl rfl) h4
  subst e4
  obtain ⟨A5, n5, c5, xs5, rfl, S5, R5⟩ := open_longs Try.underlying49 Try.underlying48 (by kernel_rfl) (by kernel_rfl) (fun es sp he => sized_slice hsz (j := 5) rfl (congrArg some he) Try.underlying49) (hval 5 49 v5 rfl rfl) h5
  obtain ⟨A6, n6, c6, xs6, rfl, S6, R6⟩ := open_longs Try.underlying49 Try.underlying48 (by kernel_rfl) (by kernel_rfl) (fun es sp he => sized_slice hsz (j := 6) rfl (congrArg some he) Try.underlying49) (hval 6 49 v6 rfl rfl) h6
  have g3 := str_reach (sized_string hsz (j := 3) rfl rfl)
  have g4 := str_reach (sized_string hsz (j := 4) rfl rfl)
  clear hA0 hval0 hfz hnd
  simp only [List.append_nil] at hW'
  refine (binds_law a0 a1 a2 s3 s4 A5 n5 c5 xs5 A6 n6 c6 xs6 u0 g3 g4 W S5 R5 S6 R6).mono fun e W' ⟨he, hg⟩ => ?_
  subst he
  exact ⟨_, rfl, law_end laidOut (congrArg Array.toList Try.params9) (by kernel_rfl) rfl rfl Try.underlying4 rfl hW' hg⟩

theorem over : Rows.treeBindsRow.holds Try.pinned (OpenSpec.ofChange Rows.treeBindsSpec) :=
  OpenClaim.holds_of_wide 9 Try.f9 rfl rfl rfl rfl rfl rfl rfl ⟨rfl, rfl, rfl, rfl, rfl⟩ rfl rfl rfl rfl rfl (by kernel_rfl) Try.func9 (by kernel_rfl)
    (of_decide_eq_true (by kernel_rfl)) (by unfold Func.isWrapper; first | (rw [if_pos (by decide +kernel)]; kernel_rfl) | (rw [if_neg (by decide +kernel)]; exact ⟨rfl, rfl⟩))
    (fun os started H enc _ => lifted os started H enc)

theorem proved : Rows.TreeBindsSaid :=
  over
end Go.Proofs.Ytkcmlcomonfoiaa.treeBinds
