/-
  StampOrder: for every input the law returns true and leaves its arguments as they were. The frame of the row, over the walk stamp_any. No condition.
-/
import Derived.Test.YtjgilodibloeiaaStamp1
import Derived.Test.YtjgilodibloeiaaLaw
namespace Go.Proofs.Ytjgilodibloeiaa.stampOrder
open Go.ChangeShapes Go.WideShapes Go.ChangeAt Go.RowKit

set_option linter.unusedVariables false
set_option maxRecDepth 100000 in
theorem lifted (os : Os) (started : os.Started) (H : Type) (enc : TypeId × Value → H) :
    ReturnsInHanded {} Try.checked os 7 .any (Rows.stampOrderSpec.pre6 enc Try.prog Try.f7 Rows.stampOrderRow.domain false) (Rows.stampOrderSpec.post enc Try.prog Try.f7 false true false false) := by
  refine returnsInHanded_of_change (C := Try.checked) own started (by kernel_rfl) Try.func7
    (ChangeSpec.witness6 (enc := enc) (C := Try.checked) false ⟨#[], #[.agg #[.int .i64 0, .int .i64 0], .agg #[.int .i64 0, .int .i64 0], .agg #[.int .i64 0, .int .i64 0]], []⟩ 8 (by kernel_rfl) (by kernel_rfl) (by kernel_rfl) (by kernel_rfl)) ?_
  intro W base args ds gs before hval0 hW hcnd _
  have hval : ∀ (j : Nat) t v, Try.f7.params[j]? = some t → args[j]? = some v → Value.okWide Try.prog W .any base t v := hval0
  have hW' := hW
  obtain ⟨p, q, hA0, hV, rfl, hfz, hnd⟩ := hW
  have hA : DataW.TrodAll enc Try.prog W 0 (fun _ => true) true Try.f7.params.toList args.toList ds p := hA0
  rw [Try.params7] at hA hval
  obtain ⟨v0, vs0, d0, ds0, p0, q0, hargs, rfl, rfl, h0, r0⟩ := trodAll_cons hA
  obtain ⟨v1, vs1, d1, ds1, p1, q1, rfl, rfl, rfl, h1, r1⟩ := trodAll_cons r0
  obtain ⟨v2, vs2, d2, ds2, p2, q2, rfl, rfl, rfl, h2, r2⟩ := trodAll_cons r1
  obtain ⟨rfl, rfl, rfl⟩ := trodAll_nil r2
  obtain rfl : args = #[v0, v1, v2] := by cases args; simp_all
  obtain ⟨rfl, rfl⟩ := trodVars_none hV
  obtain ⟨x0, y0, rfl, b0, c0⟩ := open_two Try.underlying36 (by kernel_rfl) (by kernel_rfl) rfl rfl Try.underlying3 (hval 0 36 v0 rfl rfl) h0
  obtain ⟨x1, y1, rfl, b1, c1⟩ := open_two Try.underlying36 (by kernel_rfl) (by kernel_rfl) rfl rfl Try.underlying3 (hval 1 36 v1 rfl rfl) h1
  obtain ⟨x2, y2, rfl, b2, c2⟩ := open_two Try.underlying36 (by kernel_rfl) (by kernel_rfl) rfl rfl Try.underlying3 (hval 2 36 v2 rfl rfl) h2
  clear hA0 hval0 hfz hnd
  simp only [List.append_nil] at hW'
  refine (stamp_any x0 y0 x1 y1 x2 y2 W).mono fun e W' ⟨he, hg⟩ => ?_
  subst he
  exact ⟨_, rfl, law_end laidOut (congrArg Array.toList Try.params7) (by kernel_rfl) rfl rfl Try.underlying4 rfl hW' hg⟩

theorem over : Rows.stampOrderRow.holds Try.pinned (OpenSpec.ofChange Rows.stampOrderSpec) :=
  OpenClaim.holds_of_wide 7 Try.f7 rfl rfl rfl rfl rfl rfl rfl ⟨rfl, rfl, rfl, rfl, rfl⟩ rfl rfl rfl rfl rfl (by kernel_rfl) Try.func7 (by kernel_rfl)
    (of_decide_eq_true (by kernel_rfl)) (by unfold Func.isWrapper; first | (rw [if_pos (by decide +kernel)]; kernel_rfl) | (rw [if_neg (by decide +kernel)]; exact ⟨rfl, rfl⟩))
    (fun os started H enc _ => lifted os started H enc)

theorem proved : Rows.StampOrderSaid :=
  over
end Go.Proofs.Ytjgilodibloeiaa.stampOrder
