/-
  TablesOwn, where what comes in is of bulk at most 1048576: for every such input the law returns true and leaves its arguments as they were. The frame of the row of the second form, over the walk town_law.
-/
import Derived.Test.YtepkiicekcglhaaTabOwnW
import Derived.Test.YtepkiicekcglhaaLawU
import Derived.Test.YtepkiicekcglhaaBulk
import Derived.JoinedCond
set_option linter.unusedVariables false
set_option linter.unusedSimpArgs false
namespace Go.Proofs.Ytepkiicekcglhaa.tablesOwn
open Go.ChangeShapes Go.WideShapes Go.ChangeAt Go.RowKit

set_option linter.unusedVariables false
set_option maxRecDepth 100000 in
theorem lifted (os : Os) (started : os.Started) (H : Type) (enc : TypeId × Value → H) (F : Stop.Interp) :
    ReturnsInHanded {} Try.checked os 3 .any ((Rows.OpenSpec.upto Rows.tablesOwnSpec).pre6 enc Try.prog Try.f3 Rows.tablesOwnUptoRow.domain false) (((Rows.OpenSpec.upto Rows.tablesOwnSpec).at F).post enc Try.prog Try.f3 false true false false) := by
  refine returnsInHanded_of_cond (C := Try.checked) (s := Rows.OpenSpec.upto Rows.tablesOwnSpec) (k := Rows.uptoSmall) rfl own started (by kernel_rfl) Try.func3
    (OpenSpec.witness (enc := enc) (C := Try.checked) (s := Rows.OpenSpec.upto Rows.tablesOwnSpec) (k := Rows.uptoSmall) rfl false ⟨#[], #[.slice none 0 0, .slice none 0 0, .slice none 0 0, .int .i64 0], []⟩ 8 (by kernel_rfl) (by kernel_rfl) (by kernel_rfl)
      (x := ([.nil, .nil, .nil, .lit (.int .i64 0)], [], [])) (by kernel_rfl) rfl (by kernel_rfl)) ?_
  intro W base args ds gs before hval0 hW hcnd hk0 _
  have hk : Rows.uptoSmall H (ds ++ gs) = true := hk0
  have hval : ∀ (j : Nat) t v, Try.f3.params[j]? = some t → args[j]? = some v → Value.okWide Try.prog W .any base t v := hval0
  have hW' := hW
  obtain ⟨p, q, hA0, hV, rfl, hfz, hnd⟩ := hW
  have hA : DataW.TrodAll enc Try.prog W 0 (fun _ => true) true Try.f3.params.toList args.toList ds p := hA0
  rw [Try.params3] at hA hval
  obtain ⟨v0, vs0, d0, ds0, p0, q0, hargs, rfl, rfl, h0, r0⟩ := trodAll_cons hA
  obtain ⟨v1, vs1, d1, ds1, p1, q1, rfl, rfl, rfl, h1, r1⟩ := trodAll_cons r0
  obtain ⟨v2, vs2, d2, ds2, p2, q2, rfl, rfl, rfl, h2, r2⟩ := trodAll_cons r1
  obtain ⟨v3, vs3, d3, ds3, p3, q3, rfl, rfl, rfl, h3, r3⟩ := trodAll_cons r2
  obtain ⟨rfl, rfl, rfl⟩ := trodAll_nil r3
  obtain rfl : args = #[v0, v1, v2, v3] := by cases args; simp_all
  obtain ⟨rfl, rfl⟩ := trodVars_none hV
  have hb := bulks.bound hk
  have hB : ∀ (d : DataW H), d ∈ [d0, d1, d2, d3] → ∀ es sp, d = .slice es sp → es.length + sp.length ≤ 1048576 ∧ ∀ x, x ∈ es → ∀ es' sp', x = .slice es' sp' → es'.length ≤ 1048576 := fun d hd es sp he => by
    have h1 := bulks.part_le (l := [d0, d1, d2, d3] ++ []) (by simpa using hd)
    have h2 := bulks.slice_le es sp
    have h3 := bulks.slice_elems es sp
    rw [he] at h1
    refine ⟨by omega, fun x hx es' sp' hx' => ?_⟩
    have h4 := bulks.part_le hx
    have h5 := bulks.slice_le es' sp'
    rw [hx'] at h4
    omega
  obtain ⟨A0, n0, c0, ra0, ln0, cp0, M0, rfl, S0, R0, Q0, P0⟩ := open_rows2 Try.underlying22 Try.underlying23 Try.underlying5 (by kernel_rfl) (by kernel_rfl) (fun es sp he => ⟨by have := (hB d0 (by simp) es sp he).1; omega, (hB d0 (by simp) es sp he).2⟩) (hval 0 22 v0 rfl rfl) h0
  obtain ⟨A1, n1, c1, ra1, ln1, cp1, M1, rfl, S1, R1, Q1, P1⟩ := open_rows2 Try.underlying22 Try.underlying23 Try.underlying5 (by kernel_rfl) (by kernel_rfl) (fun es sp he => ⟨by have := (hB d1 (by simp) es sp he).1; omega, (hB d1 (by simp) es sp he).2⟩) (hval 1 22 v1 rfl rfl) h1
  have hby : Try.prog.bytesOf 5 = 1 := by kernel_rfl
  obtain ⟨A2, n2, c2, xs2, rfl, S2, R2⟩ := open_bytes Try.underlying23 Try.underlying5 (by kernel_rfl) (by kernel_rfl) (fun es sp he => by rw [hby]; have := (hB d2 (by simp) es sp he).1; unfold reachBytes; omega) (hval 2 23 v2 rfl rfl) h2
  obtain ⟨a3, rfl, b3⟩ := open_num Try.underlying3 (hval 3 3 v3 rfl rfl) h3
  clear hA0 hval0 hfz hnd
  simp only [List.append_nil] at hW'
  refine (town_law A0 n0 c0 ra0 ln0 cp0 M0 A1 n1 c1 ra1 ln1 cp1 M1 A2 n2 c2 xs2 a3 W S0 R0 Q0 P0 S1 R1 Q1 P1 S2 R2).mono fun e W' ⟨he, hg⟩ => ?_
  subst he
  exact ⟨_, rfl, law_end laidOut (congrArg Array.toList Try.params3) (by kernel_rfl) rfl rfl Try.underlying4 rfl hW' hg⟩

theorem over : Rows.tablesOwnUptoRow.holds Try.pinned (Rows.OpenSpec.upto Rows.tablesOwnSpec) :=
  OpenClaim.holds_of_cond 3 Try.f3 rfl rfl rfl rfl rfl rfl rfl ⟨rfl, rfl, rfl, rfl, rfl⟩ rfl rfl rfl rfl rfl (by kernel_rfl) Try.func3 (by kernel_rfl)
    (of_decide_eq_true (by kernel_rfl)) (by unfold Func.isWrapper; first | (rw [if_pos (by decide +kernel)]; kernel_rfl) | (rw [if_neg (by decide +kernel)]; exact ⟨rfl, rfl⟩))
    (fun os started H enc _ F => lifted os started H enc F)

theorem proved : Rows.TablesOwnUptoSaid :=
  over
end Go.Proofs.Ytepkiicekcglhaa.tablesOwn
