import Derived.Test.YthmmofalepckgaaLaw
import Derived.Test.YthmmofalepckgaaDeeds
import Derived.Test.YthmmofalepckgaaStTrueW
/-
  The opening of deeds, for the frames of rows.
-/
set_option linter.unusedVariables false
set_option linter.unusedSimpArgs false
namespace Go.Proofs.Ythmmofalepckgaa
open Go.ChangeShapes Go.WideShapes Go.ChangeAt Go.RowKit Go.Deep Go.Joins

section
variable {H : Type} {enc : TypeId × Value → H} {P : Program} {w : World} {base : Nat} {spare : Nat → Bool} {held : Bool}
theorem open_deed {r : Reach} {b0 : Nat} {t i u : TypeId} {v : Value} {d : DataW H} {ps : List MemPlace} {f0 f1 f2 f3 : Field} (hs : P.underlying t = some (.struct #[f0, f1, f2, f3])) (hone : oneCellFields P #[f0, f1, f2, f3] = true) (hC : P.cellsOf t = 4)
    (h0 : f0.type = i) (h1 : f1.type = i) (h2 : f2.type = i) (h3 : f3.type = u) (hi : P.underlying i = some (.int .i64)) (hu : P.underlying u = some .string) (hval : Value.okWide P w r b0 t v) (hd : DataW.Trod enc P w base spare held t v d ps) :
    ∃ (x y z : Int) (s : ByteArray), v = .agg #[.int .i64 x, .int .i64 y, .int .i64 z, .string s] ∧ (s.size : Int) ≤ 9223372036854775807 := by
  obtain ⟨v0, v1, v2, v3, y0, y1, y2, y3, n, rfl, -, -, t0, t1, t2, t3⟩ := open_agg4 hs hone hC hval hd
  rw [h0] at t0
  rw [h1] at t1
  rw [h2] at t2
  rw [h3] at t3
  obtain ⟨x0, e0, -, -⟩ := DataW.trod_int hi t0
  obtain ⟨x1, e1, -, -⟩ := DataW.trod_int hi t1
  obtain ⟨x2, e2, -, -⟩ := DataW.trod_int hi t2
  obtain ⟨s, e3, -, hz⟩ := DataW.trod_string hu t3
  simp only [List.cons.injEq, and_true] at e0 e1 e2 e3
  subst e0; subst e1; subst e2; subst e3
  unfold maxLen at hz
  exact ⟨x0, x1, x2, s, rfl, by omega⟩
theorem open_deeds {W : World} {t e i0 u0 : TypeId} {v : Value} {d : DataW H} {ps : List MemPlace} {r : Reach} {b0 : Nat} {f0 f1 f2 f3 : Field} (ht : P.underlying t = some (.slice e)) (he : P.underlying e = some (.struct #[f0, f1, f2, f3])) (hone : oneCellFields P #[f0, f1, f2, f3] = true)
    (h0 : f0.type = i0) (h1 : f1.type = i0) (h2 : f2.type = i0) (h3 : f3.type = u0) (hi0 : P.underlying i0 = some (.int .i64)) (hu0 : P.underlying u0 = some .string) (hc : P.cellsOf e = 4) (hby : P.bytesOf e = 40)
    (hw : ∀ es sp, d = .slice es sp → (es.length + sp.length) * P.bytesOf e ≤ reachBytes) (hval : Value.okWide P W r b0 t v) (hd : DataW.Trod enc P W 0 (fun _ => true) true t v d ps) :
    ∃ (A : Option Addr) (n c : Nat) (l : List Dd), v = .slice A n c ∧ SliceIn W A n c 4 40 (dds l) ∧ ∀ x ∈ l, (x.s.size : Int) ≤ 9223372036854775807 := by
  obtain ⟨A, n, c, C, rfl, hnc, hr, hm, hn, hi⟩ := slice_in ht hc hby hw hval hd
  have each : ∀ i, i < n → ∃ x : Dd, C i = [.int .i64 x.kind, .int .i64 x.key, .int .i64 x.n, .string x.s] ∧ (x.s.size : Int) ≤ 9223372036854775807 := fun i h => by
    obtain ⟨hl, -, m, x, hx⟩ := hi i h
    obtain ⟨xs, n', -, -, -, hxl, hg⟩ := DataW.trod_struct he hx
    obtain ⟨o0, k0⟩ := hone_of hone 0 f0 rfl
    obtain ⟨o1, k1⟩ := hone_of hone 1 f1 rfl
    obtain ⟨o2, k2⟩ := hone_of hone 2 f2 rfl
    obtain ⟨o3, k3⟩ := hone_of hone 3 f3 rfl
    have g0 := hg 0 f0 rfl
    have g1 := hg 1 f1 rfl
    have g2 := hg 2 f2 rfl
    have g3 := hg 3 f3 rfl
    rw [o0, k0, h0, List.getElem?_eq_getElem (by rw [hxl]; simp)] at g0
    rw [o1, k1, h1, List.getElem?_eq_getElem (by rw [hxl]; simp)] at g1
    rw [o2, k2, h2, List.getElem?_eq_getElem (by rw [hxl]; simp)] at g2
    rw [o3, k3, h3, List.getElem?_eq_getElem (by rw [hxl]; simp)] at g3
    obtain ⟨a, e0, -, w0⟩ := DataW.trod_int hi0 g0
    obtain ⟨b, e1, -, w1⟩ := DataW.trod_int hi0 g1
    obtain ⟨c, e2, -, w2⟩ := DataW.trod_int hi0 g2
    obtain ⟨s, e3, -, hz⟩ := DataW.trod_string hu0 g3
    unfold maxLen at hz
    refine ⟨⟨a, b, c, s⟩, ?_, by show (s.size : Int) ≤ _; omega⟩
    match hC : C i, hl with
    | [p, q, p', q'], _ =>
      rw [hC] at e0 e1 e2 e3
      simp at e0 e1 e2 e3
      rw [e0, e1, e2, e3]
  have hch : ∃ f : Nat → Dd, ∀ i, i < n → C i = [.int .i64 (f i).kind, .int .i64 (f i).key, .int .i64 (f i).n, .string (f i).s] ∧ ((f i).s.size : Int) ≤ 9223372036854775807 := by
    refine ⟨fun i => if h : i < n then (each i h).choose else Dd.no, fun i h => ?_⟩
    simp only [h, dif_pos]
    exact (each i h).choose_spec
  obtain ⟨f, hf⟩ := hch
  refine ⟨A, n, c, (List.range n).map f, rfl, cells_of (by rw [dds_length]; simp) (by omega) hnc hr hm hn fun i h => ?_, fun x hx => ?_⟩
  · obtain ⟨-, ⟨a, ha, hcell⟩, -⟩ := hi i h
    refine ⟨a, ha, fun j hj => ?_⟩
    rw [hcell j hj, (hf i h).1]
    have hp := dds_get ((List.range n).map f) i (by simpa using h)
    have hgd : dg ((List.range n).map f) i = f i := by simp [dg, List.getD_eq_getElem?_getD, h]
    rw [hgd] at hp
    match j, hj with
    | 0, _ => rw [Nat.add_zero, hp.1]; rfl
    | 1, _ => rw [hp.2.1]; rfl
    | 2, _ => rw [hp.2.2.1]; rfl
    | 3, _ => rw [hp.2.2.2]; rfl
  · obtain ⟨i, h, rfl⟩ := List.mem_map.1 hx
    exact (hf i (List.mem_range.1 h)).2
end
end Go.Proofs.Ythmmofalepckgaa

/-
  StoreTrue: for every input the law returns true and leaves its arguments as they were. The frame of the row, over the walk true_law. No condition.
-/
set_option linter.unusedVariables false
set_option linter.unusedSimpArgs false
namespace Go.Proofs.Ythmmofalepckgaa.storeTrue
open Go.ChangeShapes Go.WideShapes Go.ChangeAt Go.RowKit

set_option linter.unusedVariables false
set_option maxRecDepth 100000 in
theorem lifted (os : Os) (started : os.Started) (H : Type) (enc : TypeId × Value → H) :
    ReturnsInHanded {} Try.checked os 3 .any (Rows.storeTrueSpec.pre6 enc Try.prog Try.f3 Rows.storeTrueRow.domain false) (Rows.storeTrueSpec.post enc Try.prog Try.f3 false true false false) := by
  refine returnsInHanded_of_change_sized (C := Try.checked) own started (by kernel_rfl) Try.func3
    (ChangeSpec.witness6 (enc := enc) (C := Try.checked) false ⟨#[], #[.agg #[.int .i64 0, .int .i64 0, .int .i64 0, .int .i64 0], .slice none 0 0], []⟩ 8 (by kernel_rfl) (by kernel_rfl) (by kernel_rfl) (by kernel_rfl)) ?_
  intro W base args ds gs before hval0 hW hcnd hsz0 _
  have hsz : (DataW.weightsEach Try.prog (Try.f3.params.toList ++ Rows.storeTrueSpec.plain.varTypes Try.prog) (ds ++ gs)).all (· ≤ reachBytes) = true := hsz0
  have hval : ∀ (j : Nat) t v, Try.f3.params[j]? = some t → args[j]? = some v → Value.okWide Try.prog W .any base t v := hval0
  have hW' := hW
  obtain ⟨p, q, hA0, hV, rfl, hfz, hnd⟩ := hW
  have hA : DataW.TrodAll enc Try.prog W 0 (fun _ => true) true Try.f3.params.toList args.toList ds p := hA0
  rw [Try.params3] at hA hval hsz
  obtain ⟨v0, vs0, d0, ds0, p0, q0, hargs, rfl, rfl, h0, r0⟩ := trodAll_cons hA
  obtain ⟨v1, vs1, d1, ds1, p1, q1, rfl, rfl, rfl, h1, r1⟩ := trodAll_cons r0
  obtain ⟨rfl, rfl, rfl⟩ := trodAll_nil r1
  obtain rfl : args = #[v0, v1] := by cases args; simp_all
  obtain ⟨rfl, rfl⟩ := trodVars_none hV
  obtain ⟨x0, y0, z0, t0, rfl, b0, c0, e0, f0⟩ := open_four Try.underlying23 (by kernel_rfl) (by kernel_rfl) rfl rfl rfl rfl Try.underlying3 (hval 0 23 v0 rfl rfl) h0
  obtain ⟨A1, n1, c1, xs1, rfl, S1, R1⟩ := open_deeds Try.underlying24 Try.underlying32 (by kernel_rfl) rfl rfl rfl rfl Try.underlying3 Try.underlying9 (by kernel_rfl) (by kernel_rfl) (fun es sp he => sized_slice hsz (j := 1) rfl (congrArg some he) Try.underlying24) (hval 1 24 v1 rfl rfl) h1
  clear hA0 hval0 hfz hnd
  simp only [List.append_nil] at hW'
  refine (true_law x0 y0 z0 t0 A1 n1 c1 xs1 W S1 R1).mono fun e W' ⟨he, hg⟩ => ?_
  subst he
  exact ⟨_, rfl, law_end laidOut (congrArg Array.toList Try.params3) (by kernel_rfl) rfl rfl Try.underlying4 rfl hW' hg⟩

theorem over : Rows.storeTrueRow.holds Try.pinned (OpenSpec.ofChange Rows.storeTrueSpec) :=
  OpenClaim.holds_of_wide 3 Try.f3 rfl rfl rfl rfl rfl rfl rfl ⟨rfl, rfl, rfl, rfl, rfl⟩ rfl rfl rfl rfl rfl (by kernel_rfl) Try.func3 (by kernel_rfl)
    (of_decide_eq_true (by kernel_rfl)) (by unfold Func.isWrapper; first | (rw [if_pos (by decide +kernel)]; kernel_rfl) | (rw [if_neg (by decide +kernel)]; exact ⟨rfl, rfl⟩))
    (fun os started H enc _ => lifted os started H enc)

theorem proved : Rows.StoreTrueSaid :=
  over
end Go.Proofs.Ythmmofalepckgaa.storeTrue
