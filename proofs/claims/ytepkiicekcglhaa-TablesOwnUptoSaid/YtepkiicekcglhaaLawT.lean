/-
  The opening of slices of slices of bytes, for the frames of rows.
-/
import Derived.Test.YtepkiicekcglhaaLaw
import Derived.Test.YtepkiicekcglhaaTab
set_option linter.unusedVariables false
set_option linter.unusedSimpArgs false
namespace Go.Proofs.Ytepkiicekcglhaa
open Go.ChangeShapes Go.WideShapes Go.ChangeAt Go.RowKit

theorem open_rows {H : Type} {enc : TypeId × Value → H} {P : Program} {W : World} {t e u : TypeId} {v : Value} {d : DataW H} {ps : List MemPlace} {r : Reach} {b0 : Nat} (ht : P.underlying t = some (.slice e)) (he : P.underlying e = some (.slice u)) (hu : P.underlying u = some (.int .u8)) (hc : P.cellsOf e = 1) (hcu : P.cellsOf u = 1) (hby : P.bytesOf e = 24)
    (hw : ∀ es sp, d = .slice es sp → (es.length + sp.length) * P.bytesOf e ≤ reachBytes) (hval : Value.okWide P W r b0 t v) (hd : DataW.Trod enc P W 0 (fun _ => true) true t v d ps) :
    ∃ (A : Option Addr) (n c : Nat) (ra : Nat → Option Addr) (ln cp : Nat → Nat) (M : Nat → Nat → Nat), v = .slice A n c ∧ Tab W A n ra ln cp M ∧ n ≤ 4611686018427387904 := by
  obtain ⟨A, n, c, C, rfl, hnc, hr, hm, hn, hi⟩ := slice_in ht hc hby hw hval hd
  have each : ∀ i, i < n → ∃ q : Option Addr × Nat × Nat × (Nat → Nat), C i = [.slice q.1 q.2.1 q.2.2.1] ∧ (q.2.1 ≤ q.2.2.1 ∧ q.2.2.1 ≤ 9223372036854775807) ∧ (∀ j, q.2.2.2 j < 256) ∧
      (0 < q.2.1 → ∃ b o, q.1 = some ⟨b, o, none⟩ ∧ b < W.heap.size ∧ ∀ j, j < q.2.1 → W.cell? ⟨b, o + j, none⟩ = some (.int .u8 (q.2.2.2 j : Int))) := fun i h => by
    obtain ⟨-, -, m, x, hx⟩ := hi i h
    rcases Go.Deep.open_slice1 he hcu hx with ⟨h0, -⟩ | ⟨a, len, cap, m', n', V, D, Pl, hcs, -, hl, hmx, hmm, -, hV⟩
    · exact ⟨(none, 0, 0, fun _ => 0), h0, ⟨Nat.le_refl 0, Nat.zero_le _⟩, fun _ => by show 0 < 256; omega, fun h => absurd h (by show ¬ 0 < 0; omega)⟩
    · simp only [if_true] at hmm
      subst hmm
      have hb : ∀ j, j < len → ∃ y : Nat, V j = .int .u8 (y : Int) ∧ y < 256 := fun j hj => by
        obtain ⟨-, h2⟩ := hV j (by omega)
        obtain ⟨k, hk, -, hwf⟩ := DataW.trod_int hu h2
        simp only [List.cons.injEq, and_true] at hk
        have hbb := bounds_u8 hwf
        exact ⟨k.toNat, by rw [Int.toNat_of_nonneg hbb.1]; exact hk, by have := hbb.1; have := hbb.2; omega⟩
      refine ⟨(some a, len, m', fun j => if h : j < len then (hb j h).choose else 0), hcs, ⟨hl, by unfold maxLen at hmx; exact hmx⟩, fun j => ?_, fun h0 => ?_⟩
      · show (if h : j < len then (hb j h).choose else 0) < 256
        by_cases h : j < len
        · rw [dif_pos h]; exact (hb j h).choose_spec.2
        · rw [dif_neg h]; omega
      · have hcell : ∀ j, j < len → W.cell? (a.add j) = some (.int .u8 (((if h : j < len then (hb j h).choose else 0 : Nat)) : Int)) := fun j hj => by
          have e : (if h : j < len then (hb j h).choose else 0) = (hb j hj).choose := dif_pos hj
          rw [e, (hV j (by omega)).1]
          exact congrArg some (hb j hj).choose_spec.1
        obtain ⟨b, o, rfl, hbl, hc2⟩ := addr_form hcell h0
        exact ⟨b, o, rfl, hbl, hc2⟩
  have hch : ∃ f : Nat → Option Addr × Nat × Nat × (Nat → Nat), ∀ i, i < n → C i = [.slice (f i).1 (f i).2.1 (f i).2.2.1] ∧ ((f i).2.1 ≤ (f i).2.2.1 ∧ (f i).2.2.1 ≤ 9223372036854775807) ∧ (∀ j, (f i).2.2.2 j < 256) ∧
      (0 < (f i).2.1 → ∃ b o, (f i).1 = some ⟨b, o, none⟩ ∧ b < W.heap.size ∧ ∀ j, j < (f i).2.1 → W.cell? ⟨b, o + j, none⟩ = some (.int .u8 ((f i).2.2.2 j : Int))) := by
    refine ⟨fun i => if h : i < n then (each i h).choose else (none, 0, 0, fun _ => 0), fun i h => ?_⟩
    simp only [h, dif_pos]
    exact (each i h).choose_spec
  obtain ⟨f, hf⟩ := hch
  refine ⟨A, n, c, fun i => (f i).1, fun i => (f i).2.1, fun i => (f i).2.2.1, fun i j => if i < n then (f i).2.2.2 j else 0, rfl, ⟨fun h0 => ?_, fun i hin h0 => ?_, fun i hin => (hf i hin).2.1, fun i j => ?_⟩, by omega⟩
  · obtain ⟨-, ⟨a, rfl, -⟩, -⟩ := hi 0 h0
    have hcell : ∀ i, i < n → W.cell? (a.add i) = some (.slice (f i).1 (f i).2.1 (f i).2.2.1) := fun i hin => by
      obtain ⟨-, ⟨a', ha, hc1⟩, -⟩ := hi i hin
      injection ha with ha
      subst ha
      have := hc1 0 (by omega)
      rw [Nat.mul_one, Go.Deep.add_add, Nat.add_zero, (hf i hin).1] at this
      exact this
    obtain ⟨b, o, rfl, hbl, hc2⟩ := addr_form hcell h0
    exact ⟨b, o, rfl, hbl, hc2⟩
  · obtain ⟨b, o, h1, h2, h3⟩ := (hf i hin).2.2.2 h0
    exact ⟨b, o, h1, h2, fun j hj => by rw [h3 j hj, if_pos hin]⟩
  · show (if i < n then (f i).2.2.2 j else 0) < 256
    by_cases h : i < n
    · rw [if_pos h]; exact (hf i h).2.2.1 j
    · rw [if_neg h]; omega
end Go.Proofs.Ytepkiicekcglhaa
