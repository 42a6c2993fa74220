/-
  Two stores beside each other.
-/
import Derived.Test.YtfhalkijbenhdaaSto21
set_option linter.unusedVariables false
set_option linter.unusedSimpArgs false
namespace Go.Proofs.Ytfhalkijbenhdaa
open Go.RowKit Go.BigFrame

theorem share1 {A G : World → Prop} {q : Prop} (h1 : (∀ w', A w' → G w') → q) (h2 : ∀ w', A w' → G w') : q := h1 h2
def Two (b0 : Nat) (w : World) (top p g p' g' : Nat) (σ τ : Sto) : Prop :=
  ∃ v v', St b0 w p g v σ ∧ St b0 w p' g' v' τ ∧ (∀ x, foot p g v σ.N x → ¬ foot p' g' v' τ.N x) ∧ (∀ x, foot p g v σ.N x ∨ foot p' g' v' τ.N x → x < top)
section
variable {b0 top p g p' g' : Nat} {w w' : World} {σ τ σ' τ' : Sto}
theorem Two.keep (T : Two b0 w top p g p' g' σ τ) (E : Ext w w') : Two b0 w' top p g p' g' σ τ := by
  obtain ⟨v, v', S, S', D, h⟩ := T
  exact ⟨v, v', S.keep E, S'.keep E, D, h⟩
theorem Two.swap (T : Two b0 w top p g p' g' σ τ) : Two b0 w top p' g' p g τ σ := by
  obtain ⟨v, v', S, S', D, h⟩ := T
  exact ⟨v', v, S', S, fun x h1 h2 => D x h2 h1, fun x hx => h x hx.symm⟩
/-- The second was made behind the first. -/
theorem Two.make {v v' : Nat → Nat → Value} {b1 : Nat} (S : St b0 w p g v σ) (E : Ext w w') (S' : St b1 w' p' g' v' τ) (hb : w.heap.size ≤ b1) (h0 : b0 ≤ w.heap.size) : Two b0 w' w'.heap.size p g p' g' σ τ := by
  refine ⟨v, v', S.keep E, S'.mono (by omega), fun x h1 h2 => ?_, fun x hx => ?_⟩
  · have := S.foot_hi h1
    have := S'.foot_lo h2
    omega
  · rcases hx with h | h
    · have := S.foot_hi h; have := E.size; omega
    · exact S'.foot_hi h
/-- What a deed at the first of them leaves. -/
theorem Two.left (T : Two b0 w top p g p' g' σ τ) (Fi : Fine σ) (ht : top ≤ w.heap.size) (kind key n : Int) (s : ByteArray) (hss : (s.size : Int) ≤ 9223372036854775807) :
    Calls Try.prog 14 #[.pointer (some ⟨p, 0, none⟩), deedV kind key n s] w fun e w' => e = .returned (tellV (σ.doS kind key n s).1) ∧ Two b0 w' w'.heap.size p g p' g' (σ.doS kind key n s).2 τ ∧
      (∀ a u, top ≤ a.block → w.cell? a = some u → w'.cell? a = some u) ∧ (∀ w0, Ext w0 w → w0.heap.size ≤ b0 → Ext w0 w') ∧ w.heap.size ≤ w'.heap.size := by
  obtain ⟨v, v', S, S', D, h⟩ := T
  refine (do_ok S Fi kind key n s hss).mono ?_
  rintro e w1 ⟨rfl, v2, S2, O2, F2⟩
  have hN := Sto.doS_N σ kind key n s
  refine ⟨rfl, ⟨v2, v', S2, S'.other O2 fun x hx hf => D x hf hx, fun x h1 h2 => ?_, fun x hx => ?_⟩, fun a u ha hc => O2.keepc hc fun hf => ?_, fun w0 E0 hw => O2.ext E0 fun x hx => Nat.le_trans hw (S.foot_lo hx), O2.size⟩
  · rw [hN] at h1
    rcases F2 x h1 with h3 | h3
    · exact D x h3 h2
    · have := S'.foot_hi h2; omega
  · rcases hx with h1 | h1
    · exact S2.foot_hi h1
    · have := S'.foot_hi h1; have := O2.size; omega
  · have := h _ (.inl hf); omega
theorem Two.right (T : Two b0 w top p g p' g' σ τ) (Fi : Fine τ) (ht : top ≤ w.heap.size) (kind key n : Int) (s : ByteArray) (hss : (s.size : Int) ≤ 9223372036854775807) :
    Calls Try.prog 14 #[.pointer (some ⟨p', 0, none⟩), deedV kind key n s] w fun e w' => e = .returned (tellV (τ.doS kind key n s).1) ∧ Two b0 w' w'.heap.size p g p' g' σ (τ.doS kind key n s).2 ∧
      (∀ a u, top ≤ a.block → w.cell? a = some u → w'.cell? a = some u) ∧ (∀ w0, Ext w0 w → w0.heap.size ≤ b0 → Ext w0 w') ∧ w.heap.size ≤ w'.heap.size := by
  refine (T.swap.left Fi ht kind key n s hss).mono ?_
  rintro e w1 ⟨rfl, T', h1, h2, h3⟩
  exact ⟨rfl, T'.swap, h1, h2, h3⟩
end
end Go.Proofs.Ytfhalkijbenhdaa
