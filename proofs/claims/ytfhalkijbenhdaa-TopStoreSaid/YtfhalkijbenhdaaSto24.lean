/-
  A store beside blocks that are none of its own.
-/
import Derived.Test.YtfhalkijbenhdaaSto23
set_option linter.unusedVariables false
set_option linter.unusedSimpArgs false
namespace Go.Proofs.Ytfhalkijbenhdaa
open Go.RowKit Go.BigFrame

/-- A store lies there, and the blocks X are none of its own. -/
def Has (b0 : Nat) (w : World) (p g : Nat) (σ : Sto) (X : Nat → Prop) : Prop :=
  ∃ v, St b0 w p g v σ ∧ ∀ x, X x → ¬ foot p g v σ.N x ∧ x < w.heap.size
section
variable {b0 p g : Nat} {w w' : World} {σ σ' : Sto} {X Y : Nat → Prop}
theorem Has.start {v : Nat → Nat → Value} (S : St b0 w p g v σ) (hb : b0 ≤ w.heap.size) (hX : ∀ x, X x → x < b0) : Has b0 w p g σ X :=
  ⟨v, S, fun x hx => ⟨fun h => by have := S.foot_lo h; have := hX x hx; omega, Nat.lt_of_lt_of_le (hX x hx) hb⟩⟩
theorem Has.keep (h : Has b0 w p g σ X) (E : Ext w w') : Has b0 w' p g σ X := by
  obtain ⟨v, S, hx⟩ := h
  exact ⟨v, S.keep E, fun x h => ⟨(hx x h).1, Nat.lt_of_lt_of_le (hx x h).2 E.size⟩⟩
/-- What was made meanwhile is none of its own. -/
theorem Has.grow (h : Has b0 w p g σ X) (E : Ext w w') : Has b0 w' p g σ (fun x => X x ∨ (w.heap.size ≤ x ∧ x < w'.heap.size)) := by
  obtain ⟨v, S, hx⟩ := h
  refine ⟨v, S.keep E, fun x h => ?_⟩
  rcases h with h | h
  · exact ⟨(hx x h).1, Nat.lt_of_lt_of_le (hx x h).2 E.size⟩
  · exact ⟨fun hf => by have := S.foot_hi hf; omega, h.2⟩
theorem Has.less (h : Has b0 w p g σ X) (hY : ∀ x, Y x → X x) : Has b0 w p g σ Y := by
  obtain ⟨v, S, hx⟩ := h
  exact ⟨v, S, fun x h => hx x (hY x h)⟩
theorem Has.do_ (h : Has b0 w p g σ X) (Fi : Fine σ) (kind key n : Int) (s : ByteArray) (hss : (s.size : Int) ≤ 9223372036854775807) :
    Calls Try.prog 14 #[.pointer (some ⟨p, 0, none⟩), deedV kind key n s] w fun e w' => e = .returned (tellV (σ.doS kind key n s).1) ∧ Has b0 w' p g (σ.doS kind key n s).2 X ∧
      (∀ a u, X a.block → w.cell? a = some u → w'.cell? a = some u) ∧ (∀ w0, Ext w0 w → w0.heap.size ≤ b0 → Ext w0 w') ∧ w.heap.size ≤ w'.heap.size := by
  obtain ⟨v, S, hx⟩ := h
  refine (do_ok S Fi kind key n s hss).mono ?_
  rintro e w1 ⟨rfl, v2, S2, O2, F2⟩
  have hN := Sto.doS_N σ kind key n s
  refine ⟨rfl, ⟨v2, S2, fun x h => ⟨fun hf => ?_, Nat.lt_of_lt_of_le (hx x h).2 O2.size⟩⟩, fun a u ha hc => O2.keepc hc (hx _ ha).1, fun w0 E0 hw => O2.ext E0 fun x hx => Nat.le_trans hw (S.foot_lo hx), O2.size⟩
  rw [hN] at hf
  rcases F2 x hf with h3 | h3
  · exact (hx x h).1 h3
  · have := (hx x h).2; omega
theorem Has.lt (h : Has b0 w p g σ X) {x : Nat} (hx : X x) : x < w.heap.size := by
  obtain ⟨v, S, hh⟩ := h
  exact (hh x hx).2
/-- What only turns at those that are none of its own. -/
theorem Has.other (h : Has b0 w p g σ X) {F : Nat → Prop} (O : Only F w w') (hF : ∀ x, F x → X x) : Has b0 w' p g σ X := by
  obtain ⟨v, S, hx⟩ := h
  exact ⟨v, S.other O fun x hf hF' => (hx x (hF x hF')).1 hf, fun x h => ⟨(hx x h).1, Nat.lt_of_lt_of_le (hx x h).2 O.size⟩⟩
theorem Has.look (h : Has b0 w p g σ X) (Fi : Fine σ) (i key : Nat) (hi : i < σ.N) (hk : key < 3) :
    Calls Try.prog 19 #[.pointer (some ⟨p, 0, none⟩), .int .i64 (i : Int), .int .i64 (key : Int)] w fun e w' =>
      (∃ u, e = .returned (.tuple #[u, .bool (!σ.down i), .int .i64 0]) ∧ w'.ownsRow w.heap.size 58 3 u (σ.kept i key).length (kps (σ.kept i key))) ∧ Ext w w' := by
  obtain ⟨v, S, -⟩ := h
  exact look_ok S Fi i key hi hk
theorem Has.look_bad (h : Has b0 w p g σ X) (i key : Int) (hn : ¬ (σ.isNode i ∧ Sto.isKey key)) :
    Calls Try.prog 19 #[.pointer (some ⟨p, 0, none⟩), .int .i64 i, .int .i64 key] w fun e w' => e = .returned (.tuple #[.slice none 0 0, .bool false, .int .i64 1]) ∧ Ext w w' := by
  obtain ⟨v, S, -⟩ := h
  exact Ytfhalkijbenhdaa.look_bad S i key hn
/-- A row at blocks that are kept. -/
theorem Row.kept {A : Option Addr} {n sz : Nat} {xs : List Value} (R : Row w A n sz xs) (hs : w.heap.size ≤ w'.heap.size) (hX : ∀ b o, A = some ⟨b, o, none⟩ → X b) (hc : ∀ a u, X a.block → w.cell? a = some u → w'.cell? a = some u) (hx : ∀ j, j < n * sz → ∃ u, xs[j]? = some u) : Row w' A n sz xs := by
  refine ⟨R.1, fun h => ?_⟩
  obtain ⟨b, o, hA, hb, hj⟩ := R.2 h
  refine ⟨b, o, hA, Nat.lt_of_lt_of_le hb hs, fun j hjn => ?_⟩
  obtain ⟨u, hu⟩ := hx j hjn
  have h1 := hj j hjn
  rw [hu] at h1 ⊢
  exact hc _ _ (hX b o hA) h1
end
end Go.Proofs.Ytfhalkijbenhdaa
