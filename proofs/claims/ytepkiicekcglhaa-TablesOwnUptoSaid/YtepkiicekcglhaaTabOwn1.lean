/-
  What multiplying, inverting and putting give, seen as memory of the call's own.
-/
import Derived.Test.YtepkiicekcglhaaTabOwn0
import Derived.Test.YtepkiicekcglhaaMxB
import Derived.Test.YtepkiicekcglhaaPutAny
import Derived.Test.YtepkiicekcglhaaReed5
set_option linter.unusedVariables false
set_option linter.unusedSimpArgs false
namespace Go.Proofs.Ytepkiicekcglhaa
open Go.RowKit Go.BigFrame

/-- A slice of headers whose rows may be spoiled. -/
def Rows_ (W : World) (base n : Nat) (v : Value) : Prop := ∃ X cx hs, v = .slice X n cx ∧ (X = none → n = 0 ∧ cx = 0) ∧ Row W X n 1 hs ∧ (∀ u ∈ hs, u.oneCell' = true) ∧ Soil W base n hs
theorem Rows_.nil (W : World) (base : Nat) : Rows_ W base 0 (.slice none 0 0) := ⟨none, 0, [], rfl, fun _ => ⟨rfl, rfl⟩, Row.none_, fun u h => (by cases h), Soil.nil _ _⟩
theorem Rows_.of_tb {W : World} {base g n l : Nat} {bl cp : Nat → Nat} {M : Nat → Nat → Nat} (T : Tb W base g n bl cp l M) : Rows_ W base n (.slice (some ⟨g, 0, none⟩) n n) :=
  ⟨_, _, _, rfl, fun h => (by cases h), T.hdR, hds_one _ _ _ _, Soil.of_tb T⟩
theorem Rows_.keep {W W' : World} {base n : Nat} {v : Value} (h : Rows_ W base n v) (E : Ext W W') : Rows_ W' base n v := by
  obtain ⟨X, cx, hs, h1, h2, h3, h4, h5⟩ := h
  exact ⟨X, cx, hs, h1, h2, h3.keep E, h4, h5.keep E⟩
theorem Rows_.mono {W : World} {base base' n : Nat} {v : Value} (h : Rows_ W base n v) (hb : base' ≤ base) : Rows_ W base' n v := by
  obtain ⟨X, cx, hs, h1, h2, h3, h4, h5⟩ := h
  exact ⟨X, cx, hs, h1, h2, h3, h4, h5.mono hb⟩
def okN (r : Int) (n : Nat) : Nat := if r = 0 then n else 0
theorem MulOut.rows {w w' : World} {n n2 : Nat} {ln ln2 : Nat → Nat} {M N : Nat → Nat → Nat} {e : Ending} (h : MulOut w w' n ln M n2 ln2 N e) :
    ∃ v, e = .returned (.tuple #[v, .int .i64 (mulErr n ln n2 ln2)]) ∧ Rows_ w' w.heap.size (okN (mulErr n ln n2 ln2) n) v := by
  rcases h with ⟨hne, rfl⟩ | ⟨h0, -, -, -, g, bl, cp, rfl, T⟩
  · exact ⟨_, rfl, by unfold okN; rw [if_neg hne]; exact Rows_.nil _ _⟩
  · exact ⟨_, by rw [h0], by unfold okN; rw [if_pos h0]; exact Rows_.of_tb T⟩
theorem InvOut.rows {w w' : World} {n : Nat} {ln : Nat → Nat} {M : Nat → Nat → Nat} {e : Ending} (h : InvOut w w' n ln M e) :
    ∃ v q k, e = .returned (.tuple #[v, .int .i64 q]) ∧ Rows_ w' w.heap.size k v ∧ k ≤ n := by
  rcases h with ⟨hne, rfl⟩ | ⟨-, -, -, ⟨rfl, -⟩ | ⟨d, -, -, g, bl, cp, R, rfl, T, -⟩⟩
  · exact ⟨_, _, 0, rfl, Rows_.nil _ _, Nat.zero_le _⟩
  · exact ⟨_, _, 0, rfl, Rows_.nil _ _, Nat.zero_le _⟩
  · exact ⟨_, _, n, rfl, Rows_.of_tb T, Nat.le_refl _⟩

theorem Made.roomy {w : World} {base e : TypeId} {b n c : Nat} {xs : List Value} (h : Made w base e 1 (.slice (some ⟨b, 0, none⟩) n c) n xs) : Roomy w b c := by
  rcases h.2 with ⟨h, -⟩ | ⟨g, c', cur, h, -, hh, -, -, r, -⟩
  · cases h
  · injection h with h1 _ h2
    simp only [Option.some.injEq, Addr.mk.injEq, and_true] at h1
    subst h1; subst h2
    exact ⟨cur, e, hh, by omega⟩
set_option maxRecDepth 100000 in
set_option maxHeartbeats 1000000 in
theorem spoil_nil8 (x : Nat) (w : World) :
    Calls Try.prog 11 #[.slice none 0 0, .int .u8 x] w fun e w' => (∃ r, e = .returned r) ∧ w.grownBy w' none := by
  go_enter Try.func11, Try.ntmps11
  go_wp2
  go_loopw [11] (fun i wr => i = .int .i64 0 ∧ ∃ d, wr = w.drewN d) (fun _ _ => 0)
  case atStart => exact ⟨rfl, by first | exact ⟨_, rfl⟩ | exact ⟨0, rfl⟩⟩
  case round =>
    obtain ⟨rfl, d, rfl⟩ := hrel
    go_wp2
    go_end0
    exact ⟨⟨_, rfl⟩, ⟨rfl, rfl, rfl, Nat.le_refl _, fun _ _ _ => rfl⟩⟩
theorem spoil_made8 (base : Nat) (e : TypeId) (v : Value) (n : Nat) (xs : List Value) (x : Nat) (w : World) (M : Made w base e 1 v n xs) :
    Calls Try.prog 11 #[v, .int .u8 x] w fun e w' => (∃ r, e = .returned r) ∧ w.grownBy w' v.ownBlock := by
  rcases M.2 with ⟨rfl, rfl⟩ | ⟨g, c, cur, rfl, hg1, hh, hnc, hcm, hsz, -⟩
  · exact spoil_nil8 x w
  · exact (spoil_u8 g n c x w hnc (by unfold maxLen at hcm; omega) M.roomy).mono fun _ _ h => ⟨h.1, h.2.1⟩
theorem Soil.turn {W W' : World} {base n : Nat} {hs : List Value} (h : Soil W base n hs) {b : Nat} (hg : W.grownBy W' (some b)) (hr : ∀ c', Roomy W b c' → Roomy W' b c') : Soil W' base n hs :=
  ⟨h.1, fun i hi => by
    obtain ⟨b', l, c, h1, h2, h3, h4, h5⟩ := h.2 i hi
    exact ⟨b', l, c, h1, h2, h3, h4, h5.turn hg fun c' e R => by injection e with e; subst e; exact hr c' R⟩⟩
end Go.Proofs.Ytepkiicekcglhaa
