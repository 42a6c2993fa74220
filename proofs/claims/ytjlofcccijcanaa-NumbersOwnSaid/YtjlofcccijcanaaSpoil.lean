/-
  Whatever writes all over a slice that a call made: the contract of wholekeep.spoil.
-/
import Derived.Test.YtjlofcccijcanaaMake
set_option linter.unusedVariables false
set_option linter.unusedSimpArgs false
namespace Go.Proofs.Ytjlofcccijcanaa
open Go.RowKit Go.BigFrame

theorem Made.grown_ {w w' : World} {base e sz n : Nat} {v : Value} {xs : List Value} (h : Made w base e sz v n xs) {row : Option Nat} (hg : w.grownBy w' row) (hne : ∀ k, v.ownBlock = some k → row ≠ some k) : Made w' base e sz v n xs := by
  have hl := h.lt
  obtain ⟨h1, h2⟩ := h
  refine ⟨h1, ?_⟩
  rcases h2 with h2 | ⟨g, c, cur, rfl, hg1, hh, r⟩
  · exact .inl h2
  · exact .inr ⟨g, c, cur, rfl, hg1, (hg.block g (hl g rfl).2 (fun e => hne g rfl e.symm)).trans hh, r⟩
theorem grownBy_setCell {w w' : World} {g : Nat} (h : w.grownBy w' (some g)) (j : Nat) (u : Value) : w.grownBy (w'.setCell ⟨g, j, none⟩ u) (some g) :=
  ⟨h.os, h.tape, h.output, by simpa using h.size, fun k hk hne => by
    have hgk : g ≠ k := fun e => hne (by rw [e])
    rw [← h.block k hk hne]
    simp [World.setCell, Array.getElem?_modify, hgk]⟩

set_option maxRecDepth 100000 in
set_option maxHeartbeats 1000000 in
theorem spoil_any (base : Nat) (v : Value) (n : Nat) (xs : List Value) (x : Int) (w : World) (M : Made w base 3 1 v n xs) :
    Calls Try.prog 35 #[v, .int .i64 x] w fun e w' => (∃ r, e = .returned r) ∧ w.grownBy w' v.ownBlock := by
  rcases M.2 with ⟨rfl, rfl⟩ | ⟨g, c, cur, rfl, hg1, hh, hnc, hcm, hsz, -⟩
  · go_enter Try.func35, Try.ntmps35
    go_wp2
    go_loopw [11] (fun i wr => i = .int .i64 0 ∧ ∃ d, wr = w.drewN d) (fun _ _ => 0)
    case atStart => exact ⟨rfl, by first | exact ⟨_, rfl⟩ | exact ⟨0, rfl⟩⟩
    case round =>
      obtain ⟨rfl, d, rfl⟩ := hrel
      go_wp2
      go_end0
      exact ⟨⟨_, rfl⟩, ⟨rfl, rfl, rfl, Nat.le_refl _, fun _ _ _ => rfl⟩⟩
  · have hcI : (c : Int) ≤ 9223372036854775807 := by unfold maxLen at hcm; omega
    have HH := hide hh
    have HC := hide hsz
    rw [Nat.mul_one] at HC
    clear M hh hsz hcm
    go_enter Try.func35, Try.ntmps35
    go_wp2
    go_loopw [11] (fun i wr => ∃ k : Nat, k ≤ c ∧ i = .int .i64 k ∧ Hid (w.grownBy wr (some g)) ∧ Hid (∃ cur' : Array Value, c ≤ cur'.size ∧ wr.heap[g]? = some (.cells cur' 3 (0, 0)))) (fun i _ => c - (intOf i).toNat)
    case atStart => exact ⟨0, Nat.zero_le _, rfl, hide (World.grownBy.refl _ _), hide ⟨cur, unhide HC, unhide HH⟩⟩
    case round =>
      clear HH HC
      obtain ⟨k, hk, rfl, HG, HH⟩ := hrel
      by_cases hlt : k < c
      · obtain ⟨cur', hc1, hc2⟩ := unhide HH
        have hcell : wr.cell? ⟨g, k, none⟩ = some (cur'[k]'(by omega)) := by
          have : k < cur'.size := by omega
          simp [World.cell?, hc2, this]
        have hfr : wr.frozen? ⟨g, k, none⟩ = false := by simp [World.frozen?, hc2]
        have HG2 := hide (grownBy_setCell (unhide HG) k (.int .i64 x))
        have HH2 : Hid (∃ cur'' : Array Value, c ≤ cur''.size ∧ (wr.setCell ⟨g, k, none⟩ (.int .i64 x)).heap[g]? = some (.cells cur'' 3 (0, 0))) := hide ⟨cur'.setIfInBounds k (.int .i64 x), by simpa using hc1, by simp [World.setCell, Array.getElem?_modify, hc2]⟩
        generalize cur'[k]'(by omega) = old at hcell
        clear HH HG hc1 hc2
        go_wp2
        go_roundw
        case rel => exact ⟨k + 1, by omega, by go_num, HG2, HH2⟩
        case measure => simp [intOf]; omega
      · obtain rfl : c = k := by omega
        go_wp2
        go_end0
        exact ⟨⟨_, rfl⟩, unhide HG⟩
end Go.Proofs.Ytjlofcccijcanaa
