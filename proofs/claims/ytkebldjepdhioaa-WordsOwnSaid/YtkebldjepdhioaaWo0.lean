import Derived.Test.YtkebldjepdhioaaMake
import Derived.Test.YtkebldjepdhioaaPrOM
import Derived.Test.YtkebldjepdhioaaPiece11
import Derived.Test.YtkebldjepdhioaaTreO5
/-
  Whatever writes all over a slice that a call made: the contract of wholekeep.spoil.
-/
set_option linter.unusedVariables false
set_option linter.unusedSimpArgs false
namespace Go.Proofs.Ytkebldjepdhioaa
open Go.RowKit Go.BigFrame

theorem Made.grown_ {w w' : World} {base e sz n : Nat} {v : Value} {xs : List Value} (h : Made w base e sz v n xs) {row : Option Nat} (hg : w.grownBy w' row) (hne : ∀ k, v.ownBlock = some k → row ≠ some k) : Made w' base e sz v n xs := by
  have hl := h.lt
  obtain ⟨h1, h2⟩ := h
  refine ⟨h1, ?_⟩
  rcases h2 with h2 | ⟨g, c, cur, rfl, hg1, hh, r⟩
  · exact .inl h2
  · exact .inr ⟨g, c, cur, rfl, hg1, (hg.block g (hl g rfl).2 (fun e => hne g rfl e.symm)).trans hh, r⟩
theorem grownBy_setCell {w w' : World} {g : Nat} (h : w.grownBy w' (some g)) (j : Nat) (u : Value) : w.grownBy (w'.setCell ⟨g, j, none⟩ u) (some g) :=
  ⟨h.os, h.tape, h.output, by simpa using h.size, fun k hk hne => by
    have hgk : g ≠ k := fun e => hne (by rw [e])
    rw [← h.block k hk hne]
    simp [World.setCell, Array.getElem?_modify, hgk]⟩

end Go.Proofs.Ytkebldjepdhioaa

/-
  What WordsOwn needs: spoil at three element types, Prove whatever came in, and what each call's answer owns.
-/
set_option linter.unusedVariables false
set_option linter.unusedSimpArgs false
namespace Go.Proofs.Ytkebldjepdhioaa
open Go.RowKit Go.BigFrame Go.Sort

set_option maxRecDepth 100000 in
set_option maxHeartbeats 1000000 in
theorem spoil_u16 (base : Nat) (v : Value) (n : Nat) (xs : List Value) (w : World) (M : Made w base 26 1 v n xs) :
    Calls Try.prog 13 #[v, .int .u16 99] w fun e w' => (∃ r, e = .returned r) ∧ w.grownBy w' v.ownBlock := by
  rcases M.2 with ⟨rfl, rfl⟩ | ⟨g, c, cur, rfl, hg1, hh, hnc, hcm, hsz, -⟩
  · go_enter Try.func13, Try.ntmps13
    go_wp2
    go_loopw [11] (fun i wr => i = .int .i64 0 ∧ ∃ d, wr = w.drewN d) (fun _ _ => 0)
    case atStart => exact ⟨rfl, by first | exact ⟨_, rfl⟩ | exact ⟨0, rfl⟩⟩
    case round =>
      obtain ⟨rfl, d, rfl⟩ := hrel
      go_wp2
      go_end0
      exact ⟨⟨_, rfl⟩, ⟨rfl, rfl, rfl, Nat.le_refl _, fun _ _ _ => rfl⟩⟩
  · have hcI : (c : Int) ≤ 9223372036854775807 := by unfold maxLen at hcm; omega
    have HH := hide hh
    have HC := hide hsz
    rw [Nat.mul_one] at HC
    clear M hh hsz hcm
    go_enter Try.func13, Try.ntmps13
    go_wp2
    go_loopw [11] (fun i wr => ∃ k : Nat, k ≤ c ∧ i = .int .i64 k ∧ Hid (w.grownBy wr (some g)) ∧ Hid (∃ cur' : Array Value, c ≤ cur'.size ∧ wr.heap[g]? = some (.cells cur' 26 (0, 0)))) (fun i _ => c - (intOf i).toNat)
    case atStart => exact ⟨0, Nat.zero_le _, rfl, hide (World.grownBy.refl _ _), hide ⟨cur, unhide HC, unhide HH⟩⟩
    case round =>
      clear HH HC
      obtain ⟨k, hk, rfl, HG, HH⟩ := hrel
      by_cases hlt : k < c
      · obtain ⟨cur', hc1, hc2⟩ := unhide HH
        have hcell : wr.cell? ⟨g, k, none⟩ = some (cur'[k]'(by omega)) := by
          have : k < cur'.size := by omega
          simp [World.cell?, hc2, this]
        have hfr : wr.frozen? ⟨g, k, none⟩ = false := by simp [World.frozen?, hc2]
        have HG2 := hide (grownBy_setCell (unhide HG) k (.int .u16 99))
        have HH2 : Hid (∃ cur'' : Array Value, c ≤ cur''.size ∧ (wr.setCell ⟨g, k, none⟩ (.int .u16 99)).heap[g]? = some (.cells cur'' 26 (0, 0))) := hide ⟨cur'.setIfInBounds k (.int .u16 99), by simpa using hc1, by simp [World.setCell, Array.getElem?_modify, hc2]⟩
        generalize cur'[k]'(by omega) = old at hcell
        clear HH HG hc1 hc2
        go_wp2
        go_roundw
        case rel => exact ⟨k + 1, by omega, by go_num, HG2, HH2⟩
        case measure => simp [intOf]; omega
      · obtain rfl : c = k := by omega
        go_wp2
        go_end0
        exact ⟨⟨_, rfl⟩, unhide HG⟩

set_option maxRecDepth 100000 in
set_option maxHeartbeats 1000000 in
theorem spoil_str (base : Nat) (v : Value) (n : Nat) (xs : List Value) (w : World) (M : Made w base 9 1 v n xs) :
    Calls Try.prog 16 #[v, .string ⟨#[63]⟩] w fun e w' => (∃ r, e = .returned r) ∧ w.grownBy w' v.ownBlock := by
  rcases M.2 with ⟨rfl, rfl⟩ | ⟨g, c, cur, rfl, hg1, hh, hnc, hcm, hsz, -⟩
  · go_enter Try.func16, Try.ntmps16
    go_wp2
    go_loopw [11] (fun i wr => i = .int .i64 0 ∧ ∃ d, wr = w.drewN d) (fun _ _ => 0)
    case atStart => exact ⟨rfl, by first | exact ⟨_, rfl⟩ | exact ⟨0, rfl⟩⟩
    case round =>
      obtain ⟨rfl, d, rfl⟩ := hrel
      go_wp2
      go_end0
      exact ⟨⟨_, rfl⟩, ⟨rfl, rfl, rfl, Nat.le_refl _, fun _ _ _ => rfl⟩⟩
  · have hcI : (c : Int) ≤ 9223372036854775807 := by unfold maxLen at hcm; omega
    have HH := hide hh
    have HC := hide hsz
    rw [Nat.mul_one] at HC
    clear M hh hsz hcm
    go_enter Try.func16, Try.ntmps16
    go_wp2
    go_loopw [11] (fun i wr => ∃ k : Nat, k ≤ c ∧ i = .int .i64 k ∧ Hid (w.grownBy wr (some g)) ∧ Hid (∃ cur' : Array Value, c ≤ cur'.size ∧ wr.heap[g]? = some (.cells cur' 9 (0, 0)))) (fun i _ => c - (intOf i).toNat)
    case atStart => exact ⟨0, Nat.zero_le _, rfl, hide (World.grownBy.refl _ _), hide ⟨cur, unhide HC, unhide HH⟩⟩
    case round =>
      clear HH HC
      obtain ⟨k, hk, rfl, HG, HH⟩ := hrel
      by_cases hlt : k < c
      · obtain ⟨cur', hc1, hc2⟩ := unhide HH
        have hcell : wr.cell? ⟨g, k, none⟩ = some (cur'[k]'(by omega)) := by
          have : k < cur'.size := by omega
          simp [World.cell?, hc2, this]
        have hfr : wr.frozen? ⟨g, k, none⟩ = false := by simp [World.frozen?, hc2]
        have HG2 := hide (grownBy_setCell (unhide HG) k (.string ⟨#[63]⟩))
        have HH2 : Hid (∃ cur'' : Array Value, c ≤ cur''.size ∧ (wr.setCell ⟨g, k, none⟩ (.string ⟨#[63]⟩)).heap[g]? = some (.cells cur'' 9 (0, 0))) := hide ⟨cur'.setIfInBounds k (.string ⟨#[63]⟩), by simpa using hc1, by simp [World.setCell, Array.getElem?_modify, hc2]⟩
        generalize cur'[k]'(by omega) = old at hcell
        clear HH HG hc1 hc2
        go_wp2
        go_roundw
        case rel => exact ⟨k + 1, by omega, by go_num, HG2, HH2⟩
        case measure => simp [intOf]; omega
      · obtain rfl : c = k := by omega
        go_wp2
        go_end0
        exact ⟨⟨_, rfl⟩, unhide HG⟩

set_option maxRecDepth 100000 in
set_option maxHeartbeats 1000000 in
theorem spoil_u64 (base : Nat) (v : Value) (n : Nat) (xs : List Value) (w : World) (M : Made w base 42 1 v n xs) :
    Calls Try.prog 19 #[v, .int .u64 0] w fun e w' => (∃ r, e = .returned r) ∧ w.grownBy w' v.ownBlock := by
  rcases M.2 with ⟨rfl, rfl⟩ | ⟨g, c, cur, rfl, hg1, hh, hnc, hcm, hsz, -⟩
  · go_enter Try.func19, Try.ntmps19
    go_wp2
    go_loopw [11] (fun i wr => i = .int .i64 0 ∧ ∃ d, wr = w.drewN d) (fun _ _ => 0)
    case atStart => exact ⟨rfl, by first | exact ⟨_, rfl⟩ | exact ⟨0, rfl⟩⟩
    case round =>
      obtain ⟨rfl, d, rfl⟩ := hrel
      go_wp2
      go_end0
      exact ⟨⟨_, rfl⟩, ⟨rfl, rfl, rfl, Nat.le_refl _, fun _ _ _ => rfl⟩⟩
  · have hcI : (c : Int) ≤ 9223372036854775807 := by unfold maxLen at hcm; omega
    have HH := hide hh
    have HC := hide hsz
    rw [Nat.mul_one] at HC
    clear M hh hsz hcm
    go_enter Try.func19, Try.ntmps19
    go_wp2
    go_loopw [11] (fun i wr => ∃ k : Nat, k ≤ c ∧ i = .int .i64 k ∧ Hid (w.grownBy wr (some g)) ∧ Hid (∃ cur' : Array Value, c ≤ cur'.size ∧ wr.heap[g]? = some (.cells cur' 42 (0, 0)))) (fun i _ => c - (intOf i).toNat)
    case atStart => exact ⟨0, Nat.zero_le _, rfl, hide (World.grownBy.refl _ _), hide ⟨cur, unhide HC, unhide HH⟩⟩
    case round =>
      clear HH HC
      obtain ⟨k, hk, rfl, HG, HH⟩ := hrel
      by_cases hlt : k < c
      · obtain ⟨cur', hc1, hc2⟩ := unhide HH
        have hcell : wr.cell? ⟨g, k, none⟩ = some (cur'[k]'(by omega)) := by
          have : k < cur'.size := by omega
          simp [World.cell?, hc2, this]
        have hfr : wr.frozen? ⟨g, k, none⟩ = false := by simp [World.frozen?, hc2]
        have HG2 := hide (grownBy_setCell (unhide HG) k (.int .u64 0))
        have HH2 : Hid (∃ cur'' : Array Value, c ≤ cur''.size ∧ (wr.setCell ⟨g, k, none⟩ (.int .u64 0)).heap[g]? = some (.cells cur'' 42 (0, 0))) := hide ⟨cur'.setIfInBounds k (.int .u64 0), by simpa using hc1, by simp [World.setCell, Array.getElem?_modify, hc2]⟩
        generalize cur'[k]'(by omega) = old at hcell
        clear HH HG hc1 hc2
        go_wp2
        go_roundw
        case rel => exact ⟨k + 1, by omega, by go_num, HG2, HH2⟩
        case measure => simp [intOf]; omega
      · obtain rfl : c = k := by omega
        go_wp2
        go_end0
        exact ⟨⟨_, rfl⟩, unhide HG⟩


/-- A call's answer: a slice of its own and an error. -/
def Fresh (T : TypeId) (w w' : World) (e : Ending) : Prop := ∃ v n xs, ∃ r : Int, e = .returned (.tuple #[v, .int .i64 r]) ∧ Made w' w.heap.size T 1 v n xs
theorem fresh_Spl {s : ByteArray} {k n : Int} {w w' : World} {e : Ending} (h : SplitOut s k n w w' e) : Fresh 9 w w' e := by
  rcases h with ⟨-, rfl⟩ | ⟨-, k', n', g, -, -, -, -, -, -, rfl, M⟩
  · exact ⟨_, 0, [], _, rfl, Made.nil⟩
  · exact ⟨_, _, _, 0, rfl, M⟩
theorem fresh_Mend {L : List ByteArray} {P Q : ByteArray} {lost : List Nat} {n m : Nat} {w w' : World} {e : Ending} (h : MendPost L P Q lost n m w w' e) : Fresh 9 w w' e := by
  rcases h with ⟨-, rfl⟩ | ⟨-, A, rfl, M⟩
  · exact ⟨_, 0, [], 8, rfl, Made.nil⟩
  · exact ⟨_, _, _, 0, rfl, M⟩

set_option maxRecDepth 100000 in
set_option maxHeartbeats 1000000 in
theorem leaves_no (A : Option Addr) (n c : Nat) (w : World) (hn : n < 1 ∨ 16 < n) :
    Calls Try.prog 44 #[.slice A n c] w fun e w' => e = .returned (.tuple #[.slice none 0 0, .int .i64 2]) ∧ w' = w := by
  rcases hn with h | h
  · obtain rfl : n = 0 := by omega
    go_enter Try.func44, Try.ntmps44
    go_wp2
    go_ret2
    exact ⟨rfl, rfl⟩
  · have h1 : ¬ (n : Int) < 1 := by omega
    have h2 : (16 : Int) < (n : Int) := by omega
    have h1n : ¬ n < 1 := by omega
    have h1z : ¬ n = 0 := by omega
    go_enter Try.func44, Try.ntmps44
    go_wp2
    go_ret2
    exact ⟨rfl, rfl⟩
set_option maxRecDepth 100000 in
set_option maxHeartbeats 1000000 in
theorem Prove_any (A : Option Addr) (n c : Nat) (k : Int) (l : List ByteArray) (w : World) (hl : Row w A n 1 (strs l)) (hn63 : n ≤ 9223372036854775807) (hs : ∀ s ∈ l, (s.size : Int) ≤ 9223372036854775807) :
    Calls Try.prog 18 #[.slice A n c, .int .i64 k] w fun e w' => Fresh 42 w w' e ∧ Ext w w' := by
  by_cases hb : n < 1 ∨ 16 < n
  · have CL := hide (leaves_no A n c w hb)
    clear hl hs hb
    go_enter Try.func18, Try.ntmps18
    go_wp2_with fail
    refine (unhide CL).mono ?_
    rintro e w1 ⟨rfl, rfl⟩
    go_wp2
    go_ret2
    exact ⟨⟨_, 0, [], 2, rfl, Made.nil⟩, Ext.refl _⟩
  · by_cases hk : 0 ≤ k ∧ k < n
    · obtain ⟨k', rfl⟩ := Int.eq_ofNat_of_zero_le hk.1
      refine (Prove_ok A n c k' l w (by omega) (by omega) (by omega) hl hs).mono ?_
      rintro e w' ⟨⟨v, rfl, hown⟩, E⟩
      exact ⟨⟨v, _, _, 0, rfl, Made.of_own hown⟩, E⟩
    · have CL := hide (leaves_any A n c l w (by omega) (by omega) hl hs)
      clear hl hs
      by_cases h0 : k < 0
      · go_enter Try.func18, Try.ntmps18
        go_wp2_with fail
        refine (unhide CL).mono ?_
        rintro e w1 ⟨⟨v, rfl, -⟩, E1⟩
        go_wp2
        go_ret2
        exact ⟨⟨_, 0, [], _, rfl, Made.nil⟩, E1⟩
      · have hkn : (n : Int) ≤ k := by omega
        go_enter Try.func18, Try.ntmps18
        go_wp2_with fail
        refine (unhide CL).mono ?_
        rintro e w1 ⟨⟨v, rfl, -⟩, E1⟩
        go_wp2
        go_ret2
        exact ⟨⟨_, 0, [], _, rfl, Made.nil⟩, E1⟩

set_option maxRecDepth 100000 in
set_option maxHeartbeats 1000000 in
theorem equal_strs (A B : Option Addr) (n c d : Nat) (xs : List ByteArray) (w : World) (R : Row w A n 1 (strs xs)) (S : Row w B n 1 (strs xs)) (hn : (n : Int) ≤ 9223372036854775807) :
    Calls Try.prog 21 #[.slice A n c, .slice B n d] w fun e w' => e = .returned (.bool true) ∧ ∃ k, w' = w.drewN k := by
  have hx := R.strN
  have HX := hide hx
  have HR := hide R
  have HS := hide S
  clear hx R S
  go_enter Try.func21, Try.ntmps21
  go_wp2
  go_loopw [13] (fun i wr => ∃ k : Nat, k ≤ n ∧ i = .int .i64 k ∧ ∃ q, wr = w.drewN q) (fun i _ => n - (intOf i).toNat)
  case atStart => exact ⟨0, by omega, rfl, 0, rfl⟩
  case round =>
    obtain ⟨k, hk, rfl, q, rfl⟩ := hrel
    by_cases hlt : k < n
    · obtain ⟨b, o, rfl, hb, c1⟩ := (unhide HR).str (k := k) (by have := unhide HX; omega)
      obtain ⟨b', o', rfl, hb', c2⟩ := (unhide HS).str (k := k) (by have := unhide HX; omega)
      have hk0 : (0 : Int) ≤ (k : Int) := by omega
      have hk1 : (k : Int) < (n : Int) := by omega
      generalize xs.getD k ByteArray.empty = y at *
      go_wp2
      go_quiet (fail)
      go_wp2
      go_roundw
      case rel => exact ⟨k + 1, by omega, by go_num, _, rfl⟩
      case measure => simp [intOf]; omega
    · obtain rfl : k = n := by omega
      go_wp2
      go_ret
      exact ⟨rfl, _, rfl⟩
end Go.Proofs.Ytkebldjepdhioaa
