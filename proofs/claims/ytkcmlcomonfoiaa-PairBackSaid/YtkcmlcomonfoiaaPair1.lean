/-
  Parities of blocks: plain, and the contracts of the small functions of the package pair.
-/
import Derived.Test.YtkcmlcomonfoiaaField1
import Derived.Test.YtkcmlcomonfoiaaStrs
import Derived.Test.YtkcmlcomonfoiaaMake
import Derived.Test.YtkcmlcomonfoiaaApp
import Derived.Test.YtkcmlcomonfoiaaArith1
import Derived.Test.YtkcmlcomonfoiaaTri
import Derived.BigRegion
import Derived.Deep.Cut
import Derived.Deep.CutRange
set_option linter.unusedVariables false
set_option linter.unusedSimpArgs false
namespace Go.Proofs.Ytkcmlcomonfoiaa
open Go.RowKit Go.BigFrame

theorem num_eqP {K : IntKind} {a b : Int} (h : a = b) : Value.int K a = Value.int K b := by rw [h]
/-- A byte of a string. -/
def byt (s : ByteArray) (k : Nat) : Nat := (s.data.getD k 0).toNat
theorem byt_lt (s : ByteArray) (k : Nat) : byt s k < 256 := UInt8.toNat_lt _
theorem byt_get (s : ByteArray) (k : Nat) (h : k < s.size) : (s[k]'h).toNat = byt s k := by
  unfold byt
  rw [Array.getD_eq_getD_getElem?, Array.getElem?_eq_getElem (by simpa using h)]; rfl
/-- The parities at place k, over the first i blocks, but for the lost ones. -/
def pc (L : List ByteArray) (lost : List Int) (k : Nat) : Nat → Nat
  | 0 => 0
  | i + 1 => if (i : Int) ∈ lost then pc L lost k i else pc L lost k i ^^^ byt (L.getD i ByteArray.empty) k
def qc (L : List ByteArray) (lost : List Int) (k : Nat) : Nat → Nat
  | 0 => 0
  | i + 1 => if (i : Int) ∈ lost then qc L lost k i else qc L lost k i ^^^ Wm.fmul (byt (L.getD i ByteArray.empty) k) (Wm.fpow 2 i)
theorem pc_lt (L : List ByteArray) (lost : List Int) (k : Nat) : ∀ i, pc L lost k i < 256
  | 0 => by show 0 < 256; omega
  | i + 1 => by
    simp only [pc]
    split
    · exact pc_lt L lost k i
    · exact Wm.xor_lt (pc_lt L lost k i) (byt_lt _ _)
theorem qc_lt (L : List ByteArray) (lost : List Int) (k : Nat) : ∀ i, qc L lost k i < 256
  | 0 => by show 0 < 256; omega
  | i + 1 => by
    simp only [qc]
    split
    · exact qc_lt L lost k i
    · exact Wm.xor_lt (qc_lt L lost k i) (Wm.fmul_lt (byt_lt _ _) (Wm.fpow_lt (by omega) _))

set_option maxRecDepth 100000 in
theorem index_nil (x : Int) (w : World) : Calls Try.prog 65 #[.slice none 0 0, .int .i64 x] w fun e w' => e = .returned (.int .i64 (-1)) ∧ w' = w := by
  go_enter Try.func65, Try.ntmps65
  go_wp2
  go_loopw [8] (fun i wr => i = .int .i64 0 ∧ wr = w) (fun _ _ => 0)
  case atStart => exact ⟨rfl, rfl⟩
  case round =>
    obtain ⟨rfl, rfl⟩ := hrel
    go_wp2
    go_ret
    exact ⟨rfl, rfl⟩
set_option maxRecDepth 100000 in
theorem index_int (A : Option Addr) (n c : Nat) (l : List Int) (x : Int) (w : World) (R : Row w A n 1 (ints l)) (hn : n ≤ 1000) :
    Calls Try.prog 65 #[.slice A n c, .int .i64 x] w fun e w' => (∃ r : Int, e = .returned (.int .i64 r) ∧ decide (0 ≤ r) = decide (x ∈ l)) ∧ w' = w := by
  have hlen := R.num
  go_enter Try.func65, Try.ntmps65
  go_wp2
  go_loopw [8] (fun i wr => ∃ k : Nat, k ≤ n ∧ i = .int .i64 k ∧ Hid (∀ j, j < k → l.getD j 0 ≠ x) ∧ wr = w) (fun i _ => n - (intOf i).toNat)
  case atStart => exact ⟨0, Nat.zero_le _, rfl, hide (fun j h => by omega), rfl⟩
  case round =>
    obtain ⟨k, hk, rfl, hz, rfl⟩ := hrel
    by_cases hlt : k < n
    · obtain ⟨b, o, rfl, hb, hc⟩ := R.int hlt
      have hmem := getD_mem l 0 (show k < l.length by omega)
      by_cases he : l.getD k 0 = x
      · rw [he] at hc hmem
        have HM := hide hmem
        clear hmem he R hlen hz
        have hxx : (x == x) = true := by simp
        go_wp2
        go_ret
        exact ⟨⟨k, rfl, by rw [decide_eq_true (unhide HM)]; exact decide_eq_true (by omega)⟩, rfl⟩
      · have hz2 : ∀ j, j < k + 1 → l.getD j 0 ≠ x := fun j hj => by
          by_cases h : j < k
          · exact unhide hz j h
          · obtain rfl : j = k := by omega
            exact he
        have HZ := hide hz2
        have hxx : (x == l.getD k 0) = false := by rw [beq_eq_false_iff_ne]; exact fun e => he e.symm
        have hxx' : ¬ x = l.getD k 0 := fun e => he e.symm
        generalize l.getD k 0 = y at *
        clear R hlen hz hz2 hmem he
        go_wp2
        go_roundw
        case rel => exact ⟨k + 1, by omega, num_eqP (by omega), HZ, by first | rfl | trivial⟩
        case measure => simp [intOf]; omega
    · obtain rfl : k = n := by omega
      have hno : x ∉ l := fun h => by
        obtain ⟨j, hj, e⟩ := List.getElem_of_mem h
        refine unhide hz j (by omega) ?_
        rw [List.getD_eq_getElem?_getD, List.getElem?_eq_getElem hj]
        exact e
      have HN := hide hno
      clear R hlen hz hno
      go_wp2
      go_ret
      exact ⟨⟨-1, rfl, by rw [decide_eq_false (unhide HN)]; rfl⟩, rfl⟩
theorem contains_int (A : Option Addr) (n c : Nat) (l : List Int) (x : Int) (w : World) (R : Row w A n 1 (ints l)) (hn : n ≤ 1000) :
    Calls Try.prog 57 #[.slice A n c, .int .i64 x] w fun e w' => e = .returned (.bool (decide (x ∈ l))) ∧ w' = w := by
  have C := hide (index_int A n c l x w R hn)
  clear R hn
  go_enter Try.func57, Try.ntmps57
  go_wp2_with fail
  refine (unhide C).mono ?_
  rintro e w' ⟨⟨r, rfl, hr⟩, rfl⟩
  have HR := hide hr
  clear hr
  go_wp2
  go_ret
  exact ⟨ret_boolv (unhide HR), rfl⟩

theorem weight_ok (i : Nat) (hi : i ≤ 1000) (w : World) : Calls Try.prog 42 #[.int .i64 i] w fun e w' => e = .returned (.int .u8 (Wm.fpow 2 i)) ∧ w' = w := by
  have C := hide (fun w : World => fpow_any 2 i (by omega) (by omega) w)
  generalize Wm.fpow 2 i = x at *
  go_enter Try.func42, Try.ntmps42
  go_wp2_with fail
  refine (unhide C _).mono ?_
  rintro e w' ⟨rfl, rfl⟩
  go_wp2
  go_ret
  exact ⟨rfl, rfl⟩

/-- What check tells. -/
def okB (L : List ByteArray) : Prop := 1 ≤ L.length ∧ L.length ≤ 10 ∧ ∀ s ∈ L, s.size ≤ 64 ∧ s.size = (L.getD 0 ByteArray.empty).size
set_option maxRecDepth 100000 in
set_option maxHeartbeats 1000000 in
theorem pcheck_any (A : Option Addr) (n c : Nat) (L : List ByteArray) (w : World) (R : Row w A n 1 (strs L)) (hn : n ≤ 9223372036854775807) (hs : ∀ s ∈ L, (s.size : Int) ≤ 9223372036854775807) :
    Calls Try.prog 39 #[.slice A n c] w fun e w' => (∃ r : Int, e = .returned (.int .i64 r) ∧ ((okB L ∧ r = 0) ∨ (¬ okB L ∧ r ≠ 0))) ∧ w' = w := by
  have hlen := R.strN
  by_cases h1 : n < 1
  · have hno : ¬ okB L := fun h => by have := h.1; omega
    obtain rfl : n = 0 := by omega
    have HN := hide hno
    clear R hlen hs hno
    go_enter Try.func39, Try.ntmps39
    go_wp2
    go_ret
    exact ⟨⟨2, rfl, .inr ⟨unhide HN, by omega⟩⟩, rfl⟩
  · by_cases h2 : 10 < n
    · have hno : ¬ okB L := fun h => by have := h.2.1; omega
      have h1I : ¬ (n : Int) < 1 := by omega
      have h2I : (10 : Int) < (n : Int) := by omega
      have HN := hide hno
      clear R hlen hs hno hn h1 h2
      go_enter Try.func39, Try.ntmps39
      go_wp2
      go_ret
      exact ⟨⟨2, rfl, .inr ⟨unhide HN, by omega⟩⟩, rfl⟩
    · have h1I : ¬ (n : Int) < 1 := by omega
      have h2I : ¬ (10 : Int) < (n : Int) := by omega
      have hd1 : decide ((n : Int) < 1) = false := decide_eq_false h1I
      have hd2 : decide ((10 : Int) < (n : Int)) = false := decide_eq_false h2I
      obtain ⟨b, o, rfl, hb, hc0⟩ := R.str (k := 0) (by omega)
      have HS := hide hs
      clear hs hn
      obtain ⟨s0, hs0⟩ : ∃ s0, s0 = L.getD 0 ByteArray.empty := ⟨_, rfl⟩
      rw [← hs0, Nat.add_zero] at hc0
      have HOK : Hid (∀ (_ : ∀ j, j < n → (L.getD j ByteArray.empty).size ≤ 64 ∧ (L.getD j ByteArray.empty).size = s0.size), okB L) := hide fun h => ⟨by omega, by omega, fun s hs => by
        obtain ⟨j, hj, e⟩ := List.getElem_of_mem hs
        have := h j (by omega)
        rw [List.getD_eq_getElem?_getD, List.getElem?_eq_getElem hj] at this
        rw [← hs0, ← e]
        exact this⟩
      have HNO : Hid (∀ k, k < n → ((64 < (L.getD k ByteArray.empty).size) ∨ (L.getD k ByteArray.empty).size ≠ s0.size) → ¬ okB L) := hide fun k hk h hok => by
        have := hok.2.2 _ (getD_mem L ByteArray.empty (show k < L.length by omega))
        rw [← hs0] at this
        omega
      clear hs0
      go_enter Try.func39, Try.ntmps39
      go_wp2
      go_loopw [15] (fun i wr => ∃ k : Nat, k ≤ n ∧ i = .int .i64 k ∧ Hid (∀ j, j < k → (L.getD j ByteArray.empty).size ≤ 64 ∧ (L.getD j ByteArray.empty).size = s0.size) ∧ wr = w) (fun i _ => n - (intOf i).toNat)
      case atStart => exact ⟨0, Nat.zero_le _, rfl, hide (fun j h => by omega), rfl⟩
      case round =>
        obtain ⟨k, hk, rfl, hz, rfl⟩ := hrel
        by_cases hlt : k < n
        · obtain ⟨b', o', e', hb', hc⟩ := R.str hlt
          injection e' with e'
          injection e' with e1 e2
          subst e1; subst e2
          have hno := unhide HNO k hlt
          have hyes : ∀ (_ : (L.getD k ByteArray.empty).size ≤ 64 ∧ (L.getD k ByteArray.empty).size = s0.size), ∀ j, j < k + 1 → (L.getD j ByteArray.empty).size ≤ 64 ∧ (L.getD j ByteArray.empty).size = s0.size := fun h j hj => by
            by_cases hjk : j < k
            · exact unhide hz j hjk
            · obtain rfl : j = k := by omega
              exact h
          have HY := hide hyes
          have HNOk := hide hno
          generalize L.getD k ByteArray.empty = s at *
          clear R hlen hz hno hyes HNO HOK HS
          by_cases t1 : 64 < s.size
          · have hno := unhide HNOk (.inl t1)
            have t1I : (64 : Int) < (s.size : Int) := by omega
            have HN := hide hno
            clear hno HNOk HY t1
            go_wp2
            go_ret
            exact ⟨⟨2, rfl, .inr ⟨unhide HN, by omega⟩⟩, rfl⟩
          · have t1I : ¬ (64 : Int) < (s.size : Int) := by omega
            by_cases t2 : s.size = s0.size
            · have hy := unhide HY ⟨by omega, t2⟩
              have t2I : ((s.size : Int) != (s0.size : Int)) = false := by rw [t2]; simp
              have HY2 := hide hy
              clear hy HY HNOk t2
              go_wp2
              go_roundw
              case rel => exact ⟨k + 1, by omega, num_eqP (by omega), HY2, by first | rfl | trivial⟩
              case measure => simp [intOf]; omega
            · have hno := unhide HNOk (.inr t2)
              have t2I : ((s.size : Int) != (s0.size : Int)) = true := by rw [bne_iff_ne]; omega
              have t2J : ¬ (s.size : Int) = (s0.size : Int) := by omega
              have HN := hide hno
              clear hno HNOk HY
              go_wp2
              go_ret
              exact ⟨⟨3, rfl, .inr ⟨unhide HN, by omega⟩⟩, rfl⟩
        · obtain rfl : k = n := by omega
          have hok := unhide HOK (unhide hz)
          have HO := hide hok
          clear hok hz R
          go_wp2
          go_ret
          exact ⟨⟨0, rfl, .inl ⟨unhide HO, rfl⟩⟩, rfl⟩
end Go.Proofs.Ytkcmlcomonfoiaa
