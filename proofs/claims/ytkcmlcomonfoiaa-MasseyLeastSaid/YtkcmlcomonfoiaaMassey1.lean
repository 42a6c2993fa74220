/-
  Bits as bytes; the contracts of massey.Check, next and Next.
-/
import Derived.Test.YtkcmlcomonfoiaaMassey0
import Derived.Test.YtkcmlcomonfoiaaBits1
import Derived.Test.YtkcmlcomonfoiaaMake
import Derived.Test.YtkcmlcomonfoiaaApp
import Derived.Test.YtkcmlcomonfoiaaArith1
import Derived.BigRegion
import Derived.Deep.Cut
import Derived.Deep.CutRange
set_option linter.unusedVariables false
set_option linter.unusedSimpArgs false
namespace Go.Proofs.Ytkcmlcomonfoiaa
open Go.RowKit Go.BigFrame

theorem num_eqM {K : IntKind} {a b : Int} (h : a = b) : Value.int K a = Value.int K b := by rw [h]
/-- Bits as numbers. -/
def bsl (f : Nat → Bool) (n : Nat) : List Nat := (List.range n).map fun k => (f k).toNat
theorem bsl_length (f : Nat → Bool) (n : Nat) : (bsl f n).length = n := by simp [bsl]
theorem bsl_get (f : Nat → Bool) {n k : Nat} (h : k < n) : (bsl f n).getD k 0 = (f k).toNat := by
  unfold bsl
  rw [List.getD_eq_getElem?_getD, List.getElem?_map, List.getElem?_range h]; rfl
theorem bsl_take (f : Nat → Bool) {n m : Nat} (h : m ≤ n) : (bsl f n).take m = bsl f m := by
  unfold bsl
  rw [← List.map_take, List.take_range, Nat.min_eq_left h]
theorem bsl_congr {f g : Nat → Bool} {n : Nat} (h : ∀ k, k < n → f k = g k) : bsl f n = bsl g n :=
  List.map_congr_left fun k hk => by rw [h k (List.mem_range.1 hk)]
theorem bsl_succ (f : Nat → Bool) (n : Nat) : bsl f (n + 1) = bsl f n ++ [(f n).toNat] := by
  simp [bsl, List.range_succ]
theorem bit_lt (b : Bool) : b.toNat < 2 := by cases b <;> decide
theorem bit_xor (a b : Bool) : a.toNat ^^^ b.toNat = (xor a b).toNat := by cases a <;> cases b <;> rfl
theorem bit_and (a b : Bool) : a.toNat &&& b.toNat = (a && b).toNat := by cases a <;> cases b <;> rfl
theorem u8_bits (d a b : Bool) : bits .xor .u8 ((d.toNat : Nat) : Int) (bits .and .u8 ((a.toNat : Nat) : Int) ((b.toNat : Nat) : Int)) = (((xor d (a && b)).toNat : Nat) : Int) := by
  rw [u8_and_nat _ _ (by have := bit_lt a; omega) (by have := bit_lt b; omega), bit_and, u8_xor_nat _ _ (by have := bit_lt d; omega) (by have := bit_lt (a && b); omega), bit_xor]

/-- A slice of bits. -/
def RowB (w : World) (A : Option Addr) (n : Nat) (f : Nat → Bool) : Prop := Row w A n 1 (nats .u8 (bsl f n))
section
variable {w w' : World} {A : Option Addr} {n : Nat} {f : Nat → Bool}
theorem RowB.keep (h : RowB w A n f) (E : Ext w w') : RowB w' A n f := Row.keep h E
theorem RowB.bit (h : RowB w A n f) {k : Nat} (hk : k < n) : ∃ b o, A = some ⟨b, o, none⟩ ∧ b < w.heap.size ∧ w.cell? ⟨b, o + k, none⟩ = some (.int .u8 (((f k).toNat : Nat) : Int)) := by
  obtain ⟨b, o, h1, h2, h3⟩ := Row.nat h hk
  rw [bsl_get f hk] at h3
  exact ⟨b, o, h1, h2, h3⟩
theorem RowB.take (h : RowB w A n f) {m : Nat} (hm : m ≤ n) : RowB w A m f := by
  have := Row.take h hm
  rw [Nat.mul_one, nats_take, bsl_take f hm] at this
  exact this
end

set_option maxRecDepth 100000 in
theorem indexf_bits (A : Option Addr) (n c : Nat) (f : Nat → Bool) (w : World) (R : RowB w A n f) (hn : n ≤ 60) :
    Calls Try.prog 64 #[.slice A n c, .func (.func 55) #[] #[]] w fun e w' => e = .returned (.int .i64 (-1)) ∧ w' = w := by
  go_enter Try.func64, Try.ntmps64
  go_wp2
  go_loopw [8] (fun i wr => ∃ k : Nat, k ≤ n ∧ i = .int .i64 k ∧ wr = w) (fun i _ => n - (intOf i).toNat)
  case atStart => exact ⟨0, Nat.zero_le _, rfl, rfl⟩
  case round =>
    obtain ⟨k, hk, rfl, rfl⟩ := hrel
    by_cases hlt : k < n
    · obtain ⟨b, o, rfl, hb, hc⟩ := R.bit hlt
      have hlt2 : ¬ (1 : Int) < (((f k).toNat : Nat) : Int) := by have := bit_lt (f k); omega
      generalize (f k).toNat = x at *
      clear R
      go_wp2_with (go_in)
      go_roundw
      case rel => exact ⟨k + 1, by omega, num_eqM (by omega), by first | rfl | trivial⟩
      case measure => simp [intOf]; omega
    · obtain rfl : k = n := by omega
      clear R
      go_wp2
      go_ret
      exact ⟨rfl, rfl⟩
theorem containsf_bits (A : Option Addr) (n c : Nat) (f : Nat → Bool) (w : World) (R : RowB w A n f) (hn : n ≤ 60) :
    Calls Try.prog 54 #[.slice A n c, .func (.func 55) #[] #[]] w fun e w' => e = .returned (.bool false) ∧ w' = w := by
  have C := hide (indexf_bits A n c f w R hn)
  clear R
  go_enter Try.func54, Try.ntmps54
  go_wp2_with fail
  refine (unhide C).mono ?_
  rintro e w' ⟨rfl, rfl⟩
  go_wp2
  go_ret
  exact ⟨rfl, rfl⟩
theorem mcheck_ok (A : Option Addr) (n c : Nat) (f : Nat → Bool) (w : World) (R : RowB w A n f) (hn : n ≤ 60) :
    Calls Try.prog 32 #[.slice A n c] w fun e w' => e = .returned (.int .i64 0) ∧ w' = w := by
  have C := hide (containsf_bits A n c f w R hn)
  clear R
  go_enter Try.func32, Try.ntmps32
  go_wp2_with fail
  refine (unhide C).mono ?_
  rintro e w' ⟨rfl, rfl⟩
  go_wp2
  go_ret
  exact ⟨rfl, rfl⟩
set_option maxRecDepth 100000 in
theorem next_ok (A : Option Addr) (n c : Nat) (f : Nat → Bool) (B : Option Addr) (m d : Nat) (r : Nat → Bool) (w : World) (R : RowB w A n f) (R2 : RowB w B m r) (hn : n ≤ 60) (hm : m ≤ n) :
    Calls Try.prog 34 #[.slice A n c, .slice B m d] w fun e w' => e = .returned (.int .u8 (((Wm.xs (fun k => r k && f (n - 1 - k)) m).toNat : Nat) : Int)) ∧ w' = w := by
  obtain ⟨g, hg⟩ : ∃ g, g = fun k => r k && f (n - 1 - k) := ⟨_, rfl⟩
  rw [← hg]
  have HG := hide hg
  clear hg
  go_enter Try.func34, Try.ntmps34
  go_wp2
  go_loopw [5, 10] (fun v i wr => ∃ k : Nat, k ≤ m ∧ i = .int .i64 k ∧ v = .int .u8 (((Wm.xs g k).toNat : Nat) : Int) ∧ wr = w) (fun _ i _ => m - (intOf i).toNat)
  case atStart => exact ⟨0, Nat.zero_le _, rfl, rfl, rfl⟩
  case round =>
    obtain ⟨k, hk, rfl, rfl, rfl⟩ := hrel
    by_cases hlt : k < m
    · obtain ⟨b, o, rfl, hb, hc⟩ := R.bit (k := n - 1 - k) (by omega)
      obtain ⟨b2, o2, rfl, hb2, hc2⟩ := R2.bit hlt
      have hstep : Wm.xs g (k + 1) = xor (Wm.xs g k) (r k && f (n - 1 - k)) := by
        show xor (Wm.xs g k) (g k) = _
        rw [unhide HG]
      have hx := u8_bits (Wm.xs g k) (r k) (f (n - 1 - k))
      rw [← hstep] at hx
      have hw1 : IntKind.i64.wrap ((n : Int) - 1) = (n : Int) - 1 := IntWalk.i64_in _ (by omega)
      have hw2 : IntKind.i64.wrap ((n : Int) - 1 - (k : Int)) = (n : Int) - 1 - k := IntWalk.i64_in _ (by omega)
      have h0 : (0 : Int) ≤ (n : Int) - 1 - k := by omega
      have h1 : (n : Int) - 1 - k < n := by omega
      clear R R2 hstep
      obtain ⟨y, hy⟩ : ∃ y, y = Wm.xs g (k + 1) := ⟨_, rfl⟩
      rw [← hy] at hx
      have HY := hide hy
      clear hy
      obtain ⟨z, hz⟩ : ∃ z, z = Wm.xs g k := ⟨_, rfl⟩
      rw [← hz] at hx ⊢
      clear hz
      generalize (f (n - 1 - k)) = u at *
      generalize r k = v at *
      go_wp2
      go_roundw
      case rel => exact ⟨k + 1, by omega, num_eqM (by omega), by rw [← unhide HY], by first | rfl | trivial⟩
      case measure => simp [intOf]; omega
    · obtain rfl : k = m := by omega
      clear R R2 HG
      go_wp2
      go_ret
      exact ⟨rfl, rfl⟩
theorem Next_ok (A : Option Addr) (n c : Nat) (f : Nat → Bool) (B : Option Addr) (m d : Nat) (r : Nat → Bool) (w : World) (R : RowB w A n f) (R2 : RowB w B m r) (hn : n ≤ 60) (hm : m ≤ n) :
    Calls Try.prog 14 #[.slice A n c, .slice B m d] w fun e w' => e = .returned (.tuple #[.int .u8 (((Wm.xs (fun k => r k && f (n - 1 - k)) m).toNat : Nat) : Int), .int .i64 0]) ∧ w' = w := by
  have C1 := hide (mcheck_ok A n c f w R hn)
  have C2 := hide (mcheck_ok B m d r w R2 (by omega))
  have C3 := hide (next_ok A n c f B m d r w R R2 hn hm)
  generalize Wm.xs (fun k => r k && f (n - 1 - k)) m = x at *
  clear R R2
  go_enter Try.func14, Try.ntmps14
  go_wp2_with fail
  refine (unhide C1).mono ?_
  rintro e w' ⟨rfl, rfl⟩
  go_wp2_with fail
  refine (unhide C2).mono ?_
  rintro e w' ⟨rfl, rfl⟩
  go_wp2_with fail
  refine (unhide C3).mono ?_
  rintro e w' ⟨rfl, rfl⟩
  go_wp2
  go_ret2
  exact ⟨rfl, rfl⟩
end Go.Proofs.Ytkcmlcomonfoiaa
