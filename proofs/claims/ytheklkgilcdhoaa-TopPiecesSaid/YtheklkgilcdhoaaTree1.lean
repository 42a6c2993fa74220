/-
  The contracts of the hash functions of trees.
-/
import Derived.Test.YtheklkgilcdhoaaTree0
import Derived.Test.YtheklkgilcdhoaaApp
import Derived.Test.YtheklkgilcdhoaaArith1
import Derived.Test.YtheklkgilcdhoaaLaw
set_option linter.unusedVariables false
set_option linter.unusedSimpArgs false
namespace Go.Proofs.Ytheklkgilcdhoaa
open Go.RowKit

theorem num_eq {K : IntKind} {a b : Int} (h : a = b) : Value.int K a = Value.int K b := by rw [h]
theorem u64_wrap_in (x : Int) : 0 ≤ IntKind.u64.wrap x ∧ IntKind.u64.wrap x < 18446744073709551616 := by
  rw [IntKind.wrap_u64]
  exact ⟨Int.emod_nonneg _ (by omega), Int.emod_lt_of_pos _ (by omega)⟩
theorem u64_xor_in (x y : Int) : 0 ≤ bits .xor .u64 x y ∧ bits .xor .u64 x y < 18446744073709551616 := u64_wrap_in _

def mixI (x k : Int) : Int :=
  bits .xor .u64 (IntKind.u64.wrap (bits .xor .u64 (bits .xor .u64 x k) (bits .xor .u64 x k / 2147483648) * 11400714819323198485))
    (IntKind.u64.wrap (bits .xor .u64 (bits .xor .u64 x k) (bits .xor .u64 x k / 2147483648) * 11400714819323198485) / 536870912)
theorem mixI_in (x k : Int) : 0 ≤ mixI x k ∧ mixI x k < 18446744073709551616 := u64_xor_in _ _
theorem mix_any (x k : Int) (w : World) :
    Calls Try.prog 30 #[.int .u64 x, .int .u64 k] w fun e w' => e = .returned (.int .u64 (mixI x k)) ∧ w' = w := by
  go_enter Try.func30, Try.ntmps30
  go_wp2
  go_ret
  exact ⟨rfl, rfl⟩

def nodeI (l r : Int) : Int := mixI (IntKind.u64.wrap (IntKind.u64.wrap (mixI l 5 * 3) + r)) 3
theorem node_any (l r : Int) (w : World) :
    Calls Try.prog 21 #[.int .u64 l, .int .u64 r] w fun e w' => e = .returned (.int .u64 (nodeI l r)) ∧ w' = w := by
  have C := hide mix_any
  have e : nodeI l r = mixI (IntKind.u64.wrap (IntKind.u64.wrap (mixI l 5 * 3) + r)) 3 := rfl
  rw [e]
  clear e
  go_enter Try.func21, Try.ntmps21
  go_wp2_with fail
  refine (unhide C _ _ _).mono ?_
  rintro e w' ⟨rfl, rfl⟩
  go_wp2_with fail
  go_wp2_with fail
  refine (unhide C _ _ _).mono ?_
  rintro e w' ⟨rfl, rfl⟩
  go_wp2
  go_ret
  exact ⟨rfl, rfl⟩
def nd (l r : Nat) : Nat := (nodeI l r).toNat
theorem nd_cast (l r : Nat) : ((nd l r : Nat) : Int) = nodeI l r := Int.toNat_of_nonneg (mixI_in _ _).1
theorem Node_any (l r : Nat) (w : World) :
    Calls Try.prog 21 #[.int .u64 l, .int .u64 r] w fun e w' => e = .returned (.int .u64 (nd l r)) ∧ w' = w := by
  rw [nd_cast]
  exact node_any _ _ w

def leafAt (s : ByteArray) : Nat → Int
  | 0 => (s.size : Int)
  | i + 1 => IntKind.u64.wrap (bits .xor .u64 (leafAt s i) (IntKind.u64.wrap ((s.data.getD i 0).toNat : Int)) * 1099511628211)
def leafI (s : ByteArray) : Int := mixI (leafAt s s.size) 2
def lf (s : ByteArray) : Nat := (leafI s).toNat
theorem lf_cast (s : ByteArray) : ((lf s : Nat) : Int) = leafI s := Int.toNat_of_nonneg (mixI_in _ _).1

set_option maxRecDepth 100000 in
theorem Leaf_any (s : ByteArray) (w : World) (hs : (s.size : Int) ≤ 9223372036854775807) :
    Calls Try.prog 20 #[.string s] w fun e w' => e = .returned (.int .u64 (lf s)) ∧ w' = w := by
  rw [lf_cast]
  have C := hide mix_any
  have hw : IntKind.u64.wrap (s.size : Int) = (s.size : Int) := by rw [IntKind.wrap_u64]; omega
  go_enter Try.func20, Try.ntmps20
  go_wp2
  go_loopw [3, 10] (fun x i wr => ∃ k : Nat, k ≤ s.size ∧ i = .int .i64 k ∧ x = .int .u64 (leafAt s k) ∧ wr = w) (fun _ i _ => s.size - (intOf i).toNat)
  case atStart => exact ⟨0, Nat.zero_le _, rfl, rfl, rfl⟩
  case round =>
    obtain ⟨k, hk, rfl, rfl, rfl⟩ := hrel
    by_cases hlt : k < s.size
    · have hd : s.data[k]? = some (s.data.getD k 0) := by
        rw [Array.getD_eq_getD_getElem?, Array.getElem?_eq_getElem (by simpa using hlt)]; rfl
      have hn : leafAt s (k + 1) = IntKind.u64.wrap (bits .xor .u64 (leafAt s k) (IntKind.u64.wrap ((s[k]'hlt).toNat : Int)) * 1099511628211) := by
        rw [leafAt]
        have : s.data.getD k 0 = s[k]'hlt := by rw [Array.getD_eq_getD_getElem?, hd, Option.getD_some, Array.getD_eq_getD_getElem?, Array.getElem?_eq_getElem (by simpa using hlt)]; rfl
        rw [this]
      have HN := hide hn
      clear hn hd
      go_wp2
      go_roundw
      case rel => exact ⟨k + 1, by omega, num_eq (by push_cast; rfl), by rw [unhide HN], by first | rfl | trivial⟩
      case measure => simp [intOf]; omega
    · obtain rfl : k = s.size := by omega
      go_wp2_with fail
      go_wp2_with fail
      refine (unhide C _ _ _).mono ?_
      rintro e w' ⟨rfl, rfl⟩
      go_wp2
      go_ret
      exact ⟨rfl, rfl⟩
end Go.Proofs.Ytheklkgilcdhoaa
