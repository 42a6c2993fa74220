import Derived.Test.YtpenkbhljkmliaaGreatDoorReed4
import Derived.Test.YtpenkbhljkmliaaGreatDoorArith1
import Derived.Test.YtpenkbhljkmliaaGreatDoorLaw
/-
  The laws' helpers: rows, cells.
-/
set_option linter.unusedVariables false
set_option linter.unusedSimpArgs false
namespace Wm
/-- The cells of a row, those of a set. -/
def cellsL (bs : List Nat) (s : Nat) (x : Nat) : List (Bool × Nat) := (List.range x).map fun i => (s.testBit i, if s.testBit i then bs.getD i 0 else 0)
theorem cellsL_length (bs : List Nat) (s x : Nat) : (cellsL bs s x).length = x := by simp [cellsL]
theorem cellsL_succ (bs : List Nat) (s x : Nat) : cellsL bs s (x + 1) = cellsL bs s x ++ [(s.testBit x, if s.testBit x then bs.getD x 0 else 0)] := by simp [cellsL, List.range_succ]
theorem cellsL_get (bs : List Nat) (s : Nat) {x i : Nat} (h : i < x) : (cellsL bs s x).getD i (false, 0) = (s.testBit i, if s.testBit i then bs.getD i 0 else 0) := by
  unfold cellsL
  rw [List.getD_eq_getElem?_getD, List.getElem?_map, List.getElem?_range h]
  rfl
end Wm
namespace Go.Proofs.YtpenkbhljkmliaaGreatDoor
open Go.RowKit Go.BigFrame

theorem put57 : Wm.putL [5, 7] 3 = [5, 7, (Wm.putL [5, 7] 3).getD 2 0] ∧ (Wm.putL [5, 7] 3).getD 2 0 ≠ 5 ∧ (Wm.putL [5, 7] 3).getD 2 0 < 256 := by decide +kernel

theorem u32_bit (s x : Nat) (hs : s < 4294967296) : bits .and .u32 ((s : Int) / 2 ^ x) 1 = (((s.testBit x).toNat : Nat) : Int) := by
  have h1 : ((s : Int) / 2 ^ x) = ((s / 2 ^ x : Nat) : Int) := by rw [Int.natCast_ediv, Int.natCast_pow]; rfl
  have h2 : s / 2 ^ x < 2 ^ 32 := Nat.lt_of_le_of_lt (Nat.div_le_self _ _) hs
  rw [h1, Nat.toNat_testBit]
  show IntKind.u32.wrap ((BitVec.ofInt 32 ((s / 2 ^ x : Nat) : Int) &&& BitVec.ofInt 32 ((1 : Nat) : Int)).toNat : Int) = _
  rw [BitVec.toNat_and, ofInt_nat 32 _ h2, ofInt_nat 32 1 (by omega), Nat.and_one_is_mod]
  exact IntWalk.u32_in _ (by omega)

theorem cellR : EInfo Tryz.prog 181 183 (.agg #[.bool false, .int .u8 0]) 2 2 := EInfo.mk_ Tryz.underlying181 (by kernel_rfl) rfl (by omega)

end Go.Proofs.YtpenkbhljkmliaaGreatDoor

/-
  Put, whatever it is given; and two rows of bytes compared.
-/
set_option linter.unusedVariables false
set_option linter.unusedSimpArgs false
namespace Wm
theorem putL_lt {d : List Nat} {n : Nat} (hd : B256 d) (hk : d.length ≤ n) (hn : n ≤ 256) : B256 (putL d n) := rowL_lt (B256.range (by omega)) hd hn
end Wm
namespace Go.Proofs.YtpenkbhljkmliaaGreatDoor
open Go.RowKit Go.BigFrame

/-- A number that Put takes. -/
theorem put_nat {n : Nat} {N : Int} (h : putErr n N = 0) : ∃ m : Nat, N = m ∧ 1 ≤ n ∧ n ≤ m ∧ m ≤ 20 := by
  unfold putErr at h
  by_cases a : n < 1 ∨ 20 < n
  · rw [if_pos a] at h; exact absurd h (by omega)
  · rw [if_neg a] at h
    by_cases b : N < n ∨ 20 < N
    · rw [if_pos b] at h; exact absurd h (by omega)
    · exact ⟨N.toNat, by omega, by omega, by omega, by omega⟩
/-- What Put answers. -/
def PutOut (w w' : World) (k : Nat) (N : Int) (d : List Nat) (e : Ending) : Prop :=
  (putErr k N ≠ 0 ∧ e = .returned (.tuple #[.slice none 0 0, .int .i64 (putErr k N)])) ∨
  (putErr k N = 0 ∧ ∃ m : Nat, N = m ∧ 1 ≤ k ∧ k ≤ m ∧ m ≤ 20 ∧ ∃ v, e = .returned (.tuple #[v, .int .i64 0]) ∧ Made w' w.heap.size 5 1 v m (nats .u8 (Wm.putL d m)))
theorem Put_any (A : Option Addr) (k c : Nat) (N : Int) (d : List Nat) (w : World) (R : Row w A k 1 (nats .u8 d)) (hd : Wm.B256 d) :
    Calls Tryz.prog 109 #[.slice A k c, .int .i64 N] w fun e w' => PutOut w w' k N d e ∧ Ext w w' := by
  by_cases hp : putErr k N = 0
  · obtain ⟨m, rfl, h1, h2, h3⟩ := put_nat hp
    refine (Put_ok A k c m d w R hd h1 h2 h3).mono ?_
    rintro e w' ⟨⟨v, hv, M⟩, E⟩
    exact ⟨.inr ⟨hp, m, rfl, h1, h2, h3, v, hv, M⟩, E⟩
  · refine (Put_bad A k c N w hp).mono ?_
    rintro e w' ⟨he, rfl⟩
    exact ⟨.inl ⟨hp, he⟩, Ext.refl _⟩
/-- The answer's two halves. -/
theorem PutOut.halves {w w' : World} {k : Nat} {N : Int} {d : List Nat} {e : Ending} (h : PutOut w w' k N d e) : ∃ v q, e = .returned (.tuple #[v, .int .i64 q]) ∧ q = putErr k N ∧
    (q ≠ 0 → v = .slice none 0 0) ∧ (q = 0 → ∃ m : Nat, N = m ∧ 1 ≤ k ∧ k ≤ m ∧ m ≤ 20 ∧ Made w' w.heap.size 5 1 v m (nats .u8 (Wm.putL d m))) := by
  rcases h with ⟨hp, rfl⟩ | ⟨hp, m, hN, h1, h2, h3, v, rfl, M⟩
  · exact ⟨_, _, rfl, rfl, fun _ => rfl, fun h => absurd h hp⟩
  · exact ⟨_, _, rfl, hp.symm, fun h => absurd rfl h, fun _ => ⟨m, hN, h1, h2, h3, M⟩⟩
end Go.Proofs.YtpenkbhljkmliaaGreatDoor
