/-
  The contracts of reed.Put and reed.Check.
-/
import Derived.Test.YtpenkbhljkmliaaGreatDoorReed2
import Derived.Test.YtpenkbhljkmliaaGreatDoorTri
set_option linter.unusedVariables false
set_option linter.unusedSimpArgs false
namespace Go.Proofs.YtpenkbhljkmliaaGreatDoor
open Go.RowKit Go.BigFrame

theorem intR : EInfo Tryz.prog 61 3 (.int .i64 0) 1 8 := EInfo.mk_ Tryz.underlying61 (by kernel_rfl) rfl (by omega)

set_option maxRecDepth 100000 in
set_option maxHeartbeats 2000000 in
theorem Put_ok (A : Option Addr) (k c n : Nat) (d : List Nat) (w : World) (R : Row w A k 1 (nats .u8 d)) (hd : Wm.B256 d) (h1 : 1 ≤ k) (hkn : k ≤ n) (hn : n ≤ 20) :
    Calls Tryz.prog 109 #[.slice A k c, .int .i64 n] w fun e w' => (∃ v, e = .returned (.tuple #[v, .int .i64 0]) ∧ Made w' w.heap.size 5 1 v n (nats .u8 (Wm.putL d n))) ∧ Ext w w' := by
  have HR := hide R
  have HD := hide hd
  have hlen := hide R.numN
  clear R hd
  have c1 : decide ((k : Int) < 1) = false := decide_eq_false (by omega)
  have c2 : decide ((20 : Int) < (k : Int)) = false := decide_eq_false (by omega)
  have c3 : decide ((n : Int) < (k : Int)) = false := decide_eq_false (by omega)
  have c5 : decide (n < k) = false := decide_eq_false (by omega)
  have c4 : decide ((20 : Int) < (n : Int)) = false := decide_eq_false (by omega)
  go_enter Tryz.func109, Tryz.ntmps109
  go_wp2
  go_loopw [6, 28] (fun v i wr => ∃ x : Nat, x ≤ k ∧ i = .int .i64 x ∧ Hid (wr.ownsRow w.heap.size 3 1 v x (nats .i64 (List.range x))) ∧ Ext w wr) (fun _ i _ => k - (intOf i).toNat)
  case atStart => exact ⟨0, Nat.zero_le _, rfl, hide (World.ownsRow_nil _ _ _ _), Ext.refl w⟩
  case round =>
    obtain ⟨x, hx, rfl, HOW, hext⟩ := hrel
    by_cases hlt : x < k
    · have HT := hide (show nats .i64 (List.range (x + 1)) = nats .i64 (List.range x) ++ [.int .i64 (x : Int)] by rw [List.range_succ, ← nats_append]; rfl)
      have hbd : (x + 1) * 8 ≤ 140737488355328 ∧ x + 1 ≤ 9223372036854775807 := by omega
      go_wp2_with (at_builtin; refine wpList_app rfl _ _ 61 (by rfl) 3 intR hext _ _ _ _ (by rfl) (unhide HOW) 1 1 (by rfl) rfl rfl hbd ?_)
      intro v' w2 hown' hext' _
      have hown2 : Hid (w2.ownsRow w.heap.size 3 1 v' (x + 1) (nats .i64 (List.range (x + 1)))) := hide (by rw [unhide HT]; exact hown')
      clear hown'
      go_wp2
      go_roundw
      case rel => exact ⟨x + 1, by omega, num_eqR (by omega), hown2, hext'⟩
      case measure => simp [intOf]; omega
    · obtain rfl : x = k := by omega
      obtain ⟨B, cb, rfl, Q, -, -, -⟩ := row_of_own (unhide HOW)
      have CR := hide (Row_ok B A x cb c n (List.range x) d wr Q ((unhide HR).keep hext) (by omega) hn (fun y hy => by have := List.mem_range.1 hy; omega) List.nodup_range (unhide HD))
      have HE := hide hext
      clear Q HOW
      go_wp2_with fail
      refine (unhide CR).mono ?_
      rintro e w2 ⟨⟨v, rfl, M⟩, E2⟩
      go_wp2
      go_ret2
      refine ⟨⟨_, rfl, ?_⟩, (unhide HE).trans E2⟩
      have hM := M.mono (base' := w.heap.size) (unhide HE).size
      unfold Wm.putL
      rw [unhide hlen]
      exact hM

/-- Why a row is not made. -/
def putErr (k : Nat) (n : Int) : Int := if k < 1 ∨ 20 < k then 2 else if n < k ∨ 20 < n then 1 else 0
set_option maxRecDepth 100000 in
theorem Put_bad (A : Option Addr) (k c : Nat) (n : Int) (w : World) (hb : putErr k n ≠ 0) :
    Calls Tryz.prog 109 #[.slice A k c, .int .i64 n] w fun e w' => e = .returned (.tuple #[.slice none 0 0, .int .i64 (putErr k n)]) ∧ w' = w := by
  unfold putErr at hb ⊢
  go_enter Tryz.func109, Tryz.ntmps109
  by_cases a1 : k < 1
  · rw [if_pos (.inl a1)]
    have a2 : ¬ 20 < k := by omega
    go_wp2
    go_ret2
    exact ⟨rfl, rfl⟩
  · by_cases a2 : 20 < k
    · rw [if_pos (.inr a2)]
      go_wp2
      go_ret2
      exact ⟨rfl, rfl⟩
    · rw [if_neg (by omega)] at hb ⊢
      by_cases a3 : n < k
      · rw [if_pos (.inl a3)]
        have a4 : ¬ 20 < n := by omega
        go_wp2
        go_ret2
        exact ⟨rfl, rfl⟩
      · by_cases a4 : 20 < n
        · rw [if_pos (.inr a4)]
          go_wp2
          go_ret2
          exact ⟨rfl, rfl⟩
        · rw [if_neg (by omega)] at hb
          exact absurd rfl hb

/-- What a received row is told of. -/
def recErr (n : Nat) (k : Int) : Int := if 20 < n then 2 else if k < 1 ∨ (n : Int) < k then 1 else 0
set_option maxRecDepth 100000 in
theorem RCheck_ok (A : Option Addr) (n c : Nat) (k : Int) (w : World) :
    Calls Tryz.prog 127 #[.slice A n c, .int .i64 k] w fun e w' => e = .returned (.int .i64 (recErr n k)) ∧ w' = w := by
  unfold recErr
  go_enter Tryz.func127, Tryz.ntmps127
  by_cases a1 : 20 < n
  · rw [if_pos a1]
    go_wp2
    go_ret
    exact ⟨rfl, rfl⟩
  · rw [if_neg a1]
    by_cases a3 : k < 1
    · rw [if_pos (.inl a3)]
      have a4 : ¬ (n : Int) < k := by omega
      go_wp2
      go_ret
      exact ⟨rfl, rfl⟩
    · by_cases a4 : (n : Int) < k
      · rw [if_pos (.inr a4)]
        go_wp2
        go_ret
        exact ⟨rfl, rfl⟩
      · rw [if_neg (by omega)]
        go_wp2
        go_ret
        exact ⟨rfl, rfl⟩
end Go.Proofs.YtpenkbhljkmliaaGreatDoor
