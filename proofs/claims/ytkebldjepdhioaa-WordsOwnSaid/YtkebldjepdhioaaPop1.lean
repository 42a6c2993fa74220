/-
  The contract of math/bits.OnesCount16.
-/
import Derived.Test.YtkebldjepdhioaaPlus
import Derived.Test.YtkebldjepdhioaaPop0
import Derived.Test.YtkebldjepdhioaaBits1
import Derived.Lib.Tables
set_option linter.unusedVariables false
set_option linter.unusedSimpArgs false
namespace Go.Proofs.Ytkebldjepdhioaa
open Go.RowKit Go.BigFrame

theorem pop8_all : ∀ i : Fin 256, Lib.pop8 (i.val : Int) = ((Wm.ones i.val 8 : Nat) : Int) := by decide +kernel
theorem pop8_nat (i : Nat) (h : i < 256) : Lib.pop8 (i : Int) = ((Wm.ones i 8 : Nat) : Int) := pop8_all ⟨i, h⟩

set_option maxRecDepth 100000 in
set_option maxHeartbeats 1000000 in
theorem count16_any (v : Nat) (hv : v < 65536) (w : World) :
    Calls Try.prog 33 #[.int .u16 v] w fun e w' => e = .returned (.int .i64 (Wm.ones v 16)) ∧ ∃ n, w' = w.drewN n := by
  have h1 : (v : Int) / 256 < 256 := by omega
  have h1' : (v : Int) / 256 ≤ 255 := by omega
  have h0 : 0 ≤ (v : Int) / 256 := by omega
  have e2 : bits .and .u16 (v : Int) 255 = ((v % 256 : Nat) : Int) := by
    rw [show (255 : Int) = ((255 : Nat) : Int) from rfl, u16_and_nat v 255 hv (by omega), show (255 : Nat) = 2 ^ 8 - 1 by rfl, Nat.and_two_pow_sub_one_eq_mod]
  have q0 : 0 ≤ ((v % 256 : Nat) : Int) := by omega
  have q1 : ((v % 256 : Nat) : Int) ≤ 255 := by omega
  have p1 := pop8_nat (v / 256) (by omega)
  have p2 := pop8_nat (v % 256) (by omega)
  have l1 := Wm.ones_le (v / 256) 8
  have l2 := Wm.ones_le (v % 256) 8
  have hs : Wm.ones v 16 = Wm.ones (v / 256) 8 + Wm.ones (v % 256) 8 := Wm.ones_split v
  have c1 : ((v / 256 : Nat) : Int) = (v : Int) / 256 := by omega
  have HS := hide hs
  clear hs
  rw [c1] at p1
  generalize Wm.ones (v / 256) 8 = o1 at *
  generalize Wm.ones (v % 256) 8 = o2 at *
  clear c1
  generalize hm : ((v % 256 : Nat) : Int) = m at *
  clear hm
  have hw : IntKind.u8.wrap ((o1 : Int) + (o2 : Int)) = (o1 : Int) + (o2 : Int) := IntWalk.u8_in _ (by omega)
  go_enter Try.func33, Try.ntmps33
  go_wp2
  go_quiet (fail)
  go_wp2
  go_ret
  exact ⟨ret_int (by rw [unhide HS]; push_cast; rfl), _, rfl⟩

end Go.Proofs.Ytkebldjepdhioaa
