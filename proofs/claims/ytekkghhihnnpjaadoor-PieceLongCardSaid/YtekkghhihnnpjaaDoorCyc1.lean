/-
  The contracts of cyclic.isBits and cyclic.Check at strings of bits.
-/
import Derived.Test.YtekkghhihnnpjaaDoorShelfs22
import Derived.Test.YtekkghhihnnpjaaDoorCyc0
import Derived.Shelf.Strings.SlTrimAscii
set_option linter.unusedVariables false
set_option linter.unusedSimpArgs false
namespace Go.Proofs.YtekkghhihnnpjaaDoor
open Go.RowKit Go.BigFrame

theorem zero_set : ∀ w, (zeroValue (Tryd.lays160_ren.t 116)).run Tryd.prog w = .ok (.agg (Array.replicate 256 (.bool false))) w := fun w => by kernel_rfl
theorem trim_bits (f : Nat → Bool) (n : Nat) (hn : n ≤ 9223372036854775807) (w : World) :
    Calls Tryd.prog 11 #[.string (bsF f n), .string ⟨#[48, 49]⟩] w fun e w' => e = .returned (.string ⟨#[]⟩) ∧ Ext w w' := by
  have C := Any.strings_Trim_ascii Tryd.lays160 zero_set (by kernel_rfl) (bsF f n) ⟨#[48, 49]⟩ w (by rw [bsF_size]; exact hn) (by decide) (fun j b h => by
    rcases j with _ | _ | j
    · simp at h; subst h; decide
    · simp at h; subst h; decide
    · simp at h)
  have e : Lib.trimS (bsF f n).data.toList (⟨#[48, 49]⟩ : ByteArray).data.toList = [] := by
    unfold Lib.trimS
    have : Lib.trimRightS (bsF f n).data.toList (⟨#[48, 49]⟩ : ByteArray).data.toList = (bsF f n).data.toList.take 0 := Lib.trimRightS_take _ _ 0 (Nat.zero_le _) (fun j b _ hb => by
      have hm := List.mem_of_getElem? hb
      rw [bsF_data] at hm
      obtain ⟨i, -, rfl⟩ := List.mem_map.1 hm
      split <;> decide) (fun b h => absurd h (by omega))
    rw [this, List.take_zero]
    rfl
  rw [e] at C
  exact C
set_option maxRecDepth 100000 in
set_option maxHeartbeats 1000000 in
theorem isBits_ok (f : Nat → Bool) (n : Nat) (hn : n ≤ 9223372036854775807) (w : World) :
    Calls Tryd.prog 36 #[.string (bsF f n)] w fun e w' => e = .returned (.bool true) ∧ Ext w w' := by
  have CT := hide (fun w => trim_bits f n hn w)
  go_enter Tryd.func36, Tryd.ntmps36
  go_wp2_with fail
  refine (unhide CT _).mono ?_
  rintro e w1 ⟨rfl, E1⟩
  go_wp2
  go_ret
  exact ⟨rfl, E1⟩
set_option maxRecDepth 100000 in
set_option maxHeartbeats 1000000 in
theorem Check_ok (G : Nat → Bool) (m : Nat) (h1 : 1 ≤ m) (h16 : m ≤ 16) (h0 : G 0 = true) (hGm : G m = true) (w : World) :
    Calls Tryd.prog 35 #[.string (bsF G (m + 1))] w fun e w' => e = .returned (.int .i64 0) ∧ Ext w w' := by
  have CB := hide (fun w => isBits_ok G (m + 1) (by omega) w)
  obtain ⟨s, hs⟩ : ∃ s, s = bsF G (m + 1) := ⟨_, rfl⟩
  have hsz : s.size = m + 1 := by rw [hs]; exact bsF_size G (m + 1)
  have b0 : (s[0]'(by omega)).toNat = 49 := by rw [sby_get s 0 (by omega), hs, bsF_by G (by omega), h0]; rfl
  have b1 : (s[m]'(by omega)).toNat = 49 := by rw [sby_get s m (by omega), hs, bsF_by G (by omega), hGm]; rfl
  rw [← hs] at CB ⊢
  clear hs
  have hszI : (s.size : Int) = (m : Int) + 1 := by omega
  have hsI2 : ¬ (s.size : Int) < 2 := by omega
  have hs17 : ¬ (17 : Int) < (s.size : Int) := by omega
  have hsm : (s.size : Int) - 1 = (m : Int) := by omega
  go_enter Tryd.func35, Tryd.ntmps35
  go_wp2_with fail
  refine (unhide CB _).mono ?_
  rintro e w1 ⟨rfl, E1⟩
  go_wp2
  go_ret
  exact ⟨rfl, E1⟩
end Go.Proofs.YtekkghhihnnpjaaDoor
