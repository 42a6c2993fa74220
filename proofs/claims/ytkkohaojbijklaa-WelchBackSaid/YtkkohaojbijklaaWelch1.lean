/-
  The contracts of math/bits.OnesCount (of small numbers) and welch.Check.
-/
import Derived.Test.YtkkohaojbijklaaWelch0
import Derived.Test.YtkkohaojbijklaaBits1
import Derived.Test.YtkkohaojbijklaaReed3
set_option linter.unusedVariables false
set_option linter.unusedSimpArgs false
namespace Go.Proofs.Ytkkohaojbijklaa
open Go.RowKit Go.BigFrame

theorem u64_and_nat (a b : Nat) (ha : a < 18446744073709551616) (hb : b < 18446744073709551616) : bits .and .u64 (a : Int) (b : Int) = ((a &&& b : Nat) : Int) := by
  have hx : a &&& b < 2 ^ 64 := Nat.and_lt_two_pow _ (by omega)
  show IntKind.u64.wrap ((BitVec.ofInt 64 (a : Int) &&& BitVec.ofInt 64 (b : Int)).toNat : Int) = _
  rw [BitVec.toNat_and, ofInt_nat 64 a (by omega), ofInt_nat 64 b (by omega), IntKind.wrap_u64]
  omega

set_option maxRecDepth 100000 in
set_option maxHeartbeats 1000000 in
theorem ones64_any (v : Nat) (hv : v < 4096) (w : World) :
    Calls Try.prog 38 #[.int .u64 v] w fun e w' => e = .returned (.int .i64 (Wm.ones v 12)) ∧ w' = w := by
  have hR := Wm.pop64_ones hv
  unfold Wm.pop64 at hR
  dsimp only at hR
  have hv2 : (v : Int) / 2 = ((v / 2 : Nat) : Int) := by omega
  have f1 := u64_and_nat (v / 2) 6148914691236517205 (by omega) (by omega)
  have f2 := u64_and_nat v 6148914691236517205 (by omega) (by omega)
  have b1 : (v / 2) &&& 6148914691236517205 ≤ v / 2 := Nat.and_le_left
  have b2 : v &&& 6148914691236517205 ≤ v := Nat.and_le_left
  rw [← hv2] at f1
  generalize (v / 2) &&& 6148914691236517205 = a1 at *
  generalize v &&& 6148914691236517205 = a2 at *
  have h4 : ((a1 : Int) + (a2 : Int)) / 4 = (((a1 + a2) / 4 : Nat) : Int) := by omega
  have h0 : (a1 : Int) + (a2 : Int) = ((a1 + a2 : Nat) : Int) := by omega
  have f3 := u64_and_nat ((a1 + a2) / 4) 3689348814741910323 (by omega) (by omega)
  have f4 := u64_and_nat (a1 + a2) 3689348814741910323 (by omega) (by omega)
  have b3 : ((a1 + a2) / 4) &&& 3689348814741910323 ≤ (a1 + a2) / 4 := Nat.and_le_left
  have b4 : (a1 + a2) &&& 3689348814741910323 ≤ a1 + a2 := Nat.and_le_left
  rw [← h4] at f3
  rw [← h0] at f4
  generalize ((a1 + a2) / 4) &&& 3689348814741910323 = c1 at *
  generalize (a1 + a2) &&& 3689348814741910323 = c2 at *
  have h5 : ((c1 : Int) + (c2 : Int)) / 16 + ((c1 : Int) + (c2 : Int)) = (((c1 + c2) / 16 + (c1 + c2) : Nat) : Int) := by omega
  have f5 := u64_and_nat ((c1 + c2) / 16 + (c1 + c2)) 1085102592571150095 (by omega) (by omega)
  have b5 : ((c1 + c2) / 16 + (c1 + c2)) &&& 1085102592571150095 ≤ (c1 + c2) / 16 + (c1 + c2) := Nat.and_le_left
  rw [← h5] at f5
  generalize ((c1 + c2) / 16 + (c1 + c2)) &&& 1085102592571150095 = d at *
  have hd : d < 1000000 := by omega
  obtain ⟨e, he⟩ : ∃ e, e = d + d / 256 := ⟨_, rfl⟩
  rw [← he] at hR
  have heI : (d : Int) + (d : Int) / 256 = (e : Int) := by omega
  have he1 : e < 2000000 := by omega
  obtain ⟨g, hg⟩ : ∃ g, g = e + e / 65536 := ⟨_, rfl⟩
  rw [← hg] at hR
  have hgI : (e : Int) + (e : Int) / 65536 = (g : Int) := by omega
  have hg1 : g < 3000000 := by omega
  obtain ⟨k, hk⟩ : ∃ k, k = g + g / 4294967296 := ⟨_, rfl⟩
  rw [← hk] at hR
  have hkI : (g : Int) + (g : Int) / 4294967296 = (k : Int) := by omega
  have hk1 : k < 4000000 := by omega
  have f6 := i64_and_nat k 127 (by omega) (by omega)
  rw [hR] at f6
  generalize Wm.ones v 12 = R at *
  have HF := hide (show bits .and .i64 (k : Int) 127 = (R : Int) from f6)
  have u64 : ∀ x : Int, 0 ≤ x ∧ x < 18446744073709551616 → IntKind.u64.wrap x = x := fun x h => by rw [IntKind.wrap_u64]; omega
  have k1 := hide (u64 ((a1 : Int) + (a2 : Int)) (by omega))
  have k2 := hide (u64 ((c1 : Int) + (c2 : Int)) (by omega))
  have k3 := hide (u64 (((c1 : Int) + (c2 : Int)) / 16 + ((c1 : Int) + (c2 : Int))) (by omega))
  have k4 := hide ((u64 ((d : Int) + (d : Int) / 256) (by omega)).trans heI)
  have k5 := hide ((u64 ((e : Int) + (e : Int) / 65536) (by omega)).trans hgI)
  have k6 := hide ((u64 ((g : Int) + (g : Int) / 4294967296) (by omega)).trans hkI)
  have k7 := hide (IntWalk.i64_in (k : Int) (by omega))
  have F1 := hide (show bits .and .u64 ((v : Int) / 2) 6148914691236517205 = (a1 : Int) from f1)
  have F2 := hide (show bits .and .u64 (v : Int) 6148914691236517205 = (a2 : Int) from f2)
  have F3 := hide (show bits .and .u64 (((a1 : Int) + (a2 : Int)) / 4) 3689348814741910323 = (c1 : Int) from f3)
  have F4 := hide (show bits .and .u64 ((a1 : Int) + (a2 : Int)) 3689348814741910323 = (c2 : Int) from f4)
  have F5 := hide (show bits .and .u64 (((c1 : Int) + (c2 : Int)) / 16 + ((c1 : Int) + (c2 : Int))) 1085102592571150095 = (d : Int) from f5)
  clear hR h4 h0 h5 he hg hk f6 hv2 f1 f2 f3 f4 f5 heI hgI hkI u64
  go_enter Try.func38, Try.ntmps38
  go_wp2_with fail
  go_in
  go_wp2
  go_ret
  refine ⟨congrArg Ending.returned ?_, rfl⟩
  have q1 := unhide k1
  have q2 := unhide k2
  have q3 := unhide k3
  have q4 := unhide k4
  have q5 := unhide k5
  have q6 := unhide k6
  have q7 := (IntWalk.i64_left _).symm.trans (unhide k7)
  have g1 := unhide F1
  have g2 := unhide F2
  have g3 := unhide F3
  have g4 := unhide F4
  have g5 := unhide F5
  have g6 := unhide HF
  simp [q1, q2, q3, q4, q5, q6, q7, g1, g2, g3, g4, g5]
  simpa using g6
def wErr (n : Nat) (k : Int) : Int := if 12 < n then 2 else if k < 1 ∨ (n : Int) < k then 1 else 0
theorem wCheck_any (A : Option Addr) (n c : Nat) (k : Int) (w : World) :
    Calls Try.prog 37 #[.slice A n c, .int .i64 k] w fun e w' => e = .returned (.int .i64 (wErr n k)) ∧ w' = w := by
  unfold wErr
  by_cases h1 : 12 < n
  · rw [if_pos h1]
    have h1I : (12 : Int) < (n : Int) := by omega
    go_enter Try.func37, Try.ntmps37
    go_wp2
    go_ret
    exact ⟨rfl, rfl⟩
  · rw [if_neg h1]
    have h1I : ¬ (12 : Int) < (n : Int) := by omega
    by_cases h2 : k < 1
    · rw [if_pos (.inl h2)]
      go_enter Try.func37, Try.ntmps37
      go_wp2
      go_ret
      exact ⟨rfl, rfl⟩
    · by_cases h3 : (n : Int) < k
      · rw [if_pos (.inr h3)]
        go_enter Try.func37, Try.ntmps37
        go_wp2
        go_ret
        exact ⟨rfl, rfl⟩
      · rw [if_neg (fun h => by omega)]
        go_enter Try.func37, Try.ntmps37
        go_wp2
        go_ret
        exact ⟨rfl, rfl⟩
end Go.Proofs.Ytkkohaojbijklaa
