/-
  The contract of frac.Farey.
-/
import Derived.Test.YtlfpmmgfgmeilaaFarey1
import Derived.Test.YtlfpmmgfgmeilaaRack
import Derived.Test.YtlfpmmgfgmeilaaMin
set_option linter.unusedVariables false
set_option linter.unusedSimpArgs false
namespace Go.Proofs.Ytlfpmmgfgmeilaa
open Go.RowKit Go.BigFrame Go.Sort Go.Lib
theorem fracM : EInfo Try.prog 22 28 (.agg #[.int .i64 0, .int .i64 0]) 2 16 := EInfo.mk_ Try.underlying22 (by kernel_rfl) rfl (by omega)
theorem clip_frac (A : Option Addr) (n c : Nat) (w : World) (h1 : n ≤ c) (h2 : (c : Int) ≤ 9223372036854775807) (hA : A = none → n = 0 ∧ c = 0) :
    Calls Try.prog 11 #[.slice A n c] w fun e w' => e = .returned (.slice A n n) ∧ w' = w := by
  have h3 : (n : Int) ≤ (c : Int) := by omega
  cases A with
  | none =>
    obtain ⟨rfl, rfl⟩ := hA rfl
    go_enter Try.func11, Try.ntmps11
    go_wp2
    go_ret
    exact ⟨rfl, rfl⟩
  | some a =>
    clear hA
    go_enter Try.func11, Try.ntmps11
    go_wp2
    go_ret
    exact ⟨rfl, rfl⟩


def encF (x : Wm.Fr) : List Value := [.int .i64 (x.1.val : Int), .int .i64 ((x.2.val + 1 : Nat) : Int)]
def castF (l : List (Nat × Nat)) : List (Int × Int) := l.map fun x => ((x.1 : Int), (x.2 : Int))
theorem castF_length (l : List (Nat × Nat)) : (castF l).length = l.length := List.length_map _
theorem castF_get (l : List (Nat × Nat)) {k : Nat} (hk : k < l.length) : (castF l).getD k (0, 0) = (((l.getD k (0, 0)).1 : Int), ((l.getD k (0, 0)).2 : Int)) := by
  unfold castF
  rw [List.getD_eq_getElem?_getD, List.getElem?_map, List.getD_eq_getElem?_getD, List.getElem?_eq_getElem hk]; rfl
theorem flat_get {l : List (Nat × Nat)} (hb : ∀ x ∈ l, x.1 ≤ 30 ∧ 1 ≤ x.2 ∧ x.2 ≤ 30) {d : Array Wm.Fr} (hd : d.toList = l.map Wm.toF) {j : Nat} (hj : j < l.length * 2) : some ((flatK encF 2 d)[j]!) = (prs (castF l))[j]? := by
  have hsz : d.size = l.length := by rw [← Array.length_toList, hd, List.length_map]
  rw [get_flatK encF 2 d j (by omega)]
  obtain ⟨k, hk⟩ : ∃ k, k = j / 2 := ⟨_, rfl⟩
  have hkl : k < l.length := by omega
  have hdk : d[k]! = Wm.toF (l.getD k (0, 0)) := by
    rw [getElem!_pos d k (by omega), ← Array.getElem_toList]
    simp only [hd, List.getElem_map, List.getD_eq_getElem?_getD, List.getElem?_eq_getElem hkl, Option.getD_some]
  obtain ⟨b1, b2, b3⟩ := hb _ (getD_mem l (0, 0) hkl)
  have hp := prs_get (castF l) k (by rw [castF_length]; exact hkl)
  rw [castF_get l hkl] at hp
  rw [← hk, hdk]
  have e1 : ((Wm.toF (l.getD k (0, 0))).1.val) = (l.getD k (0, 0)).1 := Nat.mod_eq_of_lt (by omega)
  have e2 : ((Wm.toF (l.getD k (0, 0))).2.val + 1) = (l.getD k (0, 0)).2 := by show ((l.getD k (0, 0)).2 - 1) % 30 + 1 = _; rw [Nat.mod_eq_of_lt (by omega)]; omega
  rcases (show j = k * 2 ∨ j = k * 2 + 1 by omega) with h | h
  · rw [h, hp.1, show k * 2 % 2 = 0 by omega]
    show some (Value.int .i64 _) = _
    rw [e1]
  · rw [h, hp.2, show (k * 2 + 1) % 2 = 1 by omega]
    show some (Value.int .i64 _) = _
    rw [e2]

set_option maxRecDepth 100000 in
set_option maxHeartbeats 1000000 in
/-- The comparison. -/
theorem cmp_any (p q p' q' : Nat) (hp : p ≤ 30) (hq : q ≤ 30) (hp' : p' ≤ 30) (hq' : q' ≤ 30) (w : World) :
    Calls Try.prog 10 #[.agg #[.int .i64 (p : Int), .int .i64 (q : Int)], .agg #[.int .i64 (p' : Int), .int .i64 (q' : Int)]] w fun e w' => e = .returned (.int .i64 (((p * q' : Nat) : Int) - ((p' * q : Nat) : Int))) ∧ ∃ n os, w' = grow (w.drewN n) os := by
  obtain ⟨X, hX⟩ : ∃ X, X = p * q' := ⟨_, rfl⟩
  obtain ⟨Y, hY⟩ : ∃ Y, Y = p' * q := ⟨_, rfl⟩
  have hX9 : X ≤ 900 := by rw [hX]; exact Nat.mul_le_mul hp hq'
  have hY9 : Y ≤ 900 := by rw [hY]; exact Nat.mul_le_mul hp' hq
  have hXw : IntKind.i64.wrap ((p : Int) * (q' : Int)) = (X : Int) := by rw [← Int.natCast_mul, ← hX]; exact IntWalk.i64_in _ (by omega)
  have hYw : IntKind.i64.wrap ((p' : Int) * (q : Int)) = (Y : Int) := by rw [← Int.natCast_mul, ← hY]; exact IntWalk.i64_in _ (by omega)
  rw [← hX, ← hY]
  clear hX hY
  go_enter Try.func10, Try.ntmps10
  go_wp2
  go_ret
  refine ⟨rfl, 0, #[.cells #[.int .i64 p, .int .i64 q] 28, .cells #[.int .i64 p', .int .i64 q'] 28], ?_⟩
  rw [alloc_eq_grow, alloc_eq_grow, grow_grow]
  rfl
end Go.Proofs.Ytlfpmmgfgmeilaa
