/-
  For every prime and degree that may be asked there is a polynomial without divisors. No program in sight.
-/
import Derived.Test.YtahchidghfeofaaGal8
set_option linter.unusedVariables false
set_option linter.unusedSimpArgs false
namespace Wm
theorem noDivB_of {p : Nat} (hp : Prime p) : noDivB p = true := by
  simp only [noDivB, List.all_eq_true, List.mem_range, Bool.or_eq_true, decide_eq_true_eq, Bool.not_eq_true', beq_eq_false_iff_ne]
  intro d _
  by_cases c1 : d < 2
  · exact .inl (.inl c1)
  by_cases c2 : p ≤ d
  · exact .inl (.inr c2)
  refine .inr fun h => ?_
  rcases hp.2 d (Nat.dvd_of_mod_eq_zero h) with e | e <;> omega
theorem mkW_isP (P : Pr) (k s : Nat) (hk : 2 ≤ k) : IsP P.p (mkW P.p k s) ∧ (mkW P.p k s).length = k + 1 ∧ (mkW P.p k s).getD ((mkW P.p k s).length - 1) 0 = 1 := by
  have hp := P.two
  unfold mkW
  split
  · rename_i h
    obtain ⟨h1, rfl⟩ := h
    refine ⟨⟨fun x hx => ?_, fun _ => by decide⟩, rfl, rfl⟩
    rw [h1]
    simp at hx
    omega
  · have hl : ((s % 8 % P.p) :: (s / 8 % P.p) :: (List.replicate (k - 2) 0 ++ [1])).length = k + 1 := by simp; omega
    have hlast : ((s % 8 % P.p) :: (s / 8 % P.p) :: (List.replicate (k - 2) 0 ++ [1])).getD (((s % 8 % P.p) :: (s / 8 % P.p) :: (List.replicate (k - 2) 0 ++ [1])).length - 1) 0 = 1 := by
      rw [hl]
      obtain ⟨j, rfl⟩ : ∃ j, k = j + 2 := ⟨k - 2, by omega⟩
      rw [Nat.add_sub_cancel]
      simp [List.getD_eq_getElem?_getD]
    refine ⟨⟨fun x hx => ?_, fun _ => by rw [hlast]; omega⟩, hl, hlast⟩
    simp only [List.mem_cons, List.mem_append, List.mem_replicate, List.not_mem_nil, or_false] at hx
    rcases hx with rfl | rfl | ⟨-, rfl⟩ | rfl
    · exact Nat.mod_lt _ (by omega)
    · exact Nat.mod_lt _ (by omega)
    · omega
    · exact hp
theorem irr_ex (P : Pr) {k : Nat} (h2 : 2 ≤ k) (h5 : k ≤ 5) (hb : exB k P.p = true) : ∃ f, Irl P f ∧ f.length = k + 1 := by
  simp only [exB, Bool.or_eq_true, decide_eq_true_eq, Bool.not_eq_true', List.any_eq_true] at hb
  have hp := P.two
  rcases hb with (h | h) | ⟨s, -, h⟩
  · omega
  · rw [noDivB_of P.hp] at h; cases h
  · obtain ⟨a1, a2, a3⟩ := mkW_isP P k s h2
    exact ⟨_, irr_found h2 h5 a1 a2 a3 h, a2⟩
end Wm
