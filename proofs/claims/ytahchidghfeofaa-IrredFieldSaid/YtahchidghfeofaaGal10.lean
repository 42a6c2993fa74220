/-
  The program's own test says the same. No program in sight.
-/
import Derived.Test.YtahchidghfeofaaGal9
import Derived.Test.YtahchidghfeofaaIrr0
set_option linter.unusedVariables false
set_option linter.unusedSimpArgs false
namespace Wm
theorem irl_of_irr {P : Pr} {f : List Nat} (hf : IsP P.p f) (h1 : f.getD (f.length - 1) 0 = 1) (h : Irr P f) : Irl P f :=
  irr_of hf h.1 h1 fun d hd hd1 hd2 hdl hdv => by
    obtain ⟨k, hk, e⟩ := mon_of hd (n := d.length - 1) (by omega) hd1
    exact h.2 (d.length - 1) (by omega) (by omega) k hk (by rw [e]; exact hdv)
theorem irr_of_irl {P : Pr} {f : List Nat} (I : Irl P f) : Irr P f :=
  ⟨I.two, fun d h1 h2 k _ => I.no_half (monL_isP d k) (by rw [monL_len]; omega) (by rw [monL_len]; omega)⟩
/-- So the search for the first one ends. -/
theorem first_ex (P : Pr) {n : Nat} (h2 : 2 ≤ n) (h5 : n ≤ 5) (hb : exB n P.p = true) : ∃ k, k < P.p ^ n ∧ Irr P (monL P.p n k) := by
  obtain ⟨f, I, hl⟩ := irr_ex P h2 h5 hb
  obtain ⟨k, hk, e⟩ := mon_of I.isP (n := n) hl (by have := I.monic; rwa [hl, Nat.add_sub_cancel] at this)
  exact ⟨k, hk, by rw [e]; exact irr_of_irl I⟩
end Wm
