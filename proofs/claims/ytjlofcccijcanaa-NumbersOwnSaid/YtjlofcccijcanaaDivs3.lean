/-
  divide.Divisors of a bad number; the known row of 12; the walks of DivideGauss, DivideNone.
-/
import Derived.Test.YtjlofcccijcanaaDivs2
import Derived.Test.YtjlofcccijcanaaPrime0
set_option linter.unusedVariables false
set_option linter.unusedSimpArgs false
namespace Go.Proofs.Ytjlofcccijcanaa
open Go.RowKit Go.BigFrame

theorem p_2 : Wm.Prime 2 := Wm.pchk_spec (r := 0) (by decide +kernel)
theorem p_3 : Wm.Prime 3 := Wm.pchk_spec (r := 1) (by decide +kernel)
theorem p_5 : Wm.Prime 5 := Wm.pchk_spec (r := 1) (by decide +kernel)
theorem fac12 : Wm.IsFac 12 [(2, 2), (3, 1)] := ⟨by simp, fun x hx => by
  simp only [List.mem_cons, List.not_mem_nil, or_false] at hx
  rcases hx with rfl | rfl
  · exact ⟨p_2, by decide⟩
  · exact ⟨p_3, by decide⟩, by decide⟩
theorem fac30 : Wm.IsFac 30 [(2, 1), (3, 1), (5, 1)] := ⟨by simp, fun x hx => by
  simp only [List.mem_cons, List.not_mem_nil, or_false] at hx
  rcases hx with rfl | rfl | rfl
  · exact ⟨p_2, by decide⟩
  · exact ⟨p_3, by decide⟩
  · exact ⟨p_5, by decide⟩, by decide⟩
theorem sorted_unique {S T : List Nat} (hS : S.Pairwise (· < ·)) (hT : T.Pairwise (· < ·)) (h : S.Perm T) : S = T :=
  List.Perm.eq_of_pairwise (le := (· < ·)) (fun a b _ _ h1 h2 => by omega) hS hT h

set_option maxHeartbeats 1000000 in
theorem Divisors_bad (n : Int) (h : n < 1 ∨ 1000000 < n) (w : World) :
    Calls Try.prog 60 #[.int .i64 n] w fun e w' => e = .returned (.tuple #[.slice none 0 0, .int .i64 1]) ∧ w' = w := by
  have cf := hide (fun w : World => Factor_bad n h w)
  clear h
  go_enter Try.func60, Try.ntmps60
  go_wp2_with fail
  refine (unhide cf _).mono ?_
  rintro e w1 ⟨rfl, rfl⟩
  go_wp2
  go_ret2
  exact ⟨rfl, rfl⟩

theorem divs12 (w : World) : Calls Try.prog 60 #[.int .i64 12] w fun e w' => (∃ v, e = .returned (.tuple #[v, .int .i64 0]) ∧ Made w' w.heap.size 3 1 v 6 (nats .i64 [1, 2, 3, 4, 6, 12])) ∧ Ext w w' :=
  (Divisors_ok 12 (by omega) (by omega) w).mono fun e w' ⟨⟨l, T, v, h1, h2, h3, h4, h5⟩, hx⟩ => by
    obtain rfl := Wm.fac_unique h1 fac12
    obtain rfl := sorted_unique h3 (by simp) (h2.trans (show (Wm.dv [(2, 2), (3, 1)]).Perm [1, 2, 3, 4, 6, 12] by decide))
    exact ⟨⟨v, h4, h5⟩, hx⟩

set_option maxRecDepth 100000 in
set_option maxHeartbeats 1000000 in
theorem divides_any (w : World) : Calls Try.prog 28 #[] w fun e w' => e = .returned (.bool true) ∧ Ext w w' := by
  go_enter Try.func28, Try.ntmps28
  go_wp2_with fail
  refine (divs12 _).mono ?_
  rintro e w1 ⟨⟨v, rfl, hm⟩, E1⟩
  obtain ⟨A, c, rfl, R, -⟩ := hm.open_
  rw [nats_ints] at R
  have HR := hide R
  clear hm R
  have ce := hide (fun (B : Option Addr) (d : Nat) (w : World) (R : Row w A 6 1 (ints [1, 2, 3, 4, 6, 12])) (S : Row w B 6 1 (ints [1, 2, 3, 4, 6, 12])) => equal_int A B 6 6 c d [1, 2, 3, 4, 6, 12] [1, 2, 3, 4, 6, 12] w R S (by omega) (by omega))
  go_wp2_with fail
  refine (unhide ce _ _ _ ((unhide HR).keep ((Ext.refl _).alloc _)) (row_new _ _ _ _ _ rfl)).mono ?_
  rintro e w2 ⟨rfl, k, rfl⟩
  go_wp2
  go_ret
  exact ⟨rfl, (by repeat (first | exact E1 | refine Ext.alloc ?_ _ | refine Ext.drew ?_ | refine Ext.drewN ?_ _ | (refine Ext.trans ?_ (plus_ext _ _)) | (refine Ext.setCell ?_ (by have := Ext.size E1; simp; omega) _)))⟩

/-! ## The law DivideGauss -/
theorem mu30 (w : World) : Calls Try.prog 64 #[.int .i64 30] w fun e w' => e = .returned (.tuple #[.int .i64 (-1), .int .i64 0]) ∧ Ext w w' :=
  (Moebius_ok 30 (by omega) (by omega) w).mono fun e w' ⟨⟨l, h1, h2⟩, hx⟩ => by
    obtain rfl := Wm.fac_unique h1 fac30
    exact ⟨h2, hx⟩

/-- The totient of a divisor, and the sum. -/
theorem geo_gphi (p k : Nat) : Wm.geo gphi p k = (p : Int) ^ k := by
  unfold Wm.geo
  induction k with
  | zero => simp [Wm.sumI]
  | succ k ih =>
    rw [List.range_succ, List.map_append, Wm.sumI_append, ← Int.add_assoc, ih]
    simp only [List.map_cons, List.map_nil, Wm.sumI, gphi, Nat.add_sub_cancel]
    rw [Int.pow_succ, Int.add_zero, Int.mul_sub, Int.mul_one]
    omega
theorem mulF_geo_gphi {n : Nat} {l : List (Nat × Nat)} (h : Wm.IsFac n l) : Wm.mulF (Wm.geo gphi) l = (n : Int) := by
  rw [← h.2.2]
  clear h
  induction l with
  | nil => rfl
  | cons x l ih => simp only [Wm.mulF, Wm.prodP, ih, geo_gphi]; push_cast; rfl
theorem geo_gmu (p k : Nat) (h : 1 ≤ k) : Wm.geo gmu p k = 0 := by
  unfold Wm.geo
  induction k with
  | zero => omega
  | succ k ih =>
    rcases Nat.eq_zero_or_pos k with rfl | hk
    · rfl
    · rw [List.range_succ, List.map_append, Wm.sumI_append, ← Int.add_assoc, ih hk]
      simp [Wm.sumI, gmu]
      omega
theorem mulF_geo_gmu {l : List (Nat × Nat)} (h : ∀ x ∈ l, 1 ≤ x.2) (hl : l ≠ []) : Wm.mulF (Wm.geo gmu) l = 0 := by
  cases l with
  | nil => exact absurd rfl hl
  | cons x l => simp only [Wm.mulF, geo_gmu _ _ (h x (by simp))]; simp
/-- The sum of the first k values. -/
noncomputable def sumT (g : Nat → Nat → Int) (T : List Nat) (k : Nat) : Int := Wm.sumI ((T.take k).map (Wm.ofF g))
theorem sumT_succ (g : Nat → Nat → Int) (T : List Nat) {k : Nat} (h : k < T.length) : sumT g T (k + 1) = sumT g T k + Wm.ofF g (T.getD k 0) := by
  unfold sumT
  rw [take_snoc T 0 h, List.map_append, Wm.sumI_append]
  simp [Wm.sumI]
theorem sumT_all (g : Nat → Nat → Int) {T : List Nat} {l : List (Nat × Nat)} (h : Wm.Good l) (hT : T.Perm (Wm.dv l)) : sumT g T T.length = Wm.mulF (Wm.geo g) l := by
  unfold sumT
  rw [List.take_length, Wm.sumI_perm (hT.map _), Wm.sum_dv g h]
theorem phi_ofF {d : Nat} {m : List (Nat × Nat)} (h : Wm.IsFac d m) : ((nphi m : Nat) : Int) = Wm.ofF gphi d := by rw [Wm.ofF_eq gphi h, nphi_mulF h.2.1]
theorem div_bound {n : Nat} {l : List (Nat × Nat)} {T : List Nat} (h : Wm.IsFac n l) (hT : T.Perm (Wm.dv l)) (hn : 0 < n) {k : Nat} (hk : k < T.length) : 1 ≤ T.getD k 0 ∧ T.getD k 0 ≤ n ∧ T.getD k 0 ∣ n := by
  have hm := hT.mem_iff.1 (getD_mem T 0 hk)
  have := (Wm.mem_dv h.good _).1 hm
  rw [h.2.2] at this
  exact ⟨Nat.pos_of_dvd_of_pos this hn, Nat.le_of_dvd hn this, this⟩
theorem divs_len {n : Nat} {l : List (Nat × Nat)} {T : List Nat} (h : Wm.IsFac n l) (hT : T.Perm (Wm.dv l)) : T.length ≤ n := by
  have := Wm.cntD_le h.good
  rw [h.2.2] at this
  rw [hT.length_eq, Wm.length_dv]
  exact this

end Go.Proofs.Ytjlofcccijcanaa
