/-
  strings.Contains and strings.Count of one byte at strings of bits; the contract of cyclic.Get; wholekeep.cyclics.
-/
import Derived.Test.YtekkghhihnnpjaaDoorCyc5
import Derived.Lib.IndexLaws
set_option linter.unusedVariables false
set_option linter.unusedSimpArgs false
namespace Go.Proofs.YtekkghhihnnpjaaDoor
open Go.RowKit Go.BigFrame
def anyB (f : Nat → Bool) (n : Nat) : Bool := (List.range n).any f
theorem anyB_yes {f : Nat → Bool} {n j : Nat} (hj : j < n) (h : f j = true) : anyB f n = true := List.any_eq_true.2 ⟨j, List.mem_range.2 hj, h⟩
theorem anyB_no {f : Nat → Bool} {n : Nat} (h : ∀ j, j < n → f j = false) : anyB f n = false := List.any_eq_false.2 fun j hj => by rw [h j (List.mem_range.1 hj)]; simp
theorem anyB_of {f : Nat → Bool} {n : Nat} (h : anyB f n = true) : ∃ j, j < n ∧ f j = true := by
  obtain ⟨j, hj, h⟩ := List.any_eq_true.1 h
  exact ⟨j, List.mem_range.1 hj, h⟩
theorem anyB_off {f : Nat → Bool} {n : Nat} (h : anyB f n = false) : ∀ j, j < n → f j = false := fun j hj => by
  have := List.any_eq_false.1 h j (List.mem_range.2 hj)
  simpa using this
theorem contains_bits (f : Nat → Bool) (n : Nat) (w : World) :
    Calls Tryd.prog 18 #[.string (bsF f n), .string ⟨#[49]⟩] w fun e w' => e = .returned (.bool (anyB f n)) ∧ w' = w := by
  have C := Tryd.strings_Contains_one (bsF f n) 49 w
  have e : decide (0 ≤ Lib.indexByte (bsF f n).data.toList 49) = anyB f n := by
    have hge := Lib.indexByte_ge (bsF f n).data.toList 49
    cases c : anyB f n with
    | true =>
      rw [decide_eq_true_eq]
      obtain ⟨j, hj, hf⟩ := anyB_of c
      by_cases h : Lib.indexByte (bsF f n).data.toList 49 = -1
      · exfalso
        refine Lib.indexByte_none h j ?_
        rw [bsF_data, List.getElem?_map, List.getElem?_range hj]
        simp [hf]
      · omega
    | false =>
      rw [decide_eq_false_iff_not]
      intro h
      obtain ⟨o, ho⟩ := Int.eq_ofNat_of_zero_le h
      have h1 := (Lib.indexByte_some ho).1
      rw [bsF_data, List.getElem?_map] at h1
      by_cases hj : o < n
      · rw [List.getElem?_range hj] at h1
        simp [anyB_off c o hj] at h1
      · rw [List.getElem?_eq_none (by simp; omega)] at h1
        cases h1
  rw [e] at C
  exact C
def cn (f : Nat → Bool) : Nat → Nat
  | 0 => 0
  | n + 1 => cn f n + if f n then 1 else 0
theorem cn_par (f : Nat → Bool) : ∀ n, cn f n % 2 = if Wm.par f n then 1 else 0
  | 0 => rfl
  | n + 1 => by
    have h := cn_par f n
    simp only [cn, Wm.par]
    by_cases h1 : Wm.par f n = true <;> by_cases h2 : f n = true <;> simp [h1, h2] at h ⊢ <;> omega
theorem cn_le (f : Nat → Bool) : ∀ n, cn f n ≤ n
  | 0 => Nat.le_refl _
  | n + 1 => by have := cn_le f n; simp only [cn]; split <;> omega
theorem count_data (f : Nat → Bool) : ∀ n, (bsF f n).data.toList.count 49 = cn f n := by
  intro n
  rw [bsF_data]
  induction n with
  | zero => rfl
  | succ n ih =>
    rw [List.range_succ, List.map_append, List.count_append, ih]
    simp only [cn, List.map_cons, List.map_nil]
    cases f n <;> rfl
theorem count_bits (f : Nat → Bool) (n : Nat) (w : World) :
    Calls Tryd.prog 21 #[.string (bsF f n), .string ⟨#[49]⟩] w fun e w' => e = .returned (.int .i64 (cn f n)) ∧ w' = w := by
  have C := Tryd.strings_Count_one (bsF f n) 49 w
  rw [show Lib.countByte (bsF f n).data.toList 49 = cn f n from count_data f n] at C
  exact C
theorem bsF_cut (f : Nat → Bool) (n k : Nat) : (bsF f (n + k)).extract 0 n = bsF f n := by
  refine str_ext (by rw [ByteArray.size_extract, bsF_size, bsF_size]; omega) fun j hj => ?_
  rw [ByteArray.size_extract, bsF_size] at hj
  rw [bsF_by f (by omega)]
  unfold sby
  rw [Array.getD_eq_getD_getElem?]
  have : ((bsF f (n + k)).extract 0 n).data = (bsF f (n + k)).data.extract 0 n := ByteArray.data_extract
  rw [this, Array.getElem?_extract, if_pos (by have : (bsF f (n + k)).data.size = n + k := bsF_size _ _; omega), Nat.zero_add]
  have h2 := bsF_by f (show j < n + k by omega)
  unfold sby at h2
  rw [Array.getD_eq_getD_getElem?] at h2
  exact h2
def getV (f G : Nat → Bool) (N m : Nat) : Value := if anyB (fun j => Wm.rn G N f (N + j)) m then .tuple #[.string ⟨#[]⟩, .int .i64 8] else .tuple #[.string (bsF f N), .int .i64 0]
set_option maxRecDepth 100000 in
set_option maxHeartbeats 4000000 in
theorem Get_ok (f G : Nat → Bool) (N m : Nat) (h1 : 1 ≤ m) (h16 : m ≤ 16) (hN : N ≤ 200) (h0 : G 0 = true) (hGm : G m = true) (hG : ∀ k, m < k → G k = false) (w : World) :
    Calls Tryd.prog 19 #[.string (bsF f (N + m)), .string (bsF G (m + 1))] w fun e w' => e = .returned (getV f G N m) ∧ Ext w w' := by
  have CK := hide (fun w => Check_ok G m h1 h16 h0 hGm w)
  have CB := hide (fun w => isBits_ok f (N + m) (by omega) w)
  have CM := hide (fun w => remainder_ok f G N m h1 h16 (by omega) hG w)
  have CC := hide (fun w => contains_bits (fun j => Wm.rn G N f (N + j)) m w)
  have HCUT := hide (bsF_cut f N m)
  obtain ⟨s, hs⟩ : ∃ s, s = bsF f (N + m) := ⟨_, rfl⟩
  obtain ⟨t, ht⟩ : ∃ t, t = bsF G (m + 1) := ⟨_, rfl⟩
  have hsz : s.size = N + m := by rw [hs]; exact bsF_size _ _
  have htz : t.size = m + 1 := by rw [ht]; exact bsF_size _ _
  rw [← hs] at CB CM HCUT ⊢
  rw [← ht] at CK CM ⊢
  have hsI : ¬ (216 : Int) < (s.size : Int) := by omega
  have htI : (t.size : Int) - 1 = (m : Int) := by omega
  have hsm : ¬ (s.size : Int) < (m : Int) := by omega
  have hcut : (s.size : Int) - (t.size : Int) + 1 = (N : Int) := by omega
  have hNs : (N : Int) ≤ (s.size : Int) := by omega
  have hNs2 : N ≤ s.size := by omega
  clear hs ht hsz htz
  unfold getV
  cases hb : anyB (fun j => Wm.rn G N f (N + j)) m with
  | true =>
    rw [hb] at CC
    clear hb
    go_enter Tryd.func19, Tryd.ntmps19
    go_wp2_with fail
    refine (unhide CK _).mono ?_
    rintro e w1 ⟨rfl, E1⟩
    go_wp2_with fail
    refine (unhide CB _).mono ?_
    rintro e w2 ⟨rfl, E2⟩
    go_wp2_with fail
    refine (unhide CM _).mono ?_
    rintro e w3 ⟨rfl, E3⟩
    go_wp2_with fail
    refine (unhide CC _).mono ?_
    rintro e w4 ⟨rfl, rfl⟩
    have HE := hide ((E1.trans E2).trans E3)
    go_wp2
    go_ret2
    exact ⟨rfl, unhide HE⟩
  | false =>
    rw [hb] at CC
    clear hb
    go_enter Tryd.func19, Tryd.ntmps19
    go_wp2_with fail
    refine (unhide CK _).mono ?_
    rintro e w1 ⟨rfl, E1⟩
    go_wp2_with fail
    refine (unhide CB _).mono ?_
    rintro e w2 ⟨rfl, E2⟩
    go_wp2_with fail
    refine (unhide CM _).mono ?_
    rintro e w3 ⟨rfl, E3⟩
    go_wp2_with fail
    refine (unhide CC _).mono ?_
    rintro e w4 ⟨rfl, rfl⟩
    have HE := hide ((E1.trans E2).trans E3)
    go_wp2
    go_ret2
    exact ⟨by rw [← unhide HCUT]; rfl, unhide HE⟩
set_option maxRecDepth 100000 in
set_option maxHeartbeats 4000000 in
theorem cyclics_ok (w : World) : Calls Tryd.prog 12 #[] w fun e w' => e = .returned (.bool true) ∧ Ext w w' := by
  have CP := hide (fun w => Put_ok (fun j => [true, true, false, true].getD j false) (fun j => [true, false, true, true].getD j false) 4 3 (by omega) (by omega) (by omega) rfl rfl (fun k hk => by
    rw [List.getD_eq_getElem?_getD, List.getElem?_eq_none (by simp; omega)]; rfl) w)
  rw [show bsF (fun j => [true, true, false, true].getD j false) 4 = ⟨#[49, 49, 48, 49]⟩ from by decide +kernel, show bsF (fun j => [true, false, true, true].getD j false) (3 + 1) = ⟨#[49, 48, 49, 49]⟩ from by decide +kernel,
    show bsF (Wm.putF (fun j => [true, false, true, true].getD j false) 4 (fun j => [true, true, false, true].getD j false)) (4 + 3) = ⟨#[49, 49, 48, 49, 48, 48, 49]⟩ from by decide +kernel] at CP
  go_enter Tryd.func12, Tryd.ntmps12
  go_wp2_with fail
  refine (unhide CP _).mono ?_
  rintro e w1 ⟨rfl, E1⟩
  go_wp2
  go_ret
  exact ⟨rfl, E1⟩
end Go.Proofs.YtekkghhihnnpjaaDoor
