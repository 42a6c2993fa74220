/-
  The walks of the laws HammingOne, HammingFar, HammingAll.
-/
import Derived.Test.YtjgilodibloeiaaHamming2
import Derived.Test.YtjgilodibloeiaaArith1
namespace Go.Proofs.Ytjgilodibloeiaa
open Go.RowKit Go.BigFrame

theorem of_u16 {a : Int} (h : (Lit.int .u16 a).wf = true) : ∃ n : Nat, a = n ∧ n < 65536 := ⟨a.toNat, by have := bounds_u16 h; omega, by have := bounds_u16 h; omega⟩

theorem hput1 : Wm.hput 1 = 7 := by decide +kernel
theorem hammings_any (w : World) : Calls Try.prog 26 #[] w fun e w' => e = .returned (.bool true) ∧ w' = w := by
  have c1 := fun w : World => Put_ok 1 (by omega) w
  rw [hput1] at c1
  have C1 := hide c1
  clear c1
  go_enter Try.func26, Try.ntmps26
  go_wp2_with fail
  refine (unhide C1 _).mono ?_
  rintro e w' ⟨rfl, rfl⟩
  go_wp2
  go_ret
  exact ⟨rfl, rfl⟩

theorem and2047 (d : Nat) (hd : d < 65536) : bits .and .u16 (d : Int) 2047 = ((d % 2048 : Nat) : Int) := by
  have h := u16_and_nat d 2047 hd (by omega)
  rw [show (2047 : Nat) = 2 ^ 11 - 1 from rfl, Nat.and_two_pow_sub_one_eq_mod] at h
  exact h
theorem and32767 (d : Nat) (hd : d < 65536) : bits .and .u16 (d : Int) 32767 = ((d % 32768 : Nat) : Int) := by
  have h := u16_and_nat d 32767 hd (by omega)
  rw [show (32767 : Nat) = 2 ^ 15 - 1 from rfl, Nat.and_two_pow_sub_one_eq_mod] at h
  exact h
theorem xorbit (v S : Nat) (hv : v < 65536) (hS : S < 15) : bits .xor .u16 (v : Int) (IntKind.u16.wrap (2 ^ S)) = ((v ^^^ 2 ^ S : Nat) : Int) := by
  have h2 := Wm.bit_lt hS
  have e : (2 : Int) ^ S = ((2 ^ S : Nat) : Int) := by push_cast; rfl
  rw [e]
  generalize 2 ^ S = P at *
  rw [IntWalk.u16_in _ (by omega), u16_xor_nat _ _ (by omega) (by omega)]

set_option maxRecDepth 100000 in
set_option maxHeartbeats 1000000 in
theorem hone_any (d : Nat) (at_ : Int) (hd : d < 65536) (w : World) :
    Calls Try.prog 11 #[.int .u16 d, .int .i64 at_] w fun e w' => e = .returned (.bool true) ∧ Ext w w' := by
  obtain ⟨A', a0, a1, -, cA⟩ := within_ex at_ 16 (by omega) (by omega)
  obtain ⟨A, rfl⟩ := Int.eq_ofNat_of_zero_le a0
  have hand := and2047 d hd
  have hD : d % 2048 < 2048 := Nat.mod_lt _ (by omega)
  generalize d % 2048 = D at *
  have hs := Wm.hput_spec hD
  have c1 := hide (fun w : World => Put_ok D hD w)
  by_cases h0 : A = 0
  · subst h0
    have c2 := fun w : World => Get_ok (Wm.hput D) hs.2.1 w
    rw [Wm.hnone hD, hs.1] at c2
    have C2 := hide c2
    have HA := hide hand
    clear c2 hs hD hand hd
    generalize Wm.hput D = P at *
    go_enter Try.func11, Try.ntmps11
    go_wp2_with fail
    refine (hammings_any _).mono ?_
    rintro e w' ⟨rfl, rfl⟩
    go_wp2_with fail
    rw [unhide HA]
    go_wp2_with fail
    refine (unhide cA _).mono ?_
    rintro e w' ⟨rfl, rfl⟩
    go_wp2_with fail
    refine (unhide c1 _).mono ?_
    rintro e w' ⟨rfl, rfl⟩
    go_wp2_with fail
    refine (unhide C2 _).mono ?_
    rintro e w' ⟨rfl, rfl⟩
    go_wp2_with fail
    refine (good_made [0, 0] _ _ _ _ rfl rfl (by decide)).mono ?_
    rintro e w' ⟨rfl, rfl⟩
    go_wp2
    go_ret
    exact ⟨rfl, (Ext.refl _).alloc _⟩
  · obtain ⟨S, rfl⟩ : ∃ S, A = S + 1 := ⟨A - 1, by omega⟩
    have hS : S < 15 := by omega
    obtain ⟨k1, k2, k3⟩ := Wm.hone hD hS
    have c2 := fun w : World => Get_ok (Wm.hput D ^^^ 2 ^ S) k2 w
    rw [k1, k3] at c2
    have hx := xorbit (Wm.hput D) S (by omega) hS
    have C2 := hide c2
    have HA := hide hand
    have hc : ((S + 1 : Nat) : Int) = (S : Int) + 1 := by omega
    rw [hc] at cA a1 C2
    clear c2 hs hD hand hd k1 k2 k3 h0 a0 hc
    generalize Wm.hput D ^^^ 2 ^ S = P2 at *
    generalize Wm.hput D = P at *
    go_enter Try.func11, Try.ntmps11
    go_wp2_with fail
    refine (hammings_any _).mono ?_
    rintro e w' ⟨rfl, rfl⟩
    go_wp2_with fail
    rw [unhide HA]
    go_wp2_with fail
    refine (unhide cA _).mono ?_
    rintro e w' ⟨rfl, rfl⟩
    go_wp2_with fail
    refine (unhide c1 _).mono ?_
    rintro e w' ⟨rfl, rfl⟩
    go_wp2_with fail
    refine (unhide C2 _).mono ?_
    rintro e w' ⟨rfl, rfl⟩
    go_wp2_with fail
    refine (good_made [0, 0] _ _ _ _ rfl rfl (by decide)).mono ?_
    rintro e w' ⟨rfl, rfl⟩
    go_wp2
    go_ret
    exact ⟨rfl, (Ext.refl _).alloc _⟩

set_option maxRecDepth 100000 in
set_option maxHeartbeats 1000000 in
theorem hfar_any (a b : Nat) (ha : a < 65536) (hb : b < 65536) (w : World) :
    Calls Try.prog 10 #[.int .u16 a, .int .u16 b] w fun e w' => e = .returned (.bool true) ∧ Ext w w' := by
  have hand := and2047 a ha
  have hand2 := and2047 b hb
  have hA : a % 2048 < 2048 := Nat.mod_lt _ (by omega)
  have hB : b % 2048 < 2048 := Nat.mod_lt _ (by omega)
  generalize a % 2048 = A at *
  generalize b % 2048 = B at *
  have hAB : A ^^^ B < 2048 := Nat.xor_lt_two_pow (n := 11) hA hB
  have hx := u16_xor_nat A B (by omega) (by omega)
  have s1 := Wm.hput_spec hA
  have s2 := Wm.hput_spec hB
  have hx2 := u16_xor_nat (Wm.hput A) (Wm.hput B) (by omega) (by omega)
  have c1 := hide (fun w : World => Put_ok A hA w)
  have c2 := hide (fun w : World => Put_ok B hB w)
  have c3 := hide (fun w : World => Put_ok (A ^^^ B) hAB w)
  have hl := Wm.hput_xor hA hB
  rw [← hl] at hx2
  have s3 := Wm.hput_spec hAB
  have c4 := fun w : World => Ones_any (Wm.hput (A ^^^ B)) (by omega) w
  have HA := hide hand
  have HB := hide hand2
  by_cases he : A = B
  · subst he
    clear hA hB hAB s1 s2 s3 hl c4 hand hand2 ha hb
    generalize Wm.hput (A ^^^ A) = Z at *
    generalize A ^^^ A = X at *
    generalize Wm.hput A = P at *
    have HX := hide hx
    have HX2 := hide hx2
    clear hx hx2
    go_enter Try.func10, Try.ntmps10
    go_wp2_with fail
    refine (hammings_any _).mono ?_
    rintro e w' ⟨rfl, rfl⟩
    go_wp2_with fail
    rw [unhide HA, unhide HB]
    go_wp2_with fail
    refine (unhide c1 _).mono ?_
    rintro e w' ⟨rfl, rfl⟩
    go_wp2_with fail
    refine (unhide c2 _).mono ?_
    rintro e w' ⟨rfl, rfl⟩
    go_wp2_with fail
    rw [unhide HX]
    go_wp2_with fail
    refine (unhide c3 _).mono ?_
    rintro e w' ⟨rfl, rfl⟩
    go_wp2_with fail
    refine (good_made [0, 0, 0] _ _ _ _ rfl rfl (by decide)).mono ?_
    rintro e w' ⟨rfl, rfl⟩
    have hx2 := unhide HX2
    go_wp2
    go_ret
    exact ⟨rfl, (Ext.refl _).alloc _⟩
  · have hne : ((A : Int) == (B : Int)) = false := by rw [beq_eq_false_iff_ne]; omega
    have h3 := Wm.hput_weight (d := A ^^^ B) (fun h => he (by
      have : A ^^^ B ^^^ B = B := by rw [h, Nat.zero_xor]
      rwa [Nat.xor_assoc, Nat.xor_self, Nat.xor_zero] at this)) hAB
    have C4 := hide c4
    have hz : (Wm.hput (A ^^^ B) : Int) ≤ 40000 := by omega
    clear hA hB hAB s1 s2 s3 hl c4 hand hand2 ha hb he
    generalize Wm.ones16 (Wm.hput (A ^^^ B)) 16 = O at *
    generalize Wm.hput (A ^^^ B) = Z at *
    generalize A ^^^ B = X at *
    generalize Wm.hput A = P at *
    generalize Wm.hput B = P2 at *
    have HX := hide hx
    have HX2 := hide hx2
    clear hx hx2
    go_enter Try.func10, Try.ntmps10
    go_wp2_with fail
    refine (hammings_any _).mono ?_
    rintro e w' ⟨rfl, rfl⟩
    go_wp2_with fail
    rw [unhide HA, unhide HB]
    go_wp2_with fail
    refine (unhide c1 _).mono ?_
    rintro e w' ⟨rfl, rfl⟩
    go_wp2_with fail
    refine (unhide c2 _).mono ?_
    rintro e w' ⟨rfl, rfl⟩
    go_wp2_with fail
    rw [unhide HX]
    go_wp2_with fail
    refine (unhide c3 _).mono ?_
    rintro e w' ⟨rfl, rfl⟩
    go_wp2_with fail
    refine (good_made [0, 0, 0] _ _ _ _ rfl rfl (by decide)).mono ?_
    rintro e w' ⟨rfl, rfl⟩
    have hx2 := unhide HX2
    go_wp2_with fail
    refine (unhide C4 _).mono ?_
    rintro e w' ⟨rfl, rfl⟩
    go_wp2
    go_ret
    exact ⟨ret_bool (by simp; omega), (Ext.refl _).alloc _⟩

set_option maxRecDepth 100000 in
set_option maxHeartbeats 1000000 in
theorem hall_any (v : Nat) (hv : v < 65536) (w : World) :
    Calls Try.prog 12 #[.int .u16 v] w fun e w' => e = .returned (.bool true) ∧ Ext w w' := by
  have hand := and32767 v hv
  have hV : v % 32768 < 32768 := Nat.mod_lt _ (by omega)
  generalize v % 32768 = V at *
  have hf := Wm.hfix_spec hV
  have hr : Wm.hput (Wm.hget V) = Wm.hfix V ∧ Wm.hget V < 2048 := by unfold Wm.hget; exact Wm.hread_spec hf.1 hf.2
  have c1 := hide (fun w : World => Get_ok V hV w)
  have c2 := fun w : World => Put_ok (Wm.hget V) hr.2 w
  rw [hr.1] at c2
  have C2 := hide c2
  have HA := hide hand
  have hfd : Wm.hfix V = if Wm.hsum V 15 = 0 then V else V ^^^ 2 ^ (Wm.hsum V 15 - 1) := rfl
  have hl := Wm.hsum_lt V 15 (by omega)
  by_cases h0 : Wm.hsum V 15 = 0
  · rw [if_pos h0] at hfd
    rw [hfd] at C2
    rw [h0] at c1
    clear c2 hand hV hf hr hfd hl h0 hv
    generalize Wm.hget V = G at *
    go_enter Try.func12, Try.ntmps12
    go_wp2_with fail
    refine (hammings_any _).mono ?_
    rintro e w' ⟨rfl, rfl⟩
    go_wp2_with fail
    rw [unhide HA]
    go_wp2_with fail
    refine (unhide c1 _).mono ?_
    rintro e w' ⟨rfl, rfl⟩
    go_wp2_with fail
    refine (unhide C2 _).mono ?_
    rintro e w' ⟨rfl, rfl⟩
    go_wp2_with fail
    refine (good_made [0, 0] _ _ _ _ rfl rfl (by decide)).mono ?_
    rintro e w' ⟨rfl, rfl⟩
    go_wp2
    go_ret
    exact ⟨rfl, (Ext.refl _).alloc _⟩
  · rw [if_neg h0] at hfd
    obtain ⟨S, hS⟩ : ∃ S, Wm.hsum V 15 = S + 1 := ⟨Wm.hsum V 15 - 1, by omega⟩
    have hS15 : S < 15 := by omega
    rw [hS, Nat.add_sub_cancel] at hfd
    rw [hS] at c1
    have hx := xorbit (Wm.hfix V) S (by omega) hS15
    have hback : Wm.hfix V ^^^ 2 ^ S = V := by rw [hfd, Nat.xor_assoc, Nat.xor_self, Nat.xor_zero]
    rw [hback] at hx
    have hc : ((S + 1 : Nat) : Int) = (S : Int) + 1 := by omega
    rw [hc] at c1
    have HX := hide hx
    clear c2 hand hV hf hr hfd hl h0 hv hS hback hc hx
    generalize Wm.hget V = G at *
    generalize Wm.hfix V = F at *
    go_enter Try.func12, Try.ntmps12
    go_wp2_with fail
    refine (hammings_any _).mono ?_
    rintro e w' ⟨rfl, rfl⟩
    go_wp2_with fail
    rw [unhide HA]
    go_wp2_with fail
    refine (unhide c1 _).mono ?_
    rintro e w' ⟨rfl, rfl⟩
    go_wp2_with fail
    refine (unhide C2 _).mono ?_
    rintro e w' ⟨rfl, rfl⟩
    go_wp2_with fail
    refine (good_made [0, 0] _ _ _ _ rfl rfl (by decide)).mono ?_
    rintro e w' ⟨rfl, rfl⟩
    have hx := unhide HX
    go_wp2
    go_ret
    exact ⟨rfl, (Ext.refl _).alloc _⟩

end Go.Proofs.Ytjgilodibloeiaa
