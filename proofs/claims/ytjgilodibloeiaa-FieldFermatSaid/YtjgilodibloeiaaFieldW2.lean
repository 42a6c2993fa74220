/-
  The walks of the laws FieldLogs, FieldTwice, FieldFermat.
-/
import Derived.Test.YtjgilodibloeiaaFieldW
namespace Go.Proofs.Ytjgilodibloeiaa
open Go.RowKit Go.BigFrame

theorem lg4 : Wm.lg 4 = 2 := by decide +kernel

set_option maxRecDepth 100000 in
set_option maxHeartbeats 2000000 in
theorem logs_any (a b : Nat) (ha : a < 256) (hb : b < 256) (w : World) :
    Calls Try.prog 4 #[.int .u8 a, .int .u8 b] w fun e w' => e = .returned (.bool true) ∧ Ext w w' := by
  have c0 := fun w : World => Log_ok 4 (by omega) (by omega) w
  rw [lg4] at c0
  have C0 := hide c0
  clear c0
  by_cases ha0 : a = 0
  · subst ha0
    have c3 := fun w : World => Mul_any 0 b (by omega) hb w
    rw [Wm.zero_fmul hb] at c3
    have C3 := hide c3
    clear c3
    by_cases hb0 : b = 0
    · subst hb0
      go_enter Try.func4, Try.ntmps4
      go_wp2_with fail
      refine (unhide C0 _).mono ?_
      rintro e w' ⟨rfl, rfl⟩
      go_wp2_with fail
      refine (fields_any _).mono ?_
      rintro e w' ⟨rfl, rfl⟩
      go_wp2_with fail
      refine (Log_zero _).mono ?_
      rintro e w' ⟨rfl, rfl⟩
      go_wp2_with fail
      refine (Log_zero _).mono ?_
      rintro e w' ⟨rfl, rfl⟩
      go_wp2_with fail
      refine (unhide C3 _).mono ?_
      rintro e w' ⟨rfl, rfl⟩
      go_wp2_with fail
      refine (Log_zero _).mono ?_
      rintro e w' ⟨rfl, rfl⟩
      go_wp2
      go_ret
      exact ⟨rfl, Ext.refl _⟩
    · have hne : ((b : Int) != 0) = true := by rw [bne_iff_ne]; omega
      have c2 := hide (fun w : World => Log_ok b hb0 hb w)
      clear hb0
      go_enter Try.func4, Try.ntmps4
      go_wp2_with fail
      refine (unhide C0 _).mono ?_
      rintro e w' ⟨rfl, rfl⟩
      go_wp2_with fail
      refine (fields_any _).mono ?_
      rintro e w' ⟨rfl, rfl⟩
      go_wp2_with fail
      refine (Log_zero _).mono ?_
      rintro e w' ⟨rfl, rfl⟩
      go_wp2_with fail
      refine (unhide c2 _).mono ?_
      rintro e w' ⟨rfl, rfl⟩
      go_wp2_with fail
      refine (unhide C3 _).mono ?_
      rintro e w' ⟨rfl, rfl⟩
      go_wp2_with fail
      refine (Log_zero _).mono ?_
      rintro e w' ⟨rfl, rfl⟩
      go_wp2
      go_ret
      exact ⟨rfl, Ext.refl _⟩
  · have hna : ((a : Int) != 0) = true := by rw [bne_iff_ne]; omega
    have c1 := hide (fun w : World => Log_ok a ha0 ha w)
    by_cases hb0 : b = 0
    · subst hb0
      have c3 := fun w : World => Mul_any a 0 ha (by omega) w
      rw [Wm.fmul_zero ha] at c3
      have C3 := hide c3
      clear c3 ha0
      go_enter Try.func4, Try.ntmps4
      go_wp2_with fail
      refine (unhide C0 _).mono ?_
      rintro e w' ⟨rfl, rfl⟩
      go_wp2_with fail
      refine (fields_any _).mono ?_
      rintro e w' ⟨rfl, rfl⟩
      go_wp2_with fail
      refine (unhide c1 _).mono ?_
      rintro e w' ⟨rfl, rfl⟩
      go_wp2_with fail
      refine (Log_zero _).mono ?_
      rintro e w' ⟨rfl, rfl⟩
      go_wp2_with fail
      refine (unhide C3 _).mono ?_
      rintro e w' ⟨rfl, rfl⟩
      go_wp2_with fail
      refine (Log_zero _).mono ?_
      rintro e w' ⟨rfl, rfl⟩
      go_wp2
      go_ret
      exact ⟨rfl, Ext.refl _⟩
    · have c2 := hide (fun w : World => Log_ok b hb0 hb w)
      have c3 := hide (fun w : World => Mul_any a b ha hb w)
      have c4 := fun w : World => Log_ok (Wm.fmul a b) (Wm.fmul_ne_zero ha0 ha hb0 hb) (Wm.fmul_lt ha hb) w
      rw [Wm.lg_fmul ha0 ha hb0 hb] at c4
      have C4 := hide c4
      have l1 := (Wm.lg_spec ha0 ha).2
      have l2 := (Wm.lg_spec hb0 hb).2
      have hm : (((Wm.lg a + Wm.lg b) % 255 : Nat) : Int) = ((Wm.lg a : Int) + (Wm.lg b : Int)) % 255 := by omega
      have HM := hide hm
      clear c4 ha0 hb0 hm
      generalize Wm.lg a = x at *
      generalize Wm.lg b = y at *
      generalize Wm.fmul a b = ab at *
      go_enter Try.func4, Try.ntmps4
      go_wp2_with fail
      refine (unhide C0 _).mono ?_
      rintro e w' ⟨rfl, rfl⟩
      go_wp2_with fail
      refine (fields_any _).mono ?_
      rintro e w' ⟨rfl, rfl⟩
      go_wp2_with fail
      refine (unhide c1 _).mono ?_
      rintro e w' ⟨rfl, rfl⟩
      go_wp2_with fail
      refine (unhide c2 _).mono ?_
      rintro e w' ⟨rfl, rfl⟩
      go_wp2_with fail
      refine (unhide c3 _).mono ?_
      rintro e w' ⟨rfl, rfl⟩
      go_wp2_with fail
      refine (unhide C4 _).mono ?_
      rintro e w' ⟨rfl, rfl⟩
      rw [unhide HM]
      go_wp2
      go_ret
      exact ⟨rfl, Ext.refl _⟩

set_option maxRecDepth 100000 in
set_option maxHeartbeats 2000000 in
theorem twice_any (a b : Nat) (ha : a < 256) (hb : b < 256) (w : World) :
    Calls Try.prog 5 #[.int .u8 a, .int .u8 b] w fun e w' => e = .returned (.bool true) ∧ Ext w w' := by
  have hx := u8_xor_nat a b ha hb
  have c1 := fun w : World => fpow_any a 2 ha (by omega) w
  have c2 := fun w : World => fpow_any b 2 hb (by omega) w
  have c3 := fun w : World => fpow_any (a ^^^ b) 2 (Wm.xor_lt ha hb) (by omega) w
  have c4 := fun w : World => fpow_any a 256 ha (by omega) w
  rw [Wm.fpow_two ha] at c1
  rw [Wm.fpow_two hb] at c2
  have hsq : Wm.fmul (a ^^^ b) (a ^^^ b) = Wm.fmul a a ^^^ Wm.fmul b b := by
    rw [Wm.fmul_xor, Wm.xor_fmul ha ha hb, Wm.xor_fmul hb ha hb, Wm.fmul_comm hb ha, Nat.xor_comm (Wm.fmul a b) (Wm.fmul b b), Wm.xor_xx]
  rw [Wm.fpow_two (Wm.xor_lt ha hb), hsq] at c3
  rw [Wm.fpow_256 ha] at c4
  have hx2 := u8_xor_nat (Wm.fmul a a) (Wm.fmul b b) (Wm.fmul_lt ha ha) (Wm.fmul_lt hb hb)
  have C1 := hide c1
  have C2 := hide c2
  have C3 := hide c3
  have C4 := hide c4
  clear c1 c2 c3 c4 hsq
  generalize Wm.fmul a a = x at *
  generalize Wm.fmul b b = y at *
  go_enter Try.func5, Try.ntmps5
  go_wp2_with fail
  refine (fields_any _).mono ?_
  rintro e w' ⟨rfl, rfl⟩
  go_wp2_with fail
  refine (unhide C1 _).mono ?_
  rintro e w' ⟨rfl, rfl⟩
  go_wp2_with fail
  refine (unhide C2 _).mono ?_
  rintro e w' ⟨rfl, rfl⟩
  go_wp2_with fail
  refine (unhide C3 _).mono ?_
  rintro e w' ⟨rfl, rfl⟩
  go_wp2_with fail
  refine (unhide C4 _).mono ?_
  rintro e w' ⟨rfl, rfl⟩
  go_wp2_with fail
  refine (good_made [0, 0, 0, 0] _ _ _ _ rfl rfl (by decide)).mono ?_
  rintro e w' ⟨rfl, rfl⟩
  go_wp2
  go_ret
  exact ⟨rfl, (Ext.refl _).alloc _⟩

set_option maxRecDepth 100000 in
set_option maxHeartbeats 2000000 in
theorem ffermat_any (a : Nat) (n k : Int) (ha : a < 256) (w : World) :
    Calls Try.prog 6 #[.int .u8 a, .int .i64 n, .int .i64 k] w fun e w' => e = .returned (.bool true) ∧ Ext w w' := by
  obtain ⟨N', n0, n1, -, cN⟩ := within_ex n 1073741824 (by omega) (by omega)
  obtain ⟨N, rfl⟩ := Int.eq_ofNat_of_zero_le n0
  obtain ⟨K', k0, k1, -, cK⟩ := within_ex k 1073741824 (by omega) (by omega)
  obtain ⟨K, rfl⟩ := Int.eq_ofNat_of_zero_le k0
  have c1 := fun w : World => fpow_any a 255 ha (by omega) w
  have c2 := hide (fun w : World => fpow_any a N ha (by omega) w)
  have c3 := hide (fun w : World => fpow_any a K ha (by omega) w)
  have c4 := fun w : World => fpow_any a (N + K) ha (by omega) w
  rw [Wm.fpow_add ha, Int.natCast_add] at c4
  have C4 := hide c4
  have u1 := Wm.fpow_lt ha N
  have v1 := Wm.fpow_lt ha K
  have c5 := hide (fun w : World => Mul_any (Wm.fpow a N) (Wm.fpow a K) u1 v1 w)
  clear c4
  generalize Wm.fmul (Wm.fpow a N) (Wm.fpow a K) = W4 at *
  generalize Wm.fpow a N = u at *
  generalize Wm.fpow a K = v at *
  by_cases ha0 : a = 0
  · subst ha0
    rw [Wm.fpow_zero_base (by omega)] at c1
    have C1 := hide c1
    clear c1
    go_enter Try.func6, Try.ntmps6
    go_wp2_with fail
    refine (fields_any _).mono ?_
    rintro e w' ⟨rfl, rfl⟩
    go_wp2_with fail
    refine (unhide cN _).mono ?_
    rintro e w' ⟨rfl, rfl⟩
    go_wp2_with fail
    refine (unhide cK _).mono ?_
    rintro e w' ⟨rfl, rfl⟩
    go_wp2_with fail
    refine (unhide C1 _).mono ?_
    rintro e w' ⟨rfl, rfl⟩
    go_wp2_with fail
    refine (Inv_zero _).mono ?_
    rintro e w' ⟨rfl, rfl⟩
    go_wp2_with fail
    refine (unhide c2 _).mono ?_
    rintro e w' ⟨rfl, rfl⟩
    go_wp2_with fail
    refine (unhide c3 _).mono ?_
    rintro e w' ⟨rfl, rfl⟩
    go_wp2_with fail
    refine (unhide C4 _).mono ?_
    rintro e w' ⟨rfl, rfl⟩
    go_wp2_with fail
    refine (good_made [0, 0, 0, 0] _ _ _ _ rfl rfl (by decide)).mono ?_
    rintro e w' ⟨rfl, rfl⟩
    go_wp2_with fail
    refine (unhide c5 _).mono ?_
    rintro e w' ⟨rfl, rfl⟩
    go_wp2
    go_ret
    exact ⟨rfl, (Ext.refl _).alloc _⟩
  · have hz : ((a : Int) == 0) = false := by rw [beq_eq_false_iff_ne]; omega
    rw [Wm.fpow_255 ha0 ha] at c1
    have C1 := hide c1
    have y1 := Wm.fpow_lt ha 254
    have c6 := hide (fun w : World => Inv_ok a ha0 ha w)
    have c7 := fun w : World => Inv_ok (Wm.fpow a 254) (Wm.finv_ne ha0 ha) y1 w
    rw [Wm.finv_inv ha0 ha] at c7
    have C7 := hide c7
    have c8 := fun w : World => Mul_any a (Wm.fpow a 254) ha y1 w
    rw [Wm.fmul_inv ha0 ha] at c8
    have C8 := hide c8
    clear c1 c7 c8 ha0
    generalize Wm.fpow a 254 = y at *
    go_enter Try.func6, Try.ntmps6
    go_wp2_with fail
    refine (fields_any _).mono ?_
    rintro e w' ⟨rfl, rfl⟩
    go_wp2_with fail
    refine (unhide cN _).mono ?_
    rintro e w' ⟨rfl, rfl⟩
    go_wp2_with fail
    refine (unhide cK _).mono ?_
    rintro e w' ⟨rfl, rfl⟩
    go_wp2_with fail
    refine (unhide C1 _).mono ?_
    rintro e w' ⟨rfl, rfl⟩
    go_wp2_with fail
    refine (unhide c6 _).mono ?_
    rintro e w' ⟨rfl, rfl⟩
    go_wp2_with fail
    refine (unhide c2 _).mono ?_
    rintro e w' ⟨rfl, rfl⟩
    go_wp2_with fail
    refine (unhide c3 _).mono ?_
    rintro e w' ⟨rfl, rfl⟩
    go_wp2_with fail
    refine (unhide C4 _).mono ?_
    rintro e w' ⟨rfl, rfl⟩
    go_wp2_with fail
    refine (good_made [0, 0, 0, 0] _ _ _ _ rfl rfl (by decide)).mono ?_
    rintro e w' ⟨rfl, rfl⟩
    go_wp2_with fail
    refine (unhide c5 _).mono ?_
    rintro e w' ⟨rfl, rfl⟩
    go_wp2_with fail
    refine (unhide C7 _).mono ?_
    rintro e w' ⟨rfl, rfl⟩
    go_wp2_with fail
    refine (good_two_ok _ _ _ ?_ ?_).mono ?_
    · exact (World.cell?_alloc_at _ _ _ _ (by simp)).trans rfl
    · exact (World.cell?_alloc_at _ _ _ _ (by simp)).trans rfl
    rintro e w' ⟨rfl, rfl⟩
    go_wp2_with fail
    refine (unhide C8 _).mono ?_
    rintro e w' ⟨rfl, rfl⟩
    go_wp2
    go_ret
    exact ⟨rfl, ((Ext.refl _).alloc _).alloc _⟩

end Go.Proofs.Ytjgilodibloeiaa
