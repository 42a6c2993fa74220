/-
  The walks of the laws FieldLaws, FieldLogs, FieldTwice, FieldFermat.
-/
import Derived.Test.YtjgilodibloeiaaField1
import Derived.Test.YtjgilodibloeiaaArith1
namespace Go.Proofs.Ytjgilodibloeiaa
open Go.RowKit Go.BigFrame

theorem of_u8 {a : Int} (h : (Lit.int .u8 a).wf = true) : ∃ n : Nat, a = n ∧ n < 256 := ⟨a.toNat, by have := bounds_u8 h; omega, by have := bounds_u8 h; omega⟩

theorem fields_any (w : World) : Calls Try.prog 13 #[] w fun e w' => e = .returned (.bool true) ∧ w' = w := by
  have c1 := fun w : World => Mul_any 2 128 (by omega) (by omega) w
  have c2 := fun w : World => Mul_any 3 7 (by omega) (by omega) w
  rw [show Wm.fmul 2 128 = 29 by decide] at c1
  rw [show Wm.fmul 3 7 = 9 by decide] at c2
  have C1 := hide c1
  have C2 := hide c2
  clear c1 c2
  go_enter Try.func13, Try.ntmps13
  go_wp2_with fail
  refine (unhide C1 _).mono ?_
  rintro e w' ⟨rfl, rfl⟩
  go_wp2_with fail
  refine (unhide C2 _).mono ?_
  rintro e w' ⟨rfl, rfl⟩
  go_wp2
  go_ret
  exact ⟨rfl, rfl⟩

set_option maxRecDepth 100000 in
set_option maxHeartbeats 2000000 in
theorem laws_any (a b c : Nat) (ha : a < 256) (hb : b < 256) (hc : c < 256) (w : World) :
    Calls Try.prog 3 #[.int .u8 a, .int .u8 b, .int .u8 c] w fun e w' => e = .returned (.bool true) ∧ Ext w w' := by
  have hab := Wm.fmul_lt ha hb
  have hbc := Wm.fmul_lt hb hc
  have hac := Wm.fmul_lt ha hc
  have c1 := hide (fun w : World => Mul_any a b ha hb w)
  have c2 := fun w : World => Mul_any b a hb ha w
  rw [Wm.fmul_comm hb ha] at c2
  have c3 := fun w : World => Mul_any (Wm.fmul a b) c hab hc w
  rw [Wm.fmul_assoc ha hb hc] at c3
  have c4 := hide (fun w : World => Mul_any b c hb hc w)
  have c5 := hide (fun w : World => Mul_any a (Wm.fmul b c) ha hbc w)
  have hx := u8_xor_nat b c hb hc
  have c6 := fun w : World => Mul_any a (b ^^^ c) ha (Wm.xor_lt hb hc) w
  rw [Wm.fmul_xor] at c6
  have c7 := hide (fun w : World => Mul_any a c ha hc w)
  have hx2 := u8_xor_nat (Wm.fmul a b) (Wm.fmul a c) hab hac
  have c8 := fun w : World => Mul_any a 1 ha (by omega) w
  rw [Wm.fmul_one ha] at c8
  have hz := Wm.fmul_eq_zero ha hb
  have C2 := hide c2
  have C3 := hide c3
  have C6 := hide c6
  have C8 := hide c8
  clear c2 c3 c6 c8
  generalize Wm.fmul a (Wm.fmul b c) = abc at *
  generalize Wm.fmul a b = ab at *
  generalize Wm.fmul b c = bc at *
  generalize Wm.fmul a c = ac at *
  generalize ab ^^^ ac = x at *
  generalize b ^^^ c = bxc at *
  have core : ∀ (v1 v2 v3 : Bool), ((ab : Int) == 0) = v1 → ((a : Int) == 0) = v2 → ((b : Int) == 0) = v3 → (v1 == (v2 || v3)) = true →
      Calls Try.prog 3 #[.int .u8 a, .int .u8 b, .int .u8 c] w fun e w' => e = .returned (.bool true) ∧ Ext w w' := by
    intro v1 v2 v3 h1 h2 h3 h4
    clear hz
    cases v1 <;> cases v2 <;> cases v3 <;> (try (exfalso; simp at h4; done)) <;> clear h4
    all_goals
      go_enter Try.func3, Try.ntmps3
      go_wp2_with fail
      refine (fields_any _).mono ?_
      rintro e w' ⟨rfl, rfl⟩
      go_wp2_with fail
      refine (unhide c1 _).mono ?_
      rintro e w' ⟨rfl, rfl⟩
      go_wp2_with fail
      refine (unhide C2 _).mono ?_
      rintro e w' ⟨rfl, rfl⟩
      go_wp2_with fail
      refine (unhide c1 _).mono ?_
      rintro e w' ⟨rfl, rfl⟩
      go_wp2_with fail
      refine (unhide C3 _).mono ?_
      rintro e w' ⟨rfl, rfl⟩
      go_wp2_with fail
      refine (unhide c4 _).mono ?_
      rintro e w' ⟨rfl, rfl⟩
      go_wp2_with fail
      refine (unhide c5 _).mono ?_
      rintro e w' ⟨rfl, rfl⟩
      go_wp2_with fail
      refine (unhide C6 _).mono ?_
      rintro e w' ⟨rfl, rfl⟩
      go_wp2_with fail
      refine (unhide c1 _).mono ?_
      rintro e w' ⟨rfl, rfl⟩
      go_wp2_with fail
      refine (unhide c7 _).mono ?_
      rintro e w' ⟨rfl, rfl⟩
      go_wp2_with fail
      refine (unhide C8 _).mono ?_
      rintro e w' ⟨rfl, rfl⟩
      go_wp2_with fail
      refine (unhide c1 _).mono ?_
      rintro e w' ⟨rfl, rfl⟩
      go_wp2
      go_ret
      exact ⟨rfl, Ext.refl _⟩
  refine core _ _ _ rfl rfl rfl ?_
  rw [beq_iff_eq, Bool.eq_iff_iff]
  simp
  omega

end Go.Proofs.Ytjgilodibloeiaa
