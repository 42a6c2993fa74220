/-
  The walk of the law RestUndone.
-/
import Derived.Test.YtmiddpfaamcbgaaRest1
import Derived.Test.YtmiddpfaamcbgaaHead
namespace Go.Proofs.Ytmiddpfaamcbgaa
open Go.RowKit Go.BigFrame

set_option maxHeartbeats 1000000 in
theorem undone_any (a b m : Int) (w : World) :
    Calls Try.prog 9 #[.int .i64 a, .int .i64 b, .int .i64 m] w fun e w' => e = .returned (.bool true) ∧ Ext w w' := by
  have c0 := hide (fun w : World => Inverse_ok 3 7 w (by omega) (by decide))
  rw [show Wm.inv 3 7 = 5 from Wm.inv_spec (by omega) (by decide)] at c0
  by_cases hm : 1 ≤ m ∧ m ≤ 1000000
  · by_cases hg : Int.gcd a m = 1
    · obtain ⟨hx, hxd⟩ := inv_is w a m hm.1 (by omega) hg
      have c1 := hide (fun w : World => Inverse_ok a m w hm hg)
      have c2 := hide (fun w : World => of_ok a m w hm.1 hm.2)
      have hc := Wm.emod_bound a (show 0 < m by omega)
      have hd := Wm.emod_bound b (show 0 < m by omega)
      have gx : Int.gcd (Wm.inv a m) m = 1 := Wm.gcd_one_of_dvd (x := a) (by rw [Int.mul_comm]; exact hxd)
      have hcx : m ∣ (a % m) * Wm.inv a m - 1 := by
        rw [← Wm.emod_congr] at hxd ⊢
        rw [Wm.mul_emod_left', Int.mul_comm, hxd]
      have c3 := hide (fun w : World => Inverse_ok (Wm.inv a m) m w hm gx)
      rw [Wm.inv_spec hc hcx] at c3
      have c4 := hide (fun w : World => of_ok b m w hm.1 hm.2)
      have hgcd : Int.gcd ((a % m) * (b % m)) m = Int.gcd b m := by
        rw [← Wm.gcd_emod, ← Int.mul_emod, Wm.gcd_emod, Int.gcd_mul_right_left_of_gcd_eq_one hg]
      have hone : Hid (Wm.inv a m * (a % m) % m = 1 % m) := hide (by rw [Wm.mul_emod_right']; exact Wm.emod_congr.2 hxd)
      have p1 := Wm.mul_bound (a % m) (b % m) 1000000 1000000 (by omega) (by omega)
      have p2 := Wm.mul_bound (Wm.inv a m) (a % m) 1000000 1000000 (by omega) (by omega)
      have q2 : 0 ≤ Wm.inv a m * (a % m) := Int.mul_nonneg hx.1 hc.1
      by_cases hb : Int.gcd b m = 1
      · obtain ⟨hz, hzd⟩ := inv_is w b m hm.1 (by omega) hb
        have c5 := hide (fun w : World => Inverse_ok b m w hm hb)
        have c6 := hide (fun w : World => Inverse_ok ((a % m) * (b % m)) m w hm (hgcd.trans hb))
        have hw : Wm.inv ((a % m) * (b % m)) m = Wm.inv a m * Wm.inv b m % m := by
          refine Wm.inv_spec (Wm.emod_bound _ (by omega)) ?_
          rw [← Wm.emod_congr] at hxd hzd ⊢
          rw [Wm.mul_emod_left', Int.mul_emod, ← Int.mul_emod a b m, ← Int.mul_emod]
          have e : Wm.inv a m * Wm.inv b m * (a * b) = (Wm.inv a m * a) * (Wm.inv b m * b) := by simp only [Int.mul_assoc, Int.mul_left_comm a]
          rw [e, Int.mul_emod, hxd, hzd, ← Int.mul_emod]
          simp
        rw [hw] at c6
        have p3 := Wm.mul_bound (Wm.inv a m) (Wm.inv b m) 1000000 1000000 (by omega) (by omega)
        have q3 : 0 ≤ Wm.inv a m * Wm.inv b m := Int.mul_nonneg hx.1 hz.1
        clear hgcd hw hb hg gx hxd hzd hcx
        generalize a % m = C at *
        generalize b % m = D at *
        generalize Wm.inv a m = x at *
        generalize Wm.inv b m = z at *
        have ho : x * C % m = 1 % m := unhide hone
        clear hone
        have t1 := Wm.emod_bound 1 (show 0 < m by omega)
        have h1m : (1 : Int).tmod m = 1 % m := Int.tmod_eq_emod_of_nonneg (by omega)
        generalize 1 % m = o at *
        have m0 : (m == 0) = false := by rw [beq_eq_false_iff_ne]; omega
        have m1 : ¬ m = 0 := by omega
        have w1 : IntKind.i64.wrap (x * C) = x * C := IntWalk.i64_in _ (by omega)
        have w2 : IntKind.i64.wrap (x * z) = x * z := IntWalk.i64_in _ (by omega)
        have t2 : (x * C).tmod m = o := by rw [Int.tmod_eq_emod_of_nonneg q2]; exact ho
        have t3 : (x * z).tmod m = x * z % m := Int.tmod_eq_emod_of_nonneg q3
        have p4 := Wm.emod_bound (x * z) (show 0 < m by omega)
        generalize x * z % m = v at *
        go_enter Try.func9, Try.ntmps9
        go_wp2_with fail
        refine (unhide c0 _).mono ?_
        rintro e w' ⟨rfl, d0, rfl⟩
        go_wp2_with fail
        refine (unhide c1 _).mono ?_
        rintro e w' ⟨rfl, d1, rfl⟩
        go_wp2_with fail
        refine (unhide c2 _).mono ?_
        rintro e w' ⟨rfl, rfl⟩
        go_wp2_with fail
        refine (unhide c3 _).mono ?_
        rintro e w' ⟨rfl, d3, rfl⟩
        go_wp2_with fail
        refine (unhide c5 _).mono ?_
        rintro e w' ⟨rfl, d5, rfl⟩
        go_wp2_with fail
        refine (unhide c4 _).mono ?_
        rintro e w' ⟨rfl, rfl⟩
        go_wp2_with fail
        refine (unhide c6 _).mono ?_
        rintro e w' ⟨rfl, d6, rfl⟩
        go_wp2_with fail
        refine wp_region_head 4 (fun _ _ d _ _ h => by cases d <;> exact h) (by kernel_rfl) (by kernel_rfl) ?_
        show wpList _ _ _ (_ :: _ :: _ :: _ :: []) _ _
        go_wp2_with (go_at_call 20; refine (good_two_ok _ _ _ ?_ ?_).mono ?_; exact (World.cell?_alloc_at _ _ _ _ rfl).trans rfl; exact (World.cell?_alloc_at _ _ _ _ rfl).trans rfl; rintro e w' ⟨rfl, rfl⟩)
        show wpQuiet _ _ _ _ (_ :: _ :: _ :: _ :: _ :: _ :: _ :: _ :: _ :: _ :: _ :: _ :: _ :: _ :: _ :: _ :: _ :: _ :: _ :: _ :: _ :: _ :: _ :: _ :: _ :: _ :: _ :: _ :: _ :: _ :: _ :: _ :: _ :: _ :: []) _
        repeat (go_big_quiet_step (fail))
        refine wpQuiet_nil ?_
        intro _ hw'
        obtain ⟨nq, hw''⟩ := hw'
        subst hw''
        go_wp2
        go_ret
        exact ⟨rfl, (((Ext.refl _).drewN _).alloc _).drewN _⟩
      · have c5 := hide (fun w : World => Inverse_none b m w hm hb)
        have c6 := hide (fun w : World => Inverse_none ((a % m) * (b % m)) m w hm (fun h => hb (hgcd.symm.trans h)))
        clear hgcd hb hg gx hxd hcx
        generalize a % m = C at *
        generalize b % m = D at *
        generalize Wm.inv a m = x at *
        have ho : x * C % m = 1 % m := unhide hone
        clear hone
        have t1 := Wm.emod_bound 1 (show 0 < m by omega)
        have h1m : (1 : Int).tmod m = 1 % m := Int.tmod_eq_emod_of_nonneg (by omega)
        generalize 1 % m = o at *
        have m0 : (m == 0) = false := by rw [beq_eq_false_iff_ne]; omega
        have m1 : ¬ m = 0 := by omega
        have n40 : ((4 : Int) != 0) = true := by decide
        have w1 : IntKind.i64.wrap (x * C) = x * C := IntWalk.i64_in _ (by omega)
        have t2 : (x * C).tmod m = o := by rw [Int.tmod_eq_emod_of_nonneg q2]; exact ho
        go_enter Try.func9, Try.ntmps9
        go_wp2_with fail
        refine (unhide c0 _).mono ?_
        rintro e w' ⟨rfl, d0, rfl⟩
        go_wp2_with fail
        refine (unhide c1 _).mono ?_
        rintro e w' ⟨rfl, d1, rfl⟩
        go_wp2_with fail
        refine (unhide c2 _).mono ?_
        rintro e w' ⟨rfl, rfl⟩
        go_wp2_with fail
        refine (unhide c3 _).mono ?_
        rintro e w' ⟨rfl, d3, rfl⟩
        go_wp2_with fail
        refine (unhide c5 _).mono ?_
        rintro e w' ⟨rfl, d5, rfl⟩
        go_wp2_with fail
        refine (unhide c4 _).mono ?_
        rintro e w' ⟨rfl, rfl⟩
        go_wp2_with fail
        refine (unhide c6 _).mono ?_
        rintro e w' ⟨rfl, d6, rfl⟩
        go_wp2_with fail
        refine wp_region_head 4 (fun _ _ d _ _ h => by cases d <;> exact h) (by kernel_rfl) (by kernel_rfl) ?_
        show wpList _ _ _ (_ :: _ :: _ :: _ :: []) _ _
        go_wp2_with (go_at_call 20; refine (good_two_ok _ _ _ ?_ ?_).mono ?_; exact (World.cell?_alloc_at _ _ _ _ rfl).trans rfl; exact (World.cell?_alloc_at _ _ _ _ rfl).trans rfl; rintro e w' ⟨rfl, rfl⟩)
        show wpQuiet _ _ _ _ (_ :: _ :: _ :: _ :: _ :: _ :: _ :: _ :: _ :: _ :: _ :: _ :: _ :: _ :: _ :: _ :: _ :: _ :: _ :: _ :: _ :: _ :: _ :: _ :: _ :: _ :: _ :: _ :: _ :: _ :: _ :: _ :: _ :: _ :: []) _
        repeat (go_big_quiet_step (fail))
        refine wpQuiet_nil ?_
        intro _ hw'
        obtain ⟨nq, hw''⟩ := hw'
        subst hw''
        go_wp2
        go_ret
        exact ⟨rfl, (((Ext.refl _).drewN _).alloc _).drewN _⟩
    · have c1 := hide (fun w : World => Inverse_none a m w hm hg)
      clear hm hg
      go_enter Try.func9, Try.ntmps9
      go_wp2_with fail
      refine (unhide c0 _).mono ?_
      rintro e w' ⟨rfl, d0, rfl⟩
      go_wp2_with fail
      refine (unhide c1 _).mono ?_
      rintro e w' ⟨rfl, d1, rfl⟩
      go_wp2
      go_ret
      exact ⟨rfl, (Ext.refl _).drewN _⟩
  · have c1 := hide (fun w : World => Inverse_bad a m w hm)
    clear hm
    go_enter Try.func9, Try.ntmps9
    go_wp2_with fail
    refine (unhide c0 _).mono ?_
    rintro e w' ⟨rfl, d0, rfl⟩
    go_wp2_with fail
    refine (unhide c1 _).mono ?_
    rintro e w' ⟨rfl, d1, rfl⟩
    go_wp2
    go_ret
    exact ⟨rfl, (Ext.refl _).drewN _⟩

end Go.Proofs.Ytmiddpfaamcbgaa
