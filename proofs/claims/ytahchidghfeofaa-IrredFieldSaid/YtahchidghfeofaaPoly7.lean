/-
  The laws' own trial of polynomials; the law PolyRing.
-/
import Derived.Test.YtahchidghfeofaaPoly5
import Derived.Test.YtahchidghfeofaaPoly6
import Derived.Test.YtahchidghfeofaaLaw
set_option linter.unusedVariables false
set_option linter.unusedSimpArgs false
namespace Wm
theorem prime_5 : Prime 5 := pchk_spec (r := 1) (by decide +kernel)
def P5 : Pr := ⟨5, prime_5⟩
theorem mulL_5 : mulL 5 [1, 2] [3, 1] = [3, 2, 2] := by decide +kernel
theorem no_90 : ∀ k, 90 ≤ k → k < 97 → ¬ Prime k := fun k h1 h2 hp => by
  have h : ∀ e, 1 < e → e < k → e ∣ k → False := fun e he1 he2 hd => not_prime_of_dvd he1 he2 hd hp
  by_cases e2 : k % 2 = 0
  · exact h 2 (by omega) (by omega) (Nat.dvd_of_mod_eq_zero e2)
  · by_cases e3 : k % 3 = 0
    · exact h 3 (by omega) (by omega) (Nat.dvd_of_mod_eq_zero e3)
    · by_cases e7 : k % 7 = 0
      · exact h 7 (by omega) (by omega) (Nat.dvd_of_mod_eq_zero e7)
      · obtain rfl : k = 95 := (by decide : ∀ k, k < 97 → 90 ≤ k → k % 2 ≠ 0 → k % 3 ≠ 0 → k % 7 ≠ 0 → k = 95) k h2 h1 e2 e3 e7
        exact h 5 (by omega) (by omega) (by decide)
end Wm
namespace Go.Proofs.Ytahchidghfeofaa
open Go.RowKit Go.BigFrame

set_option maxRecDepth 100000 in
set_option maxHeartbeats 1000000 in
theorem equal_q (A B : Option Addr) (n m c d : Nat) (xs ys : List Int) (w : World) (R : Row w A n 1 (ints xs)) (S : Row w B m 1 (ints ys)) (hn : (n : Int) ≤ 9223372036854775807) (hm : (m : Int) ≤ 9223372036854775807) :
    Calls Try.prog 6 #[.slice A n c, .slice B m d] w fun e w' => e = .returned (.bool (decide (xs = ys))) ∧ ∃ k, w' = w.drewN k := by
  have hx := R.num
  have hy := S.num
  by_cases hnm : n = m
  · subst hnm
    have HX := hide hx
    have HY := hide hy
    have HR := hide R
    have HS := hide S
    clear hx hy R S
    go_enter Try.func6, Try.ntmps6
    go_wp2
    go_loopw [13] (fun i wr => ∃ k : Nat, k ≤ n ∧ i = .int .i64 k ∧ Hid (∀ j, j < k → xs.getD j 0 = ys.getD j 0) ∧ ∃ q, wr = w.drewN q) (fun i _ => n - (intOf i).toNat)
    case atStart => exact ⟨0, by omega, rfl, hide (fun j h => absurd h (by omega)), 0, rfl⟩
    case round =>
      obtain ⟨k, hk, rfl, hz, q, rfl⟩ := hrel
      by_cases hlt : k < n
      · obtain ⟨b, o, rfl, hb, c1⟩ := (unhide HR).int hlt
        obtain ⟨b', o', rfl, hb', c2⟩ := (unhide HS).int hlt
        have hk0 : (0 : Int) ≤ (k : Int) := by omega
        have hk1 : (k : Int) < (n : Int) := by omega
        by_cases he : xs.getD k 0 = ys.getD k 0
        · have hz2 := hide (fun j (hj : j < k + 1) => (show xs.getD j 0 = ys.getD j 0 from by
            by_cases h : j < k
            · exact unhide hz j h
            · obtain rfl : j = k := by omega
              exact he))
          rw [he] at c1
          clear he
          generalize ys.getD k 0 = y at *
          go_wp2
          go_quiet (fail)
          go_wp2
          go_roundw
          case rel => exact ⟨k + 1, by omega, by go_num, hz2, _, rfl⟩
          case measure => simp [intOf]; omega
        · have hne : (xs.getD k 0 != ys.getD k 0) = true := by rw [bne_iff_ne]; exact he
          have hfin := hide (show decide (xs = ys) = false from decide_eq_false (fun h => he (by rw [h])))
          clear he
          generalize xs.getD k 0 = x at *
          generalize ys.getD k 0 = y at *
          go_wp2
          go_quiet (fail)
          go_wp2
          go_ret
          exact ⟨ret_boolv (unhide hfin).symm, _, World.drewN_drewN _ _ _⟩
      · obtain rfl : k = n := by omega
        have hfin := hide (show decide (xs = ys) = true from decide_eq_true (by
          have h1 := unhide HX
          have h2 := unhide HY
          apply List.ext_getElem (by omega)
          intro j j1 j2
          have := unhide hz j (by omega)
          rwa [List.getD_eq_getElem?_getD, List.getElem?_eq_getElem j1, List.getD_eq_getElem?_getD, List.getElem?_eq_getElem j2] at this))
        go_wp2
        go_ret
        exact ⟨ret_boolv (unhide hfin).symm, _, rfl⟩
  · have hv : decide (xs = ys) = false := decide_eq_false (fun h => hnm (by rw [← hx, ← hy, h]))
    rw [hv]
    have hb1 : ((n : Int) != (m : Int)) = true := by rw [bne_iff_ne]; omega
    have hb2 : (n != m) = true := by rw [bne_iff_ne]; exact hnm
    clear hv hx hy hnm R S
    go_enter Try.func6, Try.ntmps6
    go_wp2
    go_ret
    exact ⟨rfl, 0, rfl⟩

theorem equal_pv (A B : Option Addr) (n m c d : Nat) (xs ys : List Nat) (w : World) (R : Pv w A n c xs) (S : Pv w B m d ys) :
    Calls Try.prog 6 #[.slice A n c, .slice B m d] w fun e w' => e = .returned (.bool (decide (xs = ys))) ∧ ∃ k, w' = w.drewN k := by
  have h1 := R.le
  have h2 := R.cap
  have h3 := S.le
  have h4 := S.cap
  have := equal_q A B n m c d _ _ w (by rw [← nats_ints]; exact R.row) (by rw [← nats_ints]; exact S.row) (by omega) (by omega)
  have e : decide ((xs.map fun (x : Nat) => (x : Int)) = ys.map fun (x : Nat) => (x : Int)) = decide (xs = ys) := by
    by_cases h : xs = ys
    · subst h; simp
    · rw [decide_eq_false h]
      refine decide_eq_false fun he => h ?_
      have := congrArg (List.map Int.toNat) he
      simpa [List.map_map, Function.comp_def] using this
  rwa [e] at this

set_option maxRecDepth 100000 in
set_option maxHeartbeats 1000000 in
theorem polys_any (w : World) : Calls Try.prog 7 #[] w fun e w' => e = .returned (.bool true) ∧ Ext w w' := by
  have CM := hide (fun (W : World) (b b' : Nat) (R : Pv W (some ⟨b, 0, none⟩) 2 2 [1, 2]) (S : Pv W (some ⟨b', 0, none⟩) 2 2 [3, 1]) => Mul_ok Wm.P5 (by decide) (some ⟨b, 0, none⟩) (some ⟨b', 0, none⟩) 2 2 2 2 [1, 2] [3, 1] W R S
    ⟨by decide, fun _ => by decide⟩ (by omega) ⟨by decide, fun _ => by decide⟩ (by omega) (by rw [show Wm.P5.p = 5 from rfl, Wm.mulL_5]; decide))
  rw [show Wm.P5.p = 5 from rfl, Wm.mulL_5] at CM
  have CN := hide (fun w : World => Next_ok 90 97 ⟨Wm.prime_97, by omega, Wm.no_90⟩ (by omega) w)
  go_enter Try.func7, Try.ntmps7
  go_wp2_with fail
  refine (unhide CM _ _ _ ⟨(row_new w #[.int .i64 1, .int .i64 2] 3 2 1 rfl).alloc _, Nat.le_refl _, by omega, fun h => by cases h⟩ ⟨by
    have := row_new (w.alloc (.cells #[.int .i64 1, .int .i64 2] 3)) #[.int .i64 3, .int .i64 1] 3 2 1 rfl
    rw [show (w.alloc (.cells #[.int .i64 1, .int .i64 2] 3)).heap.size = w.heap.size + 1 by simp] at this
    exact this, Nat.le_refl _, by omega, fun h => by cases h⟩).mono ?_
  rintro e w1 ⟨⟨v, rfl, hM⟩, E1'⟩
  have E1 : Ext w w1 := Ext.trans (by repeat (first | exact Ext.refl w | refine Ext.alloc ?_ _ | refine Ext.drew ?_ | refine Ext.drewN ?_ _ | (refine Ext.trans ?_ (plus_ext _ _)) | (refine Ext.setCell ?_ (by have := Ext.size Ext.refl w; simp; omega) _))) E1'
  obtain ⟨A, c, rfl, PV⟩ := hM.pv
  have CE := hide (fun (W : World) (E : Ext w1 W) (b : Nat) (S : Pv W (some ⟨b, 0, none⟩) 3 3 [3, 2, 2]) => equal_pv A (some ⟨b, 0, none⟩) 3 3 c 3 [3, 2, 2] [3, 2, 2] W (PV.keep E) S)
  clear hM E1' PV CM
  go_wp2_with fail
  refine (unhide CN _).mono ?_
  rintro e w1' ⟨rfl, rfl⟩
  go_wp2_with fail
  refine (unhide CE _ (by repeat (first | exact Ext.refl _ | refine Ext.alloc ?_ _ | refine Ext.drew ?_ | refine Ext.drewN ?_ _ | (refine Ext.trans ?_ (plus_ext _ _)) | (refine Ext.setCell ?_ (by have := Ext.size Ext.refl _; simp; omega) _))) _ ⟨row_new _ #[.int .i64 3, .int .i64 2, .int .i64 2] 3 3 1 rfl, Nat.le_refl _, by omega, fun h => by cases h⟩).mono ?_
  rintro e w2 ⟨rfl, k, rfl⟩
  go_wp2
  go_ret
  exact ⟨rfl, (by repeat (first | exact E1 | refine Ext.alloc ?_ _ | refine Ext.drew ?_ | refine Ext.drewN ?_ _ | (refine Ext.trans ?_ (plus_ext _ _)) | (refine Ext.setCell ?_ (by have := Ext.size E1; simp; omega) _)))⟩
end Go.Proofs.Ytahchidghfeofaa
