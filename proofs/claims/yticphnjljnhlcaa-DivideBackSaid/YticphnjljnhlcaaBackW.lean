/-
  The contracts of divide.Lift and divide.Lower, and the walk of the law DivideBack.
-/
import Derived.Test.YticphnjljnhlcaaLift1
set_option linter.unusedVariables false
set_option linter.unusedSimpArgs false
namespace Go.Proofs.Yticphnjljnhlcaa
open Go.RowKit Go.BigFrame

def vp (p : Nat) : Nat → Nat → Nat
  | 0, _ => 0
  | f + 1, n => if n % p = 0 then vp p f (n / p) + 1 else 0
def facT (k : Nat) : List (Nat × Nat) := ([2, 3, 5, 7, 11, 13, 17, 19, 23, 29, 31, 37, 41, 43, 47, 53, 59].map fun p => (p, vp p 6 k)).filter fun x => x.2 != 0
def okFac (k : Nat) : Bool := decide ((facT k).Pairwise fun a b => a.1 < b.1) && (facT k).all (fun x => Wm.pchk x.1 (min 6 (x.1 - 2)) && decide (1 ≤ x.2)) && Wm.prodP (facT k) == k
theorem okFac_all : (List.range 60).all (fun i => okFac (i + 1)) = true := by decide +kernel
theorem facT_ok {k : Nat} (h1 : 1 ≤ k) (h6 : k ≤ 60) : Wm.IsFac k (facT k) := by
  have h := List.all_eq_true.1 okFac_all (k - 1) (List.mem_range.2 (by omega))
  rw [show k - 1 + 1 = k by omega] at h
  simp only [okFac, Bool.and_eq_true, decide_eq_true_eq, List.all_eq_true, beq_iff_eq] at h
  exact ⟨h.1.1, fun x hx => ⟨Wm.pchk_spec (h.1.2 x hx).1, (h.1.2 x hx).2⟩, h.2⟩
def muTab : List Int := 0 :: 1 :: (-1 : Int) :: (-1 : Int) :: 0 :: (-1 : Int) :: 1 :: (-1 : Int) :: 0 :: 0 :: 1 :: (-1 : Int) :: 0 :: (-1 : Int) :: 1 :: 1 :: 0 :: (-1 : Int) :: 0 :: (-1 : Int) :: 0 :: 1 :: 1 :: (-1 : Int) :: 0 :: 0 :: 1 :: 0 :: 0 :: (-1 : Int) :: (-1 : Int) :: (-1 : Int) :: 0 :: 1 :: 1 :: 1 :: 0 :: (-1 : Int) :: 1 :: 1 :: 0 :: (-1 : Int) :: (-1 : Int) :: (-1 : Int) :: 0 :: 0 :: 1 :: (-1 : Int) :: 0 :: 0 :: 0 :: 1 :: 0 :: (-1 : Int) :: 0 :: 1 :: 0 :: 1 :: 1 :: (-1 : Int) :: 0 :: []
def muG (k : Nat) : Int := muTab.getD k 0
def oneG (_ : Nat) : Int := 1
theorem muTab_all : (List.range 60).all (fun i => Wm.mulF gmu (facT (i + 1)) == muG (i + 1)) = true := by decide +kernel
theorem muG_ok {k : Nat} (h1 : 1 ≤ k) (h6 : k ≤ 60) : Wm.mulF gmu (facT k) = muG k := by
  have h := List.all_eq_true.1 muTab_all (k - 1) (List.mem_range.2 (by omega))
  rw [show k - 1 + 1 = k by omega] at h
  simpa using h
theorem muG_bound (k : Nat) : -1 ≤ muG k ∧ muG k ≤ 1 := by
  rcases Nat.lt_or_ge k 61 with h | h
  · have ha : (List.range 61).all (fun i => decide (-1 ≤ muG i ∧ muG i ≤ 1)) = true := by decide +kernel
    have := List.all_eq_true.1 ha k (List.mem_range.2 h)
    simpa using this
  · unfold muG
    rw [List.getD_eq_getElem?_getD, List.getElem?_eq_none (show muTab.length ≤ k from h)]; simp
theorem undone1 : Wm.undone oneG muG = true := by decide +kernel
theorem undone2 : Wm.undone muG oneG = true := by decide +kernel

theorem liftw_any (k : Int) (w : World) : Calls Try.prog 53 #[.int .i64 k] w fun e w' => e = .returned (.int .i64 1) ∧ Ext w w' := by
  go_enter Try.func53, Try.ntmps53
  go_wp2
  go_ret
  exact ⟨rfl, Ext.refl _⟩
theorem lowerw_any (k : Nat) (h1 : 1 ≤ k) (h6 : k ≤ 60) (w : World) : Calls Try.prog 54 #[.int .i64 k] w fun e w' => e = .returned (.int .i64 (muG k)) ∧ Ext w w' := by
  have C : Hid (∀ w : World, Calls Try.prog 25 #[.int .i64 k] w fun e w' => e = .returned (.tuple #[.int .i64 (muG k), .int .i64 0]) ∧ Ext w w') := hide fun w =>
    (Moebius_ok k h1 (by omega) w).mono fun e w' ⟨⟨l, hl, he⟩, hx⟩ => ⟨by rw [he, Wm.fac_unique hl (facT_ok h1 h6), muG_ok h1 h6], hx⟩
  go_enter Try.func54, Try.ntmps54
  go_wp2_with fail
  refine (unhide C _).mono ?_
  rintro e w1 ⟨rfl, E1⟩
  go_wp2
  go_ret
  exact ⟨rfl, E1⟩

theorem Lift_any (A : Option Addr) (n c : Nat) (l : List Int) (w : World) (R : Row w A n 1 (ints l)) (hm : n ≤ 4611686018427387904) :
    Calls Try.prog 27 #[.slice A n c] w fun e w' => SumsPost w w' n l oneG e ∧ Ext w w' := by
  have H := hide (lift_sums_any A n c l oneG w R hm (fun _ => by unfold oneG; omega) fun k _ _ W => liftw_any k W)
  clear R
  go_enter Try.func27, Try.ntmps27
  go_wp2_with fail
  refine (unhide H).mono ?_
  rintro e w1 ⟨⟨h1, rfl⟩ | ⟨h1, v, hv, rfl⟩, E1⟩
  · have H1 := hide h1
    clear h1
    go_wp2
    go_ret2
    exact ⟨.inl ⟨unhide H1, rfl⟩, E1⟩
  · have H1 := hide h1
    clear h1
    go_wp2
    go_ret2
    exact ⟨.inr ⟨unhide H1, v, hv, rfl⟩, E1⟩
theorem Lower_any (A : Option Addr) (n c : Nat) (l : List Int) (w : World) (R : Row w A n 1 (ints l)) (hm : n ≤ 4611686018427387904) :
    Calls Try.prog 29 #[.slice A n c] w fun e w' => SumsPost w w' n l muG e ∧ Ext w w' := by
  have H := hide (lower_sums_any A n c l muG w R hm muG_bound fun k h1 h6 W => lowerw_any k h1 h6 W)
  clear R
  go_enter Try.func29, Try.ntmps29
  go_wp2_with fail
  refine (unhide H).mono ?_
  rintro e w1 ⟨⟨h1, rfl⟩ | ⟨h1, v, hv, rfl⟩, E1⟩
  · have H1 := hide h1
    clear h1
    go_wp2
    go_ret2
    exact ⟨.inl ⟨unhide H1, rfl⟩, E1⟩
  · have H1 := hide h1
    clear h1
    go_wp2
    go_ret2
    exact ⟨.inr ⟨unhide H1, v, hv, rfl⟩, E1⟩

theorem checkR_conv {n : Nat} {l : List Int} (g : Nat → Int) (m : List Int) (h : checkR n l = 0) : checkR n m = 0 ∨ checkR n m = 1 := by
  have h6 := (small_of h).1
  unfold checkR
  rw [if_neg (by omega)]
  split
  · exact .inr rfl
  · exact .inl rfl

theorem sums_open {w w' : World} {n : Nat} {z : List Int} {g : Nat → Int} {e : Ending} (h01 : checkR n z = 0 ∨ checkR n z = 1) (h : SumsPost w w' n z g e) :
    ∃ (A : Option Addr) (m c : Nat) (q : Int) (l : List Int), e = .returned (.tuple #[.slice A m c, .int .i64 q]) ∧ Row w' A m 1 (ints l) ∧ (q = 1 ∨ (q = 0 ∧ m = n ∧ l = Wm.conv z g n n)) := by
  rcases h with ⟨h1, rfl⟩ | ⟨h1, v, hv, rfl⟩
  · refine ⟨none, 0, 0, checkR n z, [], rfl, Row.none_, .inl ?_⟩
    rcases h01 with h | h
    · exact absurd h h1
    · exact h
  · obtain ⟨A, c, rfl, R, -⟩ := hv.open_
    exact ⟨A, n, c, 0, _, rfl, R, .inr ⟨rfl, rfl, rfl⟩⟩

set_option maxRecDepth 100000 in
set_option maxHeartbeats 4000000 in
theorem dback_any (A : Option Addr) (n c : Nat) (l : List Int) (w : World) (S : SliceIn w A n c 1 8 (ints l)) (_ : ∀ x ∈ l, -9223372036854775808 ≤ x ∧ x ≤ 9223372036854775807) :
    Calls Try.prog 8 #[.slice A n c] w fun e w' => e = .returned (.bool true) ∧ Ext w w' := by
  obtain ⟨R, hnc, hcb, hc, -⟩ := S
  have hln := R.num
  have hm : n ≤ 4611686018427387904 := by omega
  have HR := hide R
  have lit1 : Wm.conv [1, 2, 3, 4] oneG 4 4 = [1, 3, 4, 7] := by decide
  have lit2 : checkR 4 [1, 2, 3, 4] = 0 := by decide
  have HL1 := hide lit1
  have HL2 := hide lit2
  have HLN := hide hln
  have hn2 : (n : Int) ≤ 4611686018427387904 := by omega
  clear R lit1 lit2 hln
  go_enter Try.func8, Try.ntmps8
  go_wp2_with fail
  refine (Lift_any (some ⟨w.heap.size, 0, none⟩) 4 4 [1, 2, 3, 4] _ (row_new w _ _ 4 1 rfl) (by omega)).mono ?_
  rintro e w1 ⟨⟨h1, rfl⟩ | ⟨h1, v, hv, rfl⟩, E1⟩
  · exact absurd (unhide HL2) h1
  rw [unhide HL1] at hv
  obtain ⟨A1, c1, rfl, R1, -⟩ := hv.open_
  have F1 : Ext w w1 := ((Ext.refl w).alloc _).trans E1
  clear E1 h1 hv
  go_wp2_with fail
  refine (equal_int A1 _ 4 4 _ _ _ [1, 3, 4, 7] _ (R1.keep ((Ext.refl _).alloc _)) (row_new w1 _ _ 4 1 rfl) (by omega) (by omega)).mono ?_
  rintro e w2 ⟨rfl, q2, hw2⟩
  have F2 : Ext w w2 := by rw [hw2]; exact (F1.alloc _).drewN _
  clear F1 R1 hw2
  go_wp2_with fail
  refine (Lift_any A n c l w2 ((unhide HR).keep F2) hm).mono ?_
  rintro e w3 ⟨⟨h1, rfl⟩ | ⟨h1, v, hv, rfl⟩, E3⟩
  · have b1 : (checkR n l != 0) = true := by rw [bne_iff_ne]; exact h1
    generalize checkR n l = z at *
    go_wp2
    go_ret
    exact ⟨rfl, F2.trans E3⟩
  have F3 := F2.trans E3
  clear F2
  obtain ⟨A3, c3, rfl, R3, -⟩ := hv.open_
  have H1 := hide h1
  clear hv h1 E3
  have HR3 := hide R3
  clear R3
  go_wp2_with fail
  refine (Lower_any A3 n c3 _ w3 (unhide HR3) hm).mono ?_
  rintro e w4 ⟨hp4, E4⟩
  have cc : ∀ f : List Int, f.length = n → Wm.conv (Wm.conv f oneG n n) muG n n = f := fun f hf => by
    have := Wm.conv_conv undone1 f (by rw [hf]; exact (small_of (unhide H1)).1)
    rwa [hf] at this
  have cc2 : ∀ f : List Int, f.length = n → Wm.conv (Wm.conv f muG n n) oneG n n = f := fun f hf => by
    have := Wm.conv_conv undone2 f (by rw [hf]; exact (small_of (unhide H1)).1)
    rwa [hf] at this
  have k1 := checkR_conv oneG (Wm.conv l oneG n n) (unhide H1)
  have k2 := checkR_conv oneG (Wm.conv l muG n n) (unhide H1)
  have CC := hide (cc l (unhide HLN))
  have CC2 := hide (cc2 l (unhide HLN))
  clear cc cc2
  have F4 := F3.trans E4
  clear F3 E4
  obtain ⟨Ax, nx, cx, gx, lx, rfl, Rx, hgx⟩ := sums_open (z := Wm.conv l oneG n n) k1 hp4
  rw [unhide CC] at hgx
  clear hp4 k1
  have HRx := hide Rx
  have HGx := hide hgx
  clear Rx hgx
  go_wp2_with fail
  refine (Lower_any A n c l w4 ((unhide HR).keep F4) hm).mono ?_
  rintro e w5 ⟨⟨h1, rfl⟩ | ⟨-, v, hv, rfl⟩, E5⟩
  · exact absurd (unhide H1) h1
  obtain ⟨A5, c5, rfl, R5, -⟩ := hv.open_
  have HR5 := hide R5
  have HRx5 := hide ((unhide HRx).keep E5)
  have F5 := F4.trans E5
  clear F4 E5 R5 hv HRx
  go_wp2_with fail
  refine (Lift_any A5 n c5 _ w5 (unhide HR5) hm).mono ?_
  rintro e w6 ⟨hp6, E6⟩
  obtain ⟨Ay, ny, cy, gy, ly, rfl, Ry, hgy⟩ := sums_open (z := Wm.conv l muG n n) k2 hp6
  rw [unhide CC2] at hgy
  clear hp6 k2
  have HRy := hide Ry
  have HRx6 := hide ((unhide HRx5).keep E6)
  have F6 := F5.trans E6
  have HR6 := hide ((unhide HR).keep F6)
  clear F5 E6 Ry HRx5 CC CC2 HR5
  rcases unhide HGx with rfl | ⟨rfl, rfl, rfl⟩ <;> rcases hgy with rfl | ⟨rfl, rfl, rfl⟩
  all_goals
    try clear HGx
  · go_wp2
    go_ret
    exact ⟨rfl, F6⟩
  · go_wp2_with fail
    refine (equal_int _ _ _ _ _ _ _ _ w6 (unhide HRy) (unhide HR6) (by omega) (by omega)).mono ?_
    rintro e w7 ⟨rfl, q7, rfl⟩
    go_wp2
    go_ret
    exact ⟨ret_bool (by simp), F6.drewN _⟩
  · go_wp2_with fail
    refine (equal_int _ _ _ _ _ _ _ _ w6 (unhide HRx6) (unhide HR6) (by omega) (by omega)).mono ?_
    rintro e w7 ⟨rfl, q7, rfl⟩
    go_wp2
    go_ret
    exact ⟨ret_bool (by simp), F6.drewN _⟩
  · go_wp2_with fail
    refine (equal_int _ _ _ _ _ _ _ _ w6 (unhide HRx6) (unhide HR6) (by omega) (by omega)).mono ?_
    rintro e w7 ⟨rfl, q7, hw7⟩
    have E7 : Ext w6 w7 := by rw [hw7]; exact (Ext.refl _).drewN _
    clear hw7
    go_wp2_with fail
    refine (equal_int _ _ _ _ _ _ _ _ w7 ((unhide HRy).keep E7) ((unhide HR6).keep E7) (by omega) (by omega)).mono ?_
    rintro e w8 ⟨rfl, q8, rfl⟩
    go_wp2
    go_ret
    exact ⟨ret_bool (by simp), (F6.trans E7).drewN _⟩

end Go.Proofs.Yticphnjljnhlcaa
