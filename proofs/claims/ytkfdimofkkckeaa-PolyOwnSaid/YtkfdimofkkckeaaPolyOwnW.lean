/-
  The law PolyOwn returns true: the walk.
-/
import Derived.Test.YtkfdimofkkckeaaOwn1
set_option linter.unusedVariables false
set_option linter.unusedSimpArgs false
namespace Go.Proofs.Ytkfdimofkkckeaa
open Go.RowKit Go.BigFrame

theorem Ext.spoil {a w w' : World} {base e sz n : Nat} {v : Value} {xs : List Value} (h : Ext a w) (M : Made w base e sz v n xs) (hb : a.heap.size ≤ base) (hg : w.grownBy w' v.ownBlock) : Ext a w' :=
  h.grown hg (fun k hk => by have := (M.lt k hk).1; omega)

set_option maxRecDepth 100000 in
set_option maxHeartbeats 4000000 in
theorem pown_law (p : Int) (A1 : Option Addr) (n1 c1 : Nat) (l1 : List Int) (A2 : Option Addr) (n2 c2 : Nat) (l2 : List Int) (w : World)
    (S1 : SliceIn w A1 n1 c1 1 8 (ints l1)) (_ : ∀ x ∈ l1, -9223372036854775808 ≤ x ∧ x ≤ 9223372036854775807) (S2 : SliceIn w A2 n2 c2 1 8 (ints l2)) (_ : ∀ x ∈ l2, -9223372036854775808 ≤ x ∧ x ≤ 9223372036854775807) :
    Calls Try.prog 8 #[.int .i64 p, .slice A1 n1 c1, .slice A2 n2 c2] w fun e w' => e = .returned (.bool true) ∧ Ext w w' := by
  have C0 := hide (polys_any w)
  have I1 : Iv w A1 n1 c1 l1 := ⟨S1.1, S1.2.1, by have := S1.2.2.1; omega, S1.2.2.2.2⟩
  have I2 : Iv w A2 n2 c2 l2 := ⟨S2.1, S2.2.1, by have := S2.2.2.1; omega, S2.2.2.2.2⟩
  have hb1 : n1 * 8 ≤ 140737488355328 := by have := S1.2.2.1; have := S1.2.1; omega
  have hb2 : n2 * 8 ≤ 140737488355328 := by have := S2.2.2.1; have := S2.2.1; omega
  clear S1 S2
  go_enter Try.func8, Try.ntmps8
  go_wp2_with fail
  refine (unhide C0).mono ?_
  rintro e w1 ⟨rfl, Fw1⟩
  have CC1 := hide (fun (W : World) (E : Ext w W) => clone_q A1 n1 c1 (ints l1) W (I1.row.keep E) (ints_one _) hb1 I1.nil)
  have CC2 := hide (fun (W : World) (E : Ext w W) => clone_q A2 n2 c2 (ints l2) W (I2.row.keep E) (ints_one _) hb2 I2.nil)
  go_wp2_with fail
  refine (unhide CC1 _ (by repeat (first | exact Ext.refl _ | assumption | refine Ext.alloc ?_ _ | refine Ext.drew ?_ | refine Ext.drewN ?_ _ | refine Ext.trans ?_ ‹Ext _ _›))).mono ?_
  rintro e w2 ⟨⟨va, rfl, ha⟩, EN⟩
  have Fw2 : Ext w1 w2 := Ext.trans (by repeat (first | exact Ext.refl _ | assumption | refine Ext.alloc ?_ _ | refine Ext.drew ?_ | refine Ext.drewN ?_ _ | refine Ext.trans ?_ ‹Ext _ _›)) EN
  obtain ⟨Aa, ca, rfl, Ra, -, -, -⟩ := row_of_own ha
  clear EN ha
  go_wp2_with fail
  refine (unhide CC2 _ (by repeat (first | exact Ext.refl _ | assumption | refine Ext.alloc ?_ _ | refine Ext.drew ?_ | refine Ext.drewN ?_ _ | refine Ext.trans ?_ ‹Ext _ _›))).mono ?_
  rintro e w3 ⟨⟨vb, rfl, hb⟩, EN⟩
  have Fw3 : Ext w2 w3 := Ext.trans (by repeat (first | exact Ext.refl _ | assumption | refine Ext.alloc ?_ _ | refine Ext.drew ?_ | refine Ext.drewN ?_ _ | refine Ext.trans ?_ ‹Ext _ _›)) EN
  obtain ⟨Ab, cb, rfl, Rb, -, -, -⟩ := row_of_own hb
  clear EN hb CC1 CC2
  have J1 := I1.keep (show Ext w w3 from (by repeat (first | exact Ext.refl _ | assumption | refine Ext.alloc ?_ _ | refine Ext.drew ?_ | refine Ext.drewN ?_ _ | refine Ext.trans ?_ ‹Ext _ _›)))
  have J2 := I2.keep (show Ext w w3 from (by repeat (first | exact Ext.refl _ | assumption | refine Ext.alloc ?_ _ | refine Ext.drew ?_ | refine Ext.drewN ?_ _ | refine Ext.trans ?_ ‹Ext _ _›)))
  have Ka := Ra.keep (show Ext w2 w3 from (by repeat (first | exact Ext.refl _ | assumption | refine Ext.alloc ?_ _ | refine Ext.drew ?_ | refine Ext.drewN ?_ _ | refine Ext.trans ?_ ‹Ext _ _›)))
  have E03 := And.intro (show Ext w w3 from (by repeat (first | exact Ext.refl _ | assumption | refine Ext.alloc ?_ _ | refine Ext.drew ?_ | refine Ext.drewN ?_ _ | refine Ext.trans ?_ ‹Ext _ _›))) trivial
  clear Fw1 Fw2 Fw3 Ra I1 I2
  have CA := hide (fun (W : World) (E : Ext w3 W) => Add_any p A1 A2 n1 c1 n2 c2 l1 l2 W (J1.keep E) (J2.keep E))
  have CM := hide (fun (W : World) (E : Ext w3 W) => Mul_any_ p A1 A2 n1 c1 n2 c2 l1 l2 W (J1.keep E) (J2.keep E))
  have CD := hide (fun (W : World) (E : Ext w3 W) => Div_any_ p A1 A2 n1 c1 n2 c2 l1 l2 W (J1.keep E) (J2.keep E))
  have CG := hide (fun (W : World) (E : Ext w3 W) => Gcd_any_ p A1 A2 n1 c1 n2 c2 l1 l2 W (J1.keep E) (J2.keep E))
  have CE1 := hide (fun (W : World) (E : Ext w3 W) => equal_q A1 Aa n1 n1 c1 ca l1 l1 W (J1.row.keep E) (Ka.keep E) (by omega) (by omega))
  have CE2 := hide (fun (W : World) (E : Ext w3 W) => equal_q A2 Ab n2 n2 c2 cb l2 l2 W (J2.row.keep E) (Rb.keep E) (by omega) (by omega))
  rw [decide_eq_true rfl] at CE1 CE2
  clear Ka Rb J1 J2
  go_wp2_with fail
  refine (unhide CA _ (by repeat (first | exact Ext.refl _ | assumption | refine Ext.alloc ?_ _ | refine Ext.drew ?_ | refine Ext.drewN ?_ _ | refine Ext.trans ?_ ‹Ext _ _›))).mono ?_
  rintro e w4 ⟨⟨lx, vx, r1, rfl, Mx, -, hr1⟩, EN⟩
  have Fw4 : Ext w3 w4 := Ext.trans (by repeat (first | exact Ext.refl _ | assumption | refine Ext.alloc ?_ _ | refine Ext.drew ?_ | refine Ext.drewN ?_ _ | refine Ext.trans ?_ ‹Ext _ _›)) EN
  clear EN
  go_wp2_with fail
  refine (unhide CM _ (by repeat (first | exact Ext.refl _ | assumption | refine Ext.alloc ?_ _ | refine Ext.drew ?_ | refine Ext.drewN ?_ _ | refine Ext.trans ?_ ‹Ext _ _›))).mono ?_
  rintro e w5 ⟨⟨ly, vy, r2, rfl, My, -, -⟩, EN⟩
  have Fw5 : Ext w4 w5 := Ext.trans (by repeat (first | exact Ext.refl _ | assumption | refine Ext.alloc ?_ _ | refine Ext.drew ?_ | refine Ext.drewN ?_ _ | refine Ext.trans ?_ ‹Ext _ _›)) EN
  have sMy : w4.heap.size ≤ w4.heap.size := Nat.le_refl _
  clear EN
  go_wp2_with fail
  refine (unhide CD _ (by repeat (first | exact Ext.refl _ | assumption | refine Ext.alloc ?_ _ | refine Ext.drew ?_ | refine Ext.drewN ?_ _ | refine Ext.trans ?_ ‹Ext _ _›))).mono ?_
  rintro e w6 ⟨⟨lq, lr, vq, vr, r3, rfl, Mq, Mr, hqr, hlr100⟩, EN⟩
  have Fw6 : Ext w5 w6 := Ext.trans (by repeat (first | exact Ext.refl _ | assumption | refine Ext.alloc ?_ _ | refine Ext.drew ?_ | refine Ext.drewN ?_ _ | refine Ext.trans ?_ ‹Ext _ _›)) EN
  clear EN
  go_wp2_with fail
  refine (unhide CG _ (by repeat (first | exact Ext.refl _ | assumption | refine Ext.alloc ?_ _ | refine Ext.drew ?_ | refine Ext.drewN ?_ _ | refine Ext.trans ?_ ‹Ext _ _›))).mono ?_
  rintro e w7 ⟨⟨ld, vd, r4, rfl, Md, -, -⟩, EN⟩
  have Fw7 : Ext w6 w7 := Ext.trans (by repeat (first | exact Ext.refl _ | assumption | refine Ext.alloc ?_ _ | refine Ext.drew ?_ | refine Ext.drewN ?_ _ | refine Ext.trans ?_ ‹Ext _ _›)) EN
  clear EN
  have lx_ := Mx.lt
  have ly_ := My.lt
  have lq_ := Mq.lt
  have lr_ := Mr.lt
  have ld_ := Md.lt
  have s34 := Fw4.size
  have s45 := Fw5.size
  have s56 := Fw6.size
  have s67 := Fw7.size
  have E7 := And.intro (show Ext w3 w7 from (by repeat (first | exact Ext.refl _ | assumption | refine Ext.alloc ?_ _ | refine Ext.drew ?_ | refine Ext.drewN ?_ _ | refine Ext.trans ?_ ‹Ext _ _›))) trivial
  have Mx7 := Mx.keep (show Ext w4 w7 from (by repeat (first | exact Ext.refl _ | assumption | refine Ext.alloc ?_ _ | refine Ext.drew ?_ | refine Ext.drewN ?_ _ | refine Ext.trans ?_ ‹Ext _ _›)))
  have My7 := My.keep (show Ext w5 w7 from (by repeat (first | exact Ext.refl _ | assumption | refine Ext.alloc ?_ _ | refine Ext.drew ?_ | refine Ext.drewN ?_ _ | refine Ext.trans ?_ ‹Ext _ _›)))
  have Mq7 := Mq.keep (show Ext w6 w7 from (by repeat (first | exact Ext.refl _ | assumption | refine Ext.alloc ?_ _ | refine Ext.drew ?_ | refine Ext.drewN ?_ _ | refine Ext.trans ?_ ‹Ext _ _›)))
  have Mr7 := Mr.keep (show Ext w6 w7 from (by repeat (first | exact Ext.refl _ | assumption | refine Ext.alloc ?_ _ | refine Ext.drew ?_ | refine Ext.drewN ?_ _ | refine Ext.trans ?_ ‹Ext _ _›)))
  clear Mx My Mq Mr Fw4 Fw5 Fw6 Fw7
  have CS1 := hide (spoil_any _ vx _ _ (-7) _ Mx7)
  have HY := hide (show ∀ w', w7.grownBy w' vx.ownBlock → Made w' w4.heap.size 3 1 vy ly.length (nats .i64 ly) ∧ Made w' w5.heap.size 3 1 vq lq.length (nats .i64 lq) ∧ Made w' w5.heap.size 3 1 vr lr.length (nats .i64 lr) ∧ Made w' w6.heap.size 3 1 vd ld.length (nats .i64 ld) ∧ Ext w3 w' from fun w' hg =>
    ⟨My7.grown_ hg (fun k h1 h2 => by have := ly_ k h1; have := lx_ k h2; omega), Mq7.grown_ hg (fun k h1 h2 => by have := lq_ k h1; have := lx_ k h2; omega), Mr7.grown_ hg (fun k h1 h2 => by have := lr_ k h1; have := lx_ k h2; omega),
      Md.grown_ hg (fun k h1 h2 => by have := ld_ k h1; have := lx_ k h2; omega), E7.1.spoil Mx7 (Nat.le_refl _) hg⟩)
  clear Mx7 My7 Mq7 Mr7 Md E7
  go_wp2_with fail
  refine (unhide CS1).mono ?_
  rintro e w8 ⟨⟨_, rfl⟩, hg⟩
  obtain ⟨My8, Mq8, Mr8, Md8, E8⟩ := unhide HY w8 hg
  clear hg CS1 HY
  have CS2 := hide (spoil_any _ vy _ _ (-7) _ My8)
  have HQ := hide (show ∀ w', w8.grownBy w' vy.ownBlock → Made w' w5.heap.size 3 1 vq lq.length (nats .i64 lq) ∧ Made w' w5.heap.size 3 1 vr lr.length (nats .i64 lr) ∧ Made w' w6.heap.size 3 1 vd ld.length (nats .i64 ld) ∧ Ext w3 w' from fun w' hg =>
    ⟨Mq8.grown_ hg (fun k h1 h2 => by have := lq_ k h1; have := ly_ k h2; omega), Mr8.grown_ hg (fun k h1 h2 => by have := lr_ k h1; have := ly_ k h2; omega),
      Md8.grown_ hg (fun k h1 h2 => by have := ld_ k h1; have := ly_ k h2; omega), E8.spoil My8 (by omega) hg⟩)
  clear My8 Mq8 Mr8 Md8 E8
  go_wp2_with fail
  refine (unhide CS2).mono ?_
  rintro e w9 ⟨⟨_, rfl⟩, hg⟩
  obtain ⟨Mq9, Mr9, Md9, E9⟩ := unhide HQ w9 hg
  clear hg CS2 HQ
  have CS3 := hide (spoil_any _ vq _ _ (-7) _ Mq9)
  have HD := hide (show ∀ w', w9.grownBy w' vq.ownBlock → Made w' w5.heap.size 3 1 vr lr.length (nats .i64 lr) ∧ Made w' w6.heap.size 3 1 vd ld.length (nats .i64 ld) ∧ Ext w3 w' from fun w' hg =>
    ⟨Mr9.grown_ hg (fun k h1 h2 => hqr k h2 h1), Md9.grown_ hg (fun k h1 h2 => by have := ld_ k h1; have := lq_ k h2; omega), E9.spoil Mq9 (by omega) hg⟩)
  clear Mq9 Mr9 Md9 E9
  go_wp2_with fail
  refine (unhide CS3).mono ?_
  rintro e w10 ⟨⟨_, rfl⟩, hg⟩
  obtain ⟨Mr10, Md10, E10⟩ := unhide HD w10 hg
  clear hg CS3 HD
  have CS4 := hide (spoil_any _ vd _ _ (-7) _ Md10)
  have HR := hide (show ∀ w', w10.grownBy w' vd.ownBlock → Made w' w5.heap.size 3 1 vr lr.length (nats .i64 lr) ∧ Ext w3 w' from fun w' hg =>
    ⟨Mr10.grown_ hg (fun k h1 h2 => by have := lr_ k h1; have := ld_ k h2; omega), E10.spoil Md10 (by omega) hg⟩)
  clear Mr10 Md10 E10
  go_wp2_with fail
  refine (unhide CS4).mono ?_
  rintro e w11 ⟨⟨_, rfl⟩, hg⟩
  obtain ⟨Mr11, E11⟩ := unhide HR w11 hg
  clear hg CS4 HR
  obtain ⟨Ar, cr, rfl, Pr_⟩ := Mr11.pv
  have hlr : lr.length ≤ 1000 := by omega
  have CR := hide (contains_int Ar _ cr _ (-7) w11 (by rw [← nats_ints]; exact Pr_.row) hlr)
  have hno : ¬ (-7 : Int) ∈ lr.map (fun (x : Nat) => (x : Int)) := fun h => by
    obtain ⟨y, -, e⟩ := List.mem_map.1 h
    omega
  rw [decide_eq_false hno] at CR
  have CS5 := hide (fun W (M : Made W w5.heap.size 3 1 (.slice Ar lr.length cr) lr.length (nats .i64 lr)) => spoil_any _ _ _ _ (-7) W M)
  clear Pr_ hno
  go_wp2_with fail
  refine (unhide CR).mono ?_
  rintro e w11' ⟨rfl, rfl⟩
  go_wp2_with fail
  refine (unhide CS5 _ Mr11).mono ?_
  rintro e w12 ⟨⟨_, rfl⟩, hg⟩
  have E12 : Ext w3 w12 := E11.spoil Mr11 (by omega) hg
  clear hg CS5 CR Mr11 E11
  go_wp2_with fail
  refine (unhide CE1 _ (by repeat (first | exact Ext.refl _ | assumption | refine Ext.alloc ?_ _ | refine Ext.drew ?_ | refine Ext.drewN ?_ _ | refine Ext.trans ?_ ‹Ext _ _›))).mono ?_
  rintro e wa ⟨rfl, ka, rfl⟩
  go_wp2_with fail
  refine (unhide CE2 _ (by repeat (first | exact Ext.refl _ | assumption | refine Ext.alloc ?_ _ | refine Ext.drew ?_ | refine Ext.drewN ?_ _ | refine Ext.trans ?_ ‹Ext _ _›))).mono ?_
  rintro e wb ⟨rfl, kb, rfl⟩
  go_wp2_with fail
  refine (unhide CA _ (by repeat (first | exact Ext.refl _ | assumption | refine Ext.alloc ?_ _ | refine Ext.drew ?_ | refine Ext.drewN ?_ _ | refine Ext.trans ?_ ‹Ext _ _›))).mono ?_
  rintro e w13 ⟨⟨lz, vz, r5, rfl, Mz, hlz, rfl⟩, EN⟩
  have E13 : Ext w3 w13 := Ext.trans (by repeat (first | exact Ext.refl _ | assumption | refine Ext.alloc ?_ _ | refine Ext.drew ?_ | refine Ext.drewN ?_ _ | refine Ext.trans ?_ ‹Ext _ _›)) EN
  obtain ⟨Az, cz, rfl, Pz⟩ := Mz.pv
  have CZ := hide (contains_int Az _ cz _ (-7) w13 (by rw [← nats_ints]; exact Pz.row) (by omega))
  have hno : ¬ (-7 : Int) ∈ lz.map (fun (x : Nat) => (x : Int)) := fun h => by
    obtain ⟨y, -, e⟩ := List.mem_map.1 h
    omega
  rw [decide_eq_false hno] at CZ
  clear Pz Mz EN hno
  subst hr1
  generalize errCC p l1 l2 = er at *
  go_wp2_with fail
  refine (unhide CZ).mono ?_
  rintro e w14 ⟨rfl, rfl⟩
  go_wp2
  go_ret
  exact ⟨ret_bool (by simp), E03.1.trans E13⟩
end Go.Proofs.Ytkfdimofkkckeaa
