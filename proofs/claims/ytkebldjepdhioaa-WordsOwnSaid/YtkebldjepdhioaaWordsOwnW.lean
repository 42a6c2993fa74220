/-
  The law WordsOwn returns true: the walk.
-/
import Derived.Test.YtkebldjepdhioaaWo1
set_option linter.unusedVariables false
set_option linter.unusedSimpArgs false
namespace Go.Proofs.Ytkebldjepdhioaa
open Go.RowKit Go.BigFrame Go.Sort

/-- What stands as long as only new memory is written. -/
structure Kp (w : World) (g : Nat) (A B : Option Addr) (n m : Nat) (xs ys : List Value) (W : World) : Prop where
  e : Ext w W
  r1 : Row W A n 1 xs
  r2 : Row W B m 1 ys
  l1 : ∀ b o, A = some ⟨b, o, none⟩ → b < g
  l2 : ∀ b o, B = some ⟨b, o, none⟩ → b < g
  lo : w.heap.size ≤ g
  hi : g ≤ W.heap.size
section
variable {w W W' : World} {g : Nat} {A B : Option Addr} {n m : Nat} {xs ys : List Value}
theorem Kp.keep (K : Kp w g A B n m xs ys W) (E : Ext W W') : Kp w g A B n m xs ys W' := ⟨K.e.trans E, K.r1.keep E, K.r2.keep E, K.l1, K.l2, K.lo, Nat.le_trans K.hi E.size⟩
theorem Kp.grown {v : Value} (K : Kp w g A B n m xs ys W) (hg : W.grownBy W' v.ownBlock) (hv : ∀ k, v.ownBlock = some k → g ≤ k) : Kp w g A B n m xs ys W' :=
  ⟨K.e.grown hg (fun k hk => Nat.le_trans K.lo (hv k hk)), K.r1.grown hg (fun b o h hk => by have h1 := hv b hk; have h2 := K.l1 b o h; omega), K.r2.grown hg (fun b o h hk => by have h1 := hv b hk; have h2 := K.l2 b o h; omega), K.l1, K.l2, K.lo, Nat.le_trans K.hi hg.size⟩
theorem Kp.own {v : Value} {base T k : Nat} {zs : List Value} {V : World} (K : Kp w g A B n m xs ys W) (M : Made V base T 1 v k zs) (hb : W.heap.size ≤ base) : ∀ k, v.ownBlock = some k → g ≤ k := fun q hq => Nat.le_trans K.hi (Nat.le_trans hb (M.lt q hq).1)
end
theorem strs_one2 (l : List ByteArray) : ∀ u ∈ strs l, u.oneCell' = true := by
  intro u hu
  simp only [strs, List.mem_map] at hu
  obtain ⟨x, -, rfl⟩ := hu
  rfl
theorem nats_one2 (K : IntKind) (l : List Nat) : ∀ u ∈ nats K l, u.oneCell' = true := by
  intro u hu
  simp only [nats, List.mem_map] at hu
  obtain ⟨x, -, rfl⟩ := hu
  rfl

set_option maxRecDepth 100000 in
set_option maxHeartbeats 4000000 in
theorem wordsOwn_law (n : Int) (A : Option Addr) (m c : Nat) (l : List Nat) (B : Option Addr) (p d : Nat) (L : List ByteArray) (t : ByteArray) (k : Int) (ht : (t.size : Int) ≤ 140737488351232) (w : World)
    (S : SliceIn w A m c 1 2 (nats .u16 l)) (hl : ∀ x ∈ l, x < 65536) (S2 : SliceIn w B p d 1 16 (strs L)) (hs : ∀ s ∈ L, (s.size : Int) ≤ 9223372036854775807) :
    Calls Try.prog 3 #[.int .i64 n, .slice A m c, .slice B p d, .string t, .int .i64 k] w fun e w' => e = .returned (.bool true) ∧ Ext w w' := by
  have hm63 : m ≤ 9223372036854775807 := by have := S.2.1; have := S.2.2.2.1; omega
  have hp63 : p ≤ 9223372036854775807 := by have := S2.2.1; have := S2.2.2.2.1; omega
  have C1 := hide words_any
  have C2 := hide pairs_any
  have C3 := hide pieces_any
  have C4 := hide trees_any
  have HR1 := hide S.1
  have HR2 := hide S2.1
  have CC1 := hide (fun (W : World) (E : Ext w W) => clone_u16 A m c (nats .u16 l) W (S.1.keep E) (nats_one2 .u16 l) (by have := S.2.1; have := S.2.2.1; omega) S.2.2.2.2)
  have CC2 := hide (fun (W : World) (E : Ext w W) => clone_str B p d (strs L) W (S2.1.keep E) (strs_one2 L) (by have := S2.2.1; have := S2.2.2.1; omega) S2.2.2.2.2)
  have CW := hide (fun (W : World) (E : Ext w W) => (Words_any n A m c l W (S.1.keep E) hm63 hl).mono fun e w' h => And.intro (fresh_L h.1) h.2)
  have CB := hide (fun (W : World) (E : Ext w W) => (Base_any n A m c l W (S.1.keep E) hm63 hl).mono fun e w' h => And.intro (fresh_L h.1).fresh h.2)
  have CD := hide (fun (W : World) (E : Ext w W) => (Dual_any n A m c l W (S.1.keep E) hm63 hl).mono fun e w' h => And.intro (fresh_Du h.1) h.2)
  have CP := hide (fun (W : World) (E : Ext w W) => pPut_any B p d L W (S2.1.keep E) hp63 hs)
  have CM : Hid (∀ (W : World) (E : Ext w W) (P Q : ByteArray), okB L → P.size = (L.getD 0 ByteArray.empty).size → Q.size = (L.getD 0 ByteArray.empty).size → Calls Try.prog 15 #[.slice B p d, .string P, .string Q, .slice none 0 0] W fun e w' => Fresh 9 W w' e ∧ Ext W w') := hide (fun W E P Q hok hP hQ =>
    (Mend_ok B p d (L.getD 0 ByteArray.empty).size L P Q none 0 0 [] W (S2.1.keep E) (⟨rfl, fun h => absurd h (by omega)⟩) hok (by have := hok.2.1; have := S2.1.strN; omega) rfl hP hQ (⟨by simp, fun k h => absurd h (by simp), fun k h => absurd h (by simp)⟩)).mono fun e w' h => And.intro (fresh_Mend h.1) h.2)
  have CS := hide (fun (W : World) => (Split_any t k 5 W (by omega)).mono fun e w' h => And.intro (fresh_Spl h.1) h.2)
  have CV := hide (fun (W : World) (E : Ext w W) => Prove_any B p d k L W (S2.1.keep E) hp63 hs)
  have HL0 := hide (Wm.wl_pos l)
  have HL1 := hide (Wm.wl_first l)
  obtain ⟨q, hq⟩ : ∃ q, q = Wm.chkL n l := ⟨_, rfl⟩
  rw [← hq] at CW
  clear S S2 hl hs ht hq
  go_enter Try.func3, Try.ntmps3
  go_wp2_with fail
  refine (unhide C1 _).mono ?_
  rintro e w1 ⟨rfl, E1⟩
  go_wp2_with fail
  refine (unhide C2 _).mono ?_
  rintro e w2 ⟨rfl, E2⟩
  go_wp2_with fail
  refine (unhide C3 _).mono ?_
  rintro e w3 ⟨rfl, E3⟩
  go_wp2_with fail
  refine (unhide C4 _).mono ?_
  rintro e w4 ⟨rfl, E4⟩
  have E04 := hide (E1.trans (E2.trans (E3.trans E4)))
  clear E1 E2 E3 E4 C1 C2 C3 C4
  go_wp2_with fail
  refine (unhide CC1 _ (unhide E04)).mono ?_
  rintro e w5 ⟨⟨v5, rfl, O5⟩, E5⟩
  have E05 := (unhide E04).trans E5
  go_wp2_with fail
  refine (unhide CC2 _ E05).mono ?_
  rintro e w6 ⟨⟨v6, rfl, O6⟩, E6⟩
  obtain ⟨A5, c5, rfl, R5, -, -, q5⟩ := row_of_own O5
  obtain ⟨A6, c6, rfl, R6, -, -, q6⟩ := row_of_own O6
  have K6 : Kp w w6.heap.size A5 A6 m p (nats .u16 l) (strs L) w6 := ⟨E05.trans E6, R5.keep E6, R6, fun b o h => Nat.lt_of_lt_of_le (q5 b o h).2 (Ext.size E6), fun b o h => (q6 b o h).2, Ext.size (E05.trans E6), Nat.le_refl _⟩
  generalize w6.heap.size = g at K6
  clear E04 E05 E5 E6 O5 O6 R5 R6 q5 q6 CC1 CC2
  go_wp2_with fail
  refine (unhide CW _ K6.e).mono ?_
  rintro e w7 ⟨⟨v7, n7, x7, rfl, M7, -⟩, E7⟩
  have K7 := K6.keep E7
  go_wp2_with fail
  refine (unhide CB _ K7.e).mono ?_
  rintro e w8 ⟨⟨v8, n8, x8, r8, rfl, M8⟩, E8⟩
  have K8 := K7.keep E8
  go_wp2_with fail
  refine (unhide CD _ K8.e).mono ?_
  rintro e w9 ⟨⟨v9, n9, x9, r9, rfl, M9⟩, E9⟩
  have K9 := K8.keep E9
  have o7 := K6.own M7 (Nat.le_refl _)
  have o8 := K7.own M8 (Nat.le_refl _)
  have o9 := K8.own M9 (Nat.le_refl _)
  have ne78 : ∀ k, v8.ownBlock = some k → v7.ownBlock ≠ some k := fun k h h' => by
    have h1 := (M8.lt k h).1
    have h2 := (M7.lt k h').2
    omega
  have ne79 : ∀ k, v9.ownBlock = some k → v7.ownBlock ≠ some k := fun k h h' => by
    have h1 := (M9.lt k h).1
    have h2 := (M7.lt k h').2
    have h3 := Ext.size E8
    omega
  have ne89 : ∀ k, v9.ownBlock = some k → v8.ownBlock ≠ some k := fun k h h' => by
    have h1 := (M9.lt k h).1
    have h2 := (M8.lt k h').2
    omega
  have N7 := M7.keep (E8.trans E9)
  have N8 := M8.keep E9
  have HK9 := hide K9
  clear K6 K7 K8 K9 E7 E8 E9 M7 M8 CB CD
  have HN7 := hide N7
  have HN8 := hide N8
  have HN9 := hide M9
  have HO := hide (And.intro o7 (And.intro o8 o9))
  have HNE := hide (And.intro ne78 (And.intro ne79 ne89))
  clear N7 N8 M9 o7 o8 o9 ne78 ne79 ne89
  go_wp2_with fail
  refine (spoil_u16 _ v7 _ _ _ (unhide HN7)).mono ?_
  rintro e w10 ⟨⟨r10, rfl⟩, g10⟩
  have HK10 := hide ((unhide HK9).grown g10 (unhide HO).1)
  have HN8' := hide ((unhide HN8).grown_ g10 (unhide HNE).1)
  have HN9' := hide ((unhide HN9).grown_ g10 (unhide HNE).2.1)
  clear g10 HK9 HN7 HN8 HN9
  go_wp2_with fail
  refine (spoil_u16 _ v8 _ _ _ (unhide HN8')).mono ?_
  rintro e w11 ⟨⟨r11, rfl⟩, g11⟩
  have HK11 := hide ((unhide HK10).grown g11 (unhide HO).2.1)
  have HN9 := hide ((unhide HN9').grown_ g11 (unhide HNE).2.2)
  clear g11 HK10 HN8' HN9'
  go_wp2_with fail
  refine (spoil_u16 _ v9 _ _ _ (unhide HN9)).mono ?_
  rintro e w12 ⟨⟨r12, rfl⟩, g12⟩
  have HK12 := hide ((unhide HK11).grown g12 (unhide HO).2.2)
  clear g12 HK11 HN9 HO HNE
  go_wp2_with fail
  refine (unhide CP _ (unhide HK12).e).mono ?_
  rintro e w13 ⟨ho, E13⟩
  have HK13 := hide ((unhide HK12).keep E13)
  clear E13 HK12 CP
  rcases ho with ⟨hok, rfl⟩ | ⟨-, r, hr, rfl⟩
  · have CM1 := hide (unhide CM w13 (unhide HK13).e (pstrN ((List.range (L.getD 0 ByteArray.empty).size).map fun k => pc L [] k L.length)) (pstrN ((List.range (L.getD 0 ByteArray.empty).size).map fun k => qc L [] k L.length)) hok (by simp [pstrN_size]) (by simp [pstrN_size]))
    unfold PutOk
    generalize pstrN ((List.range (L.getD 0 ByteArray.empty).size).map fun k => pc L [] k L.length) = P at *
    generalize pstrN ((List.range (L.getD 0 ByteArray.empty).size).map fun k => qc L [] k L.length) = Q at *
    clear CM hok
    go_wp2_with fail
    refine (unhide CM1).mono ?_
    rintro e w14 ⟨⟨v14, n14, x14, r14, rfl, M14⟩, E14⟩
    have HO := hide ((unhide HK13).own M14 (Nat.le_refl _))
    have HK14 := hide ((unhide HK13).keep E14)
    have HM14 := hide M14
    clear E14 M14 HK13 CM1
    go_wp2_with fail
    refine (spoil_str _ v14 _ _ _ (unhide HM14)).mono ?_
    rintro e w15 ⟨⟨r15, rfl⟩, g15⟩
    have HK15 := hide ((unhide HK14).grown g15 (unhide HO))
    clear g15 HK14 HM14 HO
    go_wp2_with fail
    refine (unhide CS _).mono ?_
    rintro e w16 ⟨⟨v16, n16, x16, r16, rfl, M16⟩, E16⟩
    have HO := hide ((unhide HK15).own M16 (Nat.le_refl _))
    have HK16 := hide ((unhide HK15).keep E16)
    have HM16 := hide M16
    clear E16 M16 HK15 CS
    go_wp2_with fail
    refine (spoil_str _ v16 _ _ _ (unhide HM16)).mono ?_
    rintro e w17 ⟨⟨r17, rfl⟩, g17⟩
    have HK17 := hide ((unhide HK16).grown g17 (unhide HO))
    clear g17 HK16 HM16 HO
    go_wp2_with fail
    refine (unhide CV _ (unhide HK17).e).mono ?_
    rintro e w18 ⟨⟨v18, n18, x18, r18, rfl, M18⟩, E18⟩
    have HO := hide ((unhide HK17).own M18 (Nat.le_refl _))
    have HK18 := hide ((unhide HK17).keep E18)
    have HM18 := hide M18
    clear E18 M18 HK17 CV
    go_wp2_with fail
    refine (spoil_u64 _ v18 _ _ _ (unhide HM18)).mono ?_
    rintro e w19 ⟨⟨r19, rfl⟩, g19⟩
    have HK19 := hide ((unhide HK18).grown g19 (unhide HO))
    clear g19 HK18 HM18 HO
    go_wp2_with fail
    refine (unhide CW _ (unhide HK19).e).mono ?_
    rintro e w20 ⟨⟨v20, n20, x20, rfl, M20, hx⟩, E20⟩
    have K20 := (unhide HK19).keep E20
    have HE20 := hide K20.e
    have CE1 := hide (fun (W : World) (E : Ext w20 W) => equal_u16 A A5 m m c c5 l l W ((unhide HR1).keep (K20.e.trans E)) (K20.r1.keep E) (by omega) (by omega))
    rw [decide_eq_true rfl] at CE1
    have CE2 := hide (fun (W : World) (E : Ext w20 W) => equal_strs B A6 p d c6 L W ((unhide HR2).keep (K20.e.trans E)) (K20.r2.keep E) (by omega))
    obtain ⟨A20, c20, rfl, R20, -, -, -⟩ := M20.open_
    clear HK19 E20 CW M20
    by_cases hq0 : q = 0
    · subst hq0
      rw [hx rfl] at R20
      have hn20 : 0 < n20 := by rw [← R20.numN]; exact unhide HL0
      obtain ⟨b20, o20, rfl, hb20, hc20⟩ := R20.nat (k := 0) hn20
      rw [unhide HL1, Nat.add_zero] at hc20
      rw [show (((0 : Nat) : Int)) = 0 from rfl] at hc20
      have hn20I : (0 : Int) < (n20 : Int) := by omega
      clear hx R20 K20 HL0 HL1 HR1 HR2
      go_wp2_with fail
      refine (unhide CE1 _ (by repeat (first | exact Ext.refl w20 | refine Ext.alloc ?_ _ | refine Ext.drew ?_ | refine Ext.drewN ?_ _ | (refine Ext.trans ?_ (plus_ext _ _)) | (refine Ext.setCell ?_ (by have := Ext.size Ext.refl w20; simp; omega) _)))).mono ?_
      rintro e w21 ⟨rfl, q21, rfl⟩
      go_wp2_with fail
      refine (unhide CE2 _ (by repeat (first | exact Ext.refl w20 | refine Ext.alloc ?_ _ | refine Ext.drew ?_ | refine Ext.drewN ?_ _ | (refine Ext.trans ?_ (plus_ext _ _)) | (refine Ext.setCell ?_ (by have := Ext.size Ext.refl w20; simp; omega) _)))).mono ?_
      rintro e w22 ⟨rfl, q22, rfl⟩
      go_wp2
      first
      | (go_ret
         exact ⟨ret_boolv (by simp), (by repeat (first | exact unhide HE20 | refine Ext.alloc ?_ _ | refine Ext.drew ?_ | refine Ext.drewN ?_ _ | (refine Ext.trans ?_ (plus_ext _ _)) | (refine Ext.setCell ?_ (by have := Ext.size unhide HE20; simp; omega) _)))⟩)
      | (go_quiet (fail)
         go_wp2
         go_ret
         exact ⟨ret_boolv (by simp), (by repeat (first | exact unhide HE20 | refine Ext.alloc ?_ _ | refine Ext.drew ?_ | refine Ext.drewN ?_ _ | (refine Ext.trans ?_ (plus_ext _ _)) | (refine Ext.setCell ?_ (by have := Ext.size unhide HE20; simp; omega) _)))⟩)
    · have hqB : (q != 0) = true := by rw [bne_iff_ne]; exact hq0
      have hqq : (q == q) = true := beq_self_eq_true q
      clear hx R20 K20 HL0 HL1 HR1 HR2 hq0
      go_wp2_with fail
      refine (unhide CE1 _ (by repeat (first | exact Ext.refl w20 | refine Ext.alloc ?_ _ | refine Ext.drew ?_ | refine Ext.drewN ?_ _ | (refine Ext.trans ?_ (plus_ext _ _)) | (refine Ext.setCell ?_ (by have := Ext.size Ext.refl w20; simp; omega) _)))).mono ?_
      rintro e w21 ⟨rfl, q21, rfl⟩
      go_wp2_with fail
      refine (unhide CE2 _ (by repeat (first | exact Ext.refl w20 | refine Ext.alloc ?_ _ | refine Ext.drew ?_ | refine Ext.drewN ?_ _ | (refine Ext.trans ?_ (plus_ext _ _)) | (refine Ext.setCell ?_ (by have := Ext.size Ext.refl w20; simp; omega) _)))).mono ?_
      rintro e w22 ⟨rfl, q22, rfl⟩
      go_wp2
      first
      | (go_ret
         exact ⟨ret_boolv (by simp), (by repeat (first | exact unhide HE20 | refine Ext.alloc ?_ _ | refine Ext.drew ?_ | refine Ext.drewN ?_ _ | (refine Ext.trans ?_ (plus_ext _ _)) | (refine Ext.setCell ?_ (by have := Ext.size unhide HE20; simp; omega) _)))⟩)
      | (go_quiet (fail)
         go_wp2
         go_ret
         exact ⟨ret_boolv (by simp), (by repeat (first | exact unhide HE20 | refine Ext.alloc ?_ _ | refine Ext.drew ?_ | refine Ext.drewN ?_ _ | (refine Ext.trans ?_ (plus_ext _ _)) | (refine Ext.setCell ?_ (by have := Ext.size unhide HE20; simp; omega) _)))⟩)
  · have hrB : (r == 0) = false := by rw [beq_eq_false_iff_ne]; exact hr
    have HK15 := HK13
    clear HK13 CM
    go_wp2_with fail
    refine (unhide CS _).mono ?_
    rintro e w16 ⟨⟨v16, n16, x16, r16, rfl, M16⟩, E16⟩
    have HO := hide ((unhide HK15).own M16 (Nat.le_refl _))
    have HK16 := hide ((unhide HK15).keep E16)
    have HM16 := hide M16
    clear E16 M16 HK15 CS
    go_wp2_with fail
    refine (spoil_str _ v16 _ _ _ (unhide HM16)).mono ?_
    rintro e w17 ⟨⟨r17, rfl⟩, g17⟩
    have HK17 := hide ((unhide HK16).grown g17 (unhide HO))
    clear g17 HK16 HM16 HO
    go_wp2_with fail
    refine (unhide CV _ (unhide HK17).e).mono ?_
    rintro e w18 ⟨⟨v18, n18, x18, r18, rfl, M18⟩, E18⟩
    have HO := hide ((unhide HK17).own M18 (Nat.le_refl _))
    have HK18 := hide ((unhide HK17).keep E18)
    have HM18 := hide M18
    clear E18 M18 HK17 CV
    go_wp2_with fail
    refine (spoil_u64 _ v18 _ _ _ (unhide HM18)).mono ?_
    rintro e w19 ⟨⟨r19, rfl⟩, g19⟩
    have HK19 := hide ((unhide HK18).grown g19 (unhide HO))
    clear g19 HK18 HM18 HO
    go_wp2_with fail
    refine (unhide CW _ (unhide HK19).e).mono ?_
    rintro e w20 ⟨⟨v20, n20, x20, rfl, M20, hx⟩, E20⟩
    have K20 := (unhide HK19).keep E20
    have HE20 := hide K20.e
    have CE1 := hide (fun (W : World) (E : Ext w20 W) => equal_u16 A A5 m m c c5 l l W ((unhide HR1).keep (K20.e.trans E)) (K20.r1.keep E) (by omega) (by omega))
    rw [decide_eq_true rfl] at CE1
    have CE2 := hide (fun (W : World) (E : Ext w20 W) => equal_strs B A6 p d c6 L W ((unhide HR2).keep (K20.e.trans E)) (K20.r2.keep E) (by omega))
    obtain ⟨A20, c20, rfl, R20, -, -, -⟩ := M20.open_
    clear HK19 E20 CW M20
    by_cases hq0 : q = 0
    · subst hq0
      rw [hx rfl] at R20
      have hn20 : 0 < n20 := by rw [← R20.numN]; exact unhide HL0
      obtain ⟨b20, o20, rfl, hb20, hc20⟩ := R20.nat (k := 0) hn20
      rw [unhide HL1, Nat.add_zero] at hc20
      rw [show (((0 : Nat) : Int)) = 0 from rfl] at hc20
      have hn20I : (0 : Int) < (n20 : Int) := by omega
      clear hx R20 K20 HL0 HL1 HR1 HR2
      go_wp2_with fail
      refine (unhide CE1 _ (by repeat (first | exact Ext.refl w20 | refine Ext.alloc ?_ _ | refine Ext.drew ?_ | refine Ext.drewN ?_ _ | (refine Ext.trans ?_ (plus_ext _ _)) | (refine Ext.setCell ?_ (by have := Ext.size Ext.refl w20; simp; omega) _)))).mono ?_
      rintro e w21 ⟨rfl, q21, rfl⟩
      go_wp2_with fail
      refine (unhide CE2 _ (by repeat (first | exact Ext.refl w20 | refine Ext.alloc ?_ _ | refine Ext.drew ?_ | refine Ext.drewN ?_ _ | (refine Ext.trans ?_ (plus_ext _ _)) | (refine Ext.setCell ?_ (by have := Ext.size Ext.refl w20; simp; omega) _)))).mono ?_
      rintro e w22 ⟨rfl, q22, rfl⟩
      go_wp2
      first
      | (go_ret
         exact ⟨ret_boolv (by simp), (by repeat (first | exact unhide HE20 | refine Ext.alloc ?_ _ | refine Ext.drew ?_ | refine Ext.drewN ?_ _ | (refine Ext.trans ?_ (plus_ext _ _)) | (refine Ext.setCell ?_ (by have := Ext.size unhide HE20; simp; omega) _)))⟩)
      | (go_quiet (fail)
         go_wp2
         go_ret
         exact ⟨ret_boolv (by simp), (by repeat (first | exact unhide HE20 | refine Ext.alloc ?_ _ | refine Ext.drew ?_ | refine Ext.drewN ?_ _ | (refine Ext.trans ?_ (plus_ext _ _)) | (refine Ext.setCell ?_ (by have := Ext.size unhide HE20; simp; omega) _)))⟩)
    · have hqB : (q != 0) = true := by rw [bne_iff_ne]; exact hq0
      have hqq : (q == q) = true := beq_self_eq_true q
      clear hx R20 K20 HL0 HL1 HR1 HR2 hq0
      go_wp2_with fail
      refine (unhide CE1 _ (by repeat (first | exact Ext.refl w20 | refine Ext.alloc ?_ _ | refine Ext.drew ?_ | refine Ext.drewN ?_ _ | (refine Ext.trans ?_ (plus_ext _ _)) | (refine Ext.setCell ?_ (by have := Ext.size Ext.refl w20; simp; omega) _)))).mono ?_
      rintro e w21 ⟨rfl, q21, rfl⟩
      go_wp2_with fail
      refine (unhide CE2 _ (by repeat (first | exact Ext.refl w20 | refine Ext.alloc ?_ _ | refine Ext.drew ?_ | refine Ext.drewN ?_ _ | (refine Ext.trans ?_ (plus_ext _ _)) | (refine Ext.setCell ?_ (by have := Ext.size Ext.refl w20; simp; omega) _)))).mono ?_
      rintro e w22 ⟨rfl, q22, rfl⟩
      go_wp2
      first
      | (go_ret
         exact ⟨ret_boolv (by simp), (by repeat (first | exact unhide HE20 | refine Ext.alloc ?_ _ | refine Ext.drew ?_ | refine Ext.drewN ?_ _ | (refine Ext.trans ?_ (plus_ext _ _)) | (refine Ext.setCell ?_ (by have := Ext.size unhide HE20; simp; omega) _)))⟩)
      | (go_quiet (fail)
         go_wp2
         go_ret
         exact ⟨ret_boolv (by simp), (by repeat (first | exact unhide HE20 | refine Ext.alloc ?_ _ | refine Ext.drew ?_ | refine Ext.drewN ?_ _ | (refine Ext.trans ?_ (plus_ext _ _)) | (refine Ext.setCell ?_ (by have := Ext.size unhide HE20; simp; omega) _)))⟩)
end Go.Proofs.Ytkebldjepdhioaa
