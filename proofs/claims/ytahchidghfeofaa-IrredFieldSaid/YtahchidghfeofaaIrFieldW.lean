/-
  The law IrredField returns true: the walk.
-/
import Derived.Test.YtahchidghfeofaaIrFirst
import Derived.Test.YtahchidghfeofaaPoly7
set_option linter.unusedVariables false
set_option linter.unusedSimpArgs false
namespace Go.Proofs.Ytahchidghfeofaa
open Go.RowKit Go.BigFrame

theorem pw_2g : ¬ 1000000 < Wm.pwN Wm.P2g.p 3 := by decide
set_option maxRecDepth 100000 in
set_option maxHeartbeats 4000000 in
theorem irf_law (n k : Int) (A1 : Option Addr) (n1 c1 : Nat) (l1 : List Int) (w : World)
    (S1 : SliceIn w A1 n1 c1 1 8 (ints l1)) (_ : ∀ x ∈ l1, -9223372036854775808 ≤ x ∧ x ≤ 9223372036854775807) :
    Calls Try.prog 3 #[.int .i64 n, .int .i64 k, .slice A1 n1 c1] w fun e w' => e = .returned (.bool true) ∧ Ext w w' := by
  have CI := hide ((First_ok Wm.P2g (by decide) 3 (by omega) (by omega) w).mono fun e w' h => (show (∃ v, e = .returned (.tuple #[v, .int .i64 0]) ∧ Made w' w.heap.size 3 1 v 4 (nats .i64 [1, 1, 0, 1])) ∧ Ext w w' from by
    obtain ⟨h | ⟨k, v, -, hi, hn, rfl, M⟩, E⟩ := h
    · exact absurd h.1 pw_2g
    · rw [Wm.first_3 hi hn] at M
      exact ⟨⟨v, rfl, M⟩, E⟩))
  rw [show Wm.P2g.p = 2 from rfl] at CI
  have C0 := hide (fun w : World => polys_any w)
  have CF := hide (fun w : World => fieldOf_any n w)
  have CO1 := hide (fun (P : Wm.Pr) (h9 : P.p ≤ 997) (m : Nat) (hm : m ≤ 40) (W : World) (E : Ext w W) => polyOf_ok P h9 A1 n1 c1 l1 m W (S1.1.keep E) S1.2.1 (by have := S1.2.2.2.1; omega) S1.2.2.2.2 hm)
  clear S1
  obtain ⟨m', m0, m1, -, cM⟩ := within_ex k 4 (by omega) (by omega)
  obtain ⟨m', rfl⟩ := Int.eq_ofNat_of_zero_le m0
  obtain ⟨K, hK⟩ : ∃ K, K = 2 + m' := ⟨_, rfl⟩
  have hKI : (2 : Int) + (m' : Int) = (K : Int) := by omega
  have k2 : 2 ≤ K := by omega
  have k5 : K ≤ 5 := by omega
  clear hK
  go_enter Try.func3, Try.ntmps3
  go_wp2_with fail
  refine (unhide CI).mono ?_
  rintro e w1 ⟨⟨v, rfl, M⟩, E1⟩
  obtain ⟨AF, cF, rfl, PF⟩ := M.pv
  have CE := hide (fun (W : World) (E : Ext w1 W) (b : Nat) (S : Pv W (some ⟨b, 0, none⟩) 4 4 [1, 1, 0, 1]) => equal_pv AF (some ⟨b, 0, none⟩) 4 4 cF 4 [1, 1, 0, 1] [1, 1, 0, 1] W (PF.keep E) S)
  have HE1 := And.intro E1 trivial
  clear M E1 PF CI
  go_wp2_with fail
  refine (unhide CE _ (by repeat (first | exact Ext.refl _ | refine Ext.alloc ?_ _ | refine Ext.drew ?_ | refine Ext.drewN ?_ _ | (refine Ext.trans ?_ (plus_ext _ _)) | (refine Ext.setCell ?_ (by have := Ext.size Ext.refl _; simp; omega) _))) _ ⟨row_new _ #[.int .i64 1, .int .i64 1, .int .i64 0, .int .i64 1] 3 4 1 rfl, Nat.le_refl _, by omega, fun h => by cases h⟩).mono ?_
  rintro e w2 ⟨rfl, q2, rfl⟩
  go_wp2_with fail
  refine (unhide C0 _).mono ?_
  rintro e w3 ⟨rfl, E3⟩
  have HE3 : Ext w w3 ∧ True := ⟨HE1.1.trans (Ext.trans (by repeat (first | exact Ext.refl _ | refine Ext.alloc ?_ _ | refine Ext.drew ?_ | refine Ext.drewN ?_ _ | (refine Ext.trans ?_ (plus_ext _ _)) | (refine Ext.setCell ?_ (by have := Ext.size Ext.refl _; simp; omega) _))) E3), trivial⟩
  clear HE1 E3 C0 CE
  go_wp2_with fail
  refine (unhide CF _).mono ?_
  rintro e w4 ⟨⟨P, h9, rfl⟩, k4, rfl⟩
  go_wp2_with fail
  refine (unhide cM _).mono ?_
  rintro e w5 ⟨rfl, rfl⟩
  have HE5 : Ext w (w3.drewN k4) ∧ True := ⟨HE3.1.drewN k4, trivial⟩
  have CK := hide (fun w : World => First_ok P h9 K k2 k5 w)
  go_wp2_with fail
  refine (unhide CK _).mono ?_
  rintro e w6 ⟨ho, E6⟩
  have HE6 : Ext w w6 ∧ True := ⟨HE5.1.trans E6, trivial⟩
  clear HE5 HE3 E6 CK CF cM
  rcases ho with ⟨-, rfl⟩ | ⟨j, v, hpw, hirr, -, rfl, M⟩
  · go_wp2
    go_ret
    exact ⟨rfl, HE6.1⟩
  have I : Wm.Irl P (Wm.monL P.p K j) := Wm.irl_of_irr (Wm.monL_isP K j) (by
    rw [Wm.monL_len, Nat.add_sub_cancel]
    unfold Wm.monL
    rw [Wm.mkL_get _ (by omega)]
    unfold Wm.monF
    rw [if_neg (by omega), if_pos rfl]) hirr
  have hfl : (Wm.monL P.p K j).length = K + 1 := Wm.monL_len _ _ _
  obtain ⟨Ff, cf, rfl, Pf⟩ := M.pv
  generalize Wm.monL P.p K j = f at *
  have HI := hide I
  have HP := hide Pf
  have hfI : (f.length : Int) = (K : Int) + 1 := by omega
  have HFL := hide hfl
  have ha0 := Wm.xN_lt P K
  have hx0 : Wm.pwG P f K (Wm.xN P K) (P.p ^ 0) = [0, 1] := by
    rw [Nat.pow_zero]
    unfold Wm.pwG
    rw [Wm.pw_one I hfl ha0, Wm.xN_pol P k2]
  have hxK : Wm.pwG P f K (Wm.xN P K) (P.p ^ K) = [0, 1] := by rw [I.pwG_last hfl ha0, Wm.xN_pol P k2]
  have hpwp := I.pwG_pw hfl ha0
  have hlt := I.pw_lt hfl ha0
  have hone := I.pwG_zero hfl
  have HX0 := hide hx0
  have HXK := hide hxK
  have HPW := hide hpwp
  have HLT := hide hlt
  have HONE := hide hone
  have hp := P.two
  clear M Pf hirr hpw hx0 hxK hpwp hlt hone I hfI hfl
  go_wp2
  have HR0 := hide (row_new w6 #[.int .i64 0, .int .i64 1] 3 2 1 rfl)
  go_loopw [12, 56] (fun x i wr => ∃ (t c : Nat) (A : Option Addr), t ≤ K ∧ i = .int .i64 t ∧ x = .slice A (Wm.pwG P f K (Wm.xN P K) (P.p ^ t)).length c ∧ Hid (Pv wr A (Wm.pwG P f K (Wm.xN P K) (P.p ^ t)).length c (Wm.pwG P f K (Wm.xN P K) (P.p ^ t))) ∧ Hid (Ext w6 wr)) (fun _ i _ => K - (intOf i).toNat)
  case atStart =>
    refine ⟨0, 2, _, Nat.zero_le _, rfl, by rw [unhide HX0]; rfl, ?_, hide (by repeat (first | exact Ext.refl _ | refine Ext.alloc ?_ _ | refine Ext.drew ?_ | refine Ext.drewN ?_ _ | (refine Ext.trans ?_ (plus_ext _ _)) | (refine Ext.setCell ?_ (by have := Ext.size Ext.refl _; simp; omega) _)))⟩
    rw [unhide HX0]
    exact hide ⟨unhide HR0, Nat.le_refl _, by omega, fun h => by cases h⟩
  case round =>
    clear HR0
    obtain ⟨t, c, A, ht, rfl, rfl, HPX, HEX⟩ := hrel
    obtain ⟨w7, hw7⟩ : ∃ x, x = wr := ⟨_, rfl⟩
    subst hw7
    by_cases htK : t < K
    · have htI : (t : Int) < (K : Int) := by omega
      obtain ⟨a, ha⟩ : ∃ a, a = Wm.pwM (Wm.mlG P f K) (Wm.xN P K) (P.p ^ t) := ⟨_, rfl⟩
      have hXa : Wm.pwG P f K (Wm.xN P K) (P.p ^ t) = Wm.polN P.p K a := by rw [ha]; rfl
      have HAP := hide (show Wm.pwG P f K a P.p = Wm.pwG P f K (Wm.xN P K) (P.p ^ (t + 1)) by rw [ha]; exact unhide HPW t)
      rw [hXa] at HPX ⊢
      clear ha hXa
      have HXP := hide (Wm.polN_isP P.pos K a)
      have hxl := Wm.polN_len P.p K a
      have HST := hide (fun m (q r : List Nat) (D : Wm.IsDiv P (Wm.mulL P.p (Wm.pwG P f K a m) (Wm.polN P.p K a)) f q r) => (unhide HI).pwG_step (unhide HFL) a m D)
      generalize Wm.polN P.p K a = X at *
      go_wp2
      have HR1 := hide (row_new w7 #[.int .i64 1] 3 1 1 rfl)
      go_loopw [13, 14] (fun y m wz => ∃ (s c : Nat) (B : Option Addr), s ≤ P.p ∧ m = .int .i64 ((P.p - s : Nat) : Int) ∧ y = .slice B (Wm.pwG P f K a s).length c ∧ Hid (Pv wz B (Wm.pwG P f K a s).length c (Wm.pwG P f K a s)) ∧ Hid (Ext w7 wz)) (fun _ m _ => (intOf m).toNat)
      case atStart =>
        refine ⟨0, 1, _, Nat.zero_le _, by rw [Nat.sub_zero], by rw [unhide HONE]; rfl, ?_, hide (by repeat (first | exact Ext.refl _ | refine Ext.alloc ?_ _ | refine Ext.drew ?_ | refine Ext.drewN ?_ _ | (refine Ext.trans ?_ (plus_ext _ _)) | (refine Ext.setCell ?_ (by have := Ext.size Ext.refl _; simp; omega) _)))⟩
        rw [unhide HONE]
        exact hide ⟨unhide HR1, Nat.le_refl _, by omega, fun h => by cases h⟩
      case round =>
        clear HR1
        obtain ⟨s, c', B, hs, rfl, rfl, HPY, HEZ⟩ := hrel
        by_cases hsp : s < P.p
        · have hmI : (0 : Int) < ((P.p - s : Nat) : Int) := by omega
          have hm1 : ((P.p - s : Nat) : Int) - 1 = ((P.p - (s + 1) : Nat) : Int) := by omega
          have hml : P.p - s ≤ 997 := by omega
          have HYP := hide (Wm.pwG_isP P f K a s)
          have hyl := Wm.pwG_len P f K a s
          have HS1 := hide (fun (q r : List Nat) D => unhide HST s q r D)
          generalize Wm.pwG P f K a s = Y at *
          have hprod := Wm.mulL_len P.p Y X
          have C1 := hide (fun (W : World) (E : Ext wr W) => Mul_ok P h9 B A _ c' _ c Y X W ((unhide HPY).keep E) (((unhide HPX).keep (unhide HEZ)).keep E) (unhide HYP) (by omega) (unhide HXP) (by omega) (by omega))
          have hfl := unhide HFL
          have C2 := hide (fun (W : World) (E : Ext wr W) (D : Option Addr) (d : Nat) (R : Pv W D (Wm.mulL P.p Y X).length d (Wm.mulL P.p Y X)) => Div_ok P h9 D Ff _ d _ cf (Wm.mulL P.p Y X) f W R ((((unhide HP).keep (unhide HEX)).keep (unhide HEZ)).keep E) (Wm.mulL_isP P.pos _ _) (by omega) (unhide HI).isP (by omega) (by omega))
          clear hfl
          generalize P.p - s = m at *
          generalize Wm.mulL P.p Y X = Z at *
          go_wp2_with fail
          refine (unhide C1 _ (by repeat (first | exact Ext.refl _ | assumption | refine Ext.alloc ?_ _ | refine Ext.drew ?_ | refine Ext.drewN ?_ _ | refine Ext.trans ?_ ‹Ext _ _›))).mono ?_
          rintro e w8 ⟨⟨vN, rfl, MN⟩, EN⟩
          have Fw8 : Ext wr w8 := Ext.trans (by repeat (first | exact Ext.refl _ | assumption | refine Ext.alloc ?_ _ | refine Ext.drew ?_ | refine Ext.drewN ?_ _ | refine Ext.trans ?_ ‹Ext _ _›)) EN
          obtain ⟨A8, c8, rfl, P8⟩ := MN.pv
          have BP8 := MN.blk
          clear MN EN
          go_wp2_with fail
          refine (unhide C2 _ (by repeat (first | exact Ext.refl _ | assumption | refine Ext.alloc ?_ _ | refine Ext.drew ?_ | refine Ext.drewN ?_ _ | refine Ext.trans ?_ ‹Ext _ _›)) _ _ (P8.keep (by repeat (first | exact Ext.refl _ | assumption | refine Ext.alloc ?_ _ | refine Ext.drew ?_ | refine Ext.drewN ?_ _ | refine Ext.trans ?_ ‹Ext _ _›)))).mono ?_
          rintro e w9 ⟨⟨q, r, vN, uN, hD, rfl, MN, LN, neN⟩, EN⟩
          have Fw9 : Ext w8 w9 := Ext.trans (by repeat (first | exact Ext.refl _ | assumption | refine Ext.alloc ?_ _ | refine Ext.drew ?_ | refine Ext.drewN ?_ _ | refine Ext.trans ?_ ‹Ext _ _›)) EN
          obtain ⟨A9, c9, rfl, P9⟩ := MN.pv
          have BP9 := MN.blk
          obtain ⟨A10, c10, rfl, P10⟩ := LN.pv
          have BP10 := LN.blk
          clear MN LN neN EN
          have hr := unhide HS1 q r hD
          have HR := hide hr
          have HPR := hide P10
          have HE9 := hide ((unhide HEZ).trans (show Ext wr w9 from (by repeat (first | exact Ext.refl _ | assumption | refine Ext.alloc ?_ _ | refine Ext.drew ?_ | refine Ext.drewN ?_ _ | refine Ext.trans ?_ ‹Ext _ _›))))
          clear hD hr P9 P10 P8 C1 C2 HPY
          go_wp2_with (go_at_call 12; refine (good_made' [0, 0] _ _ _ _ _ rfl rfl (by decide) (by simp)).mono ?_; rintro e wg ⟨rfl, rfl⟩)
          go_roundw
          case rel => exact ⟨s + 1, c10, A10, by omega, by go_num, by rw [← unhide HR], by rw [← unhide HR]; exact hide ((unhide HPR).keep (by repeat (first | exact Ext.refl _ | refine Ext.alloc ?_ _ | refine Ext.drew ?_ | refine Ext.drewN ?_ _ | (refine Ext.trans ?_ (plus_ext _ _)) | (refine Ext.setCell ?_ (by have := Ext.size Ext.refl _; simp; omega) _)))), hide ((unhide HE9).trans (by repeat (first | exact Ext.refl _ | refine Ext.alloc ?_ _ | refine Ext.drew ?_ | refine Ext.drewN ?_ _ | (refine Ext.trans ?_ (plus_ext _ _)) | (refine Ext.setCell ?_ (by have := Ext.size Ext.refl _; simp; omega) _))))⟩
          case measure => simp [intOf]; omega
        · obtain rfl : P.p = s := by omega
          have HPY2 := HPY
          rw [unhide HAP] at HPY2 ⊢
          go_wp2
          go_roundw
          case rel => exact ⟨t + 1, c', B, by omega, by go_num, rfl, HPY2, hide ((unhide HEX).trans (unhide HEZ))⟩
          case measure => simp [intOf]; omega
    · obtain rfl : K = t := by omega
      rw [unhide HXK] at HPX ⊢
      have HE7 := hide (HE6.1.trans (unhide HEX))
      go_wp2_with fail
      refine (unhide CO1 P h9 K (by omega) _ (unhide HE7)).mono ?_
      rintro e w8 ⟨⟨vN, g, rfl, hN, hgl, MN⟩, EN⟩
      obtain ⟨Ag, cg, rfl, Pg⟩ := MN.pv
      have Fw8 : Ext w7 w8 := EN
      clear MN EN
      have hfl := unhide HFL
      have C3 := hide (fun (W : World) (E : Ext w8 W) => Gcd_poly P h9 Ff Ag _ cf _ cg f g W ((((unhide HP).keep (unhide HEX)).keep Fw8).keep E) (Pg.keep E) (unhide HI).isP (by omega) hN (by omega))
      have HG1 := hide (fun (d : List Nat) (h0 : g ≠ []) (G : Wm.IsGcd P f g d) => (unhide HI).gcd_one hN h0 (by omega) G)
      have HG2 := hide (fun (d : List Nat) (h0 : g = []) (G : Wm.IsGcd P f g d) => (unhide HI).gcd_all (by rw [h0] at G; exact G))
      clear hfl
      go_wp2_with fail
      refine (unhide C3 _ (by repeat (first | exact Ext.refl _ | assumption | refine Ext.alloc ?_ _ | refine Ext.drew ?_ | refine Ext.drewN ?_ _ | refine Ext.trans ?_ ‹Ext _ _›))).mono ?_
      rintro e w9 ⟨⟨d, vN, hG, -, rfl, MN⟩, EN⟩
      have Fw9 : Ext w8 w9 := Ext.trans (by repeat (first | exact Ext.refl _ | assumption | refine Ext.alloc ?_ _ | refine Ext.drew ?_ | refine Ext.drewN ?_ _ | refine Ext.trans ?_ ‹Ext _ _›)) EN
      obtain ⟨Ad, cd, rfl, Pd⟩ := MN.pv
      have HE9 := And.intro ((unhide HE7).trans (Fw8.trans Fw9)) trivial
      have CE := hide (fun (W : World) (E : Ext w9 W) (b : Nat) (S : Pv W (some ⟨b, 0, none⟩) 2 2 [0, 1]) => equal_pv A (some ⟨b, 0, none⟩) 2 2 c 2 [0, 1] [0, 1] W ((unhide HPX).keep (Fw8.trans (Fw9.trans E))) S)
      clear MN EN C3
      by_cases hg0 : g.length = 0
      · have hdl : (d.length : Int) = (K : Int) + 1 := by
          have h1 := unhide HG2 d (List.eq_nil_of_length_eq_zero hg0) hG
          have h2 := unhide HFL
          omega
        clear hG Pd HG1 HG2
        go_wp2_with fail
        refine (unhide CE _ (by repeat (first | exact Ext.refl _ | refine Ext.alloc ?_ _ | refine Ext.drew ?_ | refine Ext.drewN ?_ _ | (refine Ext.trans ?_ (plus_ext _ _)) | (refine Ext.setCell ?_ (by have := Ext.size Ext.refl _; simp; omega) _))) _ ⟨row_new _ #[.int .i64 0, .int .i64 1] 3 2 1 rfl, Nat.le_refl _, by omega, fun h => by cases h⟩).mono ?_
        rintro e wa ⟨rfl, qa, rfl⟩
        go_wp2
        go_ret
        exact ⟨rfl, (by repeat (first | exact HE9.1 | refine Ext.alloc ?_ _ | refine Ext.drew ?_ | refine Ext.drewN ?_ _ | (refine Ext.trans ?_ (plus_ext _ _)) | (refine Ext.setCell ?_ (by have := Ext.size HE9.1; simp; omega) _)))⟩
      · have hgI : ((g.length : Int) == 0) = false := by rw [beq_eq_false_iff_ne]; omega
        have hgI2 : (0 : Int) < (g.length : Int) := by omega
        obtain rfl := unhide HG1 d (fun e => hg0 (by rw [e]; rfl)) hG
        have CE2 := hide (fun (W : World) (E : Ext w9 W) (b : Nat) (S : Pv W (some ⟨b, 0, none⟩) 1 1 [1]) => equal_pv Ad (some ⟨b, 0, none⟩) 1 1 cd 1 [1] [1] W (Pd.keep E) S)
        clear hG Pd HG1 HG2
        go_wp2_with fail
        refine (unhide CE _ (by repeat (first | exact Ext.refl _ | refine Ext.alloc ?_ _ | refine Ext.drew ?_ | refine Ext.drewN ?_ _ | (refine Ext.trans ?_ (plus_ext _ _)) | (refine Ext.setCell ?_ (by have := Ext.size Ext.refl _; simp; omega) _))) _ ⟨row_new _ #[.int .i64 0, .int .i64 1] 3 2 1 rfl, Nat.le_refl _, by omega, fun h => by cases h⟩).mono ?_
        rintro e wa ⟨rfl, qa, rfl⟩
        go_wp2_with fail
        refine (unhide CE2 _ (by repeat (first | exact Ext.refl _ | refine Ext.alloc ?_ _ | refine Ext.drew ?_ | refine Ext.drewN ?_ _ | (refine Ext.trans ?_ (plus_ext _ _)) | (refine Ext.setCell ?_ (by have := Ext.size Ext.refl _; simp; omega) _))) (w9.heap.size + 1) ⟨by
          have := row_new ((w9.alloc (.cells #[.int .i64 0, .int .i64 1] 3)).drewN qa) #[.int .i64 1] 3 1 1 rfl
          rw [show ((w9.alloc (.cells #[.int .i64 0, .int .i64 1] 3)).drewN qa).heap.size = w9.heap.size + 1 by simp] at this
          exact this, Nat.le_refl _, by omega, fun h => by cases h⟩).mono ?_
        rintro e wb ⟨rfl, qb, rfl⟩
        go_wp2
        go_ret
        exact ⟨rfl, (by repeat (first | exact HE9.1 | refine Ext.alloc ?_ _ | refine Ext.drew ?_ | refine Ext.drewN ?_ _ | (refine Ext.trans ?_ (plus_ext _ _)) | (refine Ext.setCell ?_ (by have := Ext.size HE9.1; simp; omega) _)))⟩
end Go.Proofs.Ytahchidghfeofaa
