/-
  The contract of points.Through and points.At.
-/
import Derived.Test.YtojjcdbphmcmeaaPts1
set_option linter.unusedVariables false
set_option linter.unusedSimpArgs false
namespace Go.Proofs.Ytojjcdbphmcmeaa
open Go.RowKit Go.BigFrame

def pxN (L : List (Int × Int)) (i : Nat) : Nat := (L.getD i (0, 0)).1.toNat
def pyN (L : List (Int × Int)) (i : Nat) : Nat := (L.getD i (0, 0)).2.toNat
def ThruL (P : Wm.Pr) (L : List (Int × Int)) (F : List Nat) : Prop := Wm.Thru P (pxN L) (pyN L) L.length F
theorem PtsOk.at {P : Wm.Pr} {L : List (Int × Int)} (h : PtsOk P L) {i : Nat} (hi : i < L.length) : (L.getD i (0, 0)).1 = (pxN L i : Int) ∧ (L.getD i (0, 0)).2 = (pyN L i : Int) ∧ pxN L i < P.p ∧ pyN L i < P.p := by
  have := h.rng _ (getD_mem L (0, 0) hi)
  unfold pxN pyN
  omega
theorem PtsOk.inj {P : Wm.Pr} {L : List (Int × Int)} (h : PtsOk P L) : ∀ i j, i < L.length → j < L.length → pxN L i = pxN L j → i = j := fun i j hi hj e => by
  have h1 := h.at hi
  have h2 := h.at hj
  exact h.dst i j hi hj (by omega)
theorem ThruL.unique {P : Wm.Pr} {L : List (Int × Int)} (h : PtsOk P L) {F G : List Nat} (a : ThruL P L F) (b : ThruL P L G) : F = G :=
  Wm.thru_unique a b (fun i hi => (h.at hi).2.2.1) h.inj

theorem Pv.oth {w : World} {A : Option Addr} {n c : Nat} {l : List Nat} (h : Pv w A n c l) {p : Addr} (hne : ∀ g o, A = some ⟨g, o, none⟩ → g ≠ p.block) (u : Value) : Pv (w.setCell p u) A n c l :=
  ⟨⟨h.row.1, fun hn => by
    obtain ⟨b, o, hA, hb, hc⟩ := h.row.2 hn
    exact ⟨b, o, hA, by simpa using hb, fun j hj => (World.cell?_setCell_other _ _ _ _ (fun e => hne b o hA (by rw [e]))).trans (hc j hj)⟩⟩, h.le, h.cap, h.nil⟩

def ThruPost (P : Wm.Pr) (L : List (Int × Int)) (w w' : World) (e : Ending) : Prop := ∃ (F : List Nat) (v : Value), ThruL P L F ∧ e = .returned (.tuple #[v, .int .i64 0]) ∧ Made w' w.heap.size 3 1 v F.length (nats .i64 F)

set_option maxRecDepth 100000 in
set_option maxHeartbeats 4000000 in
theorem Through_ok (P : Wm.Pr) (h9 : P.p ≤ 997) (A : Option Addr) (n c : Nat) (L : List (Int × Int)) (w : World) (R : Row w A n 2 (prs L)) (hnc : n ≤ c) (hcap : c ≤ 9223372036854775807) (h : PtsOk P L) :
    Calls Try.prog 65 #[.int .i64 P.p, .slice A n c] w fun e w' => ThruPost P L w w' e ∧ Ext w w' := by
  have hlen := R.prn
  have hn12 : n ≤ 12 := by have := h.len; omega
  have CK := hide (PCheck_ok P h9 A n c L w R hnc hcap h)
  have hp := P.two
  have HATN := hide (fun (i : Nat) (hi : i < n) => h.at (show i < L.length by omega))
  have HDONE := hide (fun (of : Nat → Nat) (ho : Wm.OAt P (pxN L) (pyN L) n n of) => (show ThruL P L (Wm.trimL (Wm.mkL n of)) from by
    unfold ThruL
    rw [hlen]
    exact ho.done (fun i hi => (h.at (by omega)).2.2.1) (fun i hi => (h.at (by omega)).2.2.2) (fun i j hi hj => h.inj i j (by omega) (by omega))))
  have HNE := hide (fun (i d : Nat) (hi : i < n) (hd : Wm.DAt P (pxN L) i n d) => (Wm.DAt.ne hd (fun j hj => (h.at (show j < L.length by omega)).2.2.1) (fun j hj hji e => hji (h.inj j i (by omega) (by omega) e))))
  have HR := hide R
  have HK := hide (mk_int n (by omega))
  clear R h hlen
  go_enter Try.func65, Try.ntmps65
  go_wp2_with fail
  refine (unhide CK).mono ?_
  rintro e w1 ⟨rfl, E1'⟩
  have Fw1 : Ext w w1 := Ext.trans (by repeat (first | exact Ext.refl _ | assumption | refine Ext.alloc ?_ _ | refine Ext.drew ?_ | refine Ext.drewN ?_ _ | refine Ext.trans ?_ ‹Ext _ _›)) E1'
  have hmk := unhide HK
  have HM : Hid (Made (w1.alloc (.cells (madeCells #[.int .i64 0] n) 3)) w.heap.size 3 1 (.slice (some ⟨w1.heap.size, 0, none⟩) n n) n (nats .i64 (Wm.mkL n (fun _ => 0)))) := hide (Made.mkq n Fw1.size (by omega) _ (fun _ _ => rfl))
  clear E1'
  go_wp2
  obtain ⟨g0, hg0⟩ : ∃ g0, g0 = w1.heap.size := ⟨_, rfl⟩
  have hgw : w.heap.size ≤ g0 := by have := Fw1.size; omega
  rw [← hg0] at HM ⊢
  have HG0 := hide hg0
  clear hg0 hmk
  go_loopw [29] (fun i wr => ∃ (k : Nat) (of : Nat → Nat), k ≤ n ∧ i = .int .i64 k ∧ Hid (Wm.OAt P (pxN L) (pyN L) n k of) ∧ Hid (Made wr w.heap.size 3 1 (.slice (some ⟨g0, 0, none⟩) n n) n (nats .i64 (Wm.mkL n of))) ∧ (Ext w wr ∧ True)) (fun i _ => n - (intOf i).toNat)
  case atStart => exact ⟨0, _, Nat.zero_le _, rfl, hide (Wm.OAt.start P _ _ n), HM, (by repeat (first | exact Ext.refl _ | assumption | refine Ext.alloc ?_ _ | refine Ext.drew ?_ | refine Ext.drewN ?_ _ | refine Ext.trans ?_ ‹Ext _ _›)), trivial⟩
  case round =>
    clear HM
    obtain ⟨i, of, hi, rfl, HO, HM, hE⟩ := hrel
    by_cases hin : i < n
    · obtain ⟨b, o, rfl, hb, hc1, hc2⟩ := ((unhide HR).keep hE.1).pair (k := i) hin
      obtain ⟨x1, x2, x3, x4⟩ := unhide HATN i hin
      rw [x1] at hc1
      rw [x2] at hc2
      have HF0 := hide (Wm.FAt.start (P := P) (px := pxN L) (py := pyN L) x4)
      obtain ⟨xi, hxi⟩ : ∃ xi, xi = pxN L i := ⟨_, rfl⟩
      obtain ⟨yi, hyi⟩ : ∃ yi, yi = pyN L i := ⟨_, rfl⟩
      rw [← hxi] at hc1 x3
      rw [← hyi] at hc2 x4 HF0
      have HXI := hide hxi
      clear x1 x2 hxi hyi
      have hg0w : g0 < wr.heap.size := ((unhide HM).lt g0 rfl).2
      obtain ⟨wrA, hwA⟩ : ∃ wrA, wrA = (wr.alloc (.cells #[.int .i64 (xi : Int), .int .i64 (yi : Int)] 43)).alloc (.cells #[.int .i64 (yi : Int)] 3) := ⟨_, rfl⟩
      have EA : Ext wr wrA := by rw [hwA]; exact ((Ext.refl wr).alloc _).alloc _
      have c9 : wrA.cell? ⟨wr.heap.size, 0, none⟩ = some (.int .i64 (xi : Int)) := by rw [hwA]; simp [go_sem]
      have HP0 : Hid (Pv wrA (some ⟨wr.heap.size + 1, 0, none⟩) 1 1 [yi]) := hide (by
        rw [hwA]
        have := row_new (wr.alloc (.cells #[.int .i64 (xi : Int), .int .i64 (yi : Int)] 43)) #[.int .i64 (yi : Int)] 3 1 1 rfl
        rw [show (wr.alloc (.cells #[.int .i64 (xi : Int), .int .i64 (yi : Int)] 43)).heap.size = wr.heap.size + 1 by simp] at this
        exact ⟨this, Nat.le_refl _, by omega, fun h => by cases h⟩)
      go_wp2
      rw [← hwA]
      clear hwA
      go_loopw [10, 11, 39] (fun fv dv j wz => ∃ (k d : Nat) (f : List Nat) (A' : Option Addr) (c' : Nat), k ≤ n ∧ j = .int .i64 k ∧ fv = .slice A' f.length c' ∧ dv = .int .i64 d ∧ Hid (Wm.FAt P (pxN L) (pyN L) i k f) ∧ Hid (Wm.DAt P (pxN L) i k d) ∧ Hid (Pv wz A' f.length c' f) ∧ Hid (∀ g o, A' = some ⟨g, o, none⟩ → g0 < g) ∧ (Ext wrA wz ∧ True)) (fun _ _ j _ => n - (intOf j).toNat)
      case atStart => exact ⟨0, 1, [yi], _, 1, Nat.zero_le _, rfl, rfl, rfl, HF0, hide (Wm.DAt.start P _ _), HP0, hide (fun g o e => by simp at e; omega), Ext.refl _, trivial⟩
      case round =>
        clear HP0 HF0 hc1 hc2
        obtain ⟨k, d, f, A', c', hk, rfl, rfl, rfl, HF, HD, HP, HG, hEA⟩ := hrel
        by_cases hkn : k < n
        · obtain ⟨b2, o2, e2, hb2, hk1, hk2⟩ := ((unhide HR).keep (hE.1.trans (EA.trans hEA.1))).pair (k := k) hkn
          injection e2 with e2
          injection e2 with e21 e22
          subst e21; subst e22
          obtain ⟨x1, x2, xk3, xk4⟩ := unhide HATN k hkn
          rw [x1] at hk1
          rw [x2] at hk2
          have d1 := (unhide HD).lt
          by_cases hki : k = i
          · subst hki
            have HF2 := hide ((unhide HF).skip)
            have HD2 := hide ((unhide HD).skip)
            have HP2 := hide (fun (W : World) (E : Ext wr W) => (unhide HP).keep E)
            generalize pxN L k = xk at *
            generalize pyN L k = yk at *
            clear HF HD x1 x2
            go_wp2
            go_roundw
            case rel => exact ⟨k + 1, d, f, A', c', by omega, by go_num, rfl, rfl, HF2, HD2, hide (unhide HP2 _ (by repeat (first | exact Ext.refl _ | refine Ext.alloc ?_ _ | refine Ext.drew ?_ | refine Ext.drewN ?_ _ | (refine Ext.trans ?_ (plus_ext _ _)) | (refine Ext.setCell ?_ (by have := Ext.size Ext.refl _; simp; omega) _)))), HG, (by repeat (first | exact hEA.1 | refine Ext.alloc ?_ _ | refine Ext.drew ?_ | refine Ext.drewN ?_ _ | (refine Ext.trans ?_ (plus_ext _ _)) | (refine Ext.setCell ?_ (by have := Ext.size hEA.1; simp; omega) _))), trivial⟩
            case measure => simp [intOf]; omega
          · have hkiI : ((k : Int) != (i : Int)) = true := by rw [bne_iff_ne]; omega
            have hkiJ : ¬ (k : Int) = (i : Int) := by omega
            obtain ⟨xk, hxk⟩ : ∃ xk, xk = pxN L k := ⟨_, rfl⟩
            obtain ⟨yk, hyk⟩ : ∃ yk, yk = pyN L k := ⟨_, rfl⟩
            have HF2 := hide ((unhide HF).step hki (by rw [← hxk]; rw [← hxk] at xk3; exact xk3))
            obtain ⟨sk, hsk⟩ : ∃ sk, sk = (P.p - xk) % P.p := ⟨_, rfl⟩
            obtain ⟨e, he⟩ : ∃ e, e = d * (xi + P.p - xk) % P.p := ⟨_, rfl⟩
            have HD2 := hide ((unhide HD).step hki xk3 (e := e) (by rw [← hxk, ← unhide HXI]; exact he))
            rw [← hxk] at hk1 xk3 HF2
            rw [← hyk] at hk2
            rw [← hsk] at HF2
            have hfl := (unhide HF).len
            have hf12 : f.length ≤ 13 := by split at hfl <;> omega
            have hskp : sk < P.p := by rw [hsk]; exact Nat.mod_lt _ P.pos
            have hskI : ((P.p : Int) - (xk : Int)) % (P.p : Int) = (sk : Int) := by rw [hsk, ← Int.natCast_sub (by omega)]; rfl
            have hcast : ((d * (xi + P.p - xk) : Nat) : Int) = (d : Int) * ((xi : Int) - (xk : Int) + (P.p : Int)) := by
              rw [Int.natCast_mul, Int.natCast_sub (by omega), Int.natCast_add]
              congr 1; omega
            have heI : (d : Int) * ((xi : Int) - (xk : Int) + (P.p : Int)) % (P.p : Int) = (e : Int) := by rw [he, ← hcast]; rfl
            have hb1 : d * (xi + P.p - xk) ≤ 997 * 1994 := Nat.mul_le_mul (by omega) (by omega)
            have hb2I : (d : Int) * ((xi : Int) - (xk : Int) + (P.p : Int)) ≤ 1988018 := by rw [← hcast]; omega
            have hb3I : 0 ≤ (d : Int) * ((xi : Int) - (xk : Int) + (P.p : Int)) := by rw [← hcast]; omega
            have CP := hide (fun (W : World) (E : Ext wr W) (b : Nat) (S : Pv W (some ⟨b, 0, none⟩) 2 2 [sk, 1]) => Product_ok P h9 A' (some ⟨b, 0, none⟩) f.length c' 2 2 f [sk, 1] W ((unhide HP).keep E) S (unhide HF).lt (by omega) (fun x hx => by simp at hx; omega) (by omega))
            clear HF HD x1 x2 hxk hyk hsk he hcast hb1 hfl
            go_wp2_with fail
            refine (unhide CP _ (by repeat (first | exact Ext.refl _ | refine Ext.alloc ?_ _ | refine Ext.drew ?_ | refine Ext.drewN ?_ _ | (refine Ext.trans ?_ (plus_ext _ _)) | (refine Ext.setCell ?_ (by have := Ext.size Ext.refl _; simp; omega) _))) _ ⟨by
              have := row_new (wr.alloc (.cells #[.int .i64 (xk : Int), .int .i64 (yk : Int)] 43)) #[.int .i64 (sk : Int), .int .i64 1] 3 2 1 rfl
              rw [show (wr.alloc (.cells #[.int .i64 (xk : Int), .int .i64 (yk : Int)] 43)).heap.size = wr.heap.size + 1 by simp] at this
              exact this, Nat.le_refl _, by omega, fun h => by cases h⟩).mono ?_
            rintro ee w5 ⟨⟨v, rfl, M5⟩, E5'⟩
            have ck := E5'.keep (a := ⟨wr.heap.size, 0, none⟩) (v := .int .i64 (xk : Int)) (by simp [go_sem])
            have E5 : Ext wrA w5 := Ext.trans (by repeat (first | exact hEA.1 | refine Ext.alloc ?_ _ | refine Ext.drew ?_ | refine Ext.drewN ?_ _ | (refine Ext.trans ?_ (plus_ext _ _)) | (refine Ext.setCell ?_ (by have := Ext.size hEA.1; simp; omega) _))) E5'
            have c9' := E5.keep c9
            obtain ⟨A5, c5, rfl, P5⟩ := M5.pv
            have HP5 := hide P5
            have HG5 := hide (show ∀ g o, A5 = some ⟨g, o, none⟩ → g0 < g from fun g o ha => by
              have h6 := (M5.lt g (by rw [ha]; rfl)).1
              have h7 := Ext.size hEA.1
              have h8 := Ext.size EA
              simp at h6; omega)
            clear M5 E5' P5 CP hk1 hk2
            generalize Wm.mulL P.p f [sk, 1] = f2 at *
            go_wp2
            go_roundw
            case rel => exact ⟨k + 1, e, f2, A5, c5, by omega, by go_num, rfl, num_eqQ heI, HF2, HD2, HP5, HG5, E5, trivial⟩
            case measure => simp [intOf]; omega
        · obtain rfl : n = k := by omega
          have hdne := unhide HNE i d hin (unhide HD)
          have d1 := (unhide HD).lt
          obtain ⟨iv, hiv1, hiv2, CI⟩ := inv_ok P h9 d1 hdne w
          have HCI := hide CI
          have hfl := (unhide HF).len
          rw [if_pos hin] at hfl
          have HSTEP := hide ((unhide HO).step (unhide HF) hin (unhide HD) (Wm.zp_iv (by rw [Nat.mul_comm]; exact hiv2)))
          have HFL := hide (Wm.getD_lt_of P.pos (unhide HF).lt)
          have HOL := hide (unhide HO).lt
          have HM0 := hide (fun (W : World) (E : Ext wrA W) => (show Made W w.heap.size 3 1 (.slice (some ⟨g0, 0, none⟩) n n) n (nats .i64 (Wm.mkL n (Wm.addT P.p f iv of 0))) from by
            rw [Wm.mkL_congr fun j _ => Wm.addT_zero P.p f iv of j]
            exact (unhide HM).keep (EA.trans E)))
          have HE0 := hide (fun (W : World) (E : Ext wrA W) => hE.1.trans (EA.trans E))
          clear HO HM HD CI hdne c9 hiv2
          go_wp2_with fail
          refine (unhide HCI _).mono ?_
          rintro e w6 ⟨rfl, nd, rfl⟩
          go_wp2
          go_loopw [77] (fun j wz => ∃ t : Nat, t ≤ f.length ∧ j = .int .i64 t ∧ Hid (Made wz w.heap.size 3 1 (.slice (some ⟨g0, 0, none⟩) n n) n (nats .i64 (Wm.mkL n (Wm.addT P.p f iv of t)))) ∧ Hid (Pv wz A' f.length c' f) ∧ (Ext w wz ∧ True)) (fun j _ => f.length - (intOf j).toNat)
          case atStart => exact ⟨0, Nat.zero_le _, rfl, hide (unhide HM0 _ (by repeat (first | exact hEA.1 | refine Ext.alloc ?_ _ | refine Ext.drew ?_ | refine Ext.drewN ?_ _ | (refine Ext.trans ?_ (plus_ext _ _)) | (refine Ext.setCell ?_ (by have := Ext.size hEA.1; simp; omega) _)))), hide ((unhide HP).keep (by repeat (first | exact Ext.refl _ | refine Ext.alloc ?_ _ | refine Ext.drew ?_ | refine Ext.drewN ?_ _ | (refine Ext.trans ?_ (plus_ext _ _)) | (refine Ext.setCell ?_ (by have := Ext.size Ext.refl _; simp; omega) _)))), unhide HE0 _ (by repeat (first | exact hEA.1 | refine Ext.alloc ?_ _ | refine Ext.drew ?_ | refine Ext.drewN ?_ _ | (refine Ext.trans ?_ (plus_ext _ _)) | (refine Ext.setCell ?_ (by have := Ext.size hEA.1; simp; omega) _))), trivial⟩
          case round =>
            clear HM0 HP HE0 hE EA hEA
            obtain ⟨t, ht, rfl, HM, HP, hE⟩ := hrel
            by_cases htl : t < f.length
            · obtain ⟨b3, o3, rfl, hb3, hc3⟩ := (unhide HP).row.nat (k := t) htl
              have hcell := (unhide HM).getq (k := t) (by omega)
              rw [Wm.addT_at] at hcell
              have hfr := (unhide HM).frozen t
              obtain ⟨z2, hz2⟩ : ∃ z2, z2 = (of t + f.getD t 0 * iv) % P.p := ⟨_, rfl⟩
              have HM2 : Hid (Made (wr.setCell ⟨g0, t, none⟩ (.int .i64 ((z2 : Nat) : Int))) w.heap.size 3 1 (.slice (some ⟨g0, 0, none⟩) n n) n (nats .i64 (Wm.mkL n (Wm.addT P.p f iv of (t + 1))))) := hide ((unhide HM).setq (by omega) _ _ fun j _ => by
                rw [hz2]; exact Wm.addT_step P.p f iv of t j)
              have E2 := hE.1.setCell (p := ⟨g0, t, none⟩) hgw (.int .i64 ((z2 : Nat) : Int))
              have HP2 := hide ((unhide HP).oth (p := ⟨g0, t, none⟩) (fun g o ha => by have := unhide HG g o ha; show g ≠ g0; omega) (.int .i64 ((z2 : Nat) : Int)))
              have hx := unhide HFL t
              have hz := unhide HOL t
              have hft : f.length ≤ n := hfl
              generalize f.getD t 0 = y at *
              generalize of t = z at *
              have hxy : y * iv ≤ 997 * 997 := Nat.mul_le_mul (by omega) (by omega)
              have hxyI : ((y * iv : Nat) : Int) = (y : Int) * (iv : Int) := Int.natCast_mul y iv
              have hb1 : (y : Int) * (iv : Int) ≤ 994009 := by omega
              have hb0 : 0 ≤ (y : Int) * (iv : Int) := by omega
              have HZ : ((z : Int) + (y : Int) * (iv : Int)) % (P.p : Int) = (z2 : Int) := by
                rw [hz2, ← hxyI, ← Int.natCast_add]; rfl
              have htn : t < n := by omega
              clear HM HP hz2 hxy hxyI hfl
              go_wp2
              go_roundw
              case rel => exact ⟨t + 1, by omega, by go_num, HM2, HP2, E2, trivial⟩
              case measure => simp [intOf]; omega
            · obtain rfl : t = f.length := by omega
              go_wp2
              go_roundw
              case rel => exact ⟨i + 1, _, by omega, by go_num, HSTEP, HM, hE⟩
              case measure => simp [intOf]; omega
    · obtain rfl : i = n := by omega
      have CT := hide (Trim_ok (some ⟨g0, 0, none⟩) i i _ wr (unhide HM).pvq (by omega))
      have HF := hide (unhide HDONE of (unhide HO))
      generalize Wm.trimL (Wm.mkL i of) = F at *
      clear HM HO
      go_wp2_with fail
      refine (unhide CT).mono ?_
      rintro e w3 ⟨⟨v, rfl, hM⟩, E3⟩
      have HM3 := hide (hM.mono (Ext.size hE.1))
      clear hM
      go_wp2
      go_ret2
      exact ⟨⟨F, v, unhide HF, rfl, unhide HM3⟩, hE.1.trans E3⟩
end Go.Proofs.Ytojjcdbphmcmeaa
