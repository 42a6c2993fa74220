/-
  The contracts of poly.Div and Gcd.
-/
import Derived.Test.YtahchidghfeofaaPoly4
set_option linter.unusedVariables false
set_option linter.unusedSimpArgs false
namespace Go.Proofs.Ytahchidghfeofaa
open Go.RowKit Go.BigFrame

def DivPost2 (P : Wm.Pr) (f g : List Nat) (w w' : World) (e : Ending) : Prop := ∃ (q r : List Nat) (v u : Value), Wm.IsDiv P f g q r ∧ e = .returned (.tuple #[v, u, .int .i64 0]) ∧
  Made w' w.heap.size 3 1 v q.length (nats .i64 q) ∧ Made w' w.heap.size 3 1 u r.length (nats .i64 r) ∧ ∀ k, v.ownBlock = some k → u.ownBlock ≠ some k

set_option maxRecDepth 100000 in
set_option maxHeartbeats 1000000 in
theorem Div_ok (P : Wm.Pr) (h9 : P.p ≤ 997) (A B : Option Addr) (n c m d : Nat) (f g : List Nat) (w : World) (R : Pv w A n c f) (S : Pv w B m d g) (hf : Wm.IsP P.p f) (hn : n ≤ 40) (hg : Wm.IsP P.p g) (hm : m ≤ 40) (hm0 : 0 < m) :
    Calls Try.prog 11 #[.int .i64 P.p, .slice A n c, .slice B m d] w fun e w' => DivPost2 P f g w w' e ∧ Ext w w' := by
  have CK := hide (fun (W : World) (E : Ext w W) => checks_ok P h9 A B n c m d f g W (R.keep E) (S.keep E) hf hn hg hm)
  have CP := hide (fun (W : World) (E : Ext w W) => Divided_ok P h9 A B n c m d f g W (R.keep E) (S.keep E) hf (by omega) hg (by omega) hm0)
  have hmI : ((m : Int) == 0) = false := by rw [beq_eq_false_iff_ne]; omega
  clear R S hf hg
  go_enter Try.func11, Try.ntmps11
  go_wp2_with fail
  refine (unhide CK _ (by repeat (first | exact Ext.refl w | refine Ext.alloc ?_ _ | refine Ext.drew ?_ | refine Ext.drewN ?_ _ | (refine Ext.trans ?_ (plus_ext _ _)) | (refine Ext.setCell ?_ (by have := Ext.size Ext.refl w; simp; omega) _)))).mono ?_
  rintro e w1 ⟨rfl, E1⟩
  go_wp2_with fail
  refine (unhide CP _ (by repeat (first | exact E1 | refine Ext.alloc ?_ _ | refine Ext.drew ?_ | refine Ext.drewN ?_ _ | (refine Ext.trans ?_ (plus_ext _ _)) | (refine Ext.setCell ?_ (by have := Ext.size E1; simp; omega) _)))).mono ?_
  rintro e w2 ⟨⟨q, r, v, u, hD, rfl, M1, M2, hne⟩, E2'⟩
  have E2 : Ext w w2 := Ext.trans (by repeat (first | exact E1 | refine Ext.alloc ?_ _ | refine Ext.drew ?_ | refine Ext.drewN ?_ _ | (refine Ext.trans ?_ (plus_ext _ _)) | (refine Ext.setCell ?_ (by have := Ext.size E1; simp; omega) _))) E2'
  have HM1 := hide (M1.mono (Ext.size (by repeat (first | exact E1 | refine Ext.alloc ?_ _ | refine Ext.drew ?_ | refine Ext.drewN ?_ _ | (refine Ext.trans ?_ (plus_ext _ _)) | (refine Ext.setCell ?_ (by have := Ext.size E1; simp; omega) _)))))
  have HM2 := hide (M2.mono (Ext.size (by repeat (first | exact E1 | refine Ext.alloc ?_ _ | refine Ext.drew ?_ | refine Ext.drewN ?_ _ | (refine Ext.trans ?_ (plus_ext _ _)) | (refine Ext.setCell ?_ (by have := Ext.size E1; simp; omega) _)))))
  have HD := hide hD
  have HN := hide hne
  clear M1 M2 hD hne E2'
  go_wp2
  refine bodyPost_ret (results_tmp3 rfl _ _ _) rfl ?_
  exact ⟨⟨q, r, v, u, unhide HD, rfl, unhide HM1, unhide HM2, unhide HN⟩, (by repeat (first | exact E2 | refine Ext.alloc ?_ _ | refine Ext.drew ?_ | refine Ext.drewN ?_ _ | (refine Ext.trans ?_ (plus_ext _ _)) | (refine Ext.setCell ?_ (by have := Ext.size E2; simp; omega) _)))⟩
theorem Div_zero (P : Wm.Pr) (h9 : P.p ≤ 997) (A B : Option Addr) (n c d : Nat) (f g : List Nat) (w : World) (R : Pv w A n c f) (S : Pv w B 0 d g) (hf : Wm.IsP P.p f) (hn : n ≤ 40) (hg : Wm.IsP P.p g) :
    Calls Try.prog 11 #[.int .i64 P.p, .slice A n c, .slice B 0 d] w fun e w' => e = .returned (.tuple #[.slice none 0 0, .slice none 0 0, .int .i64 5]) ∧ Ext w w' := by
  have CK := hide (fun (W : World) (E : Ext w W) => checks_ok P h9 A B n c 0 d f g W (R.keep E) (S.keep E) hf hn hg (by omega))
  clear R S hf hg
  go_enter Try.func11, Try.ntmps11
  go_wp2_with fail
  refine (unhide CK _ (by repeat (first | exact Ext.refl w | refine Ext.alloc ?_ _ | refine Ext.drew ?_ | refine Ext.drewN ?_ _ | (refine Ext.trans ?_ (plus_ext _ _)) | (refine Ext.setCell ?_ (by have := Ext.size Ext.refl w; simp; omega) _)))).mono ?_
  rintro e w1 ⟨rfl, E1⟩
  go_wp2
  refine bodyPost_ret (results_tmp3 rfl _ _ _) rfl ?_
  exact ⟨rfl, (by repeat (first | exact E1 | refine Ext.alloc ?_ _ | refine Ext.drew ?_ | refine Ext.drewN ?_ _ | (refine Ext.trans ?_ (plus_ext _ _)) | (refine Ext.setCell ?_ (by have := Ext.size E1; simp; omega) _)))⟩

def GcdPost (P : Wm.Pr) (f g : List Nat) (w w' : World) (e : Ending) : Prop := ∃ (d : List Nat) (v : Value), Wm.IsGcd P f g d ∧ d.length ≤ max f.length g.length ∧ e = .returned (.tuple #[v, .int .i64 0]) ∧ Made w' w.heap.size 3 1 v d.length (nats .i64 d)
/-- The state of the loop: both divide alike. -/
structure GcdAt (P : Wm.Pr) (f g a b : List Nat) : Prop where
  pa : Wm.IsP P.p a
  pb : Wm.IsP P.p b
  la : a.length ≤ max f.length g.length
  lb : b.length ≤ max f.length g.length
  iff : ∀ c, (Wm.Fld.Dv c (Wm.ser P f) ∧ Wm.Fld.Dv c (Wm.ser P g)) ↔ (Wm.Fld.Dv c (Wm.ser P a) ∧ Wm.Fld.Dv c (Wm.ser P b))
theorem GcdAt.step {P : Wm.Pr} {f g a b q r : List Nat} (h : GcdAt P f g a b) (hd : Wm.IsDiv P a b q r) : GcdAt P f g b r :=
  ⟨h.pb, hd.rP, h.lb, by have := hd.lt; have := h.lb; omega, fun c => (h.iff c).trans (Wm.dv_iff_of_gcd hd c)⟩
theorem GcdAt.nil {P : Wm.Pr} {f g : List Nat} (hf : Wm.IsP P.p f) (hg : Wm.IsP P.p g) (h : GcdAt P f g [] []) : Wm.IsGcd P f g [] := by
  have h1 := (h.iff (Wm.ser P [])).2 ⟨Wm.Fld.Dv.refl _, Wm.Fld.Dv.refl _⟩
  refine ⟨Wm.isP_nil _, h1.1, h1.2, fun c h2 h3 => ((h.iff c).1 ⟨h2, h3⟩).1, fun e => absurd rfl e, fun _ => ?_⟩
  have key : ∀ l, Wm.IsP P.p l → Wm.Fld.Dv (Wm.ser P []) (Wm.ser P l) → l = [] := fun l hl hd => by
    obtain ⟨n, q, -, e⟩ := hd
    rw [Wm.ser_nil, Wm.Fld.conv_s0'] at e
    exact hl.nil_of e
  exact ⟨key f hf h1.1, key g hg h1.2⟩
theorem GcdAt.done {P : Wm.Pr} {f g a : List Nat} (h : GcdAt P f g a []) (ha : a ≠ []) {iv : Nat} (hi : iv < P.p) (hi2 : iv * a.getD (a.length - 1) 0 % P.p = 1) : Wm.IsGcd P f g (Wm.mulL P.p a [iv]) ∧ (Wm.mulL P.p a [iv]).length = a.length := by
  have hiv : iv ≠ 0 := fun e => by rw [e, Nat.zero_mul, Nat.zero_mod] at hi2; omega
  have hpi : Wm.IsP P.p [iv] := ⟨fun x hx => by simp at hx; omega, fun _ => by simpa using hiv⟩
  have hlen := Wm.mulL_len_eq h.pa hpi ha (by simp)
  simp only [List.length_cons, List.length_nil, Nat.zero_add, Nat.add_sub_cancel] at hlen
  have hs : Wm.ser P [iv] = Wm.Fld.ssc (Wm.zp P iv) Wm.Fld.s1 := by
    funext k
    cases k with
    | zero => show Wm.zp P iv = Wm.Fld.ml (Wm.zp P iv) Wm.Fld.o; rw [Wm.Fld.ml_o]
    | succ k => show Wm.zp P 0 = Wm.Fld.ml (Wm.zp P iv) Wm.Fld.z; rw [Wm.Fld.ml_z]; rfl
  have hser : Wm.ser P (Wm.mulL P.p a [iv]) = Wm.Fld.ssc (Wm.zp P iv) (Wm.ser P a) := by
    rw [Wm.mulL_ser, hs, Wm.Fld.conv_sc_right, Wm.Fld.conv_s1']
  have hizp : Wm.zp P iv ≠ Wm.Fld.z := Wm.zp_ne hi hiv
  have hback : Wm.ser P a = Wm.Fld.ssc (Wm.Fld.iv (Wm.zp P iv)) (Wm.ser P (Wm.mulL P.p a [iv])) := by
    rw [hser]
    funext k
    show _ = Wm.Fld.ml (Wm.Fld.iv (Wm.zp P iv)) (Wm.Fld.ml (Wm.zp P iv) (Wm.ser P a k))
    rw [← Wm.Fld.ml_assoc, Wm.Fld.ml_comm (Wm.Fld.iv _), Wm.Fld.ml_iv _ hizp, Wm.Fld.o_ml]
  have hda : ∀ c, Wm.Fld.Dv c (Wm.ser P a) ↔ Wm.Fld.Dv c (Wm.ser P (Wm.mulL P.p a [iv])) := fun c =>
    ⟨fun h => by rw [hser]; exact h.sc _, fun h => by rw [hback]; exact h.sc _⟩
  have hself : Wm.Fld.Dv (Wm.ser P (Wm.mulL P.p a [iv])) (Wm.ser P a) := (hda _).2 (Wm.Fld.Dv.refl _)
  have hnil : Wm.Fld.Dv (Wm.ser P (Wm.mulL P.p a [iv])) (Wm.ser P []) := Wm.Fld.dv_s0 _
  have h1 := (h.iff _).2 ⟨hself, hnil⟩
  have hne : Wm.mulL P.p a [iv] ≠ [] := fun e => by
    rw [e] at hlen
    have := List.length_pos_iff.2 ha
    simp at hlen; omega
  refine ⟨⟨Wm.mulL_isP P.pos _ _, h1.1, h1.2, fun c h2 h3 => (hda c).1 ((h.iff c).1 ⟨h2, h3⟩).1, fun _ => ?_, fun e => absurd e hne⟩, hlen⟩
  have hl1 := Wm.IsP.lt (Wm.mulL_isP P.pos a [iv]) P.pos ((Wm.mulL P.p a [iv]).length - 1)
  apply Wm.zp_inj hl1 P.two
  have h4 := congrFun hser ((Wm.mulL P.p a [iv]).length - 1)
  rw [hlen] at h4 ⊢
  refine h4.trans ?_
  show Wm.Fld.ml (Wm.zp P iv) (Wm.zp P _) = Wm.zp P 1
  rw [← Wm.zp_mul]
  exact Wm.zp_eq.2 (by rw [hi2, Nat.mod_eq_of_lt P.two])

set_option maxRecDepth 100000 in
set_option maxHeartbeats 2000000 in
theorem Gcd_poly (P : Wm.Pr) (h9 : P.p ≤ 997) (A B : Option Addr) (n c m d : Nat) (f g : List Nat) (w : World) (R : Pv w A n c f) (S : Pv w B m d g) (hf : Wm.IsP P.p f) (hn : n ≤ 40) (hg : Wm.IsP P.p g) (hm : m ≤ 40) :
    Calls Try.prog 14 #[.int .i64 P.p, .slice A n c, .slice B m d] w fun e w' => GcdPost P f g w w' e ∧ Ext w w' := by
  have CK := hide (fun (W : World) (E : Ext w W) => checks_ok P h9 A B n c m d f g W (R.keep E) (S.keep E) hf hn hg hm)
  have h1 := R.len
  have h2 := S.len
  have HG0 := hide (show GcdAt P f g f g from ⟨hf, hg, by omega, by omega, fun _ => Iff.rfl⟩)
  have HNIL := hide (fun h : GcdAt P f g [] [] => h.nil hf hg)
  have hmax : max f.length g.length ≤ 40 := by omega
  have HMAX := hide hmax
  have HR := hide R
  have HS := hide S
  clear R S hf hg hmax h1 h2
  go_enter Try.func14, Try.ntmps14
  go_wp2_with fail
  refine (unhide CK _ (by repeat (first | exact Ext.refl w | refine Ext.alloc ?_ _ | refine Ext.drew ?_ | refine Ext.drewN ?_ _ | (refine Ext.trans ?_ (plus_ext _ _)) | (refine Ext.setCell ?_ (by have := Ext.size Ext.refl w; simp; omega) _)))).mono ?_
  rintro e w1 ⟨rfl, E1'⟩
  have E1 : Ext w w1 := Ext.trans (by repeat (first | exact Ext.refl w | refine Ext.alloc ?_ _ | refine Ext.drew ?_ | refine Ext.drewN ?_ _ | (refine Ext.trans ?_ (plus_ext _ _)) | (refine Ext.setCell ?_ (by have := Ext.size Ext.refl w; simp; omega) _))) E1'
  clear E1'
  go_wp2
  go_loopw [1, 2] (fun x y wr => ∃ (A' B' : Option Addr) (n' c' m' d' : Nat) (a b : List Nat), x = .slice A' n' c' ∧ y = .slice B' m' d' ∧ Hid (Pv wr A' n' c' a) ∧ Hid (Pv wr B' m' d' b) ∧ Hid (GcdAt P f g a b) ∧ Ext w wr) (fun _ y _ => match y with | .slice _ k _ => k | _ => 0)
  case atStart => exact ⟨A, B, n, c, m, d, f, g, rfl, rfl, hide ((unhide HR).keep E1), hide ((unhide HS).keep E1), HG0, E1⟩
  case round =>
    clear E1 HG0 HR HS CK
    obtain ⟨A', B', n', c', m', d', a, b, rfl, rfl, HR, HS, HG, hext⟩ := hrel
    have hla := (unhide HR).len
    have hlb := (unhide HS).len
    have hla2 := (unhide HG).la
    have hlb2 := (unhide HG).lb
    have hmax := unhide HMAX
    have hn40 : n' ≤ 40 := by omega
    have hm40 : m' ≤ 40 := by omega
    have HLA := hide hla
    have HLB := hide hlb
    clear hla hlb hla2 hlb2 hmax
    by_cases hm0 : m' = 0
    · have HB0 := hide (show b = [] from List.eq_nil_of_length_eq_zero (by rw [unhide HLB]; exact hm0))
      subst hm0
      by_cases hn0 : n' = 0
      · have HA0 := hide (show a = [] from List.eq_nil_of_length_eq_zero (by rw [unhide HLA]; exact hn0))
        have HD := hide (show Wm.IsGcd P f g [] from unhide HNIL (by have := unhide HG; rwa [unhide HA0, unhide HB0] at this))
        subst hn0
        go_wp2
        go_ret2
        exact ⟨⟨[], _, unhide HD, by simp, rfl, Made.nil⟩, (by repeat (first | exact hext | refine Ext.alloc ?_ _ | refine Ext.drew ?_ | refine Ext.drewN ?_ _ | (refine Ext.trans ?_ (plus_ext _ _)) | (refine Ext.setCell ?_ (by have := Ext.size hext; simp; omega) _)))⟩
      · have hnI : ((n' : Int) == 0) = false := by rw [beq_eq_false_iff_ne]; omega
        have hpa := (unhide HG).pa
        have hane : a ≠ [] := fun e => hn0 (by rw [← unhide HLA, e]; rfl)
        have hlead := hpa.2 hane
        rw [unhide HLA] at hlead
        obtain ⟨iv, hiv1, hiv2, CI⟩ := inv_ok P h9 (hpa.lt P.pos (n' - 1)) hlead w
        have hgd : Wm.IsGcd P f g (Wm.mulL P.p a [iv]) ∧ (Wm.mulL P.p a [iv]).length = a.length := GcdAt.done (by have := unhide HG; rwa [unhide HB0] at this) hane hiv1 (by rw [unhide HLA]; exact hiv2)
        have HGD := hide hgd
        have HL := hide (show (Wm.mulL P.p a [iv]).length ≤ max f.length g.length by rw [hgd.2]; exact (unhide HG).la)
        have HCI := hide CI
        have CP := hide (fun (W : World) (E : Ext wr W) (b : Nat) (hb : Pv W (some ⟨b, 0, none⟩) 1 1 [iv]) => Product_ok P h9 A' (some ⟨b, 0, none⟩) n' c' 1 1 a [iv] W ((unhide HR).keep E) hb hpa.1 (by omega) (fun x hx => by simp at hx; omega) (by omega))
        obtain ⟨ba, oa, rfl, hba, hct⟩ := (unhide HR).row.nat (k := n' - 1) (by omega)
        have hnI1 : (n' : Int) - 1 = ((n' - 1 : Nat) : Int) := by omega
        generalize a.getD (n' - 1) 0 = gt at *
        generalize Wm.mulL P.p a [iv] = FL at *
        clear hgd hlead hane hpa CI hiv2
        go_wp2_with fail
        refine (unhide HCI _).mono ?_
        rintro e w2 ⟨rfl, nd, rfl⟩
        go_wp2_with fail
        refine (unhide CP _ (by repeat (first | exact Ext.refl wr | refine Ext.alloc ?_ _ | refine Ext.drew ?_ | refine Ext.drewN ?_ _ | (refine Ext.trans ?_ (plus_ext _ _)) | (refine Ext.setCell ?_ (by have := Ext.size Ext.refl wr; simp; omega) _))) _ ⟨by
          have := row_new (wr.drewN nd) #[.int .i64 (iv : Int)] 3 1 1 rfl
          exact this, Nat.le_refl _, by omega, fun h => by cases h⟩).mono ?_
        rintro e w3 ⟨⟨v, rfl, hM⟩, E3'⟩
        have E3 : Ext wr w3 := Ext.trans (by repeat (first | exact Ext.refl wr | refine Ext.alloc ?_ _ | refine Ext.drew ?_ | refine Ext.drewN ?_ _ | (refine Ext.trans ?_ (plus_ext _ _)) | (refine Ext.setCell ?_ (by have := Ext.size Ext.refl wr; simp; omega) _))) E3'
        have HM := hide (hM.mono (Ext.size (Ext.trans hext (by repeat (first | exact Ext.refl wr | refine Ext.alloc ?_ _ | refine Ext.drew ?_ | refine Ext.drewN ?_ _ | (refine Ext.trans ?_ (plus_ext _ _)) | (refine Ext.setCell ?_ (by have := Ext.size Ext.refl wr; simp; omega) _))))))
        clear hM E3'
        go_wp2
        go_ret2
        exact ⟨⟨FL, v, (unhide HGD).1, unhide HL, rfl, unhide HM⟩, hext.trans (by repeat (first | exact E3 | refine Ext.alloc ?_ _ | refine Ext.drew ?_ | refine Ext.drewN ?_ _ | (refine Ext.trans ?_ (plus_ext _ _)) | (refine Ext.setCell ?_ (by have := Ext.size E3; simp; omega) _)))⟩
    · have hmI : (0 : Int) < (m' : Int) := by omega
      have CD := hide (Divided_ok P h9 A' B' n' c' m' d' a b wr (unhide HR) (unhide HS) (unhide HG).pa (by omega) (unhide HG).pb (by omega) (by omega))
      go_wp2_with fail
      refine (unhide CD).mono ?_
      rintro e w2 ⟨⟨q, r, v, u, hD, rfl, M1, M2, hne⟩, E2⟩
      have HG2 := hide ((unhide HG).step hD)
      have hlt := hD.lt
      rw [unhide HLB] at hlt
      obtain ⟨A3, c3, rfl, P3⟩ := M2.pv
      have HR2 := hide ((unhide HS).keep E2)
      have HS2 := hide P3
      clear M1 M2 hD hne P3
      go_wp2
      go_roundw
      case rel => exact ⟨B', A3, m', d', r.length, c3, b, r, rfl, rfl, HR2, HS2, HG2, hext.trans E2⟩
      case measure => exact hlt
end Go.Proofs.Ytahchidghfeofaa
