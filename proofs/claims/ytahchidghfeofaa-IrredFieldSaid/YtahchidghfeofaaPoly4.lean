/-
  The contracts of poly.Divided and Div.
-/
import Derived.Test.YtahchidghfeofaaPoly3
import Derived.Test.YtahchidghfeofaaZp2
import Derived.Test.YtahchidghfeofaaRest1
set_option linter.unusedVariables false
set_option linter.unusedSimpArgs false
namespace Go.Proofs.Ytahchidghfeofaa
open Go.RowKit Go.BigFrame

/-- The inverse by a prime number. -/
theorem inv_ok (P : Wm.Pr) (h9 : P.p ≤ 997) {a : Nat} (ha : a < P.p) (h0 : a ≠ 0) (w : World) : ∃ iv : Nat, iv < P.p ∧ iv * a % P.p = 1 ∧ ∀ w : World, Calls Try.prog 28 #[.int .i64 a, .int .i64 P.p] w fun e w' => e = .returned (.tuple #[.int .i64 iv, .int .i64 0]) ∧ ∃ d, w' = w.drewN d := by
  have h2 := P.two
  have hg : Int.gcd (a : Int) (P.p : Int) = 1 := by
    rw [Int.gcd_natCast_natCast, Nat.gcd_comm]
    exact P.hp.coprime fun h => h0 (Nat.eq_zero_of_dvd_of_lt h ha)
  have hi := inv_is w a P.p (by omega) (by omega) hg
  obtain ⟨iv, hiv⟩ : ∃ iv : Nat, (iv : Int) = Wm.inv a P.p := ⟨(Wm.inv a P.p).toNat, by omega⟩
  rw [← hiv] at hi
  refine ⟨iv, by omega, ?_, fun w => ?_⟩
  · have h3 := hi.2
    have h4 : ((iv * a : Nat) : Int) = (iv : Int) * (a : Int) := Int.natCast_mul iv a
    rw [← h4] at h3
    have h5 : 0 < iv * a := by
      rcases Nat.eq_zero_or_pos (iv * a) with e | e
      · rw [e] at h3
        have := Int.eq_one_of_dvd_one (by omega) (Int.dvd_neg.1 h3 : (P.p : Int) ∣ 1)
        omega
      · exact e
    have h6 : P.p ∣ iv * a - 1 := by
      rw [← Int.natCast_dvd_natCast, Int.natCast_sub (by omega)]; exact h3
    obtain ⟨q, hq⟩ := h6
    rw [show iv * a = 1 + P.p * q by omega, Nat.add_mul_mod_self_left, Nat.mod_eq_of_lt h2]
  · have := Inverse_ok a P.p w ⟨by omega, by omega⟩ hg
    rwa [← hiv] at this

theorem Made.oth {w : World} {base e sz n : Nat} {v : Value} {xs : List Value} (h : Made w base e sz v n xs) {p : Addr} (hne : v.ownBlock ≠ some p.block) (u : Value) : Made (w.setCell p u) base e sz v n xs := by
  obtain ⟨h1, h2⟩ := h
  refine ⟨h1, ?_⟩
  rcases h2 with h2 | ⟨g, cap, cur, rfl, hg, hh, r⟩
  · exact .inl h2
  · have hgp : g ≠ p.block := fun e => hne (by rw [← e]; rfl)
    exact .inr ⟨g, cap, cur, rfl, hg, by simp [World.setCell, Array.getElem?_modify, Ne.symm hgp, hh], r⟩

def DivPost (P : Wm.Pr) (f g : List Nat) (w w' : World) (e : Ending) : Prop := ∃ (q r : List Nat) (v u : Value), Wm.IsDiv P f g q r ∧ e = .returned (.tuple #[v, u]) ∧
  Made w' w.heap.size 3 1 v q.length (nats .i64 q) ∧ Made w' w.heap.size 3 1 u r.length (nats .i64 r) ∧ ∀ k, v.ownBlock = some k → u.ownBlock ≠ some k

set_option maxRecDepth 100000 in
set_option maxHeartbeats 4000000 in
theorem Divided_ok (P : Wm.Pr) (h9 : P.p ≤ 997) (A B : Option Addr) (n c m d : Nat) (f g : List Nat) (w : World) (R : Pv w A n c f) (S : Pv w B m d g) (hf : Wm.IsP P.p f) (hn : n ≤ 100) (hg : Wm.IsP P.p g) (hm : m ≤ 100) (hm0 : 0 < m) :
    Calls Try.prog 24 #[.int .i64 P.p, .slice A n c, .slice B m d] w fun e w' => DivPost P f g w w' e ∧ Ext w w' := by
  have h1 := R.len
  have h2 := S.len
  have hp := P.pos
  have hgl := hg.lt hp
  have hgne : g ≠ [] := fun e => by rw [e] at h2; simp at h2; omega
  have hg0 := hg.2 hgne
  rw [h2] at hg0
  obtain ⟨iv, hiv1, hiv2, CI⟩ := inv_ok P h9 (hgl (m - 1)) hg0 w
  have CC := hide (fun (W : World) (E : Ext w W) => clone_q A n c (nats .i64 f) W (R.keep E).row (nats_one _ _) (by omega) R.nil)
  have HCI := hide CI
  obtain ⟨M, hM⟩ : ∃ M, M = n + 1 - m := ⟨_, rfl⟩
  have HD0 : Hid (Wm.DivAt P f g M M (fun _ => 0) (fun j => f.getD j 0)) := hide (Wm.DivAt.start P hf (by omega) (by rw [h1, h2]; exact hM))
  have HST := hide (fun (k : Nat) (qf rf : Nat → Nat) (h : Wm.DivAt P f g M (k + 1) qf rf) (hk : k < M) (cc : Nat) (hc : cc = rf (k + m - 1) * iv % P.p) => (Wm.DivAt.step (iv := iv) (c := cc) h hg (by omega) (by rw [h1, h2]; exact hM) hk (by rw [h2]; exact hiv2) (by rw [h2]; exact hc)))
  have HDN := hide (fun (qf rf : Nat → Nat) (h : Wm.DivAt P f g M 0 qf rf) => h.done (by omega))
  have HR := hide R
  have HS := hide S
  have HL1 := hide h1
  have HL2 := hide h2
  have HGL := hide hgl
  obtain ⟨b, o, rfl, hb, hct⟩ := S.row.nat (k := m - 1) (by omega)
  have HF0 : Hid (Wm.mkL n (fun j => f.getD j 0) = f) := hide (by rw [← h1]; exact Wm.mkL_self f)
  rw [show ((m - 1 : Nat)) = m - 1 from rfl] at hct
  generalize g.getD (m - 1) 0 = gt at *
  have hmI : (m : Int) - 1 = ((m - 1 : Nat) : Int) := by omega
  clear R S hf hg h1 h2 hgl hgne hg0 CI hiv2
  go_enter Try.func24, Try.ntmps24
  go_wp2_with fail
  refine (unhide CC _ (by repeat (first | exact Ext.refl w | refine Ext.alloc ?_ _ | refine Ext.drew ?_ | refine Ext.drewN ?_ _ | (refine Ext.trans ?_ (plus_ext _ _)) | (refine Ext.setCell ?_ (by have := Ext.size Ext.refl w; simp; omega) _)))).mono ?_
  rintro e w1 ⟨⟨vr, rfl, hown⟩, E1'⟩
  have E1 : Ext w w1 := Ext.trans (by repeat (first | exact Ext.refl w | refine Ext.alloc ?_ _ | refine Ext.drew ?_ | refine Ext.drewN ?_ _ | (refine Ext.trans ?_ (plus_ext _ _)) | (refine Ext.setCell ?_ (by have := Ext.size Ext.refl w; simp; omega) _))) E1'
  have hct1 := E1.keep hct
  have HOR := hide hown
  clear hown E1'
  go_wp2_with fail
  refine (unhide HCI _).mono ?_
  rintro e w1' ⟨rfl, nd, rfl⟩
  have HK := hide (mk_int M (by omega))
  rcases Nat.lt_or_ge (n + 1) m with hnm | hnm
  · obtain rfl : M = 0 := by omega
    have HK : Hid (∀ w : World, (Instr.makeSlice 22 (.int .i64 0) (.int .i64 0)).run Try.prog w = .ok (.slice (some ⟨w.heap.size, 0, none⟩) 0 0) (w.alloc (.cells (madeCells #[.int .i64 0] 0) 3))) := HK
    have hMI : (n : Int) - (m : Int) + 1 < 0 := by omega
    clear hM
    have hmk := unhide HK
    go_wp2
    obtain ⟨AR, cR, rfl, PR⟩ := (Made.of_own (unhide HOR)).pv
    obtain ⟨gq, hgq⟩ : ∃ gq, gq = w1.heap.size := ⟨_, rfl⟩
    have E2 : Ext w ((w1.drewN nd).alloc (.cells (madeCells #[.int .i64 0] 0) 3)) := (E1.drewN nd).alloc _
    have HMQ : Hid (Made ((w1.drewN nd).alloc (.cells (madeCells #[.int .i64 0] 0) 3)) w.heap.size 3 1 (.slice (some ⟨gq, 0, none⟩) 0 0) 0 (nats .i64 (Wm.mkL 0 fun _ => 0))) := hide (by
      rw [hgq]
      exact Made.mkq (w := w1.drewN nd) 0 (E1.drewN nd).size (by omega) _ (fun _ _ => rfl))
    have HMR : Hid (Made ((w1.drewN nd).alloc (.cells (madeCells #[.int .i64 0] 0) 3)) w.heap.size 3 1 (.slice AR n cR) n (nats .i64 (Wm.mkL n fun j => f.getD j 0))) := hide (by
      rw [unhide HF0]
      exact (Made.of_own (unhide HOR)).keep (((Ext.refl w1).drewN nd).alloc _))
    have HNE : Hid (∀ g o, AR = some ⟨g, o, none⟩ → g < gq) := hide (fun g o e => by
      rw [hgq]
      refine ((Made.of_own (unhide HOR)).lt g ?_).2
      rw [e]; rfl)
    have hgw : w.heap.size ≤ gq := by rw [hgq]; exact E1.size
    rw [← hgq]
    clear hct hct1 hgq PR HOR hmk
    go_loopw [12] (fun i wr => ∃ (k : Nat) (qf rf : Nat → Nat), k ≤ 0 ∧ i = .int .i64 ((k : Int) - 1) ∧ Hid (Wm.DivAt P f g 0 k qf rf) ∧ Hid (Made wr w.heap.size 3 1 (.slice (some ⟨gq, 0, none⟩) 0 0) 0 (nats .i64 (Wm.mkL 0 qf))) ∧
      Hid (Made wr w.heap.size 3 1 (.slice AR n cR) n (nats .i64 (Wm.mkL n rf))) ∧ Ext w wr) (fun i _ => (intOf i + 1).toNat)
    case atStart => exact ⟨0, _, _, Nat.le_refl _, num_eqQ (by omega), HD0, HMQ, HMR, E2⟩
    case round =>
      clear HMQ HMR E2 HD0 HK
      obtain ⟨k, qf, rf, hk, rfl, HD, HMQ, HMR, hext⟩ := hrel
      by_cases hk0 : k = 0
      · subst hk0
        have CT1 := hide (fun (W : World) (E : Ext wr W) => Trim_ok (some ⟨gq, 0, none⟩) 0 0 _ W ((unhide HMQ).pvq.keep E) (by omega))
        have CT2 := hide (fun (W : World) (E : Ext wr W) => (show Pv W AR n cR (Wm.mkL n rf) from by
          obtain ⟨A', c', e, PV⟩ := ((unhide HMR).keep E).pv
          injection e with e1 e2 e3
          subst e1; subst e3
          exact PV))
        have CT3 := hide (fun (W : World) (E : Ext wr W) => Trim_ok AR n cR _ W (unhide CT2 W E) (by omega))
        have HDD := hide (unhide HDN qf rf (unhide HD))
        rw [unhide HL1] at HDD
        clear HD HMQ HMR CT2
        generalize Wm.trimL (Wm.mkL 0 qf) = QL at *
        generalize Wm.trimL (Wm.mkL n rf) = RL at *
        go_wp2_with fail
        refine (unhide CT1 _ (by repeat (first | exact Ext.refl wr | refine Ext.alloc ?_ _ | refine Ext.drew ?_ | refine Ext.drewN ?_ _ | (refine Ext.trans ?_ (plus_ext _ _)) | (refine Ext.setCell ?_ (by have := Ext.size Ext.refl wr; simp; omega) _)))).mono ?_
        rintro e w4 ⟨⟨v4, rfl, hM4⟩, E4'⟩
        have E4 : Ext wr w4 := Ext.trans (by repeat (first | exact Ext.refl wr | refine Ext.alloc ?_ _ | refine Ext.drew ?_ | refine Ext.drewN ?_ _ | (refine Ext.trans ?_ (plus_ext _ _)) | (refine Ext.setCell ?_ (by have := Ext.size Ext.refl wr; simp; omega) _))) E4'
        have HM4 := hide (hM4.mono (Ext.size (by repeat (first | exact hext | refine Ext.alloc ?_ _ | refine Ext.drew ?_ | refine Ext.drewN ?_ _ | (refine Ext.trans ?_ (plus_ext _ _)) | (refine Ext.setCell ?_ (by have := Ext.size hext; simp; omega) _)))))
        have HL4 := hide (hM4.lt)
        clear hM4 E4'
        go_wp2_with fail
        refine (unhide CT3 _ (by repeat (first | exact E4 | refine Ext.alloc ?_ _ | refine Ext.drew ?_ | refine Ext.drewN ?_ _ | (refine Ext.trans ?_ (plus_ext _ _)) | (refine Ext.setCell ?_ (by have := Ext.size E4; simp; omega) _)))).mono ?_
        rintro e w5 ⟨⟨v5, rfl, hM5⟩, E5'⟩
        have E5 : Ext wr w5 := Ext.trans (by repeat (first | exact E4 | refine Ext.alloc ?_ _ | refine Ext.drew ?_ | refine Ext.drewN ?_ _ | (refine Ext.trans ?_ (plus_ext _ _)) | (refine Ext.setCell ?_ (by have := Ext.size E4; simp; omega) _))) E5'
        have E45 : Ext w4 w5 := Ext.trans (by repeat (first | exact Ext.refl w4 | refine Ext.alloc ?_ _ | refine Ext.drew ?_ | refine Ext.drewN ?_ _ | (refine Ext.trans ?_ (plus_ext _ _)) | (refine Ext.setCell ?_ (by have := Ext.size Ext.refl w4; simp; omega) _))) E5'
        have HM5 := hide (hM5.mono (Ext.size (Ext.trans hext (by repeat (first | exact E4 | refine Ext.alloc ?_ _ | refine Ext.drew ?_ | refine Ext.drewN ?_ _ | (refine Ext.trans ?_ (plus_ext _ _)) | (refine Ext.setCell ?_ (by have := Ext.size E4; simp; omega) _))))))
        have HD5 := hide (show ∀ k, v4.ownBlock = some k → v5.ownBlock ≠ some k from fun k h4 h5 => by
          have h6 := (unhide HL4 k h4).2
          have h7 := (hM5.lt k h5).1
          have h8 := Ext.size ((by repeat (first | exact Ext.refl w4 | refine Ext.alloc ?_ _ | refine Ext.drew ?_ | refine Ext.drewN ?_ _ | (refine Ext.trans ?_ (plus_ext _ _)) | (refine Ext.setCell ?_ (by have := Ext.size Ext.refl w4; simp; omega) _))) : Ext w4 _)
          omega)
        clear hM5 E5'
        go_wp2
        go_ret2
        exact ⟨⟨QL, RL, v4, v5, unhide HDD, rfl, (unhide HM4).keep (by repeat (first | exact E45 | refine Ext.alloc ?_ _ | refine Ext.drew ?_ | refine Ext.drewN ?_ _ | (refine Ext.trans ?_ (plus_ext _ _)) | (refine Ext.setCell ?_ (by have := Ext.size E45; simp; omega) _))), (unhide HM5).keep (by repeat (first | exact Ext.refl w5 | refine Ext.alloc ?_ _ | refine Ext.drew ?_ | refine Ext.drewN ?_ _ | (refine Ext.trans ?_ (plus_ext _ _)) | (refine Ext.setCell ?_ (by have := Ext.size Ext.refl w5; simp; omega) _))), unhide HD5⟩, (by repeat (first | exact hext.trans E5 | refine Ext.alloc ?_ _ | refine Ext.drew ?_ | refine Ext.drewN ?_ _ | (refine Ext.trans ?_ (plus_ext _ _)) | (refine Ext.setCell ?_ (by have := Ext.size hext.trans E5; simp; omega) _)))⟩

      · exfalso; omega
  · have hMI : (n : Int) - (m : Int) + 1 = (M : Int) := by omega
    have hMn : M + m = n + 1 := by omega
    clear hM
    have hmk := unhide HK
    go_wp2
    obtain ⟨AR, cR, rfl, PR⟩ := (Made.of_own (unhide HOR)).pv
    obtain ⟨gq, hgq⟩ : ∃ gq, gq = w1.heap.size := ⟨_, rfl⟩
    have E2 : Ext w ((w1.drewN nd).alloc (.cells (madeCells #[.int .i64 0] M) 3)) := (E1.drewN nd).alloc _
    have HMQ : Hid (Made ((w1.drewN nd).alloc (.cells (madeCells #[.int .i64 0] M) 3)) w.heap.size 3 1 (.slice (some ⟨gq, 0, none⟩) M M) M (nats .i64 (Wm.mkL M fun _ => 0))) := hide (by
      rw [hgq]
      exact Made.mkq (w := w1.drewN nd) M (E1.drewN nd).size (by omega) _ (fun _ _ => rfl))
    have HMR : Hid (Made ((w1.drewN nd).alloc (.cells (madeCells #[.int .i64 0] M) 3)) w.heap.size 3 1 (.slice AR n cR) n (nats .i64 (Wm.mkL n fun j => f.getD j 0))) := hide (by
      rw [unhide HF0]
      exact (Made.of_own (unhide HOR)).keep (((Ext.refl w1).drewN nd).alloc _))
    have HNE : Hid (∀ g o, AR = some ⟨g, o, none⟩ → g < gq) := hide (fun g o e => by
      rw [hgq]
      refine ((Made.of_own (unhide HOR)).lt g ?_).2
      rw [e]; rfl)
    have hgw : w.heap.size ≤ gq := by rw [hgq]; exact E1.size
    rw [← hgq]
    clear hct hct1 hgq PR HOR hmk
    go_loopw [12] (fun i wr => ∃ (k : Nat) (qf rf : Nat → Nat), k ≤ M ∧ i = .int .i64 ((k : Int) - 1) ∧ Hid (Wm.DivAt P f g M k qf rf) ∧ Hid (Made wr w.heap.size 3 1 (.slice (some ⟨gq, 0, none⟩) M M) M (nats .i64 (Wm.mkL M qf))) ∧
      Hid (Made wr w.heap.size 3 1 (.slice AR n cR) n (nats .i64 (Wm.mkL n rf))) ∧ Ext w wr) (fun i _ => (intOf i + 1).toNat)
    case atStart => exact ⟨M, _, _, Nat.le_refl _, num_eqQ (by omega), HD0, HMQ, HMR, E2⟩
    case round =>
      clear HMQ HMR E2 HD0 HK
      obtain ⟨k, qf, rf, hk, rfl, HD, HMQ, HMR, hext⟩ := hrel
      by_cases hk0 : k = 0
      · subst hk0
        have CT1 := hide (fun (W : World) (E : Ext wr W) => Trim_ok (some ⟨gq, 0, none⟩) M M _ W ((unhide HMQ).pvq.keep E) (by omega))
        have CT2 := hide (fun (W : World) (E : Ext wr W) => (show Pv W AR n cR (Wm.mkL n rf) from by
          obtain ⟨A', c', e, PV⟩ := ((unhide HMR).keep E).pv
          injection e with e1 e2 e3
          subst e1; subst e3
          exact PV))
        have CT3 := hide (fun (W : World) (E : Ext wr W) => Trim_ok AR n cR _ W (unhide CT2 W E) (by omega))
        have HDD := hide (unhide HDN qf rf (unhide HD))
        rw [unhide HL1] at HDD
        clear HD HMQ HMR CT2
        generalize Wm.trimL (Wm.mkL M qf) = QL at *
        generalize Wm.trimL (Wm.mkL n rf) = RL at *
        go_wp2_with fail
        refine (unhide CT1 _ (by repeat (first | exact Ext.refl wr | refine Ext.alloc ?_ _ | refine Ext.drew ?_ | refine Ext.drewN ?_ _ | (refine Ext.trans ?_ (plus_ext _ _)) | (refine Ext.setCell ?_ (by have := Ext.size Ext.refl wr; simp; omega) _)))).mono ?_
        rintro e w4 ⟨⟨v4, rfl, hM4⟩, E4'⟩
        have E4 : Ext wr w4 := Ext.trans (by repeat (first | exact Ext.refl wr | refine Ext.alloc ?_ _ | refine Ext.drew ?_ | refine Ext.drewN ?_ _ | (refine Ext.trans ?_ (plus_ext _ _)) | (refine Ext.setCell ?_ (by have := Ext.size Ext.refl wr; simp; omega) _))) E4'
        have HM4 := hide (hM4.mono (Ext.size (by repeat (first | exact hext | refine Ext.alloc ?_ _ | refine Ext.drew ?_ | refine Ext.drewN ?_ _ | (refine Ext.trans ?_ (plus_ext _ _)) | (refine Ext.setCell ?_ (by have := Ext.size hext; simp; omega) _)))))
        have HL4 := hide (hM4.lt)
        clear hM4 E4'
        go_wp2_with fail
        refine (unhide CT3 _ (by repeat (first | exact E4 | refine Ext.alloc ?_ _ | refine Ext.drew ?_ | refine Ext.drewN ?_ _ | (refine Ext.trans ?_ (plus_ext _ _)) | (refine Ext.setCell ?_ (by have := Ext.size E4; simp; omega) _)))).mono ?_
        rintro e w5 ⟨⟨v5, rfl, hM5⟩, E5'⟩
        have E5 : Ext wr w5 := Ext.trans (by repeat (first | exact E4 | refine Ext.alloc ?_ _ | refine Ext.drew ?_ | refine Ext.drewN ?_ _ | (refine Ext.trans ?_ (plus_ext _ _)) | (refine Ext.setCell ?_ (by have := Ext.size E4; simp; omega) _))) E5'
        have E45 : Ext w4 w5 := Ext.trans (by repeat (first | exact Ext.refl w4 | refine Ext.alloc ?_ _ | refine Ext.drew ?_ | refine Ext.drewN ?_ _ | (refine Ext.trans ?_ (plus_ext _ _)) | (refine Ext.setCell ?_ (by have := Ext.size Ext.refl w4; simp; omega) _))) E5'
        have HM5 := hide (hM5.mono (Ext.size (Ext.trans hext (by repeat (first | exact E4 | refine Ext.alloc ?_ _ | refine Ext.drew ?_ | refine Ext.drewN ?_ _ | (refine Ext.trans ?_ (plus_ext _ _)) | (refine Ext.setCell ?_ (by have := Ext.size E4; simp; omega) _))))))
        have HD5 := hide (show ∀ k, v4.ownBlock = some k → v5.ownBlock ≠ some k from fun k h4 h5 => by
          have h6 := (unhide HL4 k h4).2
          have h7 := (hM5.lt k h5).1
          have h8 := Ext.size ((by repeat (first | exact Ext.refl w4 | refine Ext.alloc ?_ _ | refine Ext.drew ?_ | refine Ext.drewN ?_ _ | (refine Ext.trans ?_ (plus_ext _ _)) | (refine Ext.setCell ?_ (by have := Ext.size Ext.refl w4; simp; omega) _))) : Ext w4 _)
          omega)
        clear hM5 E5'
        go_wp2
        go_ret2
        exact ⟨⟨QL, RL, v4, v5, unhide HDD, rfl, (unhide HM4).keep (by repeat (first | exact E45 | refine Ext.alloc ?_ _ | refine Ext.drew ?_ | refine Ext.drewN ?_ _ | (refine Ext.trans ?_ (plus_ext _ _)) | (refine Ext.setCell ?_ (by have := Ext.size E45; simp; omega) _))), (unhide HM5).keep (by repeat (first | exact Ext.refl w5 | refine Ext.alloc ?_ _ | refine Ext.drew ?_ | refine Ext.drewN ?_ _ | (refine Ext.trans ?_ (plus_ext _ _)) | (refine Ext.setCell ?_ (by have := Ext.size Ext.refl w5; simp; omega) _))), unhide HD5⟩, (by repeat (first | exact hext.trans E5 | refine Ext.alloc ?_ _ | refine Ext.drew ?_ | refine Ext.drewN ?_ _ | (refine Ext.trans ?_ (plus_ext _ _)) | (refine Ext.setCell ?_ (by have := Ext.size hext.trans E5; simp; omega) _)))⟩

      · obtain ⟨j, rfl⟩ : ∃ j, k = j + 1 := ⟨k - 1, by omega⟩
        have hjM : j < M := by omega
        have hjn : j + m - 1 < n := by omega
        obtain ⟨gr, rfl⟩ : ∃ gr, AR = some ⟨gr, 0, none⟩ := by
          rcases (unhide HMR).2 with ⟨-, h0⟩ | ⟨g', c', cur, h3, -⟩
          · omega
          · injection h3 with h3
            exact ⟨g', h3⟩
        have hrq : gr < gq := unhide HNE gr 0 rfl
        have hgr : w.heap.size ≤ gr := ((unhide HMR).lt gr rfl).1
        have hct0 := (unhide HMR).getq (k := j + m - 1) hjn
        obtain ⟨cc, hcc⟩ : ∃ cc, cc = rf (j + m - 1) * iv % P.p := ⟨_, rfl⟩
        have HST2 := hide (unhide HST j qf rf (unhide HD) hjM cc hcc)
        have hrl := (unhide HD).rl
        have hx := hrl (j + m - 1)
        have HRL := hide hrl
        have hccl : cc < P.p := by rw [hcc]; exact Nat.mod_lt _ hp
        have hfq := (unhide HMQ).frozen j
        have hcq := (unhide HMQ).getq (k := j) hjM
        generalize qf j = qj at hcq
        have HMQ2 : Hid (Made (wr.setCell ⟨gq, j, none⟩ (.int .i64 ((cc : Nat) : Int))) w.heap.size 3 1 (.slice (some ⟨gq, 0, none⟩) M M) M (nats .i64 (Wm.mkL M fun i => if i = j then cc else qf i))) := hide ((unhide HMQ).setq hjM _ _ fun i _ => rfl)
        have HMR2 : Hid (Made (wr.setCell ⟨gq, j, none⟩ (.int .i64 ((cc : Nat) : Int))) w.heap.size 3 1 (.slice (some ⟨gr, 0, none⟩) n cR) n (nats .i64 (Wm.mkL n (Wm.offF P.p g rf j cc 0)))) := hide (by
          rw [Wm.mkL_congr fun i _ => Wm.offF_zero P.p g rf j cc i]
          exact (unhide HMR).oth (p := ⟨gq, j, none⟩) (fun e => by simp [Value.ownBlock] at e; omega) _)
        have E3 := hext.setCell (p := ⟨gq, j, none⟩) hgw (.int .i64 ((cc : Nat) : Int))
        generalize hxx : rf (j + m - 1) = x at *
        have hxy : x * iv ≤ 997 * 997 := Nat.mul_le_mul (by omega) (by omega)
        have hxyI : ((x * iv : Nat) : Int) = (x : Int) * (iv : Int) := Int.natCast_mul x iv
        have hb10 : (x : Int) * (iv : Int) ≤ 994009 := by omega
        have hb00 : 0 ≤ (x : Int) * (iv : Int) := by omega
        have HZ0 : (x : Int) * (iv : Int) % (P.p : Int) = (cc : Int) := by
          rw [hcc, ← hxyI]; rfl
        have hj1 : ((j + 1 : Nat) : Int) - 1 = (j : Int) := by omega
        have hjm : (j : Int) + (m : Int) - 1 = ((j + m - 1 : Nat) : Int) := by omega
        rw [hj1]
        clear HMQ HMR HD hcc hxy hxyI hrl hxx hk0 hj1
        go_wp2
        clear hct0 hcq
        go_loopw [62] (fun i wz => ∃ t : Nat, t ≤ m ∧ i = .int .i64 t ∧ Hid (Made wz w.heap.size 3 1 (.slice (some ⟨gq, 0, none⟩) M M) M (nats .i64 (Wm.mkL M fun i => if i = j then cc else qf i))) ∧
          Hid (Made wz w.heap.size 3 1 (.slice (some ⟨gr, 0, none⟩) n cR) n (nats .i64 (Wm.mkL n (Wm.offF P.p g rf j cc t)))) ∧ Ext w wz) (fun i _ => m - (intOf i).toNat)
        case atStart => exact ⟨0, Nat.zero_le _, rfl, HMQ2, HMR2, E3⟩
        case round =>
          clear HMQ2 HMR2 E3 hext hfq
          obtain ⟨t, ht, rfl, HMQ, HMR, hext⟩ := hrel
          by_cases htm : t < m
          · obtain ⟨b2, o2, e2, hb2, hc2⟩ := ((unhide HS).keep hext).row.nat (k := t) htm
            injection e2 with e2
            injection e2 with e21 e22
            subst e21; subst e22
            have hjt : j + t < n := by omega
            have hcell := (unhide HMR).getq (k := j + t) hjt
            rw [Wm.offF_at] at hcell
            have hfr := (unhide HMR).frozen (j + t)
            obtain ⟨z2, hz2⟩ : ∃ z2, z2 = (rf (j + t) + (P.p - cc) * g.getD t 0) % P.p := ⟨_, rfl⟩
            have HMR2 : Hid (Made (wr.setCell ⟨gr, j + t, none⟩ (.int .i64 ((z2 : Nat) : Int))) w.heap.size 3 1 (.slice (some ⟨gr, 0, none⟩) n cR) n (nats .i64 (Wm.mkL n (Wm.offF P.p g rf j cc (t + 1))))) := hide ((unhide HMR).setq hjt _ _ fun i _ => by
              rw [hz2]; exact Wm.offF_step P.p g rf j cc t i)
            have HMQ2 : Hid (Made (wr.setCell ⟨gr, j + t, none⟩ (.int .i64 ((z2 : Nat) : Int))) w.heap.size 3 1 (.slice (some ⟨gq, 0, none⟩) M M) M (nats .i64 (Wm.mkL M fun i => if i = j then cc else qf i))) := hide ((unhide HMQ).oth (p := ⟨gr, j + t, none⟩) (fun e => by simp [Value.ownBlock] at e; omega) _)
            have E2 := hext.setCell (p := ⟨gr, j + t, none⟩) hgr (.int .i64 ((z2 : Nat) : Int))
            have hz := unhide HRL (j + t)
            have hy := unhide HGL t
            generalize rf (j + t) = z at *
            generalize g.getD t 0 = y at *
            have hxy : (P.p - cc) * y ≤ 997 * 997 := Nat.mul_le_mul (by omega) (by omega)
            have hxyI : (((P.p - cc) * y : Nat) : Int) = ((P.p : Int) - (cc : Int)) * (y : Int) := by rw [Int.natCast_mul, Int.natCast_sub (by omega)]
            have hb1 : ((P.p : Int) - (cc : Int)) * (y : Int) ≤ 994009 := by omega
            have hb0 : 0 ≤ ((P.p : Int) - (cc : Int)) * (y : Int) := by omega
            have HZ : ((z : Int) + ((P.p : Int) - (cc : Int)) * (y : Int)) % (P.p : Int) = (z2 : Int) := by
              rw [hz2, ← hxyI, ← Int.natCast_add]; rfl
            clear HMQ HMR hz2 hxy hxyI
            go_wp2
            go_roundw
            case rel => exact ⟨t + 1, by omega, by go_num, HMQ2, HMR2, E2⟩
            case measure => simp [intOf]; omega
          · obtain rfl : m = t := by omega
            have HST3 := hide (show Wm.DivAt P f g M j (fun i => if i = j then cc else qf i) (Wm.offF P.p g rf j cc m) by have := unhide HST2; rwa [unhide HL2] at this)
            clear HST2
            go_wp2
            go_roundw
            case rel => exact ⟨j, _, _, by omega, rfl, HST3, HMQ, HMR, hext⟩
            case measure => simp [intOf] <;> omega

end Go.Proofs.Ytahchidghfeofaa
