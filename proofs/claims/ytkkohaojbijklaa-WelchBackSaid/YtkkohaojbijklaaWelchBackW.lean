/-
  The law WelchBack returns true: the walk.
-/
import Derived.Test.YtkkohaojbijklaaWelch3
import Derived.Test.YtkkohaojbijklaaArith1
import Derived.Test.YtkkohaojbijklaaMin
import Derived.Test.YtkkohaojbijklaaLaw
import Derived.Test.YtkkohaojbijklaaField0
set_option linter.unusedVariables false
set_option linter.unusedSimpArgs false
namespace Go.Proofs.Ytkkohaojbijklaa
open Go.RowKit Go.BigFrame


set_option maxRecDepth 100000 in
set_option maxHeartbeats 1000000 in
theorem clone_w8 (A : Option Addr) (n c : Nat) (xs : List Value) (w : World) (R : Row w A n 1 xs) (h1 : ∀ u ∈ xs, u.oneCell' = true) (hb : n * 1 ≤ 140737488355328) (hnil : A = none → n = 0 ∧ c = 0) :
    Calls Try.prog 22 #[.slice A n c] w fun e w' => (∃ v, e = .returned v ∧ w'.ownsRow w.heap.size 5 1 v n xs) ∧ Ext w w' := by
  have hi0 : (Try.prog.info? 5).map (fun i => (i.zero, i.size, i.bytes)) = some (some (.int .u8 0), 1, 1) := by kernel_rfl
  obtain ⟨i0, hi, hz0, hz1, hz2⟩ := info_parts hi0
  cases A with
  | none =>
    obtain ⟨rfl, rfl⟩ := hnil rfl
    obtain rfl := R.empty
    have heq := fun w : World => Lib.run_eql_slice_nil w 22 5 none 0 0 0 0 Try.underlying22
    go_enter Try.func22, Try.ntmps22
    go_wp2
    go_ret
    exact ⟨⟨_, rfl, World.ownsRow_nil _ _ _ _⟩, Ext.refl _⟩
  | some ad =>
    have heq := fun w : World => Lib.run_eql_slice_nil w 22 5 (some ad) n c 0 0 Try.underlying22
    have hr := R.2
    have hl := R.1
    have hown := World.ownsRow_lit (base := w.heap.size) (e := 5) (size := 1) w #[] 0 (Nat.le_refl _) (by unfold maxLen; omega) rfl
    have HR := hide hr
    have HL := hide hl
    clear R hnil hr hl
    go_enter Try.func22, Try.ntmps22
    go_wp2_with (at_builtin; refine wpList_append_own _ rfl _ _ 22 rfl w.heap.size 5 i0 (.int .u8 0) 1 1 Try.underlying22 hi hz0 hz1 hz2 rfl (by decide) _ _ _ rfl hown ad n c xs rfl (unhide HL) ?c1 h1 (by unfold maxLen; omega) (by omega) (by simp) ?_)
    case c1 =>
      intro j u hj
      have hjn : j < n * 1 := by
        have := (List.getElem?_eq_some_iff.1 hj).1
        have := unhide HL
        omega
      obtain ⟨b, o, e, hb, hc⟩ := unhide HR (by omega)
      injection e with e
      subst e
      have hj' := (hc j hjn).trans hj
      have : (⟨b, o, none⟩ : Addr).add j = ⟨b, o + j, none⟩ := by
        unfold Addr.add
        split
        · rename_i h0; simp [h0]
        · rfl
      rw [this]
      exact (World.cell?_alloc_lt _ _ _ hb).trans hj'
    intro v' w' hown' hgrow _
    have hown2 : w'.ownsRow w.heap.size 5 1 v' n xs := by simpa using hown'
    have E1 : Ext w w' := ((Ext.refl w).alloc _).grown hgrow (fun q hq => by simp [Value.ownBlock] at hq; omega)
    clear hgrow
    go_wp2
    go_ret
    exact ⟨⟨_, rfl, hown2⟩, E1⟩


theorem off_set {r b : List Nat} {n p x j : Nat} (hp : p < b.length) : Wm.off r (b.set p x) j ≤ Wm.off r b j + (if p < j then 1 else 0) := by
  induction j with
  | zero => exact Nat.zero_le _
  | succ j ih =>
    show Wm.off r (b.set p x) j + (decide (r.getD j 0 ≠ (b.set p x).getD j 0)).toNat ≤ (Wm.off r b j + (decide (r.getD j 0 ≠ b.getD j 0)).toNat) + _
    by_cases e : p = j
    · subst e
      rw [if_neg (by omega)] at ih
      rw [if_pos (by omega)]
      have h1 : (decide (r.getD p 0 ≠ (b.set p x).getD p 0)).toNat ≤ 1 := Bool.toNat_le _
      omega
    · have h2 : (b.set p x).getD j 0 = b.getD j 0 := by
        rw [List.getD_eq_getElem?_getD, List.getElem?_set_ne e, ← List.getD_eq_getElem?_getD]
      rw [h2]
      by_cases h3 : p < j
      · rw [if_pos h3] at ih
        rw [if_pos (by omega)]
        omega
      · rw [if_neg h3] at ih
        rw [if_neg (by omega)]
        omega
theorem off_self (r : List Nat) (j : Nat) : Wm.off r r j = 0 := by
  induction j with
  | zero => rfl
  | succ j ih =>
    show Wm.off r r j + (decide (r.getD j 0 ≠ r.getD j 0)).toNat = 0
    rw [ih]; simp
theorem b256_set {b : List Nat} (h : Wm.B256 b) {p x : Nat} (hx : x < 256) : Wm.B256 (b.set p x) := Wm.B256.of fun y hy => by
  rcases List.mem_or_eq_of_mem_set hy with h1 | h1
  · exact h.mem y h1
  · omega
theorem nats_one8 (K : IntKind) (l : List Nat) : ∀ u ∈ nats K l, u.oneCell' = true := by
  intro u hu
  obtain ⟨x, -, rfl⟩ := List.mem_map.1 hu
  rfl

set_option maxRecDepth 100000 in
set_option maxHeartbeats 2000000 in
theorem wback_law (A : Option Addr) (k c : Nat) (d : List Nat) (N : Int) (A2 : Option Addr) (n2 c2 : Nat) (l2 : List Int) (A3 : Option Addr) (n3 c3 : Nat) (l3 : List Nat) (w : World)
    (S : SliceIn w A k c 1 1 (nats .u8 d)) (hl : ∀ x ∈ d, x < 256) (S2 : SliceIn w A2 n2 c2 1 8 (ints l2)) (_ : ∀ x ∈ l2, -9223372036854775808 ≤ x ∧ x ≤ 9223372036854775807) (S3 : SliceIn w A3 n3 c3 1 1 (nats .u8 l3)) (hl3 : ∀ x ∈ l3, x < 256) :
    Calls Try.prog 8 #[.slice A k c, .int .i64 N, .slice A2 n2 c2, .slice A3 n3 c3] w fun e w' => e = .returned (.bool true) ∧ Ext w w' := by
  have CW := hide (welches_any w)
  have hB := Wm.B256.of hl
  have hlen := S.1.numN
  have CP := hide (fun (W : World) (E : Ext w W) => Put_any A k c N d W (S.1.keep E) hB)
  have HB := hide hB
  have HB3 := hide (Wm.B256.of hl3)
  have HLEN := hide hlen
  have HR2 := hide S2.1
  have HR3 := hide S3.1
  have hn2c : n2 ≤ c2 := S2.2.1
  have hc2 := S2.2.2.2.1
  clear S hl hB hlen S2 S3 hl3
  go_enter Try.func8, Try.ntmps8
  go_wp2_with fail
  refine (unhide CW).mono ?_
  rintro e w1 ⟨rfl, Fw1⟩
  go_wp2_with fail
  refine (unhide CP _ (by repeat (first | exact Ext.refl _ | assumption | refine Ext.alloc ?_ _ | refine Ext.drew ?_ | refine Ext.drewN ?_ _ | refine Ext.trans ?_ ‹Ext _ _›))).mono ?_
  rintro e w2 ⟨hout, EN⟩
  have E2 := And.intro (Fw1.trans (Ext.trans (by repeat (first | exact Ext.refl _ | assumption | refine Ext.alloc ?_ _ | refine Ext.drew ?_ | refine Ext.drewN ?_ _ | refine Ext.trans ?_ ‹Ext _ _›)) EN)) trivial
  clear EN Fw1 CP CW
  rcases hout with ⟨hr, rfl⟩ | ⟨-, n, rfl, h1, h2, h3, v, rfl, M⟩
  · have hb : (putErr k N != 0) = true := by rw [bne_iff_ne]; exact hr
    generalize putErr k N = r at *
    clear hr
    go_wp2
    go_ret
    exact ⟨rfl, (by repeat (first | exact E2.1 | refine Ext.alloc ?_ _ | refine Ext.drew ?_ | refine Ext.drewN ?_ _ | (refine Ext.trans ?_ (plus_ext _ _)) | (refine Ext.setCell ?_ (by have := Ext.size E2.1; simp; omega) _)))⟩
  · by_cases h12 : 12 < n
    · have h12I : (12 : Int) < (n : Int) := by omega
      have ho := M.open_
      obtain ⟨Ar, cr, rfl, Rr, -⟩ := ho
      clear M Rr
      go_wp2
      go_ret
      exact ⟨rfl, (by repeat (first | exact E2.1 | refine Ext.alloc ?_ _ | refine Ext.drew ?_ | refine Ext.drewN ?_ _ | (refine Ext.trans ?_ (plus_ext _ _)) | (refine Ext.setCell ?_ (by have := Ext.size E2.1; simp; omega) _)))⟩
    · have h12I : ¬ (12 : Int) < (n : Int) := by omega
      have hrB := Wm.putL_lt (n := n) (unhide HB) (by rw [unhide HLEN]; exact h2) (by omega)
      have hrl := Wm.putL_length d n
      obtain ⟨r, hr⟩ : ∃ r, r = Wm.putL d n := ⟨_, rfl⟩
      rw [← hr] at M hrB hrl
      have ho := M.open_
      obtain ⟨Ar, cr, rfl, Rr, hc1, hc2', -⟩ := ho
      have hnil : Ar = none → n = 0 ∧ cr = 0 := fun h => by
        subst h
        obtain ⟨b, o, e, -⟩ := Rr.2 (by omega)
        cases e
      have CC := hide (fun (W : World) (E : Ext w2 W) => clone_w8 Ar n cr (nats .u8 r) W (Rr.keep E) (nats_one8 _ _) (by omega) hnil)
      have HRr := hide Rr
      have HRR := hide hr
      have HRB := hide hrB
      have HRL := hide hrl
      unfold maxLen at hc2'
      clear M Rr hnil hr hrB hrl
      go_wp2_with fail
      refine (unhide CC _ (by repeat (first | exact Ext.refl w2 | refine Ext.alloc ?_ _ | refine Ext.drew ?_ | refine Ext.drewN ?_ _ | (refine Ext.trans ?_ (plus_ext _ _)) | (refine Ext.setCell ?_ (by have := Ext.size Ext.refl w2; simp; omega) _)))).mono ?_
      rintro e w3 ⟨⟨v, rfl, O⟩, EN⟩
      have F3 := And.intro (Ext.trans (by repeat (first | exact Ext.refl w2 | refine Ext.alloc ?_ _ | refine Ext.drew ?_ | refine Ext.drewN ?_ _ | (refine Ext.trans ?_ (plus_ext _ _)) | (refine Ext.setCell ?_ (by have := Ext.size Ext.refl w2; simp; omega) _))) EN : Ext w2 w3) trivial
      have hopen := row_open O (by omega)
      obtain ⟨g, cb, rfl, hg1, hg2, hg3, hg4, -⟩ := hopen
      unfold maxLen at hg4
      have hgr : ∀ b o, Ar = some ⟨b, o, none⟩ → b < g := fun b o h => by
        obtain ⟨b', o', e, hb', -⟩ := (unhide HRr).2 (by omega)
        rw [h] at e
        injection e with e
        injection e with e1 e2
        subst e1
        have := Ext.size ((by repeat (first | exact Ext.refl w2 | refine Ext.alloc ?_ _ | refine Ext.drew ?_ | refine Ext.drewN ?_ _ | (refine Ext.trans ?_ (plus_ext _ _)) | (refine Ext.setCell ?_ (by have := Ext.size Ext.refl w2; simp; omega) _))) : Ext w2 _)
        omega
      have hg2w : w2.heap.size ≤ g := by
        have := Ext.size ((by repeat (first | exact Ext.refl w2 | refine Ext.alloc ?_ _ | refine Ext.drew ?_ | refine Ext.drewN ?_ _ | (refine Ext.trans ?_ (plus_ext _ _)) | (refine Ext.setCell ?_ (by have := Ext.size Ext.refl w2; simp; omega) _))) : Ext w2 _)
        omega
      have HM0 : Hid (Made w3 w.heap.size 5 1 (.slice (some ⟨g, 0, none⟩) n cb) n (nats .u8 r)) := hide ((Made.of_own O).mono (by
        have := Ext.size ((by repeat (first | exact Ext.refl w2 | refine Ext.alloc ?_ _ | refine Ext.drew ?_ | refine Ext.drewN ?_ _ | (refine Ext.trans ?_ (plus_ext _ _)) | (refine Ext.setCell ?_ (by have := Ext.size Ext.refl w2; simp; omega) _))) : Ext w2 _)
        have := Ext.size E2.1
        omega))
      have HGR := hide hgr
      obtain ⟨y, hy⟩ : ∃ y, y = (n - k) / 2 := ⟨_, rfl⟩
      have hy12 : y ≤ 12 := by omega
      have hq : ((n : Int) - (k : Int)).tdiv 2 = (y : Int) := by
        rw [Int.tdiv_eq_ediv_of_nonneg (by omega), hy]; omega
      have HY := hide hy
      obtain ⟨M, hM⟩ : ∃ M : Nat, (M : Int) = min (min (n2 : Int) (n3 : Int)) (y : Int) := ⟨(min (min (n2 : Int) (n3 : Int)) (y : Int)).toNat, by omega⟩
      have hM2 : M ≤ n2 := by omega
      have hM3 : M ≤ n3 := by omega
      have hMy : M ≤ y := by omega
      have HMM := hide hM
      have hMc : (M : Int) ≤ (c2 : Int) := by omega
      clear O EN CC hgr hM hy hg1 hg2
      go_wp2_with (refine wpList_min3 (o := ⟨some 57, _, _, _, _, _⟩) rfl _ _ _ _ (by rfl) _ _ _ (by rfl) (by rfl) (by rfl) (M : Int) (by have := unhide HMM; omega) ?_)
      go_loopw [60] (fun i wr => ∃ (j : Nat) (b : List Nat), j ≤ M ∧ i = .int .i64 j ∧ Hid (Made wr w.heap.size 5 1 (.slice (some ⟨g, 0, none⟩) n cb) n (nats .u8 b)) ∧ Hid (Wm.B256 b ∧ b.length = n ∧ Wm.off r b n ≤ j) ∧ (Ext w2 wr ∧ True)) (fun i _ => M - (intOf i).toNat)
      case atStart => exact ⟨0, r, Nat.zero_le _, rfl, HM0, hide ⟨unhide HRB, unhide HRL, by rw [off_self]; exact Nat.le_refl _⟩, (by repeat (first | exact F3.1 | refine Ext.alloc ?_ _ | refine Ext.drew ?_ | refine Ext.drewN ?_ _ | (refine Ext.trans ?_ (plus_ext _ _)) | (refine Ext.setCell ?_ (by have := Ext.size F3.1; simp; omega) _))), trivial⟩
      case round =>
        clear HM0 F3
        obtain ⟨j, b, hj, rfl, HM, HO, hE⟩ := hrel
        by_cases hjM : j < M
        · obtain ⟨b2, o2, rfl, hb2, hcx⟩ := ((unhide HR2).keep (E2.1.trans hE.1)).int (k := j) (by omega)
          obtain ⟨b3, o3, rfl, hb3, hcy⟩ := ((unhide HR3).keep (E2.1.trans hE.1)).nat (k := j) (by omega)
          have hxb := Wm.emod_bound (l2.getD j 0) (show (0 : Int) < (n : Int) by omega)
          obtain ⟨p, hp⟩ : ∃ p : Nat, (p : Int) = l2.getD j 0 % (n : Int) := ⟨(l2.getD j 0 % (n : Int)).toNat, by omega⟩
          have CWi := hide (fun w : World => within_any (l2.getD j 0) n w (by omega) (by omega))
          rw [← hp] at CWi hxb
          have hpn : p < n := by omega
          obtain ⟨b4, o4, e4, hb4, hcr⟩ := ((unhide HRr).keep hE.1).nat (k := p) hpn
          have hb4g : b4 < g := unhide HGR b4 o4 e4
          subst e4
          have hb3g : b3 < g := by
            obtain ⟨b', o', e5, h5, -⟩ := (unhide HR3).2 (by omega)
            injection e5 with e5
            injection e5 with e6 e7
            subst e6
            have := Ext.size E2.1
            omega
          have hyb := (unhide HB3) j
          have hrb := (unhide HRB) p
          have hx8 := u8_xor_nat (r.getD p 0) (l3.getD j 0) hrb hyb
          have hlt := Wm.xor_lt hrb hyb
          have hcell := (unhide HM).nat (k := p) hpn
          have hfr := (unhide HM).frozen p
          have hbl := (unhide HO).2.1
          have HO2 := hide (show Wm.B256 (b.set p (r.getD p 0 ^^^ l3.getD j 0)) ∧ (b.set p (r.getD p 0 ^^^ l3.getD j 0)).length = n ∧ Wm.off r (b.set p (r.getD p 0 ^^^ l3.getD j 0)) n ≤ j + 1 from
            ⟨b256_set (unhide HO).1 hlt, by rw [List.length_set]; exact hbl, by
              have h1 := off_set (r := r) (b := b) (n := n) (p := p) (x := r.getD p 0 ^^^ l3.getD j 0) (j := n) (by omega)
              rw [if_pos hpn] at h1
              have := (unhide HO).2.2
              omega⟩)
          have HM2 := hide ((unhide HM).set (j := p) (by omega) (.int .u8 ((r.getD p 0 ^^^ l3.getD j 0 : Nat) : Int)))
          rw [nats_set] at HM2
          have HX := And.intro (hE.1.setCell (p := ⟨g, p, none⟩) hg2w (.int .u8 ((r.getD p 0 ^^^ l3.getD j 0 : Nat) : Int))) trivial
          generalize r.getD p 0 ^^^ l3.getD j 0 = z at *
          generalize b.set p z = b' at *
          generalize l2.getD j 0 = x at *
          generalize l3.getD j 0 = y' at *
          generalize r.getD p 0 = rp at *
          generalize b.getD p 0 = old at *
          have hjI : (j : Int) < (M : Int) := by omega
          have hjI3 : (j : Int) < (n3 : Int) := by omega
          have hj0 : (0 : Int) ≤ (j : Int) := by omega
          have hpI : (p : Int) < (n : Int) := by omega
          have hp0 : (0 : Int) ≤ (p : Int) := by omega
          have n1 : ¬ g = b4 := by omega
          have n2' : ¬ g = b3 := by omega
          clear HM HO hbl hp hlt
          go_wp2
          go_region_held3 (fun W => W.cell? ⟨b4, o4 + p, none⟩ = some (.int .u8 (rp : Int)) ∧ W.cell? ⟨b3, o3 + j, none⟩ = some (.int .u8 (y' : Int))) (first | go_keep) (first
            | (go_at_call 17; refine (unhide CWi _).mono ?_; rintro e wc ⟨rfl, rfl⟩))
          all_goals
            go_wp2
            go_roundw
            case rel => exact ⟨j + 1, b', by omega, by go_num, hide ((unhide HM2).keep ((Ext.refl _).drew)), HO2, HX.1.drew, trivial⟩
            case measure => simp [intOf]; omega
        · obtain rfl : M = j := by omega
          obtain ⟨w4, hw4⟩ : ∃ w4, w4 = wr := ⟨_, rfl⟩
          subst hw4
          have ho := (unhide HM).open_
          obtain ⟨Ab, cb', e', Rb, -⟩ := ho
          injection e' with e1 e2 e3
          subst e1; subst e3
          have HRb := hide Rb
          have hbB := (unhide HO).1
          have hoff := (unhide HO).2.2
          have hoff2 : Wm.off r b n ≤ (n - k) / 2 := by have := unhide HY; omega
          have CMm := hide (fun (W : World) (E : Ext w4 W) => wMend_any (some ⟨g, 0, none⟩) n cb b k W (Rb.keep E) hbB)
          have HBK := hide (fun (W W' : World) (e : Ending) (h : WOut W W' n b (k : Int) e) => (show ∃ v, Made W' W.heap.size 5 1 v n (nats .u8 r) ∧ e = .returned (.tuple #[v, .int .i64 (Wm.off r b n : Nat), .int .i64 0]) from by
            have hk := unhide HLEN
            have h' : WOut W W' n b ((d.length : Nat) : Int) e := by rw [hk]; exact h
            have := wmend_back h' (unhide HB) hbB (by omega) (by omega) (by omega) (by rw [← unhide HRR, hk]; exact hoff2)
            rw [← unhide HRR] at this
            exact this))
          clear Rb HM HO hoff hbB hoff2 e2
          go_wp2
          go_loopw [14, 84] (fun q i wz => ∃ j : Nat, j ≤ n ∧ i = .int .i64 j ∧ q = .int .i64 ((Wm.off r b j : Nat) : Int) ∧ (Ext w4 wz ∧ True)) (fun _ i _ => n - (intOf i).toNat)
          case atStart => exact ⟨0, Nat.zero_le _, rfl, rfl, (by repeat (first | exact Ext.refl _ | refine Ext.alloc ?_ _ | refine Ext.drew ?_ | refine Ext.drewN ?_ _ | (refine Ext.trans ?_ (plus_ext _ _)) | (refine Ext.setCell ?_ (by have := Ext.size Ext.refl _; simp; omega) _))), trivial⟩
          case round =>
            obtain ⟨j, hj, rfl, rfl, hE5⟩ := hrel
            have hoj : Wm.off r b j ≤ j := Wm.cntR_le _ _
            by_cases hjn : j < n
            · obtain ⟨b1, o1, e1, hb1, hc⟩ := ((unhide HRb).keep hE5.1).nat (k := j) hjn
              injection e1 with e1
              injection e1 with e1 e2
              subst e1; subst e2
              rw [Nat.zero_add] at hc
              obtain ⟨b', o', rfl, hb', hc'⟩ := ((unhide HRr).keep (hE.1.trans hE5.1)).nat (k := j) hjn
              have hjI : (j : Int) < (n : Int) := by omega
              have hj0 : (0 : Int) ≤ (j : Int) := by omega
              by_cases he : r.getD j 0 = b.getD j 0
              · have hs1 : Wm.off r b (j + 1) = Wm.off r b j := by
                  show Wm.cntR _ j + (decide (r.getD j 0 ≠ b.getD j 0)).toNat = _
                  rw [decide_eq_false (fun h => h he)]; rfl
                rw [he] at hc'
                have HS := hide hs1
                generalize b.getD j 0 = y' at *
                generalize Wm.off r b j = z at *
                clear he hs1
                go_wp2
                go_quiet (fail)
                go_wp2
                go_roundw
                case rel => exact ⟨j + 1, by omega, by go_num, by rw [unhide HS], (by repeat (first | exact hE5.1 | refine Ext.alloc ?_ _ | refine Ext.drew ?_ | refine Ext.drewN ?_ _ | (refine Ext.trans ?_ (plus_ext _ _)) | (refine Ext.setCell ?_ (by have := Ext.size hE5.1; simp; omega) _))), trivial⟩
                case measure => simp [intOf]; omega
              · have hs1 : Wm.off r b (j + 1) = Wm.off r b j + 1 := by
                  show Wm.cntR _ j + (decide (r.getD j 0 ≠ b.getD j 0)).toNat = _
                  rw [decide_eq_true he]; rfl
                have HS := hide hs1
                have hne : (((b.getD j 0 : Nat) : Int) != ((r.getD j 0 : Nat) : Int)) = true := by rw [bne_iff_ne]; exact fun h => he (by omega)
                have hne' : ¬ ((b.getD j 0 : Nat) : Int) = ((r.getD j 0 : Nat) : Int) := fun h => he (by omega)
                have hne2 : ¬ b.getD j 0 = r.getD j 0 := fun h => he h.symm
                generalize b.getD j 0 = y' at *
                generalize r.getD j 0 = x at *
                generalize Wm.off r b j = z at *
                clear he hs1
                go_wp2
                go_quiet (fail)
                go_wp2
                go_roundw
                case rel => exact ⟨j + 1, by omega, by go_num, by rw [unhide HS]; go_num, (by repeat (first | exact hE5.1 | refine Ext.alloc ?_ _ | refine Ext.drew ?_ | refine Ext.drewN ?_ _ | (refine Ext.trans ?_ (plus_ext _ _)) | (refine Ext.setCell ?_ (by have := Ext.size hE5.1; simp; omega) _))), trivial⟩
                case measure => simp [intOf]; omega
            · obtain rfl : n = j := by omega
              generalize hz : Wm.off r b n = z at *
              clear hz
              go_wp2_with fail
              refine (unhide CMm _ (by repeat (first | exact hE5.1 | refine Ext.alloc ?_ _ | refine Ext.drew ?_ | refine Ext.drewN ?_ _ | (refine Ext.trans ?_ (plus_ext _ _)) | (refine Ext.setCell ?_ (by have := Ext.size hE5.1; simp; omega) _)))).mono ?_
              rintro e w6 ⟨hout, EN⟩
              obtain ⟨v, Mv, rfl⟩ := unhide HBK _ _ _ hout
              have E6 : Ext w4 w6 ∧ True := ⟨Ext.trans (by repeat (first | exact hE5.1 | refine Ext.alloc ?_ _ | refine Ext.drew ?_ | refine Ext.drewN ?_ _ | (refine Ext.trans ?_ (plus_ext _ _)) | (refine Ext.setCell ?_ (by have := Ext.size hE5.1; simp; omega) _))) EN, trivial⟩
              have ho := Mv.open_
              obtain ⟨Am, cm, rfl, Rm, q1, q2, -⟩ := ho
              unfold maxLen at q2
              have HE := hide (fun (W : World) (E : Ext w6 W) => equal_u8 Am Ar n n cm cr r r W (Rm.keep E) ((unhide HRr).keep (hE.1.trans (E6.1.trans E))) (by omega) (by omega))
              rw [decide_eq_true rfl] at HE
              have EF := And.intro (E2.1.trans (hE.1.trans E6.1)) trivial
              clear hout EN Mv Rm CMm HBK
              go_wp2_with fail
              refine (unhide HE _ (by repeat (first | exact Ext.refl w6 | refine Ext.alloc ?_ _ | refine Ext.drew ?_ | refine Ext.drewN ?_ _ | (refine Ext.trans ?_ (plus_ext _ _)) | (refine Ext.setCell ?_ (by have := Ext.size Ext.refl w6; simp; omega) _)))).mono ?_
              rintro e w7 ⟨rfl, q7, rfl⟩
              go_wp2
              go_ret
              exact ⟨rfl, (by repeat (first | exact EF.1 | refine Ext.alloc ?_ _ | refine Ext.drew ?_ | refine Ext.drewN ?_ _ | (refine Ext.trans ?_ (plus_ext _ _)) | (refine Ext.setCell ?_ (by have := Ext.size EF.1; simp; omega) _)))⟩
end Go.Proofs.Ytkkohaojbijklaa
