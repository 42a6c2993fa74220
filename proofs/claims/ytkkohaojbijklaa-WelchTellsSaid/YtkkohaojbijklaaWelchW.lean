/-
  The law WelchTells returns true: the walk.
-/
import Derived.Test.YtkkohaojbijklaaWelch3
import Derived.Test.YtkkohaojbijklaaArith1
import Derived.Test.YtkkohaojbijklaaMin
import Derived.Test.YtkkohaojbijklaaLaw
set_option linter.unusedVariables false
set_option linter.unusedSimpArgs false
namespace Go.Proofs.Ytkkohaojbijklaa
open Go.RowKit Go.BigFrame

set_option maxRecDepth 100000 in
set_option maxHeartbeats 2000000 in
theorem wtells_law (A : Option Addr) (n c : Nat) (l : List Nat) (k : Int) (w : World) (S : SliceIn w A n c 1 1 (nats .u8 l)) (hl : ∀ x ∈ l, x < 256) :
    Calls Try.prog 7 #[.slice A n c, .int .i64 k] w fun e w' => e = .returned (.bool true) ∧ Ext w w' := by
  have CW := hide (welches_any w)
  have hB := Wm.B256.of hl
  have CM := hide (fun (W : World) (E : Ext w W) => wMend_any A n c l k W (S.1.keep E) hB)
  have HR := hide S.1
  have hlen := S.1.numN
  have HLEN := hide hlen
  have HB := hide hB
  clear S hl hB hlen
  go_enter Try.func7, Try.ntmps7
  go_wp2_with fail
  refine (unhide CW).mono ?_
  rintro e w1 ⟨rfl, Fw1⟩
  go_wp2_with fail
  refine (unhide CM _ (by repeat (first | exact Ext.refl _ | assumption | refine Ext.alloc ?_ _ | refine Ext.drew ?_ | refine Ext.drewN ?_ _ | refine Ext.trans ?_ ‹Ext _ _›))).mono ?_
  rintro e w2 ⟨hout, EN⟩
  have E2 := And.intro (Fw1.trans (Ext.trans (by repeat (first | exact Ext.refl _ | assumption | refine Ext.alloc ?_ _ | refine Ext.drew ?_ | refine Ext.drewN ?_ _ | refine Ext.trans ?_ ‹Ext _ _›)) EN)) trivial
  clear EN Fw1 CM CW
  rcases hout with ⟨hr, rfl⟩ | ⟨-, K, rfl, k1, k2, k3, ⟨s, v, hs, hon, hoff, M, rfl⟩ | ⟨-, rfl⟩⟩
  · have hb : (wErr n k != 0) = true := by rw [bne_iff_ne]; exact hr
    generalize wErr n k = r at *
    clear hr
    go_wp2
    go_ret
    exact ⟨rfl, (by repeat (first | exact E2.1 | refine Ext.alloc ?_ _ | refine Ext.drew ?_ | refine Ext.drewN ?_ _ | (refine Ext.trans ?_ (plus_ext _ _)) | (refine Ext.setCell ?_ (by have := Ext.size E2.1; simp; omega) _)))⟩
  · have hpl : (Wm.pk (fun i => s.testBit i) n).length = K := by rw [Wm.pk_length, Wm.cntR_ones]; exact hon
    have hcode := Wm.rowS_code (unhide HB) (s := s) (n := n) (by omega) hpl k2
    have hrB := Wm.rowS_b (unhide HB) s (n := n) (by omega)
    have hrl := Wm.rowS_length l s n
    obtain ⟨r, hr⟩ : ∃ r, r = Wm.rowS l s n := ⟨_, rfl⟩
    rw [← hr] at M hoff hcode hrB hrl
    rw [← hr]
    have ho := M.open_
    obtain ⟨Ar, cr, rfl, Rr, hc1, hc2, -⟩ := ho
    have RT := Rr.take (k := K) k2
    rw [Nat.mul_one, nats_take] at RT
    have htk : Wm.B256 (r.take K) := Wm.B256.of fun x hx => hrB.mem x (List.mem_of_mem_take hx)
    have CP := hide (fun (W : World) (E : Ext w2 W) => Put_ok Ar K cr n (r.take K) W (RT.keep E) htk k1 k2 (by omega))
    rw [← hcode] at CP
    have HRr := hide Rr
    unfold maxLen at hc2
    clear M hcode hrB hrl hr hs hon hpl Rr RT htk
    have hzn : Wm.off r l n ≤ n := Wm.cntR_le _ _
    have hkI : ¬ (K : Int) < 1 := by omega
    have hknI : ¬ (n : Int) < (K : Int) := by omega
    have hkc : (K : Int) ≤ (cr : Int) := by omega
    go_wp2_with fail
    refine (unhide CP _ (by repeat (first | exact Ext.refl w2 | refine Ext.alloc ?_ _ | refine Ext.drew ?_ | refine Ext.drewN ?_ _ | (refine Ext.trans ?_ (plus_ext _ _)) | (refine Ext.setCell ?_ (by have := Ext.size Ext.refl w2; simp; omega) _)))).mono ?_
    rintro e w3 ⟨⟨v, rfl, M⟩, EN⟩
    have F3 := And.intro (Ext.trans (by repeat (first | exact Ext.refl w2 | refine Ext.alloc ?_ _ | refine Ext.drew ?_ | refine Ext.drewN ?_ _ | (refine Ext.trans ?_ (plus_ext _ _)) | (refine Ext.setCell ?_ (by have := Ext.size Ext.refl w2; simp; omega) _))) EN : Ext w2 w3) trivial
    have ho := M.open_
    obtain ⟨Ap, cp, rfl, Rp, q1, q2, -⟩ := ho
    unfold maxLen at q2
    have HE := hide (fun (W : World) (E : Ext w3 W) => equal_u8 Ap Ar n n cp cr r r W (Rp.keep E) ((unhide HRr).keep (F3.1.trans E)) (by omega) (by omega))
    rw [decide_eq_true rfl] at HE
    clear M EN Rp CP
    go_wp2
    go_loopw [10, 62] (fun q i wz => ∃ j : Nat, j ≤ n ∧ i = .int .i64 j ∧ q = .int .i64 ((Wm.off r l j : Nat) : Int) ∧ (Ext w3 wz ∧ True)) (fun _ i _ => n - (intOf i).toNat)
    case atStart => exact ⟨0, Nat.zero_le _, rfl, rfl, (by repeat (first | exact Ext.refl _ | refine Ext.alloc ?_ _ | refine Ext.drew ?_ | refine Ext.drewN ?_ _ | (refine Ext.trans ?_ (plus_ext _ _)) | (refine Ext.setCell ?_ (by have := Ext.size Ext.refl _; simp; omega) _))), trivial⟩
    case round =>
      obtain ⟨j, hj, rfl, rfl, hE⟩ := hrel
      have hoj : Wm.off r l j ≤ j := Wm.cntR_le _ _
      by_cases hjn : j < n
      · obtain ⟨b, o, rfl, hb, hc⟩ := ((unhide HR).keep (E2.1.trans (F3.1.trans hE.1))).nat (k := j) hjn
        obtain ⟨b', o', rfl, hb', hc'⟩ := ((unhide HRr).keep (F3.1.trans hE.1)).nat (k := j) hjn
        have hjI : (j : Int) < (n : Int) := by omega
        have hj0 : (0 : Int) ≤ (j : Int) := by omega
        by_cases he : r.getD j 0 = l.getD j 0
        · have hs1 : Wm.off r l (j + 1) = Wm.off r l j := by
            show Wm.cntR _ j + (decide (r.getD j 0 ≠ l.getD j 0)).toNat = _
            rw [decide_eq_false (fun h => h he)]; rfl
          rw [he] at hc'
          have HS := hide hs1
          generalize l.getD j 0 = y at *
          generalize Wm.off r l j = z at *
          clear he hs1
          go_wp2
          go_quiet (fail)
          go_wp2
          go_roundw
          case rel => exact ⟨j + 1, by omega, by go_num, by rw [unhide HS], (by repeat (first | exact hE.1 | refine Ext.alloc ?_ _ | refine Ext.drew ?_ | refine Ext.drewN ?_ _ | (refine Ext.trans ?_ (plus_ext _ _)) | (refine Ext.setCell ?_ (by have := Ext.size hE.1; simp; omega) _))), trivial⟩
          case measure => simp [intOf]; omega
        · have hs1 : Wm.off r l (j + 1) = Wm.off r l j + 1 := by
            show Wm.cntR _ j + (decide (r.getD j 0 ≠ l.getD j 0)).toNat = _
            rw [decide_eq_true he]; rfl
          have HS := hide hs1
          have hne : (((l.getD j 0 : Nat) : Int) != ((r.getD j 0 : Nat) : Int)) = true := by rw [bne_iff_ne]; exact fun h => he (by omega)
          have hne' : ¬ ((l.getD j 0 : Nat) : Int) = ((r.getD j 0 : Nat) : Int) := fun h => he (by omega)
          have hne2 : ¬ l.getD j 0 = r.getD j 0 := fun h => he h.symm
          generalize l.getD j 0 = y at *
          generalize r.getD j 0 = x at *
          generalize Wm.off r l j = z at *
          clear he hs1
          go_wp2
          go_quiet (fail)
          go_wp2
          go_roundw
          case rel => exact ⟨j + 1, by omega, by go_num, by rw [unhide HS]; go_num, (by repeat (first | exact hE.1 | refine Ext.alloc ?_ _ | refine Ext.drew ?_ | refine Ext.drewN ?_ _ | (refine Ext.trans ?_ (plus_ext _ _)) | (refine Ext.setCell ?_ (by have := Ext.size hE.1; simp; omega) _))), trivial⟩
          case measure => simp [intOf]; omega
      · obtain rfl : n = j := by omega
        have hle : 2 * ((Wm.off r l n : Nat) : Int) ≤ (n : Int) - (K : Int) := by omega
        generalize Wm.off r l n = z at *
        clear hoff
        go_wp2_with fail
        refine (unhide HE _ (by repeat (first | exact hE.1 | refine Ext.alloc ?_ _ | refine Ext.drew ?_ | refine Ext.drewN ?_ _ | (refine Ext.trans ?_ (plus_ext _ _)) | (refine Ext.setCell ?_ (by have := Ext.size hE.1; simp; omega) _)))).mono ?_
        rintro e w5 ⟨rfl, q5, rfl⟩
        go_wp2
        go_ret
        exact ⟨rfl, E2.1.trans (F3.1.trans (by repeat (first | exact hE.1 | refine Ext.alloc ?_ _ | refine Ext.drew ?_ | refine Ext.drewN ?_ _ | (refine Ext.trans ?_ (plus_ext _ _)) | (refine Ext.setCell ?_ (by have := Ext.size hE.1; simp; omega) _))))⟩
  · go_wp2
    go_ret
    exact ⟨rfl, (by repeat (first | exact E2.1 | refine Ext.alloc ?_ _ | refine Ext.drew ?_ | refine Ext.drewN ?_ _ | (refine Ext.trans ?_ (plus_ext _ _)) | (refine Ext.setCell ?_ (by have := Ext.size E2.1; simp; omega) _)))⟩
end Go.Proofs.Ytkkohaojbijklaa
