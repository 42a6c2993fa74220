/-
  The law FieldPoly returns true: the walk.
-/
import Derived.Test.YtkfdimofkkckeaaFPoly0
import Derived.Test.YtkfdimofkkckeaaField1
import Derived.Test.YtkfdimofkkckeaaBits1
import Derived.Test.YtkfdimofkkckeaaPoly7
set_option linter.unusedVariables false
set_option linter.unusedSimpArgs false
namespace Go.Proofs.Ytkfdimofkkckeaa
open Go.RowKit Go.BigFrame

def bitR (x k : Nat) : List Nat := (List.range k).map fun k => x / 2 ^ k % 2
theorem bitR_succ (x k : Nat) : bitR x (k + 1) = bitR x k ++ [x / 2 ^ k % 2] := by
  unfold bitR
  rw [List.range_succ, List.map_append]; rfl

set_option maxRecDepth 100000 in
set_option maxHeartbeats 1000000 in
theorem of_bits (x : Nat) (hx : x < 512) (w : World) :
    Calls Try.prog 37 #[.int .i64 x] w fun e w' => (∃ v, e = .returned v ∧ Made w' w.heap.size 3 1 v (Wm.bitL x).length (nats .i64 (Wm.bitL x))) ∧ Ext w w' := by
  have HB := hide (show Wm.bitL x = Wm.trimL (bitR x 9) from rfl)
  generalize Wm.bitL x = B at *
  go_enter Try.func37, Try.ntmps37
  go_wp2
  go_loopw [3, 5] (fun v i wr => ∃ k : Nat, k ≤ 9 ∧ i = .int .i64 k ∧ Hid (wr.ownsRow w.heap.size 3 1 v k (nats .i64 (bitR x k))) ∧ (Ext w wr ∧ True)) (fun _ i _ => 9 - (intOf i).toNat)
  case atStart => exact ⟨0, Nat.zero_le _, rfl, hide (World.ownsRow_nil _ _ _ _), (by repeat (first | exact Ext.refl w | refine Ext.alloc ?_ _ | refine Ext.drew ?_ | refine Ext.drewN ?_ _ | (refine Ext.trans ?_ (plus_ext _ _)) | (refine Ext.setCell ?_ (by have := Ext.size Ext.refl w; simp; omega) _))), trivial⟩
  case round =>
    obtain ⟨k, hk, rfl, HOW, hE⟩ := hrel
    by_cases hlt : k < 9
    · have hext := hE.1
      have hbd : (k + 1) * 8 ≤ 140737488355328 ∧ k + 1 ≤ 9223372036854775807 := by omega
      have HT := hide (show nats .i64 (bitR x (k + 1)) = nats .i64 (bitR x k) ++ [.int .i64 ((x / 2 ^ k % 2 : Nat) : Int)] by rw [bitR_succ, ← nats_append]; rfl)
      obtain ⟨y, hy⟩ : ∃ y, y = x / 2 ^ k % 2 := ⟨_, rfl⟩
      rw [← hy] at HT
      have hB : bits BinOp.and IntKind.i64 ((x : Int) / 2 ^ k) 1 = (y : Int) := by
        have h1 : (x : Int) / 2 ^ k = ((x / 2 ^ k : Nat) : Int) := by rw [Int.natCast_ediv, Int.natCast_pow]; rfl
        have h2 : x / 2 ^ k ≤ x := Nat.div_le_self _ _
        rw [h1, i64_and_one _ (by omega), hy]
      have HY := hide hy
      clear hy
      go_wp2_with (at_builtin; go_loud (refine wpList_app rfl _ _ 22 (by rfl) 3 intQ hext _ _ _ _ (by rfl) (unhide HOW) 1 1 (by rfl) rfl rfl hbd ?_))
      intro v' w2 hown' hext' _
      have hown2 : Hid (w2.ownsRow w.heap.size 3 1 v' (k + 1) (nats .i64 (bitR x (k + 1)))) := hide (by rw [unhide HT]; exact hown')
      clear hown' hB
      go_wp2
      go_roundw
      case rel => exact ⟨k + 1, by omega, by go_num, hown2, hext', trivial⟩
      case measure => simp [intOf]; omega
    · obtain rfl : k = 9 := by omega
      obtain ⟨A, c, rfl, PV⟩ := (Made.of_own (unhide HOW)).pv
      have CS := hide (Short_ok A 9 c _ wr PV (by omega))
      rw [← unhide HB] at CS
      clear PV HOW
      go_wp2_with fail
      refine (unhide CS).mono ?_
      rintro e w2 ⟨⟨v, rfl, hM⟩, E2⟩
      have HM := hide (hM.mono (Ext.size hE.1))
      clear hM
      go_wp2
      go_ret
      exact ⟨⟨_, rfl, unhide HM⟩, hE.1.trans E2⟩

theorem bitD_len : (Wm.bitL 0x11d).length = 9 := by decide

set_option maxRecDepth 100000 in
theorem fields_any' (w : World) : Calls Try.prog 36 #[] w fun e w' => e = .returned (.bool true) ∧ Ext w w' := by
  have C1 := hide (fun w : World => Mul_any 2 128 (by omega) (by omega) w)
  have C2 := hide (fun w : World => Mul_any 3 7 (by omega) (by omega) w)
  rw [show Wm.fmul 2 128 = 0x1d by decide +kernel] at C1
  rw [show Wm.fmul 3 7 = 9 by decide +kernel] at C2
  go_enter Try.func36, Try.ntmps36
  go_wp2_with fail
  refine (unhide C1 _).mono ?_
  rintro e w1 ⟨rfl, rfl⟩
  go_wp2_with fail
  refine (unhide C2 _).mono ?_
  rintro e w2 ⟨rfl, rfl⟩
  go_wp2
  go_ret
  exact ⟨rfl, (by repeat (first | exact Ext.refl _ | refine Ext.alloc ?_ _ | refine Ext.drew ?_ | refine Ext.drewN ?_ _ | (refine Ext.trans ?_ (plus_ext _ _)) | (refine Ext.setCell ?_ (by have := Ext.size Ext.refl _; simp; omega) _)))⟩

set_option maxRecDepth 100000 in
set_option maxHeartbeats 1000000 in
theorem fpoly_law (a : Nat) (b : Nat) (ha : a < 256) (hb : b < 256) (w : World) :
    Calls Try.prog 12 #[.int .u8 a, .int .u8 b] w fun e w' => e = .returned (.bool true) ∧ Ext w w' := by
  have CF := hide (fields_any' w)
  have la : (Wm.bitL a).length ≤ 8 := Wm.bitL_len (n := 8) (by omega) (by omega)
  have lb : (Wm.bitL b).length ≤ 8 := Wm.bitL_len (n := 8) (by omega) (by omega)
  have lm := Wm.mulL_len 2 (Wm.bitL a) (Wm.bitL b)
  have hmb := Wm.fmul_lt ha hb
  have CA := hide (fun w : World => of_bits a (by omega) w)
  have CB := hide (fun w : World => of_bits b (by omega) w)
  have CD := hide (fun w : World => of_bits 0x11d (by omega) w)
  have CM := hide (fun w : World => of_bits (Wm.fmul a b) (by omega) w)
  have CX := hide (fun w : World => Mul_any a b ha hb w)
  have HL := hide (fun (q r : List Nat) (h : Wm.IsDiv Wm.P2 (Wm.mulL 2 (Wm.bitL a) (Wm.bitL b)) (Wm.bitL 0x11d) q r) => Wm.field_poly ha hb h)
  have pa := hide (Wm.bitL_isP a)
  have pb := hide (Wm.bitL_isP b)
  have pd := hide (Wm.bitL_isP 0x11d)
  have ld1 : (Wm.bitL 0x11d).length ≤ 9 := Nat.le_of_eq bitD_len
  have ld2 : 0 < (Wm.bitL 0x11d).length := by rw [bitD_len]; omega
  have pm := hide (Wm.mulL_isP (p := 2) (by omega) (Wm.bitL a) (Wm.bitL b))
  generalize hm : Wm.fmul a b = m at *
  clear hm
  generalize Wm.bitL a = fa at *
  generalize Wm.bitL b = fb at *
  generalize Wm.bitL 0x11d = fd at *
  go_enter Try.func12, Try.ntmps12
  go_wp2_with fail
  refine (unhide CF).mono ?_
  rintro e w1 ⟨rfl, Fw1⟩
  go_wp2_with fail
  refine (unhide CA _).mono ?_
  rintro e w2 ⟨⟨vN, rfl, MN⟩, EN⟩
  have Fw2 : Ext w1 w2 := Ext.trans (by repeat (first | exact Ext.refl _ | assumption | refine Ext.alloc ?_ _ | refine Ext.drew ?_ | refine Ext.drewN ?_ _ | refine Ext.trans ?_ ‹Ext _ _›)) EN
  obtain ⟨A2, c2, rfl, Q2⟩ := MN.pv
  have BQ2 := MN.blk
  clear MN EN
  go_wp2_with fail
  refine (unhide CB _).mono ?_
  rintro e w3 ⟨⟨vN, rfl, MN⟩, EN⟩
  have Fw3 : Ext w2 w3 := Ext.trans (by repeat (first | exact Ext.refl _ | assumption | refine Ext.alloc ?_ _ | refine Ext.drew ?_ | refine Ext.drewN ?_ _ | refine Ext.trans ?_ ‹Ext _ _›)) EN
  obtain ⟨A3, c3, rfl, Q3⟩ := MN.pv
  have BQ3 := MN.blk
  clear MN EN
  have C1 := hide (fun (W : World) (E : Ext w3 W) => Mul_ok Wm.P2 (by decide) A2 A3 _ c2 _ c3 fa fb W ((Q2.keep (show Ext w2 w3 from (by repeat (first | exact Ext.refl _ | assumption | refine Ext.alloc ?_ _ | refine Ext.drew ?_ | refine Ext.drewN ?_ _ | refine Ext.trans ?_ ‹Ext _ _›)))).keep E) (Q3.keep E) (unhide pa) (by omega) (unhide pb) (by omega) (by show (Wm.mulL 2 fa fb).length ≤ 40; omega))
  rw [show Wm.P2.p = 2 from rfl] at C1
  go_wp2_with fail
  refine (unhide C1 _ (by repeat (first | exact Ext.refl _ | assumption | refine Ext.alloc ?_ _ | refine Ext.drew ?_ | refine Ext.drewN ?_ _ | refine Ext.trans ?_ ‹Ext _ _›))).mono ?_
  rintro e w4 ⟨⟨vN, rfl, MN⟩, EN⟩
  have Fw4 : Ext w3 w4 := Ext.trans (by repeat (first | exact Ext.refl _ | assumption | refine Ext.alloc ?_ _ | refine Ext.drew ?_ | refine Ext.drewN ?_ _ | refine Ext.trans ?_ ‹Ext _ _›)) EN
  obtain ⟨A4, c4, rfl, Q4⟩ := MN.pv
  have BQ4 := MN.blk
  clear MN EN
  go_wp2_with fail
  refine (unhide CD _).mono ?_
  rintro e w5 ⟨⟨vN, rfl, MN⟩, EN⟩
  have Fw5 : Ext w4 w5 := Ext.trans (by repeat (first | exact Ext.refl _ | assumption | refine Ext.alloc ?_ _ | refine Ext.drew ?_ | refine Ext.drewN ?_ _ | refine Ext.trans ?_ ‹Ext _ _›)) EN
  obtain ⟨A5, c5, rfl, Q5⟩ := MN.pv
  have BQ5 := MN.blk
  clear MN EN
  have C2 := hide (fun (W : World) (E : Ext w5 W) => Div_ok Wm.P2 (by decide) A4 A5 _ c4 _ c5 (Wm.mulL 2 fa fb) fd W ((Q4.keep (show Ext w4 w5 from (by repeat (first | exact Ext.refl _ | assumption | refine Ext.alloc ?_ _ | refine Ext.drew ?_ | refine Ext.drewN ?_ _ | refine Ext.trans ?_ ‹Ext _ _›)))).keep E) (Q5.keep E) (unhide pm) (by omega) (unhide pd) (by omega) (by omega))
  rw [show Wm.P2.p = 2 from rfl] at C2
  go_wp2_with fail
  refine (unhide C2 _ (by repeat (first | exact Ext.refl _ | assumption | refine Ext.alloc ?_ _ | refine Ext.drew ?_ | refine Ext.drewN ?_ _ | refine Ext.trans ?_ ‹Ext _ _›))).mono ?_
  rintro e w6 ⟨⟨q, r, vN, uN, hD, rfl, MN, LN, neN⟩, EN⟩
  have Fw6 : Ext w5 w6 := Ext.trans (by repeat (first | exact Ext.refl _ | assumption | refine Ext.alloc ?_ _ | refine Ext.drew ?_ | refine Ext.drewN ?_ _ | refine Ext.trans ?_ ‹Ext _ _›)) EN
  obtain ⟨Aq, cq, rfl, Pq⟩ := MN.pv
  have BPq := MN.blk
  obtain ⟨Ar, cr, rfl, Pr_⟩ := LN.pv
  have BPr_ := LN.blk
  clear MN LN neN EN
  obtain rfl := unhide HL q r hD
  clear hD HL C1 C2 pa pb pd pm
  go_wp2_with (go_at_call 19; refine (good_made' [0, 0] _ _ _ _ _ rfl rfl (by decide) (by simp)).mono ?_; rintro e wg ⟨rfl, rfl⟩)
  refine (unhide CX _).mono ?_
  rintro e wx ⟨rfl, rfl⟩
  go_wp2_with fail
  refine (unhide CM _).mono ?_
  rintro e w7 ⟨⟨vN, rfl, MN⟩, EN⟩
  have Fw7 : Ext w6 w7 := Ext.trans (by repeat (first | exact Ext.refl _ | assumption | refine Ext.alloc ?_ _ | refine Ext.drew ?_ | refine Ext.drewN ?_ _ | refine Ext.trans ?_ ‹Ext _ _›)) EN
  obtain ⟨A7, c7, rfl, Q7⟩ := MN.pv
  have CE := hide (equal_pv Ar A7 _ _ cr c7 _ _ w7 (Pr_.keep (show Ext w6 w7 from (by repeat (first | exact Ext.refl _ | assumption | refine Ext.alloc ?_ _ | refine Ext.drew ?_ | refine Ext.drewN ?_ _ | refine Ext.trans ?_ ‹Ext _ _›)))) Q7)
  rw [decide_eq_true rfl] at CE
  clear MN EN Q7 CM CX
  go_wp2_with fail
  refine (unhide CE).mono ?_
  rintro e w8 ⟨rfl, k8, rfl⟩
  go_wp2
  go_ret
  exact ⟨rfl, (by repeat (first | exact Ext.refl _ | assumption | refine Ext.alloc ?_ _ | refine Ext.drew ?_ | refine Ext.drewN ?_ _ | refine Ext.trans ?_ ‹Ext _ _›))⟩
end Go.Proofs.Ytkfdimofkkckeaa
