/-
  The walk of the law PairBack.
-/
import Derived.Test.YtkcmlcomonfoiaaPairTellsW
import Derived.Test.YtkcmlcomonfoiaaShelfs9
set_option linter.unusedVariables false
set_option linter.unusedSimpArgs false
namespace Go.Proofs.Ytkcmlcomonfoiaa
open Go.RowKit Go.BigFrame

theorem repeat_len (l : List UInt8) : ∀ c, (Lib.repeatL l c).length = l.length * c
  | 0 => by simp [Lib.repeatL]
  | c + 1 => by simp [Lib.repeatL, repeat_len l c, Nat.mul_add]; try omega
theorem repeat_q (m : Nat) (hm : m ≤ 64) (w : World) : Calls Try.prog 24 #[.string { data := #[63] }, .int .i64 (m : Int)] w fun e w' => (∃ s : ByteArray, s.size = m ∧ e = .returned (.string s)) ∧ Ext w w' :=
  (Try.strings_Repeat { data := #[63] } m w (by omega) (by show 1 * m ≤ _; omega)).mono fun e w' h => ⟨⟨_, by show (Lib.repeatL _ m).toArray.size = m; rw [List.size_toArray, repeat_len]; show 1 * m = m; omega, h.1⟩, h.2⟩

set_option maxRecDepth 100000 in
set_option maxHeartbeats 1000000 in
theorem pback_bad (A : Option Addr) (n c : Nat) (L : List ByteArray) (i k : Int) (wi : ByteArray) (w : World)
    (CA : Hid (∀ (w' : World) (E : Ext w w'), Calls Try.prog 19 #[.slice A n c] w' fun e w'' => ((okB L ∧ e = .returned (PutOk L (L.getD 0 ByteArray.empty).size)) ∨ (¬ okB L ∧ ∃ r : Int, r ≠ 0 ∧ e = .returned (.tuple #[.string ByteArray.empty, .string ByteArray.empty, .int .i64 r]))) ∧ Ext w' w''))
    (T0 : Hid (∀ w : World, Calls Try.prog 18 #[] w fun e w' => e = .returned (.bool true) ∧ Ext w w')) (hno : ¬ okB L) :
    Calls Try.prog 8 #[.slice A n c, .int .i64 i, .int .i64 k, .string wi] w fun e w' => e = .returned (.bool true) ∧ Ext w w' := by
  have HNO := hide hno
  clear hno
  have he : ByteArray.empty = { data := #[] } := rfl
  rw [he] at CA
  go_enter Try.func8, Try.ntmps8
  go_wp2_with fail
  refine (unhide T0 _).mono ?_
  rintro e w1 ⟨rfl, E1⟩
  go_wp2_with fail
  refine (unhide CA _ E1).mono ?_
  rintro e w2 ⟨h1, E2⟩
  rcases h1 with ⟨h1, -⟩ | ⟨-, r, hr, rfl⟩
  · exact absurd h1 (unhide HNO)
  have hb : (r != 0) = true := by rw [bne_iff_ne]; exact hr
  clear he
  go_wp2
  go_ret
  exact ⟨rfl, E1.trans E2⟩

set_option maxRecDepth 100000 in
set_option maxHeartbeats 4000000 in
theorem pback_any (A : Option Addr) (n c : Nat) (L : List ByteArray) (i k : Int) (wi : ByteArray) (w : World) (RA : Row w A n 1 (strs L)) (hn : n ≤ 9223372036854775807)
    (hsa : ∀ s ∈ L, (s.size : Int) ≤ 9223372036854775807) :
    Calls Try.prog 8 #[.slice A n c, .int .i64 i, .int .i64 k, .string wi] w fun e w' => e = .returned (.bool true) ∧ Ext w w' := by
  have T0 := hide pairs_any
  have hla := RA.strN
  have CA := hide (fun (w' : World) (E : Ext w w') => Put_any A n c L w' (RA.keep E) hn hsa)
  by_cases oa : okB L
  rotate_left
  · exact pback_bad A n c L i k wi w CA T0 oa
  have hn1 : 1 ≤ n := by have := oa.1; omega
  have hn10 : n ≤ 10 := by have := oa.2.1; omega
  obtain ⟨ba, oA, rfl, hba, hca⟩ := RA.str (k := 0) (by omega)
  rw [Nat.add_zero] at hca
  obtain ⟨m, hm⟩ : ∃ m, m = (L.getD 0 ByteArray.empty).size := ⟨_, rfl⟩
  have hall : ∀ j, j < n → (L.getD j ByteArray.empty).size = m := fun j hj => by
    rw [hm]; exact (oa.2.2 _ (getD_mem L ByteArray.empty (show j < L.length by omega))).2
  have hm64 : m ≤ 64 := by rw [hm]; exact (oa.2.2 _ (getD_mem L ByteArray.empty (show 0 < L.length by omega))).1
  have OA := hide oa
  have CA' := hide (fun (w' : World) (E : Ext w w') => (unhide CA w' E).mono fun e w2 h => (⟨by
    rcases h.1 with ⟨-, h⟩ | ⟨h, -⟩
    · rw [h]
      unfold PutOk
      rw [hla, ← hm]; rfl
    · exact absurd (unhide OA) h, h.2⟩ : e = Ending.returned (.tuple #[.string (PP L n m), .string (QQ L n m), .int .i64 0]) ∧ Ext w' w2))
  have hn0 : (0 : Int) < (n : Int) := by omega
  have hmI : (((L.getD 0 ByteArray.empty).size : Nat) : Int) = (m : Int) := by rw [hm]
  clear CA
  have hnz : ((n : Int) == 0) = false := by rw [beq_eq_false_iff_ne]; omega
  obtain ⟨I, I0, I1, -, CI⟩ := within_ex i (n : Int) (by omega) (by omega)
  obtain ⟨K, K0, K1, -, CK⟩ := within_ex k (n : Int) (by omega) (by omega)
  obtain ⟨I, rfl⟩ := Int.eq_ofNat_of_zero_le I0
  obtain ⟨K, rfl⟩ := Int.eq_ofNat_of_zero_le K0
  have hI : I < n := by omega
  have hK : K < n := by omega
  have CC := hide (fun (w' : World) (E : Ext w w') => clone_str (some ⟨ba, oA, none⟩) n c (strs L) w' (RA.keep E) (strs_one L) (by omega) (fun h => by cases h))
  have CE := hide (fun (B : Option Addr) (d : Nat) (W : World) (R : Row W B n 1 (strs L)) (E : Ext w W) => equal_strs B (some ⟨ba, oA, none⟩) n d c L W R (RA.keep E) (by omega))
  have CR := hide (fun W => repeat_q m hm64 W)
  have HALL := hide hall
  have HLA := hide hla
  have hallI := hall I hI
  have hallK := hall K hK
  have HIS := hide hallI
  have HKS := hide hallK
  have FIN1 := hide (fun (h : I = K) (bad : List ByteArray) (ha : alike L bad [I]) (V V' : World) (e : Ending) (hp : MendPost bad (PP L n m) (QQ L n m) [I] n m V V' e) => post_one hla ha hI hallI hp)
  have FIN2 := hide (fun (h : I ≠ K) (bad : List ByteArray) (ha : alike L bad [I, K]) (V V' : World) (e : Ending) (hp : MendPost bad (PP L n m) (QQ L n m) [I, K] n m V V' e) => post_two hla hn10 ha hI hK h hallI hallK hp)
  clear hla RA hsa OA oa hall hm hallI hallK HIS HKS
  go_enter Try.func8, Try.ntmps8
  go_wp2_with fail
  refine (unhide T0 _).mono ?_
  rintro e w1 ⟨rfl, E1⟩
  go_wp2_with fail
  refine (unhide CA' _ E1).mono ?_
  rintro e w2 ⟨rfl, E2⟩
  have F2 := E1.trans E2
  clear E1 E2 CA' T0
  generalize L.getD 0 ByteArray.empty = s0 at *
  go_wp2_with fail
  refine (unhide CI _).mono ?_
  rintro e w2 ⟨rfl, rfl⟩
  go_wp2_with fail
  refine (unhide CK _).mono ?_
  rintro e w2 ⟨rfl, rfl⟩
  clear CI CK
  have F4 := F2.alloc (.cells #[.int .i64 (I : Int), .int .i64 (K : Int)] 3)
  have CELL0 : (w2.alloc (.cells #[.int .i64 (I : Int), .int .i64 (K : Int)] 3)).cell? ⟨w2.heap.size, 0, none⟩ = some (.int .i64 (I : Int)) := by simp
  have CELL1 : (w2.alloc (.cells #[.int .i64 (I : Int), .int .i64 (K : Int)] 3)).cell? ⟨w2.heap.size, 1, none⟩ = some (.int .i64 (K : Int)) := by simp
  have hgl4 : w2.heap.size < (w2.alloc (.cells #[.int .i64 (I : Int), .int .i64 (K : Int)] 3)).heap.size := by simp
  go_upto_region 8 with fail
  obtain ⟨gl, hgl⟩ : ∃ g, g = w2.heap.size := ⟨_, rfl⟩
  rw [← hgl] at CELL0 CELL1 hgl4 ⊢
  generalize w2.alloc (.cells #[.int .i64 (I : Int), .int .i64 (K : Int)] 3) = w4 at *
  clear hgl F2
  by_cases hIK : I = K
  · have hIKb : ((I : Int) == (K : Int)) = true := by rw [beq_iff_eq]; omega
    have hIKc : (I : Int) = (K : Int) := by omega
    have hx := unhide FIN1 hIK
    have HX1 := hide hx
    clear hx FIN1 FIN2 CELL1
    subst hIK
    have CELL1 : True := trivial
    have HRL : Hid (Row w4 (some ⟨gl, 0, none⟩) 1 1 (ints (li [I]))) := hide ⟨rfl, fun _ => ⟨gl, 0, rfl, hgl4, fun j hj => by
      have hj2 : j < 2 := by omega
      (obtain rfl : j = 0 := by omega); exact CELL0⟩⟩
    have HLX : Hid (∀ t, t < 1 → ([I]).getD t 0 < n ∧ ([I]).getD t 0 ∈ [I]) := hide (fun t ht => by
      (obtain rfl : t = 0 := by omega); exact ⟨hI, List.mem_cons_self⟩)
    have hLL : ([I]).length = 1 := rfl
    have HOL : Hid (okLost [I] n) := hide ⟨Nat.le_succ 1, fun k hk => by (simp at hk); subst hk; exact hI, fun k hk => by simp at hk⟩
    have HPOSTX := hide (fun (bad : List ByteArray) (h : alike L bad [I]) (V V' : World) (e : Ending) (hp : MendPost bad (PP L n m) (QQ L n m) [I] n m V V' e) => unhide HX1 bad h V V' e hp)
    have HLLL := hide hLL
    clear hLL CELL0 CELL1
    generalize hlost : [I] = lost at *
    clear hlost
    go_wp2_with fail
    refine (unhide CC w4 F4).mono ?_
    rintro e w5 ⟨⟨vO, rfl, hown⟩, E5⟩
    have MO := Made.of_own hown
    obtain ⟨gO, cO, rfl, hgO⟩ : ∃ g c, vO = .slice (some ⟨g, 0, none⟩) n c ∧ w4.heap.size ≤ g := by
      rcases MO.2 with ⟨-, h⟩ | ⟨g, c, cur, hv, hg, -⟩
      · omega
      · exact ⟨g, c, hv, hg⟩
    have HM0 := hide MO
    have E50 := And.intro E5 trivial
    clear hown MO CC E5
    go_wp2
    go_loopw [63] (fun i wr => ∃ t : Nat, t ≤ 1 ∧ i = .int .i64 t ∧ ∃ bad : List ByteArray, Hid (alike L bad lost ∧ ∀ j, j < n → (bad.getD j ByteArray.empty).size = m) ∧
      Hid (Made wr w4.heap.size 9 1 (.slice (some ⟨gO, 0, none⟩) n cO) n (strs bad)) ∧ (Ext w4 wr ∧ True)) (fun i _ => 1 - (intOf i).toNat)
    case atStart => exact ⟨0, Nat.zero_le _, rfl, L, hide ⟨⟨rfl, fun _ _ => rfl⟩, unhide HALL⟩, HM0, (by repeat (first | exact E50.1 | refine Ext.alloc ?_ _ | refine Ext.drew ?_ | refine Ext.drewN ?_ _ | (refine Ext.trans ?_ (plus_ext _ _)) | (refine Ext.setCell ?_ (by have := Ext.size E50.1; simp; omega) _))), trivial⟩
    case round =>
      clear HM0 E50
      obtain ⟨t, ht, rfl, bad, HB, HM, hE⟩ := hrel
      by_cases hlt : t < 1
      · obtain ⟨bl, ol, el, hbl, hcl⟩ := ((unhide HRL).keep hE.1).int (k := t) hlt
        injection el with el
        injection el with el1 el2
        subst el1; subst el2
        rw [Nat.zero_add, li_get _ (by rw [unhide HLLL]; exact hlt)] at hcl
        obtain ⟨hxn, hxm⟩ := unhide HLX t hlt
        have HXM := hide hxm
        clear hxm hbl
        generalize lost.getD t 0 = x at *
        have hc0 := hE.1.keep (F4.keep hca)
        have CRw := hide (unhide CR wr)
        have hxI : (x : Int) < (n : Int) := by omega
        have hx0 : (0 : Int) ≤ (x : Int) := by omega
        have htI : (t : Int) < (1 : Int) := by omega
        have ht0 : (0 : Int) ≤ (t : Int) := by omega
        go_wp2_with fail
        refine (unhide CRw).mono ?_
        rintro e w6 ⟨⟨s, hs, rfl⟩, E6⟩
        have M6 := (unhide HM).keep E6
        have hcx := M6.cell hxn
        have hfx := M6.frozen x
        have hc06 := E6.keep hc0
        have M7 := M6.set (j := x) (by omega) (.string s)
        have F7 := (hE.1.trans E6).setCell (p := ⟨gO, x, none⟩) hgO (.string s)
        have hc07 := F7.keep (F4.keep hca)
        rw [strs_setP] at M7
        have hcx7 := M7.cell hxn
        have hfx7 := M7.frozen x
        have M8 := M7.set (j := x) (by omega) (.string wi)
        have F8 := F7.setCell (p := ⟨gO, x, none⟩) hgO (.string wi)
        rw [strs_setP] at M8
        have next : ∀ (bad : List ByteArray) (u : ByteArray) (_ : alike L bad lost ∧ ∀ j, j < n → (bad.getD j ByteArray.empty).size = m) (_ : u.size = m), alike L (bad.set x u) lost ∧ ∀ j, j < n → ((bad.set x u).getD j ByteArray.empty).size = m := fun bad u hb hu => by
          have hlb : x < bad.length := by rw [hb.1.1, unhide HLA]; exact hxn
          refine ⟨⟨by rw [List.length_set]; exact hb.1.1, fun j hj => ?_⟩, fun j hj => ?_⟩
          · rw [set_getD bad u hlb, if_neg (fun e => hj (by rw [e]; exact unhide HXM))]
            exact hb.1.2 j hj
          · rw [set_getD bad u hlb]
            split
            · exact hu
            · exact hb.2 j hj
        have HB7 := hide (next bad s (unhide HB) hs)
        have HM7 := hide M7
        have HM8 := hide M8
        have E7 := And.intro F7 trivial
        have E8 := And.intro F8 trivial
        have NX := hide next
        clear next M6 M7 M8 HB HM HXM HLX CRw hs F7 F8 hcl hc0
        by_cases hwi : wi.size = m
        · have HB8 := hide (unhide NX _ wi (unhide HB7) hwi)
          have hwI : (wi.size : Int) = (m : Int) := by omega
          clear NX HB7 HM7 E7 hwi
          generalize (strs (bad.set x s)).getD x undef = old at *
          go_wp2
          go_roundw
          case rel => exact ⟨t + 1, by omega, by go_num, (bad.set x s).set x wi, HB8, HM8, (by repeat (first | exact E8.1 | refine Ext.alloc ?_ _ | refine Ext.drew ?_ | refine Ext.drewN ?_ _ | (refine Ext.trans ?_ (plus_ext _ _)) | (refine Ext.setCell ?_ (by have := Ext.size E8.1; simp; omega) _))), trivial⟩
          case measure => simp [intOf]; omega
        · have hwI : ((wi.size : Int) == (m : Int)) = false := by rw [beq_eq_false_iff_ne]; omega
          have hwJ : ¬ (wi.size : Int) = (m : Int) := by omega
          clear NX HM8 E8 hwi hcx7 hfx7
          go_wp2
          go_roundw
          case rel => exact ⟨t + 1, by omega, by go_num, bad.set x s, HB7, HM7, (by repeat (first | exact E7.1 | refine Ext.alloc ?_ _ | refine Ext.drew ?_ | refine Ext.drewN ?_ _ | (refine Ext.trans ?_ (plus_ext _ _)) | (refine Ext.setCell ?_ (by have := Ext.size E7.1; simp; omega) _))), trivial⟩
          case measure => simp [intOf]; omega
      · obtain rfl : t = 1 := by omega
        obtain ⟨A7, c7, hv7, hrow7, -⟩ := (unhide HM).open_
        injection hv7 with hv7 hn7 hc7
        subst hv7
        subst hc7
        clear hn7
        obtain ⟨okb, hbm⟩ := okB_of bad n m (by rw [(unhide HB).1.1]; exact unhide HLA) hn1 hn10 hm64 (unhide HB).2
        have CMA := hide ((Mend_ok (some ⟨gO, 0, none⟩) n cO m bad (PP L n m) (QQ L n m) (some ⟨gl, 0, none⟩) 1 2 lost wr hrow7 ((unhide HRL).keep hE.1) okb hn10 hbm (PP_size L n m) (QQ_size L n m) (unhide HOL)).mono fun e w2 h => (⟨unhide HPOSTX bad (unhide HB).1 _ _ e h.1, h.2⟩ : (∃ A, e = Ending.returned (.tuple #[.slice A n n, .int .i64 0]) ∧ Row w2 A n 1 (strs L)) ∧ Ext wr w2))
        have F9 := F4.trans hE.1
        clear HPOSTX HRL HLX HOL HM HB okb hbm hrow7 hE CR
        go_wp2_with fail
        refine (unhide CMA).mono ?_
        rintro e w9 ⟨⟨A9, rfl, R9⟩, E9⟩
        have F10 := F9.trans E9
        have CE9 := hide (unhide CE A9 n w9 R9 F10)
        clear CE CMA F9 E9 R9
        go_wp2_with fail
        refine (unhide CE9).mono ?_
        rintro e w10 ⟨rfl, q, rfl⟩
        go_wp2
        go_ret
        exact ⟨rfl, F10.drewN q⟩

  · have hIKb : ((I : Int) == (K : Int)) = false := by rw [beq_eq_false_iff_ne]; omega
    have hIKc : ¬ (I : Int) = (K : Int) := by omega
    have hx := unhide FIN2 hIK
    have HX1 := hide hx
    have HNE := hide hIK
    clear hx FIN1 FIN2 hIK
    have HRL : Hid (Row w4 (some ⟨gl, 0, none⟩) 2 1 (ints (li [I,K]))) := hide ⟨rfl, fun _ => ⟨gl, 0, rfl, hgl4, fun j hj => by
      have hj2 : j < 2 := by omega
      (rcases (show j = 0 ∨ j = 1 by omega) with rfl | rfl); (exact CELL0); (exact CELL1)⟩⟩
    have HLX : Hid (∀ t, t < 2 → ([I,K]).getD t 0 < n ∧ ([I,K]).getD t 0 ∈ [I,K]) := hide (fun t ht => by
      (rcases (show t = 0 ∨ t = 1 by omega) with rfl | rfl); (exact ⟨hI, List.mem_cons_self⟩); (exact ⟨hK, List.mem_cons_of_mem _ List.mem_cons_self⟩))
    have hLL : ([I,K]).length = 2 := rfl
    have HOL : Hid (okLost [I,K] n) := hide ⟨Nat.le_refl 2, (fun k hk => by (have h2 : k = 0 ∨ k = 1 := by (simp at hk; omega)); (rcases h2 with rfl | rfl); (exact hI); (exact hK)), (fun k hk => by (obtain rfl : k = 0 := by (simp at hk; omega)); (exact fun e => unhide HNE e.symm))⟩
    have HPOSTX := hide (fun (bad : List ByteArray) (h : alike L bad [I,K]) (V V' : World) (e : Ending) (hp : MendPost bad (PP L n m) (QQ L n m) [I,K] n m V V' e) => unhide HX1 bad h V V' e hp)
    have HLLL := hide hLL
    clear hLL CELL0 CELL1
    generalize hlost : [I,K] = lost at *
    clear hlost
    go_wp2_with fail
    refine (unhide CC w4 F4).mono ?_
    rintro e w5 ⟨⟨vO, rfl, hown⟩, E5⟩
    have MO := Made.of_own hown
    obtain ⟨gO, cO, rfl, hgO⟩ : ∃ g c, vO = .slice (some ⟨g, 0, none⟩) n c ∧ w4.heap.size ≤ g := by
      rcases MO.2 with ⟨-, h⟩ | ⟨g, c, cur, hv, hg, -⟩
      · omega
      · exact ⟨g, c, hv, hg⟩
    have HM0 := hide MO
    have E50 := And.intro E5 trivial
    clear hown MO CC E5
    go_wp2
    go_loopw [63] (fun i wr => ∃ t : Nat, t ≤ 2 ∧ i = .int .i64 t ∧ ∃ bad : List ByteArray, Hid (alike L bad lost ∧ ∀ j, j < n → (bad.getD j ByteArray.empty).size = m) ∧
      Hid (Made wr w4.heap.size 9 1 (.slice (some ⟨gO, 0, none⟩) n cO) n (strs bad)) ∧ (Ext w4 wr ∧ True)) (fun i _ => 2 - (intOf i).toNat)
    case atStart => exact ⟨0, Nat.zero_le _, rfl, L, hide ⟨⟨rfl, fun _ _ => rfl⟩, unhide HALL⟩, HM0, (by repeat (first | exact E50.1 | refine Ext.alloc ?_ _ | refine Ext.drew ?_ | refine Ext.drewN ?_ _ | (refine Ext.trans ?_ (plus_ext _ _)) | (refine Ext.setCell ?_ (by have := Ext.size E50.1; simp; omega) _))), trivial⟩
    case round =>
      clear HM0 E50
      obtain ⟨t, ht, rfl, bad, HB, HM, hE⟩ := hrel
      by_cases hlt : t < 2
      · obtain ⟨bl, ol, el, hbl, hcl⟩ := ((unhide HRL).keep hE.1).int (k := t) hlt
        injection el with el
        injection el with el1 el2
        subst el1; subst el2
        rw [Nat.zero_add, li_get _ (by rw [unhide HLLL]; exact hlt)] at hcl
        obtain ⟨hxn, hxm⟩ := unhide HLX t hlt
        have HXM := hide hxm
        clear hxm hbl
        generalize lost.getD t 0 = x at *
        have hc0 := hE.1.keep (F4.keep hca)
        have CRw := hide (unhide CR wr)
        have hxI : (x : Int) < (n : Int) := by omega
        have hx0 : (0 : Int) ≤ (x : Int) := by omega
        have htI : (t : Int) < (2 : Int) := by omega
        have ht0 : (0 : Int) ≤ (t : Int) := by omega
        go_wp2_with fail
        refine (unhide CRw).mono ?_
        rintro e w6 ⟨⟨s, hs, rfl⟩, E6⟩
        have M6 := (unhide HM).keep E6
        have hcx := M6.cell hxn
        have hfx := M6.frozen x
        have hc06 := E6.keep hc0
        have M7 := M6.set (j := x) (by omega) (.string s)
        have F7 := (hE.1.trans E6).setCell (p := ⟨gO, x, none⟩) hgO (.string s)
        have hc07 := F7.keep (F4.keep hca)
        rw [strs_setP] at M7
        have hcx7 := M7.cell hxn
        have hfx7 := M7.frozen x
        have M8 := M7.set (j := x) (by omega) (.string wi)
        have F8 := F7.setCell (p := ⟨gO, x, none⟩) hgO (.string wi)
        rw [strs_setP] at M8
        have next : ∀ (bad : List ByteArray) (u : ByteArray) (_ : alike L bad lost ∧ ∀ j, j < n → (bad.getD j ByteArray.empty).size = m) (_ : u.size = m), alike L (bad.set x u) lost ∧ ∀ j, j < n → ((bad.set x u).getD j ByteArray.empty).size = m := fun bad u hb hu => by
          have hlb : x < bad.length := by rw [hb.1.1, unhide HLA]; exact hxn
          refine ⟨⟨by rw [List.length_set]; exact hb.1.1, fun j hj => ?_⟩, fun j hj => ?_⟩
          · rw [set_getD bad u hlb, if_neg (fun e => hj (by rw [e]; exact unhide HXM))]
            exact hb.1.2 j hj
          · rw [set_getD bad u hlb]
            split
            · exact hu
            · exact hb.2 j hj
        have HB7 := hide (next bad s (unhide HB) hs)
        have HM7 := hide M7
        have HM8 := hide M8
        have E7 := And.intro F7 trivial
        have E8 := And.intro F8 trivial
        have NX := hide next
        clear next M6 M7 M8 HB HM HXM HLX CRw hs F7 F8 hcl hc0
        by_cases hwi : wi.size = m
        · have HB8 := hide (unhide NX _ wi (unhide HB7) hwi)
          have hwI : (wi.size : Int) = (m : Int) := by omega
          clear NX HB7 HM7 E7 hwi
          generalize (strs (bad.set x s)).getD x undef = old at *
          go_wp2
          go_roundw
          case rel => exact ⟨t + 1, by omega, by go_num, (bad.set x s).set x wi, HB8, HM8, (by repeat (first | exact E8.1 | refine Ext.alloc ?_ _ | refine Ext.drew ?_ | refine Ext.drewN ?_ _ | (refine Ext.trans ?_ (plus_ext _ _)) | (refine Ext.setCell ?_ (by have := Ext.size E8.1; simp; omega) _))), trivial⟩
          case measure => simp [intOf]; omega
        · have hwI : ((wi.size : Int) == (m : Int)) = false := by rw [beq_eq_false_iff_ne]; omega
          have hwJ : ¬ (wi.size : Int) = (m : Int) := by omega
          clear NX HM8 E8 hwi hcx7 hfx7
          go_wp2
          go_roundw
          case rel => exact ⟨t + 1, by omega, by go_num, bad.set x s, HB7, HM7, (by repeat (first | exact E7.1 | refine Ext.alloc ?_ _ | refine Ext.drew ?_ | refine Ext.drewN ?_ _ | (refine Ext.trans ?_ (plus_ext _ _)) | (refine Ext.setCell ?_ (by have := Ext.size E7.1; simp; omega) _))), trivial⟩
          case measure => simp [intOf]; omega
      · obtain rfl : t = 2 := by omega
        obtain ⟨A7, c7, hv7, hrow7, -⟩ := (unhide HM).open_
        injection hv7 with hv7 hn7 hc7
        subst hv7
        subst hc7
        clear hn7
        obtain ⟨okb, hbm⟩ := okB_of bad n m (by rw [(unhide HB).1.1]; exact unhide HLA) hn1 hn10 hm64 (unhide HB).2
        have CMA := hide ((Mend_ok (some ⟨gO, 0, none⟩) n cO m bad (PP L n m) (QQ L n m) (some ⟨gl, 0, none⟩) 2 2 lost wr hrow7 ((unhide HRL).keep hE.1) okb hn10 hbm (PP_size L n m) (QQ_size L n m) (unhide HOL)).mono fun e w2 h => (⟨unhide HPOSTX bad (unhide HB).1 _ _ e h.1, h.2⟩ : (∃ A, e = Ending.returned (.tuple #[.slice A n n, .int .i64 0]) ∧ Row w2 A n 1 (strs L)) ∧ Ext wr w2))
        have F9 := F4.trans hE.1
        clear HPOSTX HRL HLX HOL HM HB okb hbm hrow7 hE CR
        go_wp2_with fail
        refine (unhide CMA).mono ?_
        rintro e w9 ⟨⟨A9, rfl, R9⟩, E9⟩
        have F10 := F9.trans E9
        have CE9 := hide (unhide CE A9 n w9 R9 F10)
        clear CE CMA F9 E9 R9
        go_wp2_with fail
        refine (unhide CE9).mono ?_
        rintro e w10 ⟨rfl, q, rfl⟩
        go_wp2
        go_ret
        exact ⟨rfl, F10.drewN q⟩


theorem pback_law (A : Option Addr) (n c : Nat) (L : List ByteArray) (i k : Int) (wi : ByteArray) (_ : (wi.size : Int) ≤ 140737488351232) (w : World) (hA : SliceIn w A n c 1 16 (strs L)) (hsa : ∀ s ∈ L, (s.size : Int) ≤ 9223372036854775807) :
    Calls Try.prog 8 #[.slice A n c, .int .i64 i, .int .i64 k, .string wi] w fun e w' => e = .returned (.bool true) ∧ Ext w w' :=
  pback_any A n c L i k wi w hA.1 (Nat.le_trans hA.2.1 hA.2.2.2.1) hsa
end Go.Proofs.Ytkcmlcomonfoiaa
