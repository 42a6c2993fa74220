/-
  The walk of the law PairTells.
-/
import Derived.Test.YtkcmlcomonfoiaaPair6
set_option linter.unusedVariables false
set_option linter.unusedSimpArgs false
namespace Go.Proofs.Ytkcmlcomonfoiaa
open Go.RowKit Go.BigFrame

theorem okB_of (bad : List ByteArray) (n m : Nat) (hl : bad.length = n) (h1 : 1 ≤ n) (h2 : n ≤ 10) (hm : m ≤ 64) (h : ∀ j, j < n → (bad.getD j ByteArray.empty).size = m) : okB bad ∧ (bad.getD 0 ByteArray.empty).size = m := by
  have h0 := h 0 (by omega)
  refine ⟨⟨by omega, by omega, fun s hs => ?_⟩, h0⟩
  obtain ⟨j, hj, rfl⟩ := List.mem_iff_getElem.1 hs
  have := h j (by omega)
  rw [List.getD_eq_getElem?_getD, List.getElem?_eq_getElem hj] at this
  rw [h0]
  have h3 : bad[j].size = m := this
  omega
theorem set_getD (L : List ByteArray) (s : ByteArray) {i : Nat} (hi : i < L.length) (j : Nat) : (L.set i s).getD j ByteArray.empty = if j = i then s else L.getD j ByteArray.empty := by
  by_cases h : j = i
  · subst h
    rw [if_pos rfl, List.getD_eq_getElem?_getD, List.getElem?_set_self hi]; rfl
  · rw [if_neg h, List.getD_eq_getElem?_getD, List.getElem?_set_ne (fun e => h e.symm), ← List.getD_eq_getElem?_getD]
theorem nats_setP (K : IntKind) (l : List Nat) (j x : Nat) : (nats K l).set j (.int K (x : Int)) = nats K (l.set j x) := by
  unfold nats
  rw [List.map_set]
theorem strs_setP (l : List ByteArray) (j : Nat) (x : ByteArray) : (strs l).set j (.string x) = strs (l.set j x) := by
  unfold strs
  rw [List.map_set]
/-- A string, one byte of which is turned. -/
def turnS (s : ByteArray) (t b : Nat) : ByteArray := strN (((List.range s.size).map fun k => byt s k).set t (byt s t ^^^ b))
theorem turnS_size (s : ByteArray) (t b : Nat) : (turnS s t b).size = s.size := by rw [turnS, strN_size]; simp
theorem turnS_byt (s : ByteArray) {t b : Nat} (ht : t < s.size) (hb : b < 256) : byt (turnS s t b) t = byt s t ^^^ b := by
  unfold turnS
  rw [strN_byt _ (fun x hx => by
    rcases List.mem_or_eq_of_mem_set hx with h | h
    · obtain ⟨j, -, rfl⟩ := List.mem_map.1 h; exact byt_lt _ _
    · rw [h]; exact Wm.xor_lt (byt_lt _ _) hb) (by simpa using ht)]
  rw [List.getD_eq_getElem?_getD, List.getElem?_set_self (by simpa using ht)]; rfl
theorem turnS_ne (s : ByteArray) {t b : Nat} (ht : t < s.size) (hb : b < 256) (h0 : b ≠ 0) : byt (turnS s t b) t ≠ byt s t := fun e => by
  rw [turnS_byt s ht hb] at e
  have h1 : byt s t ^^^ (byt s t ^^^ b) = byt s t ^^^ byt s t := by rw [e]
  rw [← Nat.xor_assoc, Nat.xor_self, Nat.zero_xor] at h1
  exact h0 h1

set_option maxRecDepth 100000 in
set_option maxHeartbeats 1000000 in
theorem ptells_bad (A : Option Addr) (n c : Nat) (L : List ByteArray) (i k t b : Int) (w : World)
    (CA : Hid (∀ (w' : World) (E : Ext w w'), Calls Try.prog 19 #[.slice A n c] w' fun e w'' => ((okB L ∧ e = .returned (PutOk L (L.getD 0 ByteArray.empty).size)) ∨ (¬ okB L ∧ ∃ r : Int, r ≠ 0 ∧ e = .returned (.tuple #[.string ByteArray.empty, .string ByteArray.empty, .int .i64 r]))) ∧ Ext w' w''))
    (T0 : Hid (∀ w : World, Calls Try.prog 18 #[] w fun e w' => e = .returned (.bool true) ∧ Ext w w')) (hno : ¬ okB L) :
    Calls Try.prog 7 #[.slice A n c, .int .i64 i, .int .i64 k, .int .i64 t, .int .u8 b] w fun e w' => e = .returned (.bool true) ∧ Ext w w' := by
  have HNO := hide hno
  clear hno
  go_enter Try.func7, Try.ntmps7
  go_wp2_with fail
  refine (unhide T0 _).mono ?_
  rintro e w1 ⟨rfl, E1⟩
  go_wp2_with fail
  refine (unhide CA _ E1).mono ?_
  rintro e w2 ⟨h1, E2⟩
  rcases h1 with ⟨h1, -⟩ | ⟨-, r, hr, rfl⟩
  · exact absurd h1 (unhide HNO)
  have hb : (r != 0) = true := by rw [bne_iff_ne]; exact hr
  go_wp2
  go_ret
  exact ⟨rfl, E1.trans E2⟩

set_option maxRecDepth 100000 in
set_option maxHeartbeats 20000000 in
theorem ptells_any (A : Option Addr) (n c : Nat) (L : List ByteArray) (i k t : Int) (b : Nat) (hb : b < 256) (w : World) (RA : Row w A n 1 (strs L)) (hn : n ≤ 9223372036854775807)
    (hsa : ∀ s ∈ L, (s.size : Int) ≤ 9223372036854775807) :
    Calls Try.prog 7 #[.slice A n c, .int .i64 i, .int .i64 k, .int .i64 t, .int .u8 (b : Int)] w fun e w' => e = .returned (.bool true) ∧ Ext w w' := by
  have T0 := hide pairs_any
  have hla := RA.strN
  have CA := hide (fun (w' : World) (E : Ext w w') => Put_any A n c L w' (RA.keep E) hn hsa)
  by_cases oa : okB L
  rotate_left
  · exact ptells_bad A n c L i k t b w CA T0 oa
  have hn1 : 1 ≤ n := by have := oa.1; omega
  have hn10 : n ≤ 10 := by have := oa.2.1; omega
  obtain ⟨ba, oA, rfl, hba, hca⟩ := RA.str (k := 0) (by omega)
  rw [Nat.add_zero] at hca
  obtain ⟨m, hm⟩ : ∃ m, m = (L.getD 0 ByteArray.empty).size := ⟨_, rfl⟩
  have hall : ∀ j, j < n → (L.getD j ByteArray.empty).size = m := fun j hj => by
    rw [hm]; exact (oa.2.2 _ (getD_mem L ByteArray.empty (show j < L.length by omega))).2
  have hm64 : m ≤ 64 := by rw [hm]; exact (oa.2.2 _ (getD_mem L ByteArray.empty (show 0 < L.length by omega))).1
  have OA := hide oa
  have CA' := hide (fun (w' : World) (E : Ext w w') => (unhide CA w' E).mono fun e w2 h => (⟨by
    rcases h.1 with ⟨-, h⟩ | ⟨h, -⟩
    · rw [h]
      unfold PutOk
      rw [hla, ← hm]; rfl
    · exact absurd (unhide OA) h, h.2⟩ : e = Ending.returned (.tuple #[.string (PP L n m), .string (QQ L n m), .int .i64 0]) ∧ Ext w' w2))
  have hn0 : (0 : Int) < (n : Int) := by omega
  have hmI : (((L.getD 0 ByteArray.empty).size : Nat) : Int) = (m : Int) := by rw [hm]
  clear CA
  by_cases hn2 : (n : Int) < 2
  · clear hla RA hsa OA oa hall hm hm64 hb hn1 hn10
    generalize L.getD 0 ByteArray.empty = s0 at *
    generalize PP L n m = p at *
    generalize QQ L n m = q at *
    go_enter Try.func7, Try.ntmps7
    go_wp2_with fail
    refine (unhide T0 _).mono ?_
    rintro e w1 ⟨rfl, E1⟩
    go_wp2_with fail
    refine (unhide CA' _ E1).mono ?_
    rintro e w2 ⟨rfl, E2⟩
    go_wp2
    go_ret
    exact ⟨rfl, E1.trans E2⟩
  by_cases hm0 : m = 0
  · have hmz : (m : Int) = 0 := by omega
    clear hla RA hsa OA oa hall hm hm64 hb hn1 hn10 hm0
    generalize L.getD 0 ByteArray.empty = s0 at *
    generalize PP L n m = p at *
    generalize QQ L n m = q at *
    go_enter Try.func7, Try.ntmps7
    go_wp2_with fail
    refine (unhide T0 _).mono ?_
    rintro e w1 ⟨rfl, E1⟩
    go_wp2_with fail
    refine (unhide CA' _ E1).mono ?_
    rintro e w2 ⟨rfl, E2⟩
    have hca := (E1.trans E2).keep hca
    go_wp2
    go_ret
    exact ⟨rfl, E1.trans E2⟩
  have hmz : ((m : Int) == 0) = false := by rw [beq_eq_false_iff_ne]; omega
  have hmz2 : ¬ (m : Int) = 0 := by omega
  by_cases hb0 : b = 0
  · subst hb0
    clear hla RA hsa OA oa hall hm hm64 hb hn1 hn10 hm0
    generalize L.getD 0 ByteArray.empty = s0 at *
    generalize PP L n m = p at *
    generalize QQ L n m = q at *
    go_enter Try.func7, Try.ntmps7
    go_wp2_with fail
    refine (unhide T0 _).mono ?_
    rintro e w1 ⟨rfl, E1⟩
    go_wp2_with fail
    refine (unhide CA' _ E1).mono ?_
    rintro e w2 ⟨rfl, E2⟩
    have hca := (E1.trans E2).keep hca
    go_wp2
    go_ret
    exact ⟨rfl, E1.trans E2⟩
  have hbz : ((b : Int) == 0) = false := by rw [beq_eq_false_iff_ne]; omega
  have hbz2 : ¬ (b : Int) = 0 := by omega
  obtain ⟨I, I0, I1, -, CI⟩ := within_ex i (n : Int) (by omega) (by omega)
  obtain ⟨K, K0, K1, -, CK⟩ := within_ex k (n : Int) (by omega) (by omega)
  obtain ⟨T, T1, T2, -, CT⟩ := within_ex t (m : Int) (by omega) (by omega)
  obtain ⟨I, rfl⟩ := Int.eq_ofNat_of_zero_le I0
  obtain ⟨K, rfl⟩ := Int.eq_ofNat_of_zero_le K0
  obtain ⟨T, rfl⟩ := Int.eq_ofNat_of_zero_le T1
  have hI : I < n := by omega
  have hK : K < n := by omega
  have hT : T < m := by omega
  have CC := hide (fun (w' : World) (E : Ext w w') => clone_str (some ⟨ba, oA, none⟩) n c (strs L) w' (RA.keep E) (strs_one L) (by omega) (fun h => by cases h))
  obtain ⟨s, hs⟩ : ∃ s, s = L.getD I ByteArray.empty := ⟨_, rfl⟩
  have hsz : s.size = m := by rw [hs]; exact hall I hI
  obtain ⟨bad, hbad⟩ : ∃ bad, bad = L.set I (turnS s T b) := ⟨_, rfl⟩
  have hbl : bad.length = n := by rw [hbad, List.length_set, hla]
  have hbI : bad.getD I ByteArray.empty = turnS s T b := by rw [hbad, set_getD L _ (by omega), if_pos rfl]
  have halike : alike L bad [I] := ⟨by rw [hbl, hla], fun j hj => by
    rw [hbad, set_getD L _ (by omega), if_neg (by simpa using hj)]⟩
  obtain ⟨okb, hbm⟩ := okB_of bad n m hbl hn1 hn10 hm64 (fun j hj => by
    rw [hbad, set_getD L _ (by omega)]
    split
    · rw [turnS_size, hsz]
    · exact hall j hj)
  have hdif : byt (bad.getD I ByteArray.empty) T ≠ byt (L.getD I ByteArray.empty) T := by
    rw [hbI, ← hs]; exact turnS_ne s (by omega) hb hb0
  have CM0 := hide (fun (g cO : Nat) (W : World) (R : Row W (some ⟨g, 0, none⟩) n 1 (strs bad)) => (Mend_ok (some ⟨g, 0, none⟩) n cO m bad (PP L n m) (QQ L n m) none 0 0 [] W R (⟨rfl, fun h => absurd h (by omega)⟩) okb hn10 hbm (PP_size L n m) (QQ_size L n m)
    ⟨by decide, fun k hk => by simp at hk, fun k hk => by simp at hk⟩).mono fun e w2 h => (⟨post_none halike hI hT hdif h.1, h.2⟩ : e = Ending.returned (.tuple #[.slice none 0 0, .int .i64 8]) ∧ Ext W w2))
  have CM1 := hide (fun (h : I = K) (g cO : Nat) (V : World) (R : Row V (some ⟨g, 0, none⟩) n 1 (strs bad)) => (Mend_ok (some ⟨g, 0, none⟩) n cO m bad (PP L n m) (QQ L n m) (some ⟨V.heap.size, 0, none⟩) 1 1 [I] (V.alloc (.cells #[.int .i64 (I : Int)] 3)) (R.keep ((Ext.refl V).alloc _)) (row_new V _ _ 1 1 rfl) okb hn10 hbm (PP_size L n m) (QQ_size L n m)
    ⟨Nat.le_succ 1, fun k hk => by (simp at hk); subst hk; exact hI, fun k hk => by simp at hk⟩).mono fun e w2 h => (⟨post_one hla halike hI (by rw [← hs]; exact hsz) h.1, h.2⟩ : (∃ A, e = Ending.returned (.tuple #[.slice A n n, .int .i64 0]) ∧ Row w2 A n 1 (strs L)) ∧ Ext (V.alloc (.cells #[.int .i64 (I : Int)] 3)) w2))
  have CM2 := hide (fun (h : I ≠ K) (g cO : Nat) (V : World) (R : Row V (some ⟨g, 0, none⟩) n 1 (strs bad)) => (Mend_ok (some ⟨g, 0, none⟩) n cO m bad (PP L n m) (QQ L n m) (some ⟨V.heap.size, 0, none⟩) 1 1 [K] (V.alloc (.cells #[.int .i64 (K : Int)] 3)) (R.keep ((Ext.refl V).alloc _)) (row_new V _ _ 1 1 rfl) okb hn10 hbm (PP_size L n m) (QQ_size L n m)
    ⟨Nat.le_succ 1, fun k hk => by (simp at hk); subst hk; exact hK, fun k hk => by simp at hk⟩).mono fun e w2 h2 => (⟨post_other halike hn10 hI hK h hT hdif h2.1, h2.2⟩ : e = Ending.returned (.tuple #[.slice none 0 0, .int .i64 8]) ∧ Ext (V.alloc (.cells #[.int .i64 (K : Int)] 3)) w2))
  have CE := hide (fun (B : Option Addr) (d : Nat) (W : World) (R : Row W B n 1 (strs L)) (E : Ext w W) => equal_strs B (some ⟨ba, oA, none⟩) n d c L W R (RA.keep E) (by omega))
  have hxT := u8_xor_nat (byt s T) b (byt_lt _ _) hb
  have hgs : (strs L).getD I undef = .string s := by
    rw [hs]; unfold strs; rw [List.getD_eq_getElem?_getD, List.getElem?_map, List.getD_eq_getElem?_getD, List.getElem?_eq_getElem (by omega)]; rfl
  have HGS := hide hgs
  have hln : ((List.range s.size).map fun k => byt s k).length = m := by simp [hsz]
  have hgt : ((List.range s.size).map fun k => byt s k).getD T 0 = byt s T := mapr_get _ (by omega)
  have htS : turnS s T b = strN (((List.range s.size).map fun k => byt s k).set T (byt s T ^^^ b)) := rfl
  rw [htS] at hbad
  have BO := hide (fun W => bytes_of W s)
  generalize (List.range s.size).map (fun k => byt s k) = row at *
  have HBAD := hide hbad
  have HLN := hide hln
  have HGT := hide hgt
  have hTI : (T : Int) < (m : Int) := by omega
  have hT0 : (0 : Int) ≤ (T : Int) := by omega
  have hI0 : (0 : Int) ≤ (I : Int) := by omega
  have hsI : (s.size : Int) = (m : Int) := by rw [hsz]
  clear hla RA hsa OA oa hall hm hb hm0 hb0 hbad hbI halike okb hbm hdif hs hgs hln hgt htS hbl T2 T1
  go_enter Try.func7, Try.ntmps7
  go_wp2_with fail
  refine (unhide T0 _).mono ?_
  rintro e w1 ⟨rfl, E1⟩
  go_wp2_with fail
  refine (unhide CA' _ E1).mono ?_
  rintro e w2 ⟨rfl, E2⟩
  have F2 := E1.trans E2
  have hca := F2.keep hca
  clear E1 E2 CA' T0
  generalize L.getD 0 ByteArray.empty = s0 at *
  go_upto_region 6 with fail
  go_quiet (first | (go_at_call 15; with_reducible exact Calls.quiet_of_same (unhide CI _)) | (go_at_call 15; with_reducible exact Calls.quiet_of_same (unhide CK _)) | (go_at_call 15; with_reducible exact Calls.quiet_of_same (unhide CT _)))
  have F3 := F2.drewN nq
  generalize w2.drewN nq = w3 at *
  clear F2 hca CI CK CT
  go_wp2_with fail
  refine (unhide CC w3 F3).mono ?_
  rintro e w4 ⟨⟨vO, rfl, hown⟩, E4⟩
  have MO := Made.of_own hown
  obtain ⟨gO, cO, rfl, hgO⟩ : ∃ g c, vO = .slice (some ⟨g, 0, none⟩) n c ∧ w3.heap.size ≤ g := by
    rcases MO.2 with ⟨-, h⟩ | ⟨g, c, cur, hv, hg, -⟩
    · omega
    · exact ⟨g, c, hv, hg⟩
  have hcI := MO.cell hI
  rw [unhide HGS] at hcI
  have hgO4 := (MO.lt gO rfl).2
  obtain ⟨cb, w5, hcv, E5, hsc, B5⟩ := unhide BO w4
  obtain ⟨gB, hgB⟩ : ∃ g, g = w4.heap.size := ⟨_, rfl⟩
  rw [← hgB] at hcv B5
  have hGB : gO < gB := by omega
  have hwB := Ext.size E4
  have hwB3 := Ext.size F3
  have hgBw : w.heap.size ≤ gB := by omega
  have hgOw : w.heap.size ≤ gO := by omega
  have M5 := MO.keep E5
  have F5 := (F3.trans E4).trans E5
  clear MO hown E4 CC hgB hgO4 E5
  have hBT := B5.nat (k := T) (by rw [unhide HLN]; exact hT)
  rw [unhide HGT] at hBT
  obtain ⟨hBc, hBf⟩ := hBT
  generalize byt s T = x at *
  have B6 := B5.set (k := T) (by rw [show (nats .u8 row).length = row.length from by simp [nats], unhide HLN]; exact hT) (.int .u8 ((x ^^^ b : Nat) : Int))
  rw [nats_setP] at B6
  have M6 := M5.other (p := ⟨gB, T, none⟩) (by show some gO ≠ some gB; intro h; injection h with h; omega) (.int .u8 ((x ^^^ b : Nat) : Int))
  have F6 := F5.setCell (p := ⟨gB, T, none⟩) hgBw (.int .u8 ((x ^^^ b : Nat) : Int))
  have hcv2 := B6.str (P := Try.prog) (src := 22) (dst := 9) (e := 5) Try.underlying22 Try.underlying5 Try.underlying9 cb
  have hcI2 := M6.cell hI
  rw [unhide HGS] at hcI2
  have hfI2 := M6.frozen I
  have hl2 : (row.set T (x ^^^ b)).length = m := by rw [List.length_set]; exact unhide HLN
  rw [hl2] at hcv2
  have hsI2 := hide hsI
  have M7 := M6.set (j := I) (by omega) (.string (strN (row.set T (x ^^^ b))))
  rw [strs_setP, ← unhide HBAD] at M7
  have F7 := F6.setCell (p := ⟨gO, I, none⟩) hgOw (.string (strN (row.set T (x ^^^ b))))
  obtain ⟨A7, c7, hv7, hrow7, -⟩ := M7.open_
  injection hv7 with hv7 hn7 hc7
  subst hv7
  subst hc7
  clear hn7
  have HM7 := hide hrow7
  have CMA := hide (unhide CM0 gO cO _ hrow7)
  clear M5 M6 B5 B6 F5 F6 M7 hrow7 CM0 BO HBAD HGS HGT HLN
  generalize strN (row.set T (x ^^^ b)) = sx at *
  rw [hsz] at hcv
  clear hsz hsI
  go_wp2_with fail
  refine (unhide CMA).mono ?_
  rintro e w8 ⟨rfl, E8⟩
  have R8 := (unhide HM7).keep E8
  have F8 := F7.trans E8
  clear CMA HM7 E8 F7 hcv hcv2 hcI hcI2 hfI2 hBc hBf hxT
  by_cases hIK : I = K
  · subst hIK
    have CMB := hide (unhide CM1 rfl gO cO w8 R8)
    have F9 := F8.alloc (.cells #[.int .i64 (I : Int)] 3)
    clear CM1 CM2 R8 F8
    go_wp2_with fail
    refine (unhide CMB).mono ?_
    rintro e w9 ⟨⟨A9, rfl, R9⟩, E9⟩
    have F10 := F9.trans E9
    have CE9 := hide (unhide CE A9 n w9 R9 F10)
    clear CE CMB F9 E9 R9
    go_wp2_with fail
    refine (unhide CE9).mono ?_
    rintro e w10 ⟨rfl, q, rfl⟩
    go_wp2
    go_ret
    exact ⟨rfl, F10.drewN q⟩
  · have CMB := hide (unhide CM2 hIK gO cO w8 R8)
    have F9 := F8.alloc (.cells #[.int .i64 (K : Int)] 3)
    have hIKb : ((I : Int) == (K : Int)) = false := by rw [beq_eq_false_iff_ne]; omega
    have hIKc : ¬ (I : Int) = (K : Int) := by omega
    clear CM1 CM2 CE R8 F8
    go_wp2_with fail
    refine (unhide CMB).mono ?_
    rintro e w9 ⟨rfl, E9⟩
    go_wp2
    go_ret
    exact ⟨rfl, F9.trans E9⟩

theorem ptells_law (A : Option Addr) (n c : Nat) (L : List ByteArray) (i k t : Int) (b : Nat) (hb : b < 256) (w : World) (hA : SliceIn w A n c 1 16 (strs L)) (hsa : ∀ s ∈ L, (s.size : Int) ≤ 9223372036854775807) :
    Calls Try.prog 7 #[.slice A n c, .int .i64 i, .int .i64 k, .int .i64 t, .int .u8 (b : Int)] w fun e w' => e = .returned (.bool true) ∧ Ext w w' :=
  ptells_any A n c L i k t b hb w hA.1 (Nat.le_trans hA.2.1 hA.2.2.2.1) hsa
end Go.Proofs.Ytkcmlcomonfoiaa
