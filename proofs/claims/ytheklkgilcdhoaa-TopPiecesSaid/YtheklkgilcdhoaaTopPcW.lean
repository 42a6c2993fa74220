/-
  The walk of the law TopPieces.
-/
import Derived.Test.YtheklkgilcdhoaaPieceWrongW
import Derived.Test.YtheklkgilcdhoaaTree5
import Derived.Test.YtheklkgilcdhoaaWorks
set_option linter.unusedVariables false
set_option linter.unusedSimpArgs false
namespace Go.Proofs.Ytheklkgilcdhoaa
open Go.RowKit Go.BigFrame

theorem strN_bytes (z : ByteArray) : strN ((List.range z.size).map fun k => sby z k) = z := by
  refine str_ext (by rw [strN_size]; simp) fun k hk => ?_
  rw [strN_size] at hk
  rw [strN_byt _ (fun x hx => by obtain ⟨j, -, rfl⟩ := List.mem_map.1 hx; exact sby_lt _ _) hk]
  simp only [List.length_map, List.length_range] at hk
  rw [Wm.getD_map_ 0 (by simpa using hk), Wm.getD_range hk]
theorem turnL_zero (z : ByteArray) {a : Nat} (ha : a < z.size) : strN (turnL z a 0) = z := by
  refine str_ext (by rw [strN_size, turnL_length]) fun k hk => ?_
  rw [strN_size, turnL_length] at hk
  rw [strN_byt _ (turnL_lt (by omega)) (by rw [turnL_length]; exact hk), turnL_get hk]
  split
  · rename_i e; subst e; exact Nat.xor_zero _
  · rfl
/-- What the law TopPieces says of the pieces, plain. -/
theorem tpc_plain {s : ByteArray} {k n i a y : Nat} (hs : s.size ≤ 60) (h1 : 1 ≤ k) (hkn : k < n) (hn : n ≤ 10) (hi : i < n) (ha : a < ((splitL s k n).getD i ByteArray.empty).size) (hy : y < 256) :
    let t := strN (turnL ((splitL s k n).getD i ByteArray.empty) a y)
    t.size = ((splitL s k n).getD i ByteArray.empty).size ∧ joinErr ((splitL s k n).set i t) (k : Int) = 0 ∧ strN (joinText ((splitL s k n).set i t) k) = s ∧ (y = 0 → t = (splitL s k n).getD i ByteArray.empty) := by
  intro t
  by_cases hy0 : y = 0
  · subst hy0
    have ht : t = (splitL s k n).getD i ByteArray.empty := turnL_zero _ ha
    have hL := splitL_length s k n
    have hset : (splitL s k n).set i t = splitL s k n := by
      rw [ht, List.getD_eq_getElem?_getD]
      apply List.ext_getElem?
      intro j
      rw [List.getElem?_set]
      by_cases c : i = j
      · subst c
        rw [if_pos rfl, if_pos (by omega), List.getElem?_eq_getElem (by omega)]; rfl
      · rw [if_neg c]
    have hu : ∀ j, j < n → usab (splitL s k n) k j = true := fun j hj => by
      unfold usab
      rw [(piece_parts hs h1 (by omega) hn hj).2.1]; rfl
    have hcnt : Wm.cntR (usab (splitL s k n) k) n = n := by
      rw [cntR_congr (g := fun _ => true) n hu]
      clear hu hset hL ht ha hi hn hkn
      induction n with
      | zero => rfl
      | succ m ih => simp [Wm.cntR, ih]
    have h := join_true (L := splitL s k n) hs h1 (by omega) hn hL (fun j hj hj2 => rfl)
    rw [hcnt] at h
    refine ⟨by rw [ht], ?_, ?_, fun _ => ht⟩
    · rw [hset, h.1, if_neg (by omega)]
    · rw [hset]; exact h.2 (by omega)
  · obtain ⟨h1', -, h3, h4⟩ := wrong_plain hs h1 (by omega) hn hi ha hy hy0
    exact ⟨h1', by rw [h3, if_neg (by omega)], h4 (by omega), fun h => absurd h hy0⟩

theorem Row.set_off {w : World} {A : Option Addr} {n sz : Nat} {xs : List Value} (h : Row w A n sz xs) (p : Addr) (u : Value) (hne : ∀ b o, A = some ⟨b, o, none⟩ → p.block ≠ b) : Row (w.setCell p u) A n sz xs :=
  ⟨h.1, fun h0 => by
    obtain ⟨b, o, hA, hb, hc⟩ := h.2 h0
    exact ⟨b, o, hA, by simpa using hb, fun j hj => (World.cell?_setCell_other _ _ _ _ (fun e => hne b o hA (by rw [e]))).trans (hc j hj)⟩⟩
--{
set_option maxRecDepth 100000 in
set_option maxHeartbeats 4000000 in
theorem tpieces_law (s : ByteArray) (K0 M0 I0 A0 : Int) (y : Nat) (hss : (s.size : Int) ≤ 9223372036854775807) (hy : y < 256) (w : World) :
    Calls Try.prog 3 #[.string s, .int .i64 K0, .int .i64 M0, .int .i64 I0, .int .i64 A0, .int .u8 (y : Int)] w fun e w' => e = .returned (.bool true) ∧ Ext w w' := by
  obtain ⟨k', k0, k1, -, cK⟩ := within_ex K0 6 (by omega) (by omega)
  obtain ⟨k', rfl⟩ := Int.eq_ofNat_of_zero_le k0
  obtain ⟨m', m0, m1, -, cM⟩ := within_ex M0 3 (by omega) (by omega)
  obtain ⟨m', rfl⟩ := Int.eq_ofNat_of_zero_le m0
  obtain ⟨k, hk⟩ : ∃ k, k = 1 + k' := ⟨_, rfl⟩
  obtain ⟨n, hn'⟩ : ∃ n, n = k + 1 + m' := ⟨_, rfl⟩
  have hkI : (1 : Int) + (k' : Int) = (k : Int) := by omega
  have hnI : (k : Int) + 1 + (m' : Int) = (n : Int) := by omega
  have h1 : 1 ≤ k := by omega
  have hkn : k < n := by omega
  have hn : n ≤ 10 := by omega
  have hk6 : k ≤ 6 := by omega
  have CS := hide (fun w => Split_any s (k : Int) (n : Int) w hss)
  have CW := hide (fun w => works_any w)
  clear hk hn'
  go_enter Try.func3, Try.ntmps3
  go_wp2_with fail
  refine (unhide cK _).mono ?_
  rintro e w1 ⟨rfl, rfl⟩
  go_wp2_with fail
  refine (unhide cM _).mono ?_
  rintro e w1 ⟨rfl, rfl⟩
  go_wp2_with fail
  refine (unhide CS _).mono ?_
  rintro e w2 ⟨ho, E2⟩
  have HE2 := hide E2
  have HS1 := hide E2.size
  unfold SplitOut at ho
  clear E2 CS
  rcases ho with ⟨hp, rfl⟩ | ⟨hp, k2, n2, g, hk2, hn2, -, -, -, hs, rfl, M⟩
  · have h60 : 60 < s.size := by
      unfold splErr at hp
      rw [if_neg (by omega)] at hp
      by_cases h : 60 < s.size
      · exact h
      · rw [if_neg h] at hp; exact absurd rfl hp
    have h60I : (60 : Int) < (s.size : Int) := by omega
    have hr : splErr s (k : Int) (n : Int) = 2 := by
      unfold splErr
      rw [if_neg (by omega), if_pos h60]
    rw [hr]
    clear hp hr h60
    go_wp2_with fail
    refine (unhide CW _).mono ?_
    rintro e w3 ⟨rfl, E3⟩
    go_wp2_with fail
    refine (unhide CW _).mono ?_
    rintro e w4 ⟨rfl, E4⟩
    have HE4 := hide (((unhide HE2).trans E3).trans E4)
    go_wp2
    go_ret
    exact ⟨rfl, unhide HE4⟩
  · obtain rfl : k = k2 := by omega
    obtain rfl : n = n2 := by omega
    obtain ⟨r, hr0, hr1, -, CW1⟩ := within_ex I0 n (by omega) (by omega)
    obtain ⟨i, rfl⟩ : ∃ i : Nat, r = i := ⟨r.toNat, by omega⟩
    have hin : i < n := by omega
    have HWP := hide (fun (a : Nat) ha => tpc_plain (s := s) (k := k) (n := n) (i := i) (a := a) (y := y) hs h1 hkn hn hin ha hy)
    have hpp := piece_parts hs h1 (show k ≤ n by omega) hn hin
    obtain ⟨L, hL⟩ : ∃ L, L = splitL s k n := ⟨_, rfl⟩
    have HLN := hide (splitL_length s k n)
    rw [← hL] at M HWP hpp HLN
    have hszs : ∀ u ∈ L, (u.size : Int) ≤ 9223372036854775807 := fun u h => by
      rw [hL] at h
      obtain ⟨j, hj, rfl⟩ := List.getElem_of_mem h
      have hp := (piece_parts hs h1 (show k ≤ n by omega) hn (j := j) (by rw [splitL_length] at hj; exact hj)).1
      rw [List.getD_eq_getElem?_getD, List.getElem?_eq_getElem hj] at hp
      simp only [Option.getD_some] at hp
      have hsl := sz_le (l := s.size) h1
      omega
    have HSZ := hide hszs
    have hc := M.cell hin
    have hcs : (strs L).getD i undef = .string (L.getD i ByteArray.empty) := by
      rw [List.getD_eq_getElem?_getD, strs_get _ _ (by rw [unhide HLN]; exact hin)]; rfl
    rw [hcs] at hc
    obtain ⟨z, hz⟩ : ∃ z, z = L.getD i ByteArray.empty := ⟨_, rfl⟩
    rw [← hz] at hc hpp HWP
    have hzs := hpp.1
    have hsl := sz_le (l := s.size) h1
    have hzl : z.size ≤ 65 := by omega
    have hz5 : 5 ≤ z.size := by omega
    have hgw := M.lt g rfl
    have HM := hide M
    have HC := hide hc
    obtain ⟨A1, c1, hA1, RL, -, -, -⟩ := M.open_
    injection hA1 with hA1 _ hc1
    subst hA1; subst hc1
    have HRL := hide RL
    have CR := hide (fun (w' : World) (E : Ext w2 w') => Root_ok (some ⟨g, 0, none⟩) n n L w' (by omega) (by omega) (RL.keep E) hszs)
    have CP := hide (fun (w' : World) (E : Ext w2 w') => Prove_ok (some ⟨g, 0, none⟩) n n i L w' (by omega) (by omega) hin (RL.keep E) hszs)
    have hpv := Wm.proves nd n (L.map lf) i (by simpa using unhide HLN) hin
    have hgl : (L.map lf).getD i 0 = lf z := by
      rw [hz, List.getD_eq_getElem?_getD, List.getElem?_map, List.getD_eq_getElem?_getD, List.getElem?_eq_getElem (by rw [unhide HLN]; exact hin), Option.map_some, Option.getD_some, Option.getD_some]
    rw [hgl] at hpv
    unfold ProvePost at CP
    obtain ⟨Q, hQ⟩ : ∃ Q, Q = Wm.proveL nd (L.map lf) i := ⟨_, rfl⟩
    obtain ⟨R, hR⟩ : ∃ R, R = Wm.rootL nd (L.map lf) := ⟨_, rfl⟩
    rw [← hQ] at CP hpv
    rw [← hR] at CR hpv
    have HSH := hide (Wm.shows_iff.2 hpv)
    have CC := hide (fun (s : ByteArray) (hs : (s.size : Int) ≤ 9223372036854775807) (A : Option Addr) (m c : Nat) (q : List Nat) (w : World) (h : Longs w A m c q) => check_any R n i s A m c q w (by omega) (by omega) hin hs h)
    have Hz := hide hz
    have HzS := hide hzs
    clear M hp hcs hL RL hpv hgl hQ hR hszs hpp hc hz hzs hsl
    go_wp2_with fail
    refine (unhide CW _).mono ?_
    rintro e w3 ⟨rfl, E3⟩
    have HE3 := hide ((unhide HE2).trans E3)
    have HM3 := hide ((unhide HM).keep E3)
    have HX3 := hide E3
    clear E3 CW
    go_wp2_with fail
    refine (unhide CR _ (unhide HX3)).mono ?_
    rintro e w4 ⟨rfl, E4⟩
    have HE4 := hide ((unhide HE3).trans E4)
    have HX4 := hide ((unhide HX3).trans E4)
    clear E4 CR HM3 HX3
    go_wp2_with fail
    refine (unhide CW1 _).mono ?_
    rintro e w4 ⟨rfl, rfl⟩
    go_wp2_with fail
    refine (unhide CP _ (unhide HX4)).mono ?_
    rintro e w5 ⟨⟨v, rfl, hown⟩, E5⟩
    have HE5 := hide ((unhide HE4).trans E5)
    have HX5 := hide ((unhide HX4).trans E5)
    obtain ⟨PA, pc, rfl, hrow, hpc, hpm, hpb⟩ := row_of_own hown
    unfold maxLen at hpm
    have hlong : Longs w5 PA Q.length pc Q := ⟨hrow, hpc, by omega⟩
    have HLO := hide hlong
    have hc5 := (unhide HX5).keep (unhide HC)
    have C1 := hide (unhide CC z (by omega) PA Q.length pc Q w5 hlong)
    rw [unhide HSH] at C1
    have HPB := hide (fun b o h => show g < b ∧ b < w5.heap.size from ⟨by have := (hpb b o h).1; have := (unhide HX4).size; omega, (hpb b o h).2⟩)
    clear hrow hown hpb hlong E5 CP HX4
    go_wp2_with fail
    refine (unhide C1).mono ?_
    rintro e w6 ⟨rfl, hw6⟩
    have hw7 := hw6.symm
    subst hw7
    clear C1
    have EG := (Ext.refl w5).alloc (.cells #[.int .i64 0, .int .i64 0, .int .i64 0] 24)
    have hc6 := EG.keep hc5
    have HE6 := hide ((unhide HE5).trans EG)
    have HX6 := hide ((unhide HX5).trans EG)
    have HLO6 := hide ((unhide HLO).keep EG)
    have zB : ((z.size : Int) == 0) = false := by rw [beq_eq_false_iff_ne]; omega
    clear EG hc5
    go_wp2_with (go_at_call 10; refine (tgood_made' [0, 0, 0] _ _ _ _ w5 rfl rfl (by decide) (by simp)).mono ?_; rintro e wg ⟨rfl, rfl⟩)
    have HS56 := hide (show w5.heap.size ≤ (w5.alloc (.cells #[.int .i64 0, .int .i64 0, .int .i64 0] 24)).heap.size by simp)
    generalize w5.alloc (.cells #[.int .i64 0, .int .i64 0, .int .i64 0] 24) = w6 at *
    obtain ⟨c, W3, hconv, E3, hcz, B3⟩ := bytes_of w6 z
    obtain ⟨r2, hr20, hr21, -, CW2⟩ := within_ex A0 z.size (by omega) (by omega)
    obtain ⟨a, rfl⟩ : ∃ a : Nat, r2 = a := ⟨r2.toNat, by omega⟩
    have haz : a < z.size := by omega
    have hHM3 := hide ((unhide HM).keep ((unhide HX6).trans E3))
    have hEE3 := hide ((unhide HE6).trans E3)
    have hLO3 := hide ((unhide HLO6).keep E3)
    have hb := B3.nat (k := a) (by simpa using haz)
    have hba : ((List.range z.size).map fun k => sby z k).getD a 0 = sby z a := by
      rw [Wm.getD_map_ 0 (by simpa using haz), Wm.getD_range haz]
    rw [hba] at hb
    obtain ⟨hb1, hb2⟩ := hb
    have hxo := u8_xor_nat (sby z a) y (sby_lt z a) hy
    have HB3 := hide (B3.set (k := a) (by rw [nats_length]; simpa using haz) (.int .u8 ((sby z a ^^^ y : Nat) : Int)))
    rw [nats_set] at HB3
    obtain ⟨t, ht⟩ : ∃ t, t = strN (turnL z a y) := ⟨_, rfl⟩
    have hturn : turnL z a y = ((List.range z.size).map fun k => sby z k).set a (sby z a ^^^ y) := rfl
    rw [← hturn] at HB3
    have hstr := (unhide HB3).str (P := Try.prog) Try.underlying37 Try.underlying5 Try.underlying9 c
    rw [turnL_length, ← ht] at hstr
    obtain ⟨q1, q2, q3, q4⟩ := unhide HWP a haz
    rw [← ht] at q1 q2 q3 q4
    have hsz6 : w2.heap.size ≤ w6.heap.size := (unhide HX6).size
    have hne : w6.heap.size ≠ g := by omega
    have HM4 := hide ((unhide hHM3).other (p := ⟨w6.heap.size, a, none⟩) hne (.int .u8 ((sby z a ^^^ y : Nat) : Int)))
    have hc4 := (unhide HM4).cell hin
    have hf4 := (unhide HM4).frozen i
    have HM5 := hide ((unhide HM4).set (j := i) (by omega) (.string t))
    rw [strs_set] at HM5
    have HE4 := hide (show Ext w1 (W3.setCell ⟨w6.heap.size, a, none⟩ (.int .u8 ((sby z a ^^^ y : Nat) : Int))) from (unhide hEE3).setCell (by have := (unhide HE6).size; first | (simp; done) | (simp; omega)) _)
    have HE5 := hide (show Ext w1 ((W3.setCell ⟨w6.heap.size, a, none⟩ (.int .u8 ((sby z a ^^^ y : Nat) : Int))).setCell ⟨g, i, none⟩ (.string t)) from (unhide HE4).setCell (by have := unhide HS1; simp; omega) _)
    obtain ⟨A1, c1, hA1, RL, -, -, -⟩ := (unhide HM5).open_
    injection hA1 with hA1 _ hc1
    subst hA1; subst hc1
    have hszs : ∀ u ∈ L.set i t, (u.size : Int) ≤ 9223372036854775807 := fun u hu => by
      rcases List.mem_or_eq_of_mem_set hu with h | h
      · exact unhide HSZ u h
      · rw [h]; omega
    have CJ := hide (fun (w : World) R => Join_ok (some ⟨g, 0, none⟩) n n k (L.set i t) w R hszs h1 (by omega) hn)
    have HO : Hid (joinOut (L.set i t) (k : Int) = .tuple #[.string s, .int .i64 0]) := hide (by
      rw [joinOut_good q2, Int.toNat_natCast, q3])
    have HRL5 := hide RL
    have HLO5 : Hid (Longs ((W3.setCell ⟨w6.heap.size, a, none⟩ (.int .u8 ((sby z a ^^^ y : Nat) : Int))).setCell ⟨g, i, none⟩ (.string t)) PA Q.length pc Q) := hide ⟨((unhide hLO3).1.set_off _ _ (fun b o h => by
        have := (unhide HPB b o h).2
        have h5 := (show w5.heap.size ≤ w6.heap.size from unhide HS56)
        show w6.heap.size ≠ b; omega)).set_off _ _ (fun b o h => by
        have := (unhide HPB b o h).1
        show g ≠ b; omega), (unhide hLO3).2⟩
    have hct : ∀ (W : World), Ext ((W3.setCell ⟨w6.heap.size, a, none⟩ (.int .u8 ((sby z a ^^^ y : Nat) : Int))).setCell ⟨g, i, none⟩ (.string t)) W → W.cell? ⟨g, i, none⟩ = some (.string t) := fun W E => by
      rw [((unhide HM5).keep E).cell hin, List.getD_eq_getElem?_getD, strs_get _ _ (by rw [List.length_set, unhide HLN]; exact hin), List.getD_eq_getElem?_getD, List.getElem?_set_self (by rw [unhide HLN]; exact hin)]; rfl
    have HCT := hide hct
    have HQ4 := hide q4
    have HTS := hide (show (t.size : Int) ≤ 9223372036854775807 by omega)
    generalize sby z a ^^^ y = vx at *
    generalize sby z a = v0 at *
    clear hct RL hszs q1 q2 q3 q4 hturn hba B3 E3 ht HWP
    go_wp2_with fail
    refine (unhide CW2 _).mono ?_
    rintro e w4' ⟨rfl, hw4⟩
    have hw4' := hw4.symm
    subst hw4'
    go_wp2_with fail
    refine (unhide CJ _ (unhide HRL5)).mono ?_
    rintro e w7 ⟨rfl, E7⟩
    have HE7 := hide ((unhide HE5).trans E7)
    have hc7 := unhide HCT _ E7
    have HLO7 := hide ((unhide HLO5).keep E7)
    have HOO := unhide HO
    rw [HOO]
    clear E7 HOO
    have C2 := hide (unhide CC t (unhide HTS) PA Q.length pc Q w7 (unhide HLO7))
    have hfin : Hid (y = 0 → Wm.shows nd R n i (lf t) Q = true) := hide (fun h => by rw [unhide HQ4 h]; exact unhide HSH)
    generalize Wm.shows nd R n i (lf t) Q = sh at *
    go_wp2_with fail
    refine (unhide C2).mono ?_
    rintro e w8 ⟨rfl, hw8⟩
    have hw8' := hw8.symm
    subst hw8'
    have HE8 := hide ((unhide HE7).alloc (.cells #[.int .i64 0, .int .i64 0] 24))
    by_cases hy0 : y = 0
    · have hs1 := unhide hfin hy0
      subst hy0
      subst hs1
      go_wp2_with (go_at_call 10; refine (tgood_made' [0, 0] _ _ _ _ w7 rfl rfl (by decide) (by simp)).mono ?_; rintro e wg ⟨rfl, rfl⟩)
      go_ret
      exact ⟨rfl, unhide HE8⟩
    · have yB : ((y : Int) != 0) = true := by rw [bne_iff_ne]; omega
      go_wp2_with (go_at_call 10; refine (tgood_made' [0, 0] _ _ _ _ w7 rfl rfl (by decide) (by simp)).mono ?_; rintro e wg ⟨rfl, rfl⟩)
      go_ret
      exact ⟨rfl, unhide HE8⟩
--}
end Go.Proofs.Ytheklkgilcdhoaa
