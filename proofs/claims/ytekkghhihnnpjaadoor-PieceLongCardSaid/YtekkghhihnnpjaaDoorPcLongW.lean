/-
  The walk of the law PieceLong.
-/
import Derived.Test.YtekkghhihnnpjaaDoorPcLong0
set_option linter.unusedVariables false
set_option linter.unusedSimpArgs false
namespace Go.Proofs.YtekkghhihnnpjaaDoor
open Go.RowKit Go.BigFrame
theorem sz_le {l k : Nat} (hk : 1 ≤ k) : sz l k ≤ l := by
  unfold sz
  rcases Nat.eq_zero_or_pos l with h | h
  · subst h; rw [Nat.div_eq_of_lt (by omega)]; omega
  · refine Nat.div_le_of_le_mul ?_
    obtain ⟨a, rfl⟩ : ∃ a, k = a + 1 := ⟨k - 1, by omega⟩
    obtain ⟨b, rfl⟩ : ∃ b, l = b + 1 := ⟨l - 1, by omega⟩
    have : (a + 1) * (b + 1) = a * b + a + b + 1 := by rw [Nat.mul_add, Nat.add_mul]; omega
    omega
set_option maxRecDepth 100000 in
set_option maxHeartbeats 8000000 in
theorem plong_law (s : ByteArray) (K0 N0 : Int) (hss : (s.size : Int) ≤ 9223372036854775807) (w : World) :
    Calls Tryd.prog 3 #[.string s, .int .i64 K0, .int .i64 N0] w fun e w' => e = .returned (.bool true) ∧ Ext w w' := by
  have CPi := hide (fun w => pieces_any w)
  have CS := hide (fun w => Split_any s K0 N0 w hss)
  go_enter Tryd.func3, Tryd.ntmps3
  go_wp2_with fail
  refine (unhide CPi _).mono ?_
  rintro e w1 ⟨rfl, E1⟩
  go_wp2_with fail
  refine (unhide CS _).mono ?_
  rintro e w2 ⟨ho, E2⟩
  have HE2 := hide (E1.trans E2)
  have hw12 := E2.size
  unfold SplitOut at ho
  clear E1 E2 CS CPi
  rcases ho with ⟨hp, rfl⟩ | ⟨hp, k, n, g, rfl, rfl, h1, hkn, hn, hs, rfl, M⟩
  · generalize splErr s K0 N0 = q at *
    have hq1 : (q != 0) = true := by rw [bne_iff_ne]; exact hp
    have hq2 : (q == 0) = false := by rw [beq_eq_false_iff_ne]; exact hp
    clear hp
    go_wp2
    go_ret
    exact ⟨rfl, unhide HE2⟩
  · have hp0 : splErr s (k : Int) (n : Int) = 0 := hp
    clear hp hp0
    obtain ⟨m, hm⟩ : ∃ m, m = sz s.size k := ⟨_, rfl⟩
    have HPP := hide (fun j (hj : j < n) => piece_parts (s := s) hs h1 hkn hn hj)
    have HAN := hide (fun j (hj : j < k) => all_next (s := s) (j := j) hs h1 hkn hn hj)
    have hmul := sz_mul (l := s.size) h1
    have hml := sz_le (l := s.size) h1
    rw [← hm] at HPP HAN hmul hml
    obtain ⟨d, hd⟩ : ∃ d, k * m = s.size + d := ⟨k * m - s.size, by omega⟩
    have hkm : k * m ≤ 10 * 60 := Nat.mul_le_mul (by omega) (by omega)
    have HPF := hide (fun w => Tryd.strings_HasPrefix (strN (padL s (s.size + d))) s w)
    rw [all_prefix] at HPF
    have HRS := hide (all_rest s d)
    have HTZ := hide (fun w => trim_zeros d (by omega) w)
    rw [← hd] at HPF HRS
    obtain ⟨L, hL⟩ : ∃ L, L = splitL s k n := ⟨_, rfl⟩
    have HLL := hide (show L.length = n from by rw [hL]; exact splitL_length _ _ _)
    rw [← hL] at HPP HAN M
    have HM := hide M
    obtain ⟨y, hy⟩ : ∃ y, y = s.size + k - 1 := ⟨_, rfl⟩
    have hyI : (s.size : Int) + (k : Int) - 1 = (y : Int) := by omega
    have hdv : y / k = m := by rw [hy, hm]; rfl
    have hdv1 : (y : Int).tdiv (k : Int) = (m : Int) := by rw [← hdv]; rfl
    have hdv2 : (y : Int) / (k : Int) = (m : Int) := by rw [← hdv]; rfl
    have hk0 : ¬ (k : Int) = 0 := by omega
    have hk00 : ((k : Int) == 0) = false := by rw [beq_eq_false_iff_ne]; omega
    have hk1 : ¬ (k : Int) < 1 := by omega
    have hm60 : m ≤ 60 := by omega
    have hsm : s.size ≤ k * m := by omega
    clear hm hL M hy hdv hml hmul hd
    go_wp2
    go_loopw [10, 44] (fun a q wr => ∃ x : Nat, x ≤ n ∧ q = .int .i64 x ∧ a = .string (strN (padL s (min x k * m))) ∧ Hid (Ext w2 wr)) (fun _ q _ => n - (intOf q).toNat)
    case atStart => exact ⟨0, Nat.zero_le _, rfl, by rw [Nat.zero_min, Nat.zero_mul]; rfl, hide (Ext.refl _)⟩
    case round =>
      obtain ⟨x, hx, rfl, rfl, HE⟩ := hrel
      by_cases hlt : x < n
      · have hc := ((unhide HM).keep (unhide HE)).cell hlt
        have hcs : (strs L).getD x undef = .string (L.getD x ByteArray.empty) := by
          rw [List.getD_eq_getElem?_getD, strs_get _ _ (by rw [unhide HLL]; exact hlt)]; rfl
        rw [hcs] at hc
        clear hcs
        obtain ⟨p1, -, p3, -⟩ := unhide HPP x hlt
        have HANx := hide (unhide HAN x)
        generalize L.getD x ByteArray.empty = p at *
        have hpI : (p.size : Int) = (m : Int) + 5 := by omega
        have hp0 : (0 : Int) < (p.size : Int) := by omega
        have hp0n : 0 < p.size := by omega
        have p3b : (p[0]'(by omega)).toNat = s.size := by rw [sby_get p 0 (by omega)]; exact p3
        have hmp : 1 + m ≤ p.size := by omega
        have hmpI : (1 : Int) + (m : Int) ≤ (p.size : Int) := by omega
        have hps : p.size ≤ 65 := by omega
        by_cases hxk : x < k
        · have e1 : min x k = x := by omega
          have e2 : min (x + 1) k = x + 1 := by omega
          have hnx := unhide HANx hxk
          have hle : x * m ≤ 10 * 60 := Nat.mul_le_mul (by omega) hm60
          have HNX := hide hnx
          have hz1 : ¬ 9223372036854775807 < (strN (padL s (x * m))).size + (p.extract 1 (1 + m)).size := by
            rw [strN_size, padL_length, ByteArray.size_extract]; omega
          rw [e1]
          have HE1 := hide e2
          clear e1 e2 hnx HANx
          have hxkI : (x : Int) < (k : Int) := by omega
          go_wp2
          go_roundw
          case rel => exact ⟨x + 1, by omega, by go_num, by rw [unhide HE1, ← unhide HNX], HE⟩
          case measure => simp [intOf]; omega
        · have e1 : min x k = k := by omega
          have e2 : min (x + 1) k = k := by omega
          rw [e1]
          have HE1 := hide e2
          clear e1 e2 HANx
          have hxkI : ¬ (x : Int) < (k : Int) := by omega
          go_wp2
          go_roundw
          case rel => exact ⟨x + 1, by omega, by go_num, by rw [unhide HE1], HE⟩
          case measure => simp [intOf]; omega
      · obtain rfl : n = x := by omega
        have e1 : min n k = k := by omega
        rw [e1]
        obtain ⟨al, hal⟩ : ∃ al, al = strN (padL s (k * m)) := ⟨_, rfl⟩
        have hals : al.size = k * m := by rw [hal, strN_size, padL_length]
        rw [← hal] at HPF HRS ⊢
        rw [← hals] at HRS hsm
        have hsmI : (s.size : Int) ≤ (al.size : Int) := by omega
        have HF := hide ((unhide HE2).trans (unhide HE))
        clear hal hals hkm HE HE2 HM HPP HAN HLL e1
        go_wp2_with fail
        refine (unhide HPF _).mono ?_
        rintro e w5 ⟨rfl, rfl⟩
        have hrs := unhide HRS
        go_wp2_with fail
        refine (unhide HTZ _).mono ?_
        rintro e w6 ⟨rfl, E6⟩
        have HF6 := hide ((unhide HF).trans E6)
        clear HF E6 hrs
        go_wp2
        go_ret
        exact ⟨rfl, unhide HF6⟩
end Go.Proofs.YtekkghhihnnpjaaDoor
