/-
  The walk of the law PieceWrong.
-/
import Derived.Test.YtkkohaojbijklaaPiece11
set_option linter.unusedVariables false
set_option linter.unusedSimpArgs false
namespace Go.Proofs.Ytkkohaojbijklaa
open Go.RowKit Go.BigFrame

/-- Bytes of a string, one of them turned. -/
def turnL (z : ByteArray) (a y : Nat) : List Nat := ((List.range z.size).map fun k => sby z k).set a (sby z a ^^^ y)
theorem turnL_lt {z : ByteArray} {a y : Nat} (hy : y < 256) : ∀ x ∈ turnL z a y, x < 256 := by
  intro x hx
  rcases List.mem_or_eq_of_mem_set hx with h | h
  · obtain ⟨k, -, rfl⟩ := List.mem_map.1 h; exact sby_lt _ _
  · rw [h]; exact Wm.xor_lt (sby_lt _ _) hy
theorem turnL_length (z : ByteArray) (a y : Nat) : (turnL z a y).length = z.size := by simp [turnL]
theorem turnL_get {z : ByteArray} {a y k : Nat} (hk : k < z.size) : (turnL z a y).getD k 0 = if a = k then sby z a ^^^ y else sby z k := by
  unfold turnL
  rw [List.getD_eq_getElem?_getD, List.getElem?_set]
  by_cases c : a = k
  · subst c; rw [if_pos rfl, if_pos rfl, if_pos (by simpa using hk)]; rfl
  · rw [if_neg c, if_neg c, List.getElem?_map, List.getElem?_range hk]; rfl
/-- What the law PieceWrong says, plain. -/
theorem wrong_plain {s : ByteArray} {k n i a y : Nat} (hs : s.size ≤ 60) (h1 : 1 ≤ k) (hkn : k ≤ n) (hn : n ≤ 10) (hi : i < n) (ha : a < ((splitL s k n).getD i ByteArray.empty).size) (hy : y < 256) (hy0 : y ≠ 0) :
    let t := strN (turnL ((splitL s k n).getD i ByteArray.empty) a y)
    t.size = ((splitL s k n).getD i ByteArray.empty).size ∧ chkErr t (k : Int) = 8 ∧ joinErr ((splitL s k n).set i t) (k : Int) = (if n = k then 9 else 0) ∧ (n ≠ k → strN (joinText ((splitL s k n).set i t) k) = s) := by
  intro t
  obtain ⟨z, hz⟩ : ∃ z, z = (splitL s k n).getD i ByteArray.empty := ⟨_, rfl⟩
  have hpp := piece_parts hs h1 hkn hn hi
  rw [← hz] at ha hpp ⊢
  have ht : t = strN (turnL z a y) := by rw [hz]
  have hts : t.size = z.size := by rw [ht, strN_size, turnL_length]
  have htb : ∀ j, j < z.size → sby t j = if a = j then sby z a ^^^ y else sby z j := fun j hj => by
    rw [ht, sby_strN _ (turnL_lt hy) (by rw [turnL_length]; exact hj)]
    exact turnL_get hj
  have hc : chkErr t (k : Int) = 8 := turned_bad h1 (by omega) hpp.2.1 hts ha (fun e => by
    rw [htb a ha, if_pos rfl] at e
    apply hy0
    have := congrArg (sby z a ^^^ ·) e
    simpa [← Nat.xor_assoc] using this) (fun j hj hja => by rw [htb j hj, if_neg (fun e => hja e.symm)])
  have hL := splitL_length s k n
  have hget : ∀ j, j < n → ((splitL s k n).set i t).getD j ByteArray.empty = if i = j then t else (splitL s k n).getD j ByteArray.empty := fun j hj => by
    rw [List.getD_eq_getElem?_getD, List.getElem?_set]
    by_cases c : i = j
    · subst c; rw [if_pos rfl, if_pos rfl, if_pos (by omega)]; rfl
    · rw [if_neg c, if_neg c, ← List.getD_eq_getElem?_getD]
  have hu : ∀ j, j < n → usab ((splitL s k n).set i t) k j = decide (j ≠ i) := fun j hj => by
    unfold usab
    rw [hget j hj]
    by_cases c : i = j
    · subst c; rw [if_pos rfl, hc]; simp
    · rw [if_neg c, (piece_parts hs h1 hkn hn hj).2.1]
      simp [Ne.symm c]
  have hcnt : Wm.cntR (usab ((splitL s k n).set i t) k) n = n - 1 := by
    rw [cntR_congr n hu]
    have h1 := Wm.cntR_not (fun j => decide (j ≠ i)) n
    have h2 : ∀ m, Wm.cntR (fun j => !decide (j ≠ i)) m = if i < m then 1 else 0 := fun m => by
      induction m with
      | zero => rfl
      | succ m ih =>
        simp only [Wm.cntR]
        rw [ih]
        by_cases e : m = i
        · subst e; simp
        · simp [e]; split <;> split <;> omega
    rw [h2, if_pos hi] at h1
    omega
  have h := join_true (L := (splitL s k n).set i t) hs h1 hkn hn (by rw [List.length_set, hL]) (fun j hj hj2 => by
    rw [hu j hj] at hj2
    rw [hget j hj, if_neg (fun e => of_decide_eq_true hj2 e.symm)])
  rw [hcnt] at h
  refine ⟨hts, hc, ?_, fun hne => h.2 (by omega)⟩
  rw [h.1]
  by_cases e : n = k
  · rw [if_pos e, if_pos (by omega)]
  · rw [if_neg e, if_neg (by omega)]

theorem Made.other {w : World} {base e : TypeId} {sz g n c : Nat} {xs : List Value} (h : Made w base e sz (.slice (some ⟨g, 0, none⟩) n c) n xs) {p : Addr} (hp : p.block ≠ g) (u : Value) : Made (w.setCell p u) base e sz (.slice (some ⟨g, 0, none⟩) n c) n xs := by
  obtain ⟨h1, h2⟩ := h
  refine ⟨h1, ?_⟩
  rcases h2 with ⟨h2, -⟩ | ⟨g', c', cur, h3, h4, h5, r⟩
  · cases h2
  · injection h3 with h3 _ h3'
    simp only [Option.some.injEq, Addr.mk.injEq, and_true] at h3
    subst h3; subst h3'
    refine .inr ⟨g, c, cur, rfl, h4, ?_, r⟩
    rw [← h5]
    simp only [World.setCell]
    rw [Array.getElem?_modify, if_neg hp]

set_option maxRecDepth 100000 in
set_option maxHeartbeats 4000000 in
theorem wrong_law (s : ByteArray) (K N I0 A0 : Int) (y : Nat) (hss : (s.size : Int) ≤ 9223372036854775807) (hy : y < 256) (w : World) :
    Calls Try.prog 10 #[.string s, .int .i64 K, .int .i64 N, .int .i64 I0, .int .i64 A0, .int .u8 (y : Int)] w fun e w' => e = .returned (.bool true) ∧ Ext w w' := by
  have CP := hide (pieces_any w)
  have CS := hide (fun w => Split_any s K N w hss)
  go_enter Try.func10, Try.ntmps10
  go_wp2_with fail
  refine (unhide CP).mono ?_
  rintro e w1 ⟨rfl, E1⟩
  go_wp2_with fail
  refine (unhide CS _).mono ?_
  rintro e w2 ⟨ho, E2⟩
  have HE2 := hide (E1.trans E2)
  have HS1 := hide E1.size
  unfold SplitOut at ho
  clear E1 E2 CS CP
  rcases ho with ⟨hp, rfl⟩ | ⟨hp, k, n, g, rfl, rfl, h1, hkn, hn, hs, rfl, M⟩
  · have hpB : (splErr s K N != 0) = true := by rw [bne_iff_ne]; exact hp
    have hpC : (splErr s K N == 0) = false := by rw [beq_eq_false_iff_ne]; exact hp
    generalize splErr s K N = r at *
    go_wp2
    go_ret
    exact ⟨rfl, unhide HE2⟩
  · have nB : ((n : Int) == 0) = false := by rw [beq_eq_false_iff_ne]; omega
    by_cases hy0 : y = 0
    · subst hy0
      clear M hp
      go_wp2
      go_ret
      exact ⟨rfl, unhide HE2⟩
    · have yB : ((y : Int) == 0) = false := by rw [beq_eq_false_iff_ne]; omega
      obtain ⟨r, hr0, hr1, -, CW⟩ := within_ex I0 n (by omega) (by omega)
      obtain ⟨i, rfl⟩ : ∃ i : Nat, r = i := ⟨r.toNat, by omega⟩
      have hin : i < n := by omega
      have HWP := hide (fun (a : Nat) ha => wrong_plain (s := s) (k := k) (n := n) (i := i) (a := a) (y := y) hs h1 hkn hn hin ha hy hy0)
      have hpp := piece_parts hs h1 hkn hn hin
      obtain ⟨L, hL⟩ : ∃ L, L = splitL s k n := ⟨_, rfl⟩
      have HLN := hide (splitL_length s k n)
      rw [← hL] at M HWP hpp HLN
      have hc := M.cell hin
      have hcs : (strs L).getD i undef = .string (L.getD i ByteArray.empty) := by
        rw [List.getD_eq_getElem?_getD, strs_get _ _ (by rw [unhide HLN]; exact hin)]; rfl
      rw [hcs] at hc
      obtain ⟨z, hz⟩ : ∃ z, z = L.getD i ByteArray.empty := ⟨_, rfl⟩
      rw [← hz] at hc hpp HWP
      have hzs := hpp.1
      have hsl := sz_le (l := s.size) h1
      have hzl : z.size ≤ 65 := by omega
      have hz5 : 5 ≤ z.size := by omega
      have hgw := M.lt g rfl
      have HM := hide M
      obtain ⟨c, W3, hconv, E3, hcz, B3⟩ := bytes_of w2 z
      obtain ⟨r2, hr20, hr21, -, CW2⟩ := within_ex A0 z.size (by omega) (by omega)
      obtain ⟨a, rfl⟩ : ∃ a : Nat, r2 = a := ⟨r2.toNat, by omega⟩
      have haz : a < z.size := by omega
      have zB : ((z.size : Int) == 0) = false := by rw [beq_eq_false_iff_ne]; omega
      have hHM3 := hide ((unhide HM).keep E3)
      have hEE3 := hide ((unhide HE2).trans E3)
      have hb := B3.nat (k := a) (by simpa using haz)
      have hba : ((List.range z.size).map fun k => sby z k).getD a 0 = sby z a := by
        rw [Wm.getD_map_ 0 (by simpa using haz), Wm.getD_range haz]
      rw [hba] at hb
      obtain ⟨hb1, hb2⟩ := hb
      have hxo := u8_xor_nat (sby z a) y (sby_lt z a) hy
      have HB3 := hide (B3.set (k := a) (by rw [nats_length]; simpa using haz) (.int .u8 ((sby z a ^^^ y : Nat) : Int)))
      rw [nats_set] at HB3
      obtain ⟨t, ht⟩ : ∃ t, t = strN (turnL z a y) := ⟨_, rfl⟩
      have hturn : turnL z a y = ((List.range z.size).map fun k => sby z k).set a (sby z a ^^^ y) := rfl
      rw [← hturn] at HB3
      have hstr := (unhide HB3).str (P := Try.prog) Try.underlying22 Try.underlying5 Try.underlying9 c
      rw [turnL_length, ← ht] at hstr
      obtain ⟨q1, q2, q3, q4⟩ := unhide HWP a haz
      rw [← ht] at q1 q2 q3 q4
      have hne : w2.heap.size ≠ g := by omega
      have HM4 := hide ((unhide hHM3).other (p := ⟨w2.heap.size, a, none⟩) hne (.int .u8 ((sby z a ^^^ y : Nat) : Int)))
      have hc4 := (unhide HM4).cell hin
      have hf4 := (unhide HM4).frozen i
      have HM5 := hide ((unhide HM4).set (j := i) (by omega) (.string t))
      rw [strs_set] at HM5
      have hw2 := (unhide HE2).size
      have HE4 := hide (show Ext w (W3.setCell ⟨w2.heap.size, a, none⟩ (.int .u8 ((sby z a ^^^ y : Nat) : Int))) from (unhide hEE3).setCell (by first | (simp; done) | (simp; omega)) _)
      have HE5 := hide (show Ext w ((W3.setCell ⟨w2.heap.size, a, none⟩ (.int .u8 ((sby z a ^^^ y : Nat) : Int))).setCell ⟨g, i, none⟩ (.string t)) from (unhide HE4).setCell (by have := unhide HS1; simp; omega) _)
      obtain ⟨A1, c1, hA1, RL, -, -, -⟩ := (unhide HM5).open_
      injection hA1 with hA1 _ hc1
      subst hA1; subst hc1
      have hszs : ∀ u ∈ L.set i t, (u.size : Int) ≤ 9223372036854775807 := fun u hu => by
        rcases List.mem_or_eq_of_mem_set hu with h | h
        · rw [hL] at h
          obtain ⟨j, hj, rfl⟩ := List.getElem_of_mem h
          have hp := (piece_parts hs h1 hkn hn (j := j) (by rw [splitL_length] at hj; exact hj)).1
          rw [List.getD_eq_getElem?_getD, List.getElem?_eq_getElem hj] at hp
          simp only [Option.getD_some] at hp
          omega
        · rw [h]; omega
      have CJ := hide (fun (w : World) R => Join_ok (some ⟨g, 0, none⟩) n n k (L.set i t) w R hszs h1 hkn hn)
      have CC := hide (fun w => Check_any t (k : Int) w (by omega))
      rw [q2] at CC
      have hct : ∀ (W : World), Made W w1.heap.size 9 1 (.slice (some ⟨g, 0, none⟩) n n) n (strs (L.set i t)) → W.cell? ⟨g, i, none⟩ = some (.string t) := fun W MW => by
        rw [MW.cell hin, List.getD_eq_getElem?_getD, strs_get _ _ (by rw [List.length_set, unhide HLN]; exact hin), List.getD_eq_getElem?_getD, List.getElem?_set_self (by rw [unhide HLN]; exact hin)]; rfl
      have HCT := hide hct
      have HO : Hid (joinOut (L.set i t) (k : Int) = if n = k then .tuple #[.string ByteArray.empty, .int .i64 9] else .tuple #[.string s, .int .i64 0]) := hide (by
        by_cases e : n = k
        · rw [if_pos e]; exact joinOut_bad (by rw [q3, if_pos e]) (by omega)
        · rw [if_neg e, joinOut_good (by rw [q3, if_neg e]), Int.toNat_natCast, q4 e])
      have HRL := hide RL
      have Hz := hide hz
      have Ht := hide ht
      generalize sby z a ^^^ y = v at *
      generalize sby z a = v0 at *
      clear hct RL hszs q1 q2 q3 q4 hturn hba hcs hpp hzs hL hz ht B3 E3 M hp
      go_wp2_with fail
      refine (unhide CW w2).mono ?_
      rintro e w2 ⟨rfl, rfl⟩
      go_wp2_with fail
      refine (unhide CW2 _).mono ?_
      rintro e w4 ⟨rfl, rfl⟩
      go_wp2_with fail
      refine (unhide CJ _ (unhide HRL)).mono ?_
      rintro e w6 ⟨rfl, E6⟩
      have HE6 := hide ((unhide HE5).trans E6)
      have hc6 := unhide HCT _ ((unhide HM5).keep E6)
      have HOO := unhide HO
      clear E6
      by_cases hnk : n = k
      · rw [if_pos hnk] at HOO
        have hnkB : ((n : Int) == (k : Int)) = true := by rw [beq_iff_eq]; omega
        rw [HOO]
        clear HOO
        go_wp2_with fail
        refine (unhide CC _).mono ?_
        rintro e w7 ⟨rfl, E7⟩
        have HE7 := hide ((unhide HE6).trans E7)
        clear E7
        go_wp2
        go_ret
        exact ⟨rfl, unhide HE7⟩
      · rw [if_neg hnk] at HOO
        have hnkB : ((n : Int) == (k : Int)) = false := by rw [beq_eq_false_iff_ne]; omega
        have hnkI : (k : Int) < (n : Int) := by omega
        rw [HOO]
        clear HOO
        go_wp2_with fail
        refine (unhide CC _).mono ?_
        rintro e w7 ⟨rfl, E7⟩
        have HE7 := hide ((unhide HE6).trans E7)
        clear E7
        go_wp2
        go_ret
        exact ⟨rfl, unhide HE7⟩
end Go.Proofs.Ytkkohaojbijklaa
