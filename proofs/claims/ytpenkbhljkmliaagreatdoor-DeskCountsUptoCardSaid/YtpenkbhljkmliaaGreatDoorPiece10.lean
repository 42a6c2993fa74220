/-
  Plain: enough of the true pieces make the text; a piece of which one byte is turned is none.
-/
import Derived.Test.YtpenkbhljkmliaaGreatDoorPiece9
set_option linter.unusedVariables false
set_option linter.unusedSimpArgs false
namespace Go.Proofs.YtpenkbhljkmliaaGreatDoor

/-- Any k cells of a code row make it again. -/
theorem mend_any {d : List Nat} {n : Nat} {l : List (Bool × Nat)} (hd : Wm.B256 d) (hn : n ≤ 256) (hk : d.length ≤ n) (hl : l.length = n) (h8 : ∀ i, Wm.cB l i < 256) (hc : ∀ i, i < n → Wm.cH l i = true → Wm.cB l i = (Wm.putL d n).getD i 0)
    (hcnt : d.length ≤ Wm.cntR (Wm.cH l) n) : Wm.mendL l d.length = Wm.putL d n ∧ Wm.mendN l d.length n = false := by
  have key : Wm.mendL l d.length = Wm.putL d n := by
    unfold Wm.mendL
    rw [hl]
    have hlen : (Wm.pt (Wm.cH l) d.length n).length = d.length := by rw [Wm.pt_length]; omega
    refine Wm.mend_row hd hn (Wm.pt_nodup _ _ _) (fun x hx => (Wm.pt_mem hx).1) hlen hk (Wm.B256.of fun y hy => ?_) fun i hi => ?_
    · obtain ⟨i, -, rfl⟩ := List.mem_map.1 hy
      exact h8 i
    · have hm : (Wm.pt (Wm.cH l) d.length n).getD i 0 ∈ Wm.pt (Wm.cH l) d.length n := by
        rw [List.getD_eq_getElem?_getD, List.getElem?_eq_getElem hi]
        exact List.getElem_mem hi
      have h := Wm.pt_mem hm
      rw [Wm.getD_map_ 0 hi, hc _ h.1 h.2]
  exact ⟨key, Wm.mendN_of fun i hi h => by rw [key, hc i hi h]⟩

theorem putL_zeros (k n x : Nat) (hk : k ≤ n) (hn : n ≤ 10) : (Wm.putL (List.replicate k 0) n).getD x 0 = 0 := by
  by_cases hx : x < n
  · rw [Wm.putL_get hx]
    have hz : ∀ i, (List.replicate k 0).getD i 0 = 0 := fun i => by
      rw [List.getD_eq_getElem?_getD, List.getElem?_replicate]
      split <;> rfl
    have hb : ∀ i, (fun i => (List.replicate k 0).getD i 0) i < 256 := fun i => by show (List.replicate k 0).getD i 0 < 256; rw [hz]; omega
    have hp : ∀ i, (fun i => (List.range (List.replicate k 0).length).getD i 0) i < 256 := fun i => Wm.B256.range (by simp; omega) i
    have h := Wm.rby_mul (p := fun i => (List.range (List.replicate k 0).length).getD i 0) (b := fun i => (List.replicate k 0).getD i 0) (n := (List.replicate k 0).length) (x := x) (y := 0) hp hb (by omega) (by omega)
    rw [Wm.zero_fmul (Wm.rby_lt hp hb (by omega))] at h
    refine Eq.trans ?_ h
    congr 1
    funext i
    show (List.replicate k 0).getD i 0 = Wm.fmul 0 ((List.replicate k 0).getD i 0)
    rw [hz]; rfl
  · rw [List.getD_eq_getElem?_getD, List.getElem?_eq_none (by rw [Wm.putL_length]; omega)]; rfl

theorem piece_parts {s : ByteArray} {k n j : Nat} (hs : s.size ≤ 60) (h1 : 1 ≤ k) (hkn : k ≤ n) (hn : n ≤ 10) (hj : j < n) :
    ((splitL s k n).getD j ByteArray.empty).size = 5 + sz s.size k ∧ chkErr ((splitL s k n).getD j ByteArray.empty) (k : Int) = 0 ∧ sby ((splitL s k n).getD j ByteArray.empty) 0 = s.size ∧
      ∀ i, i < sz s.size k → sby ((splitL s k n).getD j ByteArray.empty) (1 + i) = (Wm.putL (dataL s k (sz s.size k) i) n).getD j 0 := by
  have hpl := colL_lt s k (sz s.size k) n j (sz s.size k) hkn (by omega)
  have hcl := colL_length s k (sz s.size k) n j (sz s.size k)
  have hlt := sealL_lt (len := s.size) (by omega) hpl
  rw [splitL_get hj]
  refine ⟨?_, seal_good h1 (by omega) hs hpl hcl, ?_, fun i hi => ?_⟩
  · rw [strN_size, sealL_length, hcl]; omega
  · rw [sby_strN _ hlt (by rw [sealL_length]; omega), sealL_zero]
  · rw [sby_strN _ hlt (by rw [sealL_length, hcl]; omega), sealL_part (by rw [hcl]; exact hi)]
    unfold gd colL
    rw [Wm.getD_map_ 0 (by simpa using hi), Wm.getD_range hi]

/-- Only true pieces are usable: Join answers. -/
theorem join_true {s : ByteArray} {k n : Nat} {L : List ByteArray} (hs : s.size ≤ 60) (h1 : 1 ≤ k) (hkn : k ≤ n) (hn : n ≤ 10) (hL : L.length = n) (hu : ∀ j, j < n → usab L k j = true → L.getD j ByteArray.empty = (splitL s k n).getD j ByteArray.empty) :
    joinErr L (k : Int) = (if Wm.cntR (usab L k) n < k then 9 else 0) ∧ (k ≤ Wm.cntR (usab L k) n → strN (joinText L k) = s) := by
  obtain ⟨m, hm⟩ : ∃ m, m = sz s.size k := ⟨_, rfl⟩
  have hlen : ∀ t, t < n → usab L k t = true → sby (L.getD t ByteArray.empty) 0 = s.size := fun t ht h => by rw [hu t ht h]; exact (piece_parts hs h1 hkn hn ht).2.2.1
  obtain ⟨hmix, hlj⟩ := mixJ_no (n := n) hlen
  by_cases hc : Wm.cntR (usab L k) n < k
  · refine ⟨?_, fun h => by omega⟩
    unfold joinErr
    rw [if_neg (by omega), Int.toNat_natCast, hL, hmix, if_neg (by decide), if_pos hc, if_pos hc]
  · have hsome : ∃ t, t < n ∧ usab L k t = true := by
      have hpos : 0 < (Wm.pk (usab L k) n).length := by rw [Wm.pk_length]; omega
      have hmem := List.getElem_mem hpos
      exact ⟨_, Wm.pk_mem n hmem⟩
    have hlj' : lenJ L k n = (s.size : Int) := by
      have := lenJ_some hsome
      omega
    have hln : lenN L k = s.size := by unfold lenN; rw [hL, hlj', Int.toNat_natCast]
    have row : ∀ i, (0 < m → i < m) → ∃ d : List Nat, d.length = k ∧ Wm.B256 d ∧ (0 < m → d = dataL s k m i) ∧ Wm.mendL (celJ L k m i n) k = Wm.putL d n ∧ Wm.mendN (celJ L k m i n) k n = false := fun i hi => by
      obtain ⟨d, hd1, hd2, hd3, hd4⟩ : ∃ d : List Nat, d.length = k ∧ Wm.B256 d ∧ (0 < m → d = dataL s k m i) ∧ (m = 0 → d = List.replicate k 0) := by
        by_cases hm0 : m = 0
        · exact ⟨List.replicate k 0, by simp, Wm.B256.of fun x hx => by rw [List.eq_of_mem_replicate hx]; omega, fun h => by omega, fun _ => rfl⟩
        · exact ⟨dataL s k m i, dataL_length s k m i, dataL_lt s k m i, fun _ => rfl, fun h => absurd h hm0⟩
      refine ⟨d, hd1, hd2, hd3, ?_⟩
      rw [← hd1]
      refine mend_any hd2 (by omega) (by omega) (celJ_length ..) (celJ_lt _ _ _ _ _) (fun t ht hH => ?_) (by rw [hd1, celJ_cnt]; omega)
      unfold Wm.cH at hH
      unfold Wm.cB
      rw [celJ_get _ _ _ _ ht] at hH ⊢
      rw [hd1] at hH ⊢
      have hut : usab L k t = true := hH
      show (if usab L k t = true ∧ 0 < m then sby (L.getD t ByteArray.empty) (1 + i) else 0) = _
      by_cases hm0 : 0 < m
      · rw [if_pos ⟨hut, hm0⟩, hu t ht hut, hd3 hm0, hm]
        exact (piece_parts hs h1 hkn hn ht).2.2.2 i (by rw [← hm]; exact hi hm0)
      · rw [if_neg (fun h => hm0 h.2), hd4 (by omega), putL_zeros k n t hkn hn]
    have hbad : ∀ x, (0 < m → x ≤ m) → badJ L k m x = false := fun x => by
      induction x with
      | zero => intro _; rfl
      | succ x ih =>
        intro hx
        obtain ⟨d, -, -, -, -, h⟩ := row x (fun h => by have := hx h; omega)
        simp only [badJ, ih (fun h => by have := hx h; omega), hL, h, Bool.or_self]
    refine ⟨?_, fun _ => ?_⟩
    · unfold joinErr
      rw [if_neg (by omega), Int.toNat_natCast, hL, hmix, if_neg (by decide), if_neg hc, if_neg hc, hln, ← hm, hbad _ (fun h => by omega), if_neg (by decide)]
    · have hval : ∀ t, t < s.size → txtJ L k m n t = sby s t := fun t ht => by
        have hm0 : 0 < m := by
          have := len_le s.size h1
          rw [← hm] at this
          exact Nat.pos_of_ne_zero fun h => by rw [h] at this; omega
        have hdm := Nat.div_add_mod t m
        have hml := Nat.mod_lt t hm0
        have hdk : t / m < k := Nat.div_lt_of_lt_mul (by have := len_le s.size h1; rw [← hm] at this; rw [Nat.mul_comm]; omega)
        obtain ⟨d, e1, e2, e3, e4, -⟩ := row (t % m) (fun _ => hml)
        unfold txtJ
        rw [e4, Wm.putL_data e2 (by omega) (by omega) (by omega), e3 hm0]
        unfold dataL
        rw [Wm.getD_map_ 0 (by simpa using hdk), Wm.getD_range hdk, Nat.mul_comm, hdm, if_pos ht]
      have hb : ∀ x ∈ joinText L k, x < 256 := fun x hx => by
        obtain ⟨t, -, rfl⟩ := List.mem_map.1 hx
        rw [hL]
        exact txtP_lt L hkn hn t
      have hjl : (joinText L k).length = s.size := by simp [joinText, hln]
      refine str_ext (by rw [strN_size, hjl]) fun t ht => ?_
      rw [strN_size, hjl] at ht
      rw [sby_strN _ hb (by rw [hjl]; exact ht)]
      unfold gd joinText
      rw [hln, ← hm, hL, Wm.getD_map_ 0 (by simpa using ht), Wm.getD_range ht, hval t ht]

theorem empty_bad {k : Nat} (h1 : 1 ≤ k) (h2 : k ≤ 10) : chkErr ByteArray.empty (k : Int) = 7 := by
  unfold chkErr
  rw [if_neg (by omega), if_pos (by show 0 < 5; omega)]

/-- A piece of which one byte is turned. -/
theorem turned_bad {s t : ByteArray} {k a : Nat} (h1 : 1 ≤ k) (h2 : k ≤ 10) (hg : chkErr s (k : Int) = 0) (hsz : t.size = s.size) (ha : a < s.size) (hne : sby t a ≠ sby s a) (hsame : ∀ i, i < s.size → i ≠ a → sby t i = sby s i) : chkErr t (k : Int) = 8 := by
  obtain ⟨g1, g2, -, -⟩ := (good_iff h1 h2).1 hg
  unfold chkErr
  rw [if_neg (by omega), if_neg (by omega), if_pos]
  intro hso
  have e1 := sumS_lt (sby s) (sby_lt s) (s.size - 4)
  have e2 := sumS_lt (sby t) (sby_lt t) (s.size - 4)
  by_cases c : a < s.size - 4
  · have hd := sum_tells (sby t) (sby s) (sby_lt t) (sby_lt s) a (s.size - 4) hne c (fun i hi hia => hsame i (by omega) hia)
    refine hd ?_
    show sumS (sby t) (s.size - 4) = sumS (sby s) (s.size - 4)
    refine le4_inj e2 e1 ?_
    have hb : ∀ u, u < 4 → gd (le4 (sumS (sby t) (s.size - 4))) u = gd (le4 (sumS (sby s) (s.size - 4))) u := fun u hu => by
      rw [← g2 u hu]
      have := hso u hu
      rw [hsz] at this
      rw [← this]
      exact hsame _ (by omega) (by omega)
    apply List.ext_getElem (by simp [le4])
    intro u hu1 hu2
    have hu : u < 4 := by simpa [le4] using hu1
    have := hb u hu
    unfold gd at this
    rwa [List.getD_eq_getElem?_getD, List.getD_eq_getElem?_getD, List.getElem?_eq_getElem hu1, List.getElem?_eq_getElem hu2] at this
  · obtain ⟨u, hu, hua⟩ : ∃ u, u < 4 ∧ a = s.size - 4 + u := ⟨a - (s.size - 4), by omega, by omega⟩
    have q1 := hso u hu
    have q2 := g2 u hu
    rw [hsz, sumS_same (t := sby s) (fun i hi => hsame i (by omega) (by omega))] at q1
    rw [← q2, ← hua] at q1
    exact hne q1
end Go.Proofs.YtpenkbhljkmliaaGreatDoor
