/-
  The lists of words and the reduced basis in order: plain facts. No program in sight.
-/
import Derived.Test.YtkebldjepdhioaaLin3
set_option linter.unusedVariables false
set_option linter.unusedSimpArgs false
namespace Wm
theorem arr_get (l : List Nat) {i : Nat} (h : i < l.length) : l.toArray[i]! = l.getD i 0 := by
  rw [getElem!_pos _ i (by simpa using h)]
  simp [List.getD_eq_getElem?_getD, h]
theorem keep_iff (l : List Nat) {j : Nat} (h : j < l.length) : Go.Lib.keeps l.toArray j = true ↔ j = 0 ∨ l.getD j 0 ≠ l.getD (j - 1) 0 := by
  unfold Go.Lib.keeps
  rw [decide_eq_true_eq, arr_get l h, arr_get l (show j - 1 < l.length by omega)]
theorem compact_eq (l : List Nat) : Go.Lib.compact l = ((List.range l.length).filter (Go.Lib.keeps l.toArray)).map (fun i => l.getD i 0) := by
  unfold Go.Lib.compact Go.Lib.compactUpTo
  apply List.map_congr_left
  intro i hi
  have := List.mem_range.1 (List.mem_filter.1 hi).1
  exact arr_get l this
theorem compact_mem (l : List Nat) (x : Nat) : x ∈ Go.Lib.compact l ↔ x ∈ l := by
  rw [compact_eq, List.mem_map]
  constructor
  · rintro ⟨i, hi, rfl⟩
    have := List.mem_range.1 (List.mem_filter.1 hi).1
    rw [List.getD_eq_getElem?_getD, List.getElem?_eq_getElem this]
    exact List.getElem_mem this
  · intro hx
    obtain ⟨i, hi, rfl⟩ := List.mem_iff_getElem.1 hx
    have : ∀ i, i < l.length → ∃ j, j < l.length ∧ Go.Lib.keeps l.toArray j = true ∧ l.getD j 0 = l.getD i 0 := fun i => by
      induction i with
      | zero => exact fun h => ⟨0, h, (keep_iff l h).2 (.inl rfl), rfl⟩
      | succ i ih =>
        intro h
        by_cases e : l.getD (i + 1) 0 = l.getD i 0
        · obtain ⟨j, h1, h2, h3⟩ := ih (by omega)
          exact ⟨j, h1, h2, h3.trans e.symm⟩
        · exact ⟨i + 1, h, (keep_iff l h).2 (.inr e), rfl⟩
    obtain ⟨j, h1, h2, h3⟩ := this i hi
    refine ⟨j, List.mem_filter.2 ⟨List.mem_range.2 h1, h2⟩, ?_⟩
    rw [h3]
    simp [List.getD_eq_getElem?_getD, hi]
theorem compact_sorted {l : List Nat} (hs : l.Pairwise (· ≤ ·)) : (Go.Lib.compact l).Pairwise (· < ·) := by
  rw [compact_eq, List.pairwise_map]
  refine (List.Pairwise.filter _ List.pairwise_lt_range).imp_of_mem fun {i j} hi hj hij => ?_
  have hjl := List.mem_range.1 (List.mem_filter.1 hj).1
  have hk := (keep_iff l hjl).1 (List.mem_filter.1 hj).2
  have hget : ∀ k (h : k < l.length), l.getD k 0 = l[k] := fun k h => by simp [List.getD_eq_getElem?_getD, h]
  have hle : ∀ a b, a ≤ b → b < l.length → l.getD a 0 ≤ l.getD b 0 := fun a b hab hb => by
    rcases Nat.eq_or_lt_of_le hab with e | e
    · rw [e]; exact Nat.le_refl _
    · rw [hget a (by omega), hget b hb]
      exact List.pairwise_iff_getElem.1 hs a b (by omega) hb e
  rcases hk with h | h
  · omega
  · have h1 := hle i (j - 1) (by omega) (by omega)
    have h2 := hle (j - 1) j (by omega) hjl
    omega
theorem srt_p (l : List Nat) : (l.mergeSort (fun a b => decide (a ≤ b))).Perm l := List.mergeSort_perm _ _
theorem srt_s (l : List Nat) : (l.mergeSort (fun a b => decide (a ≤ b))).Pairwise (· ≤ ·) := by
  have := List.pairwise_mergeSort (le := fun a b : Nat => decide (a ≤ b)) (fun a b c h1 h2 => by simp at *; omega) (fun a b => by simp; omega) l
  exact this.imp fun h => by simpa using h
theorem lt_nodup {l : List Nat} (h : l.Pairwise (· < ·)) : l.Nodup := h.imp fun h => Nat.ne_of_lt h
theorem perm_of_mem {l m : List Nat} (h1 : l.Nodup) (h2 : m.Nodup) (h : ∀ x, x ∈ l ↔ x ∈ m) : l.Perm m := by
  rw [List.perm_iff_count]
  intro a
  by_cases ha : a ∈ l
  · rw [h1.count, h2.count, if_pos ha, if_pos ((h a).1 ha)]
  · rw [List.count_eq_zero_of_not_mem ha, List.count_eq_zero_of_not_mem fun h' => ha ((h a).2 h')]
theorem lt_same {l m : List Nat} (h1 : l.Pairwise (· < ·)) (h2 : m.Pairwise (· < ·)) (h : ∀ x, x ∈ l ↔ x ∈ m) : l = m :=
  (perm_of_mem (lt_nodup h1) (lt_nodup h2) h).eq_of_pairwise (fun a b _ _ h1 h2 => by omega) h1 h2
/-! ### The words -/
theorem wl_mem (l : List Nat) (x : Nat) : x ∈ wl l ↔ x ∈ ws l := (compact_mem _ x).trans (srt_p _).mem_iff
theorem wl_sorted (l : List Nat) : (wl l).Pairwise (· < ·) := compact_sorted (srt_s _)
theorem wl_congr {l m : List Nat} (h : ∀ x, x ∈ ws l ↔ x ∈ ws m) : wl l = wl m := lt_same (wl_sorted l) (wl_sorted m) fun x => by rw [wl_mem, wl_mem]; exact h x
theorem wl_pos (l : List Nat) : 0 < (wl l).length := List.length_pos_iff.2 fun e => by
  have := (wl_mem l 0).2 (ws_zero l)
  rw [e] at this; cases this
theorem wl_first (l : List Nat) : (wl l).getD 0 0 = 0 := by
  have h0 := (wl_mem l 0).2 (ws_zero l)
  have hs := wl_sorted l
  generalize wl l = L at *
  cases L with
  | nil => rfl
  | cons a L =>
    rcases List.mem_cons.1 h0 with h | h
    · exact h.symm
    · have := (List.pairwise_cons.1 hs).1 0 h; omega
theorem wl_lt {n : Nat} {l : List Nat} (h : ∀ g ∈ l, g < 2 ^ n) : ∀ x ∈ wl l, x < 2 ^ n := fun x hx => ws_lt h x ((wl_mem l x).1 hx)
/-! ### The basis -/
theorem bl_perm (l : List Nat) : (bl l).Perm (bs l) := (List.reverse_perm _).trans (srt_p _)
theorem bl_red (l : List Nat) : Red (bl l) := (bs_red l).perm (bl_perm l).symm
theorem bl_ws (l : List Nat) (x : Nat) : x ∈ ws (bl l) ↔ x ∈ ws l := (ws_perm (bl_perm l) x).trans (bs_ws l x)
theorem bl_lt {n : Nat} {l : List Nat} (h : ∀ g ∈ l, g < 2 ^ n) : ∀ b ∈ bl l, b < 2 ^ n := fun b hb => bs_lt h b ((bl_perm l).mem_iff.1 hb)
theorem bl_congr {l m : List Nat} (h : ∀ x, x ∈ ws l ↔ x ∈ ws m) : bl l = bl m := by
  have hp : (bs l).Perm (bs m) := (bs_red l).unique (bs_red m) fun x => by rw [bs_ws, bs_ws]; exact h x
  unfold bl
  congr 1
  exact ((srt_p _).trans (hp.trans (srt_p _).symm)).eq_of_pairwise (fun a b _ _ h1 h2 => by omega) (srt_s _) (srt_s _)
theorem wl_bl (l : List Nat) : wl (bl l) = wl l := wl_congr (bl_ws l)
theorem wl_perm (l : List Nat) : (wl l).Perm (ws (bl l)) := perm_of_mem (lt_nodup (wl_sorted l)) (Red.free _ (bl_red l)) fun x => by rw [wl_mem, bl_ws]
theorem wl_len (l : List Nat) : (wl l).length = 2 ^ (bl l).length := by rw [(wl_perm l).length_eq, ws_len]
theorem bl_len_eq (l : List Nat) : (bl l).length = (bs l).length := (bl_perm l).length_eq
theorem bs_len_le : ∀ l, (bs l).length ≤ l.length := snoc_ind (Nat.le_refl _) fun l g ih => by
  rw [bs_snoc, List.length_append, List.length_singleton]
  unfold st
  split
  · omega
  · rw [List.length_append, List.length_map, List.length_singleton]; omega
theorem bl_len_le (l : List Nat) : (bl l).length ≤ l.length := by rw [bl_len_eq]; exact bs_len_le l
/-! ### Check -/
theorem chk_ok {n : Int} {l : List Nat} (h : chkL n l = 0) : ∃ N : Nat, n = (N : Int) ∧ 1 ≤ N ∧ N ≤ 12 ∧ l.length ≤ 6 ∧ ∀ x ∈ l, x < 2 ^ N := by
  unfold chkL at h
  split at h
  · cases h
  · rename_i h1
    split at h
    · cases h
    · rename_i h2
      split at h
      · cases h
      · rename_i h3
        refine ⟨n.toNat, by omega, by omega, by omega, by omega, fun x hx => ?_⟩
        have h3' : l.any (fun x => decide (2 ^ n.toNat ≤ x)) = false := by simpa using h3
        have := List.any_eq_false.1 h3' x hx
        simp only [decide_eq_true_eq] at this
        omega
theorem chk_of {N : Nat} {l : List Nat} (h1 : 1 ≤ N) (h12 : N ≤ 12) (h6 : l.length ≤ 6) (hl : ∀ x ∈ l, x < 2 ^ N) : chkL (N : Int) l = 0 := by
  unfold chkL
  rw [if_neg (by omega), if_neg (by omega), if_neg]
  rw [Bool.not_eq_true, List.any_eq_false]
  intro x hx
  have := hl x hx
  simp only [decide_eq_true_eq, Int.toNat_natCast]
  omega
theorem chk_bl {N : Nat} {l : List Nat} (h1 : 1 ≤ N) (h12 : N ≤ 12) (h6 : l.length ≤ 6) (hl : ∀ x ∈ l, x < 2 ^ N) : chkL (N : Int) (bl l) = 0 :=
  chk_of h1 h12 (Nat.le_trans (bl_len_le l) h6) (bl_lt hl)
theorem lt12 {N : Nat} {l : List Nat} (h12 : N ≤ 12) (hl : ∀ x ∈ l, x < 2 ^ N) : ∀ x ∈ l, x < 2 ^ 12 := fun x hx => Nat.lt_of_lt_of_le (hl x hx) (Nat.pow_le_pow_right (by omega) h12)
end Wm
namespace Go.Proofs.Ytkebldjepdhioaa
open Go.RowKit Go.BigFrame Go.Sort

/-- What Words and Base return. -/
def LPost (f : List Nat → List Nat) (n : Int) (l : List Nat) (w w' : World) (e : Ending) : Prop :=
  (Wm.chkL n l ≠ 0 ∧ e = .returned (.tuple #[.slice none 0 0, .int .i64 (Wm.chkL n l)])) ∨
  (Wm.chkL n l = 0 ∧ ∃ v, e = .returned (.tuple #[v, .int .i64 0]) ∧ Made w' w.heap.size 26 1 v (f l).length (nats .u16 (f l)))
set_option maxRecDepth 100000 in
set_option maxHeartbeats 1000000 in
theorem Words_any (n : Int) (A : Option Addr) (m c : Nat) (l : List Nat) (w : World) (R : Row w A m 1 (nats .u16 l)) (hm : m ≤ 9223372036854775807) (hl : ∀ x ∈ l, x < 65536) :
    Calls Try.prog 10 #[.int .i64 n, .slice A m c] w fun e w' => LPost Wm.wl n l w w' e ∧ Ext w w' := by
  have CK := hide (check_any n A m c l w R hm hl)
  by_cases hk : Wm.chkL n l = 0
  · obtain ⟨N, rfl, h1, h12, h6, hlt⟩ := Wm.chk_ok hk
    have hlen := R.numN
    have CW := hide (fun (W : World) (E : Ext w W) => words_ok A m c l W (R.keep E) (by omega) (Wm.lt12 h12 hlt))
    have HK := hide hk
    rw [hk] at CK
    clear R hl hlt hk
    go_enter Try.func10, Try.ntmps10
    go_wp2_with fail
    refine (unhide CK).mono ?_
    rintro e w1 ⟨rfl, E1⟩
    go_wp2_with fail
    refine (unhide CW _ E1).mono ?_
    rintro e w2 ⟨⟨v, rfl, M⟩, E2⟩
    have HM := hide (M.mono (Ext.size E1))
    have HE := hide (E1.trans E2)
    clear M E1 E2
    go_wp2
    go_ret2
    exact ⟨.inr ⟨unhide HK, v, rfl, unhide HM⟩, unhide HE⟩
  · have HK := hide hk
    obtain ⟨k, hkk⟩ : ∃ k, k = Wm.chkL n l := ⟨_, rfl⟩
    rw [← hkk] at CK hk
    have HKK := hide hkk
    have hkB : (k != 0) = true := by simpa using hk
    clear hkk R hl
    go_enter Try.func10, Try.ntmps10
    go_wp2_with fail
    refine (unhide CK).mono ?_
    rintro e w1 ⟨rfl, E1⟩
    go_wp2
    go_ret2
    exact ⟨.inl ⟨unhide HK, by rw [unhide HKK]; rfl⟩, E1⟩
set_option maxRecDepth 100000 in
set_option maxHeartbeats 1000000 in
theorem Base_any (n : Int) (A : Option Addr) (m c : Nat) (l : List Nat) (w : World) (R : Row w A m 1 (nats .u16 l)) (hm : m ≤ 9223372036854775807) (hl : ∀ x ∈ l, x < 65536) :
    Calls Try.prog 11 #[.int .i64 n, .slice A m c] w fun e w' => LPost Wm.bl n l w w' e ∧ Ext w w' := by
  have CK := hide (check_any n A m c l w R hm hl)
  by_cases hk : Wm.chkL n l = 0
  · obtain ⟨N, rfl, h1, h12, h6, hlt⟩ := Wm.chk_ok hk
    have hlen := R.numN
    have CW := hide (fun (W : World) (E : Ext w W) => base_ok A m c l W (R.keep E) (by omega) (Wm.lt12 h12 hlt))
    have HK := hide hk
    rw [hk] at CK
    clear R hl hlt hk
    go_enter Try.func11, Try.ntmps11
    go_wp2_with fail
    refine (unhide CK).mono ?_
    rintro e w1 ⟨rfl, E1⟩
    go_wp2_with fail
    refine (unhide CW _ E1).mono ?_
    rintro e w2 ⟨⟨v, rfl, M⟩, E2⟩
    have HM := hide (M.mono (Ext.size E1))
    have HE := hide (E1.trans E2)
    clear M E1 E2
    go_wp2
    go_ret2
    exact ⟨.inr ⟨unhide HK, v, rfl, unhide HM⟩, unhide HE⟩
  · have HK := hide hk
    obtain ⟨k, hkk⟩ : ∃ k, k = Wm.chkL n l := ⟨_, rfl⟩
    rw [← hkk] at CK hk
    have HKK := hide hkk
    have hkB : (k != 0) = true := by simpa using hk
    clear hkk R hl
    go_enter Try.func11, Try.ntmps11
    go_wp2_with fail
    refine (unhide CK).mono ?_
    rintro e w1 ⟨rfl, E1⟩
    go_wp2
    go_ret2
    exact ⟨.inl ⟨unhide HK, by rw [unhide HKK]; rfl⟩, E1⟩
end Go.Proofs.Ytkebldjepdhioaa
