/-
  The contract of quorum.Meet and the walk of the law QuorumMeets.
-/
import Derived.Test.YtjgilodibloeiaaQuorum1
import Derived.Test.YtjgilodibloeiaaPop1
import Derived.Test.YtjgilodibloeiaaHamming2
namespace Go.Proofs.Ytjgilodibloeiaa
open Go.RowKit Go.BigFrame

theorem ones_eq16 (w : Nat) : ∀ k, Wm.ones16 w k = Wm.ones w k
  | 0 => rfl
  | k + 1 => by simp only [Wm.ones16, Wm.ones]; rw [ones_eq16 w k]

/-- What Meet says of a right quorum. -/
theorem pow_wrap (N : Nat) (h : N ≤ 10) : wrap64 ((2 : Int) ^ N) = ((2 ^ N : Nat) : Int) := by
  have hp : ((2 ^ N : Nat) : Int) = (2 : Int) ^ N := by push_cast; rfl
  have hle : 2 ^ N ≤ 2 ^ 10 := Nat.pow_le_pow_right (by omega) h
  rw [← hp]
  exact IntWalk.wrap64_in _ (by generalize 2 ^ N = P at *; omega)

set_option maxRecDepth 100000 in
set_option maxHeartbeats 2000000 in
theorem Meet_form (N : Nat) (k x y : Int) (a b : Nat) (ha : a < 65536) (hb : b < 65536) (w : World) (hn : 1 ≤ (N : Int) ∧ (N : Int) ≤ 10) (hk : 1 ≤ k ∧ k ≤ N) (hx : 1 ≤ x ∧ x ≤ N) (hy : 1 ≤ y ∧ y ≤ N) (hs : N + k ≤ x + y)
    (h : 2 ^ N ≤ a ∨ 2 ^ N ≤ b) :
    Calls Try.prog 24 #[.agg #[.int .i64 N, .int .i64 k, .int .i64 x, .int .i64 y], .int .u16 a, .int .u16 b] w fun e w' => e = .returned (.tuple #[.int .i64 0, .int .i64 3]) ∧ Ext w w' := by
  have hp := pow_wrap N (by omega)
  generalize 2 ^ N = P at *
  have c1 := hide (fun w : World => Check_any N k x y w hn hk hx hy)
  by_cases h1 : P ≤ a
  · have h1' : (P : Int) ≤ (a : Int) := by omega
    have HP := hide h
    clear h
    go_enter Try.func24, Try.ntmps24
    go_wp2_with fail
    refine (unhide c1 _).mono ?_
    rintro e w' ⟨rfl, E1⟩
    rw [if_neg (by omega)]
    have a0 := E1.keep (a := ⟨w.heap.size, 0, none⟩) (v := .int .i64 N) (by simp [go_sem])
    have F1 : Ext w w' := ((Ext.refl w).alloc _).trans E1
    clear E1
    go_wp2
    go_ret2
    exact ⟨rfl, F1⟩
  · have h2 : P ≤ b := h.resolve_left h1
    have h1' : decide (P ≤ a) = false := decide_eq_false h1
    have h2' : (P : Int) ≤ (b : Int) := by omega
    clear h
    go_enter Try.func24, Try.ntmps24
    go_wp2_with fail
    refine (unhide c1 _).mono ?_
    rintro e w' ⟨rfl, E1⟩
    rw [if_neg (by omega)]
    have a0 := E1.keep (a := ⟨w.heap.size, 0, none⟩) (v := .int .i64 N) (by simp [go_sem])
    have F1 : Ext w w' := ((Ext.refl w).alloc _).trans E1
    clear E1
    go_wp2
    go_ret2
    exact ⟨rfl, F1⟩

set_option maxRecDepth 100000 in
set_option maxHeartbeats 4000000 in
theorem Meet_ok (N : Nat) (k x y : Int) (a b : Nat) (ha : a < 65536) (hb : b < 65536) (w : World) (hn : 1 ≤ (N : Int) ∧ (N : Int) ≤ 10) (hk : 1 ≤ k ∧ k ≤ N) (hx : 1 ≤ x ∧ x ≤ N) (hy : 1 ≤ y ∧ y ≤ N) (hs : N + k ≤ x + y)
    (h1 : a < 2 ^ N) (h2 : b < 2 ^ N) :
    Calls Try.prog 24 #[.agg #[.int .i64 N, .int .i64 k, .int .i64 x, .int .i64 y], .int .u16 a, .int .u16 b] w fun e w' =>
      e = (if (Wm.ones a 16 : Int) < x ∨ (Wm.ones b 16 : Int) < y then .returned (.tuple #[.int .i64 0, .int .i64 9]) else .returned (.tuple #[.int .i64 (Wm.ones (a &&& b) 16), .int .i64 0])) ∧ Ext w w' := by
  have hp := pow_wrap N (by omega)
  generalize 2 ^ N = P at *
  have hab : a &&& b < 65536 := Nat.lt_of_le_of_lt Nat.and_le_left ha
  have e1 := u16_and_nat a b ha hb
  have c1 := hide (fun w : World => Check_any N k x y w hn hk hx hy)
  have c2 := hide (fun w : World => count16_any a ha w)
  have c3 := hide (fun w : World => count16_any b hb w)
  have c4 := hide (fun w : World => count16_any (a &&& b) hab w)
  have h1' : (a : Int) < (P : Int) := by omega
  have h2' : (b : Int) < (P : Int) := by omega
  have h1'' : decide (P ≤ a) = false := decide_eq_false (by omega)
  have h2'' : decide (P ≤ b) = false := decide_eq_false (by omega)
  generalize Wm.ones a 16 = oa at *
  generalize Wm.ones b 16 = ob at *
  generalize a &&& b = ab at *
  generalize Wm.ones ab 16 = oab at *
  by_cases g1 : (oa : Int) < x
  · rw [if_pos (.inl g1)]
    go_enter Try.func24, Try.ntmps24
    go_wp2_with fail
    refine (unhide c1 _).mono ?_
    rintro e w' ⟨rfl, E1⟩
    rw [if_neg (by omega)]
    have a0 := E1.keep (a := ⟨w.heap.size, 0, none⟩) (v := .int .i64 N) (by simp [go_sem])
    have a2 := E1.keep (a := ⟨w.heap.size, 2, none⟩) (v := .int .i64 x) (by simp [go_sem])
    have F1 : Ext w w' := ((Ext.refl w).alloc _).trans E1
    clear E1
    go_wp2
    go_quiet ((first | (go_at_call 33; exact Calls.quiet_of (unhide c2 _))))
    go_wp2
    go_ret2
    exact ⟨rfl, F1.drewN _⟩
  · by_cases g2 : (ob : Int) < y
    · rw [if_pos (.inr g2)]
      go_enter Try.func24, Try.ntmps24
      go_wp2_with fail
      refine (unhide c1 _).mono ?_
      rintro e w' ⟨rfl, E1⟩
      rw [if_neg (by omega)]
      have a0 := E1.keep (a := ⟨w.heap.size, 0, none⟩) (v := .int .i64 N) (by simp [go_sem])
      have a2 := E1.keep (a := ⟨w.heap.size, 2, none⟩) (v := .int .i64 x) (by simp [go_sem])
      have a3 := E1.keep (a := ⟨w.heap.size, 3, none⟩) (v := .int .i64 y) (by simp [go_sem])
      have F1 : Ext w w' := ((Ext.refl w).alloc _).trans E1
      have g1' : decide ((oa : Int) < x) = false := decide_eq_false (by omega)
      clear E1 g1
      go_wp2
      go_quiet ((go_at_call 33; first | (with_reducible exact Calls.quiet_of (unhide c2 _)) | (with_reducible exact Calls.quiet_of (unhide c3 _))))
      go_wp2
      go_ret2
      exact ⟨rfl, F1.drewN _⟩
    · rw [if_neg (by omega)]
      go_enter Try.func24, Try.ntmps24
      go_wp2_with fail
      refine (unhide c1 _).mono ?_
      rintro e w' ⟨rfl, E1⟩
      rw [if_neg (by omega)]
      have a0 := E1.keep (a := ⟨w.heap.size, 0, none⟩) (v := .int .i64 N) (by simp [go_sem])
      have a2 := E1.keep (a := ⟨w.heap.size, 2, none⟩) (v := .int .i64 x) (by simp [go_sem])
      have a3 := E1.keep (a := ⟨w.heap.size, 3, none⟩) (v := .int .i64 y) (by simp [go_sem])
      have F1 : Ext w w' := ((Ext.refl w).alloc _).trans E1
      have g1' : decide ((oa : Int) < x) = false := decide_eq_false (by omega)
      have g2' : decide ((ob : Int) < y) = false := decide_eq_false (by omega)
      clear E1 g1 g2
      go_wp2
      go_quiet ((go_at_call 33; first | (with_reducible exact Calls.quiet_of (unhide c2 _)) | (with_reducible exact Calls.quiet_of (unhide c3 _))))
      go_wp2_with fail
      refine (unhide c4 _).mono ?_
      rintro e w2 ⟨rfl, n2, rfl⟩
      go_wp2
      go_ret2
      exact ⟨rfl, F1.drewN _⟩

/-- Check says no, of any numbers: by 1 or 9. -/
theorem Check_non (n k x y : Int) (w : World) (h : ¬ ((1 ≤ n ∧ n ≤ 10) ∧ (1 ≤ k ∧ k ≤ n) ∧ (1 ≤ x ∧ x ≤ n) ∧ (1 ≤ y ∧ y ≤ n) ∧ n + k ≤ x + y)) :
    Calls Try.prog 23 #[.agg #[.int .i64 n, .int .i64 k, .int .i64 x, .int .i64 y]] w fun e w' => (∃ v : Int, e = .returned (.int .i64 v) ∧ (v != 0) = true) ∧ Ext w w' := by
  by_cases hg : (1 ≤ n ∧ n ≤ 10) ∧ (1 ≤ k ∧ k ≤ n) ∧ (1 ≤ x ∧ x ≤ n) ∧ (1 ≤ y ∧ y ≤ n)
  · exact (Check_any n k x y w hg.1 hg.2.1 hg.2.2.1 hg.2.2.2).mono fun e w' ⟨he, hw⟩ => ⟨⟨9, by rw [he, if_pos (by omega)], rfl⟩, hw⟩
  · exact (Check_bad n k x y w hg).mono fun e w' ⟨he, hw⟩ => ⟨⟨1, he, rfl⟩, hw⟩

set_option maxRecDepth 100000 in
set_option maxHeartbeats 2000000 in
theorem Meet_non (n k x y : Int) (a b : Nat) (w : World) (h : ¬ ((1 ≤ n ∧ n ≤ 10) ∧ (1 ≤ k ∧ k ≤ n) ∧ (1 ≤ x ∧ x ≤ n) ∧ (1 ≤ y ∧ y ≤ n) ∧ n + k ≤ x + y)) :
    Calls Try.prog 24 #[.agg #[.int .i64 n, .int .i64 k, .int .i64 x, .int .i64 y], .int .u16 a, .int .u16 b] w fun e w' => (∃ v : Int, e = .returned (.tuple #[.int .i64 0, .int .i64 v]) ∧ (v != 0) = true) ∧ Ext w w' := by
  have c1 := hide (fun w : World => Check_non n k x y w h)
  clear h
  go_enter Try.func24, Try.ntmps24
  go_wp2_with fail
  refine (unhide c1 _).mono ?_
  rintro e w' ⟨⟨v, rfl, hv⟩, E1⟩
  have F1 : Ext w w' := ((Ext.refl w).alloc _).trans E1
  clear E1
  go_wp2
  go_ret2
  exact ⟨⟨v, rfl, hv⟩, F1⟩

/-- Meet says no. -/
theorem Meet_no (n k x y : Int) (a b : Nat) (ha : a < 65536) (hb : b < 65536) (w : World)
    (h : ¬ ((1 ≤ n ∧ n ≤ 10) ∧ (1 ≤ k ∧ k ≤ n) ∧ (1 ≤ x ∧ x ≤ n) ∧ (1 ≤ y ∧ y ≤ n) ∧ n + k ≤ x + y ∧ a < 2 ^ n.toNat ∧ b < 2 ^ n.toNat ∧ x ≤ (Wm.ones a 16 : Int) ∧ y ≤ (Wm.ones b 16 : Int))) :
    Calls Try.prog 24 #[.agg #[.int .i64 n, .int .i64 k, .int .i64 x, .int .i64 y], .int .u16 a, .int .u16 b] w fun e w' => (∃ v : Int, e = .returned (.tuple #[.int .i64 0, .int .i64 v]) ∧ (v != 0) = true) ∧ Ext w w' := by
  by_cases hg : (1 ≤ n ∧ n ≤ 10) ∧ (1 ≤ k ∧ k ≤ n) ∧ (1 ≤ x ∧ x ≤ n) ∧ (1 ≤ y ∧ y ≤ n) ∧ n + k ≤ x + y
  · obtain ⟨hn, hk, hx, hy, hs⟩ := hg
    obtain ⟨N, rfl⟩ := Int.eq_ofNat_of_zero_le (show 0 ≤ n by omega)
    rw [Int.toNat_natCast] at h
    by_cases hf : 2 ^ N ≤ a ∨ 2 ^ N ≤ b
    · exact (Meet_form N k x y a b ha hb w hn hk hx hy hs hf).mono fun e w' ⟨he, hw⟩ => ⟨⟨3, he, rfl⟩, hw⟩
    · refine (Meet_ok N k x y a b ha hb w hn hk hx hy hs (by omega) (by omega)).mono fun e w' ⟨he, hw⟩ => ⟨⟨9, ?_, rfl⟩, hw⟩
      rw [he, if_pos]
      have h1 : a < 2 ^ N := by omega
      have h2 : b < 2 ^ N := by omega
      by_cases g : (Wm.ones a 16 : Int) < x
      · exact .inl g
      · refine .inr ?_
        have h3 : ¬ (y ≤ (Wm.ones b 16 : Int)) := fun h3 => h ⟨hn, hk, hx, hy, hs, h1, h2, by omega, h3⟩
        omega
  · exact Meet_non n k x y a b w hg

set_option maxRecDepth 100000 in
set_option maxHeartbeats 2000000 in
theorem qmeets_any (n k x y : Int) (a b : Nat) (ha : a < 65536) (hb : b < 65536) (w : World) :
    Calls Try.prog 9 #[.agg #[.int .i64 n, .int .i64 k, .int .i64 x, .int .i64 y], .int .u16 a, .int .u16 b] w fun e w' => e = .returned (.bool true) ∧ Ext w w' := by
  by_cases hg : (1 ≤ n ∧ n ≤ 10) ∧ (1 ≤ k ∧ k ≤ n) ∧ (1 ≤ x ∧ x ≤ n) ∧ (1 ≤ y ∧ y ≤ n) ∧ n + k ≤ x + y ∧ a < 2 ^ n.toNat ∧ b < 2 ^ n.toNat ∧ x ≤ (Wm.ones a 16 : Int) ∧ y ≤ (Wm.ones b 16 : Int)
  · obtain ⟨hn, hk, hx, hy, hs, h1, h2, g1, g2⟩ := hg
    obtain ⟨N, rfl⟩ := Int.eq_ofNat_of_zero_le (show 0 ≤ n by omega)
    obtain ⟨X, rfl⟩ := Int.eq_ofNat_of_zero_le (show 0 ≤ x by omega)
    obtain ⟨Y, rfl⟩ := Int.eq_ofNat_of_zero_le (show 0 ≤ y by omega)
    rw [Int.toNat_natCast] at h1 h2
    have hm := Wm.meets h1 h2 (by omega) (show X ≤ _ by omega) (show Y ≤ _ by omega)
    have hl := Wm.ones_lt (Wm.and_lt (b := b) h1) (by omega)
    have c0 := fun w : World => Meet_ok N k X Y a b ha hb w hn hk hx hy hs h1 h2
    rw [if_neg (by omega)] at c0
    have hab : a &&& b < 65536 := Nat.lt_of_le_of_lt Nat.and_le_left ha
    have c1 := fun w : World => Check_any N k X Y w hn hk hx hy
    rw [if_neg (by omega)] at c1
    have c2 := fun w : World => Ones_any (a &&& b) hab w
    rw [ones_eq16] at c2
    have e1 := u16_and_nat a b ha hb
    have C0 := hide c0
    have C1 := hide c1
    have C2 := hide c2
    clear c0 c1 c2 g1 g2 h1 h2
    generalize a &&& b = ab at *
    generalize Wm.ones ab 16 = m at *
    have m1 : k ≤ (m : Int) := by omega
    have m2 : (m : Int) ≤ (N : Int) := by omega
    have m3 : decide (m ≤ N) = true := decide_eq_true (by omega)
    go_enter Try.func9, Try.ntmps9
    go_wp2_with fail
    refine (quorums_any _).mono ?_
    rintro e w' ⟨rfl, E0⟩
    have a0 := E0.keep (a := ⟨w.heap.size, 0, none⟩) (v := .int .i64 N) (by simp [go_sem])
    have a1 := E0.keep (a := ⟨w.heap.size, 1, none⟩) (v := .int .i64 k) (by simp [go_sem])
    have a2 := E0.keep (a := ⟨w.heap.size, 2, none⟩) (v := .int .i64 X) (by simp [go_sem])
    have a3 := E0.keep (a := ⟨w.heap.size, 3, none⟩) (v := .int .i64 Y) (by simp [go_sem])
    have F0 : Ext w w' := ((Ext.refl w).alloc _).trans E0
    clear E0
    go_wp2_with fail
    refine (unhide C0 _).mono ?_
    rintro e w1 ⟨rfl, E1⟩
    have a0 := E1.keep a0
    have a1 := E1.keep a1
    have a2 := E1.keep a2
    have a3 := E1.keep a3
    have F1 := F0.trans E1
    clear F0 E1
    go_wp2_with fail
    refine (unhide C1 _).mono ?_
    rintro e w2 ⟨rfl, E2⟩
    have a0 := E2.keep a0
    have a1 := E2.keep a1
    have F2 := F1.trans E2
    clear F1 E2
    go_wp2_with fail
    refine (unhide C2 _).mono ?_
    rintro e w3 ⟨rfl, rfl⟩
    go_wp2
    go_ret
    exact ⟨rfl, F2⟩
  · have c0 := hide (fun w : World => Meet_no n k x y a b ha hb w hg)
    clear hg
    go_enter Try.func9, Try.ntmps9
    go_wp2_with fail
    refine (quorums_any _).mono ?_
    rintro e w' ⟨rfl, E0⟩
    have a0 := E0.keep (a := ⟨w.heap.size, 0, none⟩) (v := .int .i64 n) (by simp [go_sem])
    have a1 := E0.keep (a := ⟨w.heap.size, 1, none⟩) (v := .int .i64 k) (by simp [go_sem])
    have a2 := E0.keep (a := ⟨w.heap.size, 2, none⟩) (v := .int .i64 x) (by simp [go_sem])
    have a3 := E0.keep (a := ⟨w.heap.size, 3, none⟩) (v := .int .i64 y) (by simp [go_sem])
    have F0 : Ext w w' := ((Ext.refl w).alloc _).trans E0
    clear E0
    go_wp2_with fail
    refine (unhide c0 _).mono ?_
    rintro e w1 ⟨⟨v, rfl, hv⟩, E1⟩
    have F1 := F0.trans E1
    clear F0 E1
    go_wp2
    go_ret
    exact ⟨rfl, F1⟩

end Go.Proofs.Ytjgilodibloeiaa
