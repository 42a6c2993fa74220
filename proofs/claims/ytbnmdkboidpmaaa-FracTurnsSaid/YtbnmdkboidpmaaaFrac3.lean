/-
  The walks of the laws FracBack and FracTurns.
-/
import Derived.Test.YtbnmdkboidpmaaaFrac2
set_option linter.unusedVariables false
set_option linter.unusedSimpArgs false
namespace Wm
theorem cf_drop : ∀ (k q p : Nat), ∃ p' q', (cf p q).drop k = cf p' q' ∧ p' ≤ max p q ∧ q' ≤ max p q
  | 0, q, p => ⟨p, q, rfl, by omega, by omega⟩
  | k + 1, q, p => by
    rcases Nat.eq_zero_or_pos q with h | h
    · subst h
      exact ⟨0, 0, by rw [cf_zero, cf_zero]; rfl, by omega, by omega⟩
    · rw [cf_pos h, List.drop_succ_cons]
      obtain ⟨p', q', h1, h2, h3⟩ := cf_drop k (p % q) q
      have := Nat.mod_lt p h
      exact ⟨p', q', h1, by omega, by omega⟩
theorem val_cf_le (p q : Nat) : (val (cf p q)).1 ≤ max p 1 ∧ (val (cf p q)).2 ≤ q := by
  rcases Nat.eq_zero_or_pos q with h | h
  · subst h; rw [cf_zero]; simp only [val]; omega
  · rw [val_cf q p h]
    have := Nat.div_le_self p (Nat.gcd p q)
    have := Nat.div_le_self q (Nat.gcd p q)
    simp only
    omega
theorem val_drop (p q k M : Nat) (hp : p ≤ M) (hq : q ≤ M) (hM : 1 ≤ M) : (val ((cf p q).drop k)).1 ≤ M ∧ (val ((cf p q).drop k)).2 ≤ M := by
  obtain ⟨p', q', h1, h2, h3⟩ := cf_drop k q p
  rw [h1]
  have := val_cf_le p' q'
  omega
theorem cf_getD_pos {p q k : Nat} (hq : 0 < q) (h0 : 0 < k) (hk : k < (cf p q).length) : 1 ≤ (cf p q).getD k 0 := by
  obtain ⟨j, rfl⟩ : ∃ j, k = j + 1 := ⟨k - 1, by omega⟩
  rw [cf_pos hq] at hk ⊢
  rw [List.getD_cons_succ]
  have hk' : j < (cf q (p % q)).length := by simpa using hk
  rw [List.getD_eq_getElem?_getD, List.getElem?_eq_getElem hk']
  exact (cf_tail_pos q p hq).2 _ (List.getElem_mem hk')
end Wm
namespace Go.Proofs.Ytbnmdkboidpmaaa
open Go.RowKit Go.BigFrame

theorem cf_30 : Wm.cf 30 13 = [2, 3, 4] := by
  have h1 : Wm.cf 4 1 = [4] := by
    rw [Wm.cf_pos (by omega)]
    show 4 / 1 :: Wm.cf 1 0 = _
    rw [Wm.cf_zero]
  have h2 : Wm.cf 13 4 = [3, 4] := by
    rw [Wm.cf_pos (by omega)]
    show 13 / 4 :: Wm.cf 4 1 = _
    rw [h1]
  rw [Wm.cf_pos (by omega)]
  show 30 / 13 :: Wm.cf 13 4 = _
  rw [h2]
theorem of_30 (w : World) : Calls Try.prog 31 #[.agg #[.int .i64 30, .int .i64 13]] w fun e w' => (∃ A : Option Addr, e = .returned (.tuple #[.slice A 3 3, .int .i64 0]) ∧ Row w' A 3 1 (ints [2, 3, 4])) ∧ Ext w w' := by
  refine (Of_ok 30 13 w (by omega) (by omega) (by omega)).mono fun e w' ⟨⟨A, he, hr⟩, hx⟩ => ?_
  rw [cf_30] at he hr
  exact ⟨⟨A, he, hr⟩, hx⟩
theorem value_234 (w : World) : Calls Try.prog 32 #[.slice (some ⟨w.heap.size, 0, none⟩) 3 3] (w.alloc (.cells #[.int .i64 2, .int .i64 3, .int .i64 4] 3)) fun e w' =>
    e = .returned (.tuple #[.agg #[.int .i64 30, .int .i64 13], .int .i64 0]) ∧ Ext (w.alloc (.cells #[.int .i64 2, .int .i64 3, .int .i64 4] 3)) w' :=
  Value_ok w.heap.size 0 3 3 [2, 3, 4] (w.alloc (.cells #[.int .i64 2, .int .i64 3, .int .i64 4] 3)) (row_new w _ _ 3 1 rfl) (by omega) (by omega) (by decide) (fun k h1 h2 => by have : k = 1 ∨ k = 2 := (by omega); rcases this with rfl | rfl <;> decide) (fun k h => by have : k = 0 ∨ k = 1 ∨ k = 2 ∨ k = 3 := (by omega); rcases this with rfl | rfl | rfl | rfl <;> decide)

set_option maxRecDepth 100000 in
set_option maxHeartbeats 1000000 in
theorem fracs_any (w : World) : Calls Try.prog 30 #[] w fun e w' => e = .returned (.bool true) ∧ Ext w w' := by
  have C1 := hide of_30
  have C2 := hide value_234
  have CE := hide (fun (A : Option Addr) (b : Nat) (w : World) (R : Row w A 3 1 (ints [2, 3, 4])) (S : Row w (some ⟨b, 0, none⟩) 3 1 (ints [2, 3, 4])) => equal_int A (some ⟨b, 0, none⟩) 3 3 3 3 [2, 3, 4] [2, 3, 4] w R S (by omega) (by omega))
  go_enter Try.func30, Try.ntmps30
  go_wp2_with fail
  refine (unhide C1 _).mono ?_
  rintro e w1 ⟨⟨A, rfl, hrow⟩, E1⟩
  have HR := hide hrow
  clear hrow
  go_wp2_with fail
  refine (unhide C2 w1).mono ?_
  rintro e w2 ⟨rfl, E2⟩
  have F2 : Ext w1 w2 := ((Ext.refl w1).alloc _).trans E2
  go_wp2_with fail
  refine (good_made' [0, 0] _ _ _ _ (w2.alloc (.cells #[.int .i64 30, .int .i64 13] 38)) rfl rfl (by decide) (by simp)).mono ?_
  rintro e w3 ⟨rfl, rfl⟩
  obtain ⟨W3, hW3⟩ : ∃ W3, W3 = (w2.alloc (.cells #[.int .i64 30, .int .i64 13] 38)).alloc (.cells #[.int .i64 0, .int .i64 0] 22) := ⟨_, rfl⟩
  have hs3 : W3.heap.size = w2.heap.size + 1 + 1 := by rw [hW3]; simp
  have F3 : Ext w2 W3 := by rw [hW3]; exact ((Ext.refl w2).alloc _).alloc _
  have x0 : W3.cell? ⟨w2.heap.size, 0, none⟩ = some (.int .i64 30) := by rw [hW3]; simp [go_sem]
  have x1 : W3.cell? ⟨w2.heap.size, 1, none⟩ = some (.int .i64 13) := by rw [hW3]; simp [go_sem]
  have HW := hide hW3
  have CQ := unhide CE A W3.heap.size (W3.alloc (.cells #[.int .i64 2, .int .i64 3, .int .i64 4] 3)) (((unhide HR).keep (F2.trans F3)).alloc _) (row_new W3 _ _ 3 1 rfl)
  rw [hs3] at CQ
  have CQ' := hide CQ
  clear CE CQ hs3
  go_wp2_with fail
  rw [← unhide HW]
  refine (unhide CQ').mono ?_
  rintro e w4 ⟨rfl, k4, rfl⟩
  have x0 := (((Ext.refl W3).alloc (.cells #[.int .i64 2, .int .i64 3, .int .i64 4] 3)).drewN k4).keep x0
  have x1 := (((Ext.refl W3).alloc (.cells #[.int .i64 2, .int .i64 3, .int .i64 4] 3)).drewN k4).keep x1
  go_wp2
  go_ret
  exact ⟨rfl, E1.trans (F2.trans (((((Ext.refl w2).alloc _).alloc _).alloc _).drewN k4))⟩

set_option maxRecDepth 100000 in
theorem Of_bad (p q : Int) (w : World) (h : rightB p q = false) :
    Calls Try.prog 31 #[.agg #[.int .i64 p, .int .i64 q]] w fun e w' => e = .returned (.tuple #[.slice none 0 0, .int .i64 1]) ∧ Ext w w' := by
  have CR := hide (fun w : World => right_any p q w)
  rw [h] at CR
  clear h
  go_enter Try.func31, Try.ntmps31
  go_wp2_with fail
  refine (unhide CR _).mono ?_
  rintro e w1 ⟨rfl, E1⟩
  go_wp2
  go_ret2
  exact ⟨rfl, ((Ext.refl w).alloc _).trans E1⟩

/-- What Of and Value tell of each other. -/
theorem of_value (p q : Nat) (w : World) (A : Option Addr) (hp : p ≤ 1000000) (hq1 : 1 ≤ q) (hq : q ≤ 1000000) (hr : Row w A (Wm.cf p q).length 1 (nats .i64 (Wm.cf p q))) :
    ∃ b o, A = some ⟨b, o, none⟩ ∧ ∀ w', Ext w w' → ∀ n c, 1 ≤ n → n ≤ (Wm.cf p q).length →
      Calls Try.prog 32 #[.slice (some ⟨b, o, none⟩) n c] w' fun e w'' => e = .returned (.tuple #[.agg #[.int .i64 ((Wm.val ((Wm.cf p q).take n)).1 : Int), .int .i64 ((Wm.val ((Wm.cf p q).take n)).2 : Int)], .int .i64 0]) ∧ Ext w' w'' := by
  have hpos : 0 < (Wm.cf p q).length := by rw [Wm.cf_pos (by omega)]; simp
  obtain ⟨b, o, rfl, -⟩ := hr.2 hpos
  refine ⟨b, o, rfl, fun w' E n c h1 hn => ?_⟩
  have hrow := (hr.keep E).take hn
  rw [Nat.mul_one, nats_take] at hrow
  have hlen := Wm.cf_length q p
  refine Value_ok b o n c ((Wm.cf p q).take n) w' hrow h1 (by omega) (fun x hx => ?_) (fun k h0 hk => ?_) (fun k hk => ?_)
  · have := Wm.cf_le q p (by omega) x (List.mem_of_mem_take hx)
    omega
  · have := Wm.cf_getD_pos (p := p) (show 0 < q by omega) h0 (show k < (Wm.cf p q).length by omega)
    rw [List.getD_eq_getElem?_getD, List.getElem?_take_of_lt hk, ← List.getD_eq_getElem?_getD]
    exact this
  · have h2 := Wm.val_drop p q k 1000000 hp hq (by omega)
    have hP : Wm.Pos (((Wm.cf p q).drop n)) := by
      intro x hx
      rw [Wm.cf_pos (by omega), ] at hx
      obtain ⟨m, rfl⟩ : ∃ m, n = m + 1 := ⟨n - 1, by omega⟩
      rw [List.drop_succ_cons] at hx
      exact (Wm.cf_tail_pos q p (by omega)).2 x (List.mem_of_mem_drop hx)
    have h3 := Wm.val_mono (((Wm.cf p q).take n).drop k) ((Wm.cf p q).drop n) hP
    have h4 : ((Wm.cf p q).take n).drop k ++ (Wm.cf p q).drop n = (Wm.cf p q).drop k := by
      conv => rhs; rw [← List.take_append_drop n (Wm.cf p q)]
      rw [List.drop_append_of_le_length (by rw [List.length_take]; omega)]
    rw [h4] at h3
    omega
end Go.Proofs.Ytbnmdkboidpmaaa
