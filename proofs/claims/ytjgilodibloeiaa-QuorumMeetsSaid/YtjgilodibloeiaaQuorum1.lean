/-
  The contracts of package quorum.
-/
import Derived.Test.YtjgilodibloeiaaPlus
namespace Go.Proofs.Ytjgilodibloeiaa
open Go.RowKit

set_option maxRecDepth 100000 in
set_option maxHeartbeats 1000000 in
theorem Least_ok (n k : Int) (w : World) (hn : 1 ≤ n ∧ n ≤ 10) (hk : 1 ≤ k ∧ k ≤ n) :
    Calls Try.prog 22 #[.int .i64 n, .int .i64 k] w fun e w' => e = .returned (.tuple #[.agg #[.int .i64 n, .int .i64 k, .int .i64 ((n + k + 1) / 2), .int .i64 ((n + k) / 2)], .int .i64 0]) ∧ Ext w w' := by
  go_enter Try.func22, Try.ntmps22
  go_wp2
  refine bodyPost_ret (v := .tuple #[.agg #[.int .i64 n, .int .i64 k, .int .i64 ((n + k + 1) / 2), .int .i64 ((n + k) / 2)], .int .i64 0]) (by simp [results, Try.results22, go_sem]) rfl ⟨rfl, (Ext.refl _).alloc _⟩

set_option maxRecDepth 100000 in
set_option maxHeartbeats 1000000 in
theorem Least_bad (n k : Int) (w : World) (h : ¬ ((1 ≤ n ∧ n ≤ 10) ∧ (1 ≤ k ∧ k ≤ n))) :
    Calls Try.prog 22 #[.int .i64 n, .int .i64 k] w fun e w' => e = .returned (.tuple #[.agg #[.int .i64 0, .int .i64 0, .int .i64 0, .int .i64 0], .int .i64 1]) ∧ Ext w w' := by
  have core : ∀ (_ : n < 1 ∨ (1 ≤ n ∧ 10 < n) ∨ (1 ≤ n ∧ n ≤ 10 ∧ k < 1) ∨ (1 ≤ n ∧ n ≤ 10 ∧ 1 ≤ k ∧ n < k)), Calls Try.prog 22 #[.int .i64 n, .int .i64 k] w fun e w' => e = .returned (.tuple #[.agg #[.int .i64 0, .int .i64 0, .int .i64 0, .int .i64 0], .int .i64 1]) ∧ Ext w w' := by
    clear h
    rintro (h | ⟨h1, h2⟩ | ⟨h1, h2, h3⟩ | ⟨h1, h2, h3, h4⟩)
    all_goals
      go_enter Try.func22, Try.ntmps22
      go_wp2
      refine bodyPost_ret (v := .tuple #[.agg #[.int .i64 0, .int .i64 0, .int .i64 0, .int .i64 0], .int .i64 1]) (by simp [results, Try.results22, go_sem]) rfl ⟨rfl, (Ext.refl _).alloc _⟩
  exact core (by omega)

set_option maxRecDepth 100000 in
set_option maxHeartbeats 1000000 in
theorem Check_any (n k x y : Int) (w : World) (hn : 1 ≤ n ∧ n ≤ 10) (hk : 1 ≤ k ∧ k ≤ n) (hx : 1 ≤ x ∧ x ≤ n) (hy : 1 ≤ y ∧ y ≤ n) :
    Calls Try.prog 23 #[.agg #[.int .i64 n, .int .i64 k, .int .i64 x, .int .i64 y]] w fun e w' => e = .returned (.int .i64 (if x + y < n + k then 9 else 0)) ∧ Ext w w' := by
  have hmf : ∀ (fn : Fn) (first cap : Array Value) (w : World), (Instr.makeFunc fn first cap).run Try.prog w = .ok (.func fn first cap) w := fun _ _ _ _ => rfl
  go_enter Try.func23, Try.ntmps23
  go_wp2
  all_goals
    go_ret
    exact ⟨rfl, (Ext.refl _).alloc _⟩

set_option maxRecDepth 100000 in
set_option maxHeartbeats 2000000 in
theorem Check_bad (n k x y : Int) (w : World) (h : ¬ ((1 ≤ n ∧ n ≤ 10) ∧ (1 ≤ k ∧ k ≤ n) ∧ (1 ≤ x ∧ x ≤ n) ∧ (1 ≤ y ∧ y ≤ n))) :
    Calls Try.prog 23 #[.agg #[.int .i64 n, .int .i64 k, .int .i64 x, .int .i64 y]] w fun e w' => e = .returned (.int .i64 1) ∧ Ext w w' := by
  have hmf : ∀ (fn : Fn) (first cap : Array Value) (w : World), (Instr.makeFunc fn first cap).run Try.prog w = .ok (.func fn first cap) w := fun _ _ _ _ => rfl
  have core : ∀ (_ : n < 1 ∨ (1 ≤ n ∧ 10 < n) ∨ (1 ≤ n ∧ n ≤ 10 ∧ k < 1) ∨ (1 ≤ n ∧ n ≤ 10 ∧ 1 ≤ k ∧ n < k) ∨ (1 ≤ n ∧ n ≤ 10 ∧ 1 ≤ k ∧ k ≤ n ∧ x < 1) ∨ (1 ≤ n ∧ n ≤ 10 ∧ 1 ≤ k ∧ k ≤ n ∧ 1 ≤ x ∧ n < x) ∨ (1 ≤ n ∧ n ≤ 10 ∧ 1 ≤ k ∧ k ≤ n ∧ 1 ≤ x ∧ x ≤ n ∧ y < 1) ∨ (1 ≤ n ∧ n ≤ 10 ∧ 1 ≤ k ∧ k ≤ n ∧ 1 ≤ x ∧ x ≤ n ∧ 1 ≤ y ∧ n < y)),
      Calls Try.prog 23 #[.agg #[.int .i64 n, .int .i64 k, .int .i64 x, .int .i64 y]] w fun e w' => e = .returned (.int .i64 1) ∧ Ext w w' := by
    clear h
    rintro (h | ⟨h1, h2⟩ | ⟨h1, h2, h3⟩ | ⟨h1, h2, h3, h4⟩ | ⟨h1, h2, h3, h4, h5⟩ | ⟨h1, h2, h3, h4, h5, h6⟩ | ⟨h1, h2, h3, h4, h5, h6, h7⟩ | ⟨h1, h2, h3, h4, h5, h6, h7, h8⟩)
    all_goals
      try have hd : decide (y ≤ n) = false := decide_eq_false (by omega)
      go_enter Try.func23, Try.ntmps23
      go_wp2
      go_ret
      exact ⟨rfl, (Ext.refl _).alloc _⟩
  exact core (by omega)


set_option maxRecDepth 100000 in
set_option maxHeartbeats 1000000 in
theorem quorums_any (w : World) : Calls Try.prog 21 #[] w fun e w' => e = .returned (.bool true) ∧ Ext w w' := by
  have c1 := hide (fun w : World => Least_ok 5 2 w (by omega) (by omega))
  go_enter Try.func21, Try.ntmps21
  go_wp2_with fail
  refine (unhide c1 _).mono ?_
  rintro e w' ⟨rfl, E⟩
  go_wp2
  go_ret
  exact ⟨rfl, E.alloc _⟩

theorem bcell {W w1 : World} (hb : Ext W w1) : (∀ b o, b < W.heap.size → w1.cell? ⟨b, o, none⟩ = W.cell? ⟨b, o, none⟩) ∧ (∀ b o, b < W.heap.size → w1.frozen? ⟨b, o, none⟩ = W.frozen? ⟨b, o, none⟩) :=
  ⟨fun b o h => hb.cell (p := ⟨b, o, none⟩) h, fun b o h => hb.frozen (p := ⟨b, o, none⟩) h⟩
/-- Check says no, by whatever number. -/
theorem Check_no (n k x y : Int) (w : World) (hn : 1 ≤ n ∧ n ≤ 10) (hk : 1 ≤ k ∧ k ≤ n) (hx : 0 ≤ x ∧ x ≤ n) (hy : 0 ≤ y ∧ y ≤ n) (hs : x + y < n + k) :
    Calls Try.prog 23 #[.agg #[.int .i64 n, .int .i64 k, .int .i64 x, .int .i64 y]] w fun e w' => (∃ v : Int, e = .returned (.int .i64 v) ∧ (v != 0) = true) ∧ Ext w w' := by
  by_cases h : 1 ≤ x ∧ 1 ≤ y
  · exact (Check_any n k x y w hn hk (by omega) (by omega)).mono fun e w' ⟨he, hw⟩ => ⟨⟨9, by rw [he, if_pos hs], rfl⟩, hw⟩
  · exact (Check_bad n k x y w (by omega)).mono fun e w' ⟨he, hw⟩ => ⟨⟨1, he, rfl⟩, hw⟩

set_option maxRecDepth 100000 in
set_option maxHeartbeats 1000000 in
theorem qleast_ok (n k : Int) (w : World) (hn : 1 ≤ n ∧ n ≤ 10) (hk : 1 ≤ k ∧ k ≤ n) :
    Calls Try.prog 8 #[.int .i64 n, .int .i64 k] w fun e w' => e = .returned (.bool true) ∧ Ext w w' := by
  have c1 := hide (fun w : World => Least_ok n k w hn hk)
  go_enter Try.func8, Try.ntmps8
  go_wp2_with fail
  refine (quorums_any _).mono ?_
  rintro e w' ⟨rfl, E⟩
  go_wp2_with fail
  refine (unhide c1 _).mono ?_
  rintro e w' ⟨rfl, E1⟩
  have EE := E.trans E1
  go_wp2_with fail
  go_region
  · go_wp2_with fail
    refine (Check_any _ _ _ _ _ hn hk (by omega) (by omega)).mono ?_
    rintro e w2 ⟨rfl, E2⟩
    rw [if_neg (by omega)]
    have l0 := E2.keep (a := ⟨w'.heap.size + 1, 0, none⟩) (v := .int .i64 n) (by simp [go_sem])
    have l1 := E2.keep (a := ⟨w'.heap.size + 1, 1, none⟩) (v := .int .i64 k) (by simp [go_sem])
    have l2 := E2.keep (a := ⟨w'.heap.size + 1, 2, none⟩) (v := .int .i64 ((n + k + 1) / 2 - 1)) (by simp [go_sem])
    have l3 := E2.keep (a := ⟨w'.heap.size + 1, 3, none⟩) (v := .int .i64 ((n + k) / 2)) (by simp [go_sem])
    have f0 := E2.keep (a := ⟨w'.heap.size + 2, 0, none⟩) (v := .int .i64 n) (by simp [go_sem])
    have f1 := E2.keep (a := ⟨w'.heap.size + 2, 1, none⟩) (v := .int .i64 k) (by simp [go_sem])
    have f2 := E2.keep (a := ⟨w'.heap.size + 2, 2, none⟩) (v := .int .i64 ((n + k + 1) / 2)) (by simp [go_sem])
    have f3 := E2.keep (a := ⟨w'.heap.size + 2, 3, none⟩) (v := .int .i64 ((n + k) / 2 - 1)) (by simp [go_sem])
    have q0 := E2.keep (a := ⟨w'.heap.size, 0, none⟩) (v := .int .i64 n) (by simp [go_sem])
    have q1 := E2.keep (a := ⟨w'.heap.size, 1, none⟩) (v := .int .i64 k) (by simp [go_sem])
    have F2 : Ext w w2 := Ext.trans (by repeat (first | exact EE | refine Ext.alloc ?_ _ | refine Ext.drew ?_ | refine Ext.drewN ?_ _ | (refine Ext.trans ?_ (plus_ext _ _)) | (refine Ext.setCell ?_ (by have := Ext.size EE; simp; omega) _))) E2
    clear E2
    go_wp2_with fail
    refine (Check_no n k ((n + k + 1) / 2 - 1) ((n + k) / 2) _ hn hk (by omega) (by omega) (by omega)).mono ?_
    rintro e w3 ⟨⟨v3, rfl, hv3⟩, E3⟩
    have f0 := E3.keep f0
    have f1 := E3.keep f1
    have f2 := E3.keep f2
    have f3 := E3.keep f3
    have F3 := F2.trans E3
    clear F2 E3
    go_wp2_with fail
    refine (Check_no n k ((n + k + 1) / 2) ((n + k) / 2 - 1) _ hn hk (by omega) (by omega) (by omega)).mono ?_
    rintro e w4 ⟨⟨v4, rfl, hv4⟩, E4⟩
    have F4 := F3.trans E4
    clear F3 E4
    go_wp2
    go_ret
    exact ⟨rfl, F4⟩
  · go_wp2_with fail
    refine (Check_any _ _ _ _ _ hn hk (by omega) (by omega)).mono ?_
    rintro e w2 ⟨rfl, E2⟩
    rw [if_neg (by omega)]
    have l0 := E2.keep (a := ⟨w'.heap.size + 2, 0, none⟩) (v := .int .i64 n) (by simp [go_sem])
    have l1 := E2.keep (a := ⟨w'.heap.size + 2, 1, none⟩) (v := .int .i64 k) (by simp [go_sem])
    have l2 := E2.keep (a := ⟨w'.heap.size + 2, 2, none⟩) (v := .int .i64 ((n + k + 1) / 2 - 1)) (by simp [go_sem])
    have l3 := E2.keep (a := ⟨w'.heap.size + 2, 3, none⟩) (v := .int .i64 ((n + k) / 2)) (by simp [go_sem])
    have f0 := E2.keep (a := ⟨w'.heap.size + 1, 0, none⟩) (v := .int .i64 n) (by simp [go_sem])
    have f1 := E2.keep (a := ⟨w'.heap.size + 1, 1, none⟩) (v := .int .i64 k) (by simp [go_sem])
    have f2 := E2.keep (a := ⟨w'.heap.size + 1, 2, none⟩) (v := .int .i64 ((n + k + 1) / 2)) (by simp [go_sem])
    have f3 := E2.keep (a := ⟨w'.heap.size + 1, 3, none⟩) (v := .int .i64 ((n + k) / 2 - 1)) (by simp [go_sem])
    have q0 := E2.keep (a := ⟨w'.heap.size, 0, none⟩) (v := .int .i64 n) (by simp [go_sem])
    have q1 := E2.keep (a := ⟨w'.heap.size, 1, none⟩) (v := .int .i64 k) (by simp [go_sem])
    have F2 : Ext w w2 := Ext.trans (by repeat (first | exact EE | refine Ext.alloc ?_ _ | refine Ext.drew ?_ | refine Ext.drewN ?_ _ | (refine Ext.trans ?_ (plus_ext _ _)) | (refine Ext.setCell ?_ (by have := Ext.size EE; simp; omega) _))) E2
    clear E2
    go_wp2_with fail
    refine (Check_no n k ((n + k + 1) / 2 - 1) ((n + k) / 2) _ hn hk (by omega) (by omega) (by omega)).mono ?_
    rintro e w3 ⟨⟨v3, rfl, hv3⟩, E3⟩
    have f0 := E3.keep f0
    have f1 := E3.keep f1
    have f2 := E3.keep f2
    have f3 := E3.keep f3
    have F3 := F2.trans E3
    clear F2 E3
    go_wp2_with fail
    refine (Check_no n k ((n + k + 1) / 2) ((n + k) / 2 - 1) _ hn hk (by omega) (by omega) (by omega)).mono ?_
    rintro e w4 ⟨⟨v4, rfl, hv4⟩, E4⟩
    have F4 := F3.trans E4
    clear F3 E4
    go_wp2
    go_ret
    exact ⟨rfl, F4⟩

set_option maxRecDepth 100000 in
set_option maxHeartbeats 1000000 in
theorem qleast_bad (n k : Int) (w : World) (h : ¬ ((1 ≤ n ∧ n ≤ 10) ∧ (1 ≤ k ∧ k ≤ n))) :
    Calls Try.prog 8 #[.int .i64 n, .int .i64 k] w fun e w' => e = .returned (.bool true) ∧ Ext w w' := by
  have c1 := hide (fun w : World => Least_bad n k w h)
  clear h
  go_enter Try.func8, Try.ntmps8
  go_wp2_with fail
  refine (quorums_any _).mono ?_
  rintro e w' ⟨rfl, E⟩
  go_wp2_with fail
  refine (unhide c1 _).mono ?_
  rintro e w' ⟨rfl, E1⟩
  have EE := E.trans E1
  go_wp2
  go_ret
  exact ⟨rfl, (by repeat (first | exact EE | refine Ext.alloc ?_ _ | refine Ext.drew ?_ | refine Ext.drewN ?_ _ | (refine Ext.trans ?_ (plus_ext _ _)) | (refine Ext.setCell ?_ (by have := Ext.size EE; simp; omega) _)))⟩
theorem qleast_any (n k : Int) (w : World) :
    Calls Try.prog 8 #[.int .i64 n, .int .i64 k] w fun e w' => e = .returned (.bool true) ∧ Ext w w' := by
  by_cases h : (1 ≤ n ∧ n ≤ 10) ∧ (1 ≤ k ∧ k ≤ n)
  · exact qleast_ok n k w h.1 h.2
  · exact qleast_bad n k w h
end Go.Proofs.Ytjgilodibloeiaa
