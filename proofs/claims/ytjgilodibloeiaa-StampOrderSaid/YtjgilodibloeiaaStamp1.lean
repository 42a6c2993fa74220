/-
  The contract of quorum.Newer, and the walk of the law StampOrder.
-/
import Derived.Test.YtjgilodibloeiaaPlus
namespace Go.Proofs.Ytjgilodibloeiaa
open Go.RowKit Go.BigFrame
attribute [local go_sem] plus_cell' plus_frozen' plus_size Nat.lt_add_right

def newerB (an ab bn bb : Int) : Bool := if bn < an then true else if an = bn then decide (bb < ab) else false

theorem newer_gt {an ab bn bb : Int} (h : bn < an) : newerB an ab bn bb = true := by simp [newerB, h]
theorem newer_eq {an ab bb : Int} : newerB an ab an bb = decide (bb < ab) := by simp [newerB]
theorem newer_lt {an ab bn bb : Int} (h : an < bn) : newerB an ab bn bb = false := by
  unfold newerB; rw [if_neg (by omega), if_neg (by omega)]

theorem newer_iff {an ab bn bb : Int} : newerB an ab bn bb = true ↔ bn < an ∨ (an = bn ∧ bb < ab) := by
  unfold newerB
  split
  · simp [*]
  · split
    · simp [*]
    · simp; omega
theorem newer_not {an ab bn bb : Int} : (newerB an ab bn bb && newerB bn bb an ab) = false := by
  rw [Bool.eq_false_iff]
  intro h
  rw [Bool.and_eq_true, newer_iff, newer_iff] at h
  omega
theorem newer_or {an ab bn bb : Int} (h1 : newerB an ab bn bb = false) (h2 : newerB bn bb an ab = false) : an = bn ∧ ab = bb := by
  have h1 : ¬ newerB an ab bn bb = true := by simp [h1]
  have h2 : ¬ newerB bn bb an ab = true := by simp [h2]
  rw [newer_iff] at h1 h2
  omega
theorem newer_trans {an ab bn bb cn cb : Int} (h1 : newerB an ab bn bb = true) (h2 : newerB bn bb cn cb = true) : newerB an ab cn cb = true := by
  rw [newer_iff] at *
  omega

set_option maxHeartbeats 400000 in
theorem newer_any (an ab bn bb : Int) (w : World) :
    Calls Try.prog 20 #[.agg #[.int .i64 an, .int .i64 ab], .agg #[.int .i64 bn, .int .i64 bb]] w fun e w' => e = .returned (.bool (newerB an ab bn bb)) ∧ Ext w w' := by
  by_cases h1 : bn < an
  · rw [newer_gt h1]
    go_enter Try.func20, Try.ntmps20
    go_wp2
    go_ret
    exact ⟨rfl, ((Ext.refl _).alloc _).alloc _⟩
  · by_cases h2 : an < bn
    · rw [newer_lt h2]
      have h3 : (an == bn) = false := by rw [beq_eq_false_iff_ne]; omega
      go_enter Try.func20, Try.ntmps20
      go_wp2
      go_ret
      exact ⟨rfl, ((Ext.refl _).alloc _).alloc _⟩
    · obtain rfl : an = bn := by omega
      rw [newer_eq]
      clear h1 h2
      by_cases h3 : bb < ab
      all_goals
        go_enter Try.func20, Try.ntmps20
        go_wp2
        go_ret
        exact ⟨by simp [h3], ((Ext.refl _).alloc _).alloc _⟩

set_option maxRecDepth 100000 in
set_option maxHeartbeats 2000000 in
theorem stamp_any (an ab bn bb cn cb : Int) (w : World) :
    Calls Try.prog 7 #[.agg #[.int .i64 an, .int .i64 ab], .agg #[.int .i64 bn, .int .i64 bb], .agg #[.int .i64 cn, .int .i64 cb]] w fun e w' => e = .returned (.bool true) ∧ Ext w w' := by
  have c0 := fun w : World => newer_any 2 0 1 9 w
  rw [show newerB 2 0 1 9 = true by decide] at c0
  have c0 := hide c0
  have c1 := hide (fun w : World => newer_any an ab bn bb w)
  have c2 := hide (fun w : World => newer_any bn bb an ab w)
  have c3 := hide (fun w : World => newer_any bn bb cn cb w)
  have c4 := hide (fun w : World => newer_any an ab cn cb w)
  have c5 := hide (fun w : World => newer_any an ab an ab w)
  go_enter Try.func7, Try.ntmps7
  go_wp2_with fail
  refine (unhide c0 _).mono ?_
  rintro e w' ⟨rfl, E0⟩
  have a0 := plus_keep (E0.keep (a := ⟨w.heap.size, 0, none⟩) (v := .int .i64 an) (by simp [go_sem]))
  have a1 := plus_keep (E0.keep (a := ⟨w.heap.size, 1, none⟩) (v := .int .i64 ab) (by simp [go_sem]))
  have b0 := plus_keep (E0.keep (a := ⟨w.heap.size + 1, 0, none⟩) (v := .int .i64 bn) (by simp [go_sem]))
  have b1 := plus_keep (E0.keep (a := ⟨w.heap.size + 1, 1, none⟩) (v := .int .i64 bb) (by simp [go_sem]))
  have d0 := plus_keep (E0.keep (a := ⟨w.heap.size + 2, 0, none⟩) (v := .int .i64 cn) (by simp [go_sem]))
  have d1 := plus_keep (E0.keep (a := ⟨w.heap.size + 2, 1, none⟩) (v := .int .i64 cb) (by simp [go_sem]))
  have F0 : Ext w w' := (((Ext.refl w).alloc _).alloc _).alloc _ |>.trans E0
  clear E0
  go_wp2_with fail
  refine wp_region_ext (by kernel_rfl) (by kernel_rfl) ?_
  repeat (go_big_quiet_step ((go_at_call 20; exact ext_call (newer_any _ _ _ _ _))))
  refine wpQuiet_nil ?_
  rintro w1 ⟨x1, rfl⟩
  go_wp2_with fail
  refine (newer_any _ _ _ _ _).mono ?_
  rintro e w2 ⟨rfl, E2⟩
  have a0 := E2.keep (a0 x1)
  have a1 := E2.keep (a1 x1)
  have b0 := E2.keep (b0 x1)
  have b1 := E2.keep (b1 x1)
  have F2 : Ext w w2 := F0.trans ((plus_ext _ _).trans E2)
  clear E2 F0 d0 d1
  have f1 : newerB an ab an ab = false := by rw [newer_eq]; simp
  have f2 := newer_not (an := an) (ab := ab) (bn := bn) (bb := bb)
  have f3 := newer_or (an := an) (ab := ab) (bn := bn) (bb := bb)
  have f4 := newer_trans (an := an) (ab := ab) (bn := bn) (bb := bb) (cn := cn) (cb := cb)
  rw [f1]
  clear f1
  generalize newerB an ab bn bb = x at *
  generalize newerB bn bb an ab = y at *
  generalize newerB bn bb cn cb = z at *
  generalize newerB an ab cn cb = u at *
  clear c0 c1 c2 c3 c4 c5
  cases x
  · clear f2 f4
    cases y
    · obtain ⟨rfl, rfl⟩ := f3 rfl rfl
      clear f3
      go_wp2
      go_ret
      exact ⟨rfl, F2⟩
    · clear f3
      go_wp2
      go_ret
      exact ⟨rfl, F2⟩
  · clear f3
    cases y
    · clear f2
      cases z
      · clear f4
        go_wp2
        go_ret
        exact ⟨rfl, F2⟩
      · obtain rfl := f4 rfl rfl
        clear f4
        go_wp2
        go_ret
        exact ⟨rfl, F2⟩
    · simp at f2

end Go.Proofs.Ytjgilodibloeiaa
