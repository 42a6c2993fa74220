/-
  The contract of linear.Check.
-/
import Derived.Test.YtkebldjepdhioaaLin2
set_option linter.unusedVariables false
set_option linter.unusedSimpArgs false
namespace Wm
/-- Whether some generators stand. -/
def chkL (n : Int) (l : List Nat) : Int := if n < 1 ∨ 12 < n then 1 else if 6 < l.length then 2 else if l.any (fun x => decide (2 ^ n.toNat ≤ x)) then 3 else 0
end Wm
namespace Go.Proofs.Ytkebldjepdhioaa
open Go.RowKit Go.BigFrame Go.Sort

theorem pow_i64 (k : Nat) (hk : k ≤ 16) : IntKind.i64.wrap ((2 : Int) ^ k) = ((2 ^ k : Nat) : Int) ∧ 2 ^ k ≤ 65536 := by
  have h : (2 : Nat) ^ k ≤ 2 ^ 16 := Nat.pow_le_pow_right (by decide) hk
  rw [show ((2 : Int) ^ k) = ((2 ^ k : Nat) : Int) by push_cast; rfl]
  generalize (2 : Nat) ^ k = p at h
  exact ⟨IntWalk.i64_in _ (by omega), by omega⟩
set_option maxRecDepth 100000 in
set_option maxHeartbeats 1000000 in
theorem check1_ok (b N x : Nat) (hN : N ≤ 12) (hx : x < 65536) (W : World) (hc : W.cell? ⟨b, 0, none⟩ = some (.int .i64 (N : Int))) :
    Calls Try.prog 48 #[.int .u16 (x : Int), .pointer (some ⟨b, 0, none⟩)] W fun e w' => e = .returned (.bool (decide (2 ^ N ≤ x))) ∧ ∃ q, w' = W.drewN q := by
  obtain ⟨h1, h2⟩ := pow_i64 N (by omega)
  obtain ⟨p, hp⟩ : ∃ p, p = 2 ^ N := ⟨_, rfl⟩
  rw [← hp] at h1 h2 ⊢
  clear hp
  go_enter Try.func48, Try.ntmps48
  go_wp2
  go_ret
  exact ⟨ret_boolv (by first | rfl | simp), 0, rfl⟩
/-- Numbers below 65536. -/
abbrev W16 := Fin 65536
def encW (x : W16) : Value := .int .u16 ((x.val : Nat) : Int)
def toW (l : List Nat) : List W16 := l.map fun x => ⟨x % 65536, Nat.mod_lt _ (by decide)⟩
theorem toW_len (l : List Nat) : (toW l).length = l.length := List.length_map _
theorem toW_any (l : List Nat) (hl : ∀ x ∈ l, x < 65536) (p : Nat → Bool) : (toW l).any (fun x => p x.val) = l.any p := by
  unfold toW
  rw [List.any_map]
  induction l with
  | nil => rfl
  | cons a l ih =>
    rw [List.any_cons, List.any_cons, ih fun x hx => hl x (by simp [hx])]
    congr 1
    show p (a % 65536) = p a
    rw [Nat.mod_eq_of_lt (hl a (by simp))]
theorem toW_cell {w : World} {b o n : Nat} {l : List Nat} (hl : ∀ x ∈ l, x < 65536) (hn : l.length = n) (h : ∀ j, j < n * 1 → w.cell? ⟨b, o + j, none⟩ = (nats .u16 l)[j]?) : ∀ j, j < (toW l).length → w.cell? ⟨b, o + j, none⟩ = some (encW (toW l)[j]!) := fun j hj => by
  rw [toW_len] at hj
  rw [h j (by omega), nats_get _ _ _ hj]
  have hm := hl _ (getD_mem l 0 hj)
  simp only [encW, toW]
  congr 2
  have e : l.getD j 0 = l[j] := by simp [List.getD_eq_getElem?_getD, hj]
  rw [e] at hm ⊢
  rw [getElem!_pos _ j (by simpa using hj)]
  simp [Nat.mod_eq_of_lt hm]
set_option maxRecDepth 100000 in
set_option maxHeartbeats 2000000 in
theorem check_any (n : Int) (A : Option Addr) (m c : Nat) (l : List Nat) (w : World) (R : Row w A m 1 (nats .u16 l)) (hm : m ≤ 9223372036854775807) (hl : ∀ x ∈ l, x < 65536) :
    Calls Try.prog 28 #[.int .i64 n, .slice A m c] w fun e w' => e = .returned (.int .i64 (Wm.chkL n l)) ∧ Ext w w' := by
  have hlen := R.numN
  by_cases h1 : n < 1
  · have e : Wm.chkL n l = 1 := if_pos (.inl h1)
    rw [e]
    clear R hl
    go_enter Try.func28, Try.ntmps28
    go_wp2
    go_ret
    exact ⟨rfl, (by repeat (first | exact Ext.refl w | refine Ext.alloc ?_ _ | refine Ext.drew ?_ | refine Ext.drewN ?_ _ | (refine Ext.trans ?_ (plus_ext _ _)) | (refine Ext.setCell ?_ (by have := Ext.size Ext.refl w; simp; omega) _)))⟩
  · by_cases h12 : 12 < n
    · have e : Wm.chkL n l = 1 := if_pos (.inr h12)
      have h12B : decide ((12 : Int) < n) = true := decide_eq_true h12
      rw [e]
      clear R hl
      go_enter Try.func28, Try.ntmps28
      go_wp2
      go_ret
      exact ⟨rfl, (by repeat (first | exact Ext.refl w | refine Ext.alloc ?_ _ | refine Ext.drew ?_ | refine Ext.drewN ?_ _ | (refine Ext.trans ?_ (plus_ext _ _)) | (refine Ext.setCell ?_ (by have := Ext.size Ext.refl w; simp; omega) _)))⟩
    · by_cases h6 : 6 < m
      · have e : Wm.chkL n l = 2 := by
          unfold Wm.chkL
          rw [if_neg (by omega), if_pos (by omega)]
        rw [e]
        clear R hl
        go_enter Try.func28, Try.ntmps28
        go_wp2
        go_ret
        exact ⟨rfl, (by repeat (first | exact Ext.refl w | refine Ext.alloc ?_ _ | refine Ext.drew ?_ | refine Ext.drewN ?_ _ | (refine Ext.trans ?_ (plus_ext _ _)) | (refine Ext.setCell ?_ (by have := Ext.size Ext.refl w; simp; omega) _)))⟩
      · obtain ⟨N, rfl⟩ : ∃ N : Nat, n = (N : Int) := ⟨n.toNat, by omega⟩
        have hN : N ≤ 12 := by omega
        obtain ⟨r, hr⟩ : ∃ r, r = l.any (fun x => decide (2 ^ N ≤ x)) := ⟨_, rfl⟩
        have e : Wm.chkL (N : Int) l = if r = true then 3 else 0 := by
          unfold Wm.chkL
          rw [if_neg (by omega), if_neg (by omega), hr]
          rfl
        rw [e]
        have C : Hid (∀ (w' : World), Ext (w.alloc (.cells #[.int .i64 (N : Int)] 3)) w' → Calls Try.prog 31 #[.slice A m c, .func (.func 48) #[] #[.pointer (some ⟨w.heap.size, 0, none⟩)]] w' fun e w'' => e = .returned (.bool r) ∧ ∃ q, w'' = w'.drewN q) := hide (fun w' E => by
          have E0 : Ext w w' := Ext.trans ((Ext.refl w).alloc _) E
          by_cases hm0 : m = 0
          · subst hm0
            obtain rfl := List.eq_nil_of_length_eq_zero hlen
            have hr2 : r = false := by rw [hr]; rfl
            rw [hr2]
            refine (Try.slices_ContainsFunc_empty_f31 (α := Nat) A c _ w').mono ?_
            rintro e w'' ⟨rfl, rfl⟩
            exact ⟨rfl, 0, rfl⟩
          · obtain ⟨b, o, rfl, hb, hc⟩ := (R.keep E0).2 (by omega)
            have := Try.slices_ContainsFunc_f31 encW (fun x => decide (2 ^ N ≤ x.val)) 48 #[.pointer (some ⟨w.heap.size, 0, none⟩)] (enters_of Try.func48 (by kernel_rfl) rfl) b o m c (toW l) w' (fun W x hW => by
              have hcell : (w.alloc (.cells #[.int .i64 (N : Int)] 3)).cell? ⟨w.heap.size, 0, none⟩ = some (.int .i64 (N : Int)) := by simp [go_sem]
              have h1 := (E.cell (p := ⟨w.heap.size, 0, none⟩) (by simp)).trans hcell
              have h2 : W.cell? ⟨w.heap.size, 0, none⟩ = some (.int .i64 (N : Int)) := (Below.cell hW (p := ⟨w.heap.size, 0, none⟩) (by have := E.size; simp at this; show w.heap.size < _; omega)).trans h1
              exact check1_ok w.heap.size N x.val hN x.isLt W h2) (by rw [toW_len]; omega) hm (toW_cell hl hlen hc)
            rw [List.take_of_length_le (by rw [toW_len]; omega), toW_any l hl (fun x => decide (2 ^ N ≤ x)), ← hr] at this
            exact this)
        clear hr e R hl
        cases r
        · rw [if_neg (by decide)]
          go_enter Try.func28, Try.ntmps28
          go_wp2_with fail
          refine (unhide C _ (by repeat (first | exact Ext.refl _ | refine Ext.alloc ?_ _ | refine Ext.drew ?_ | refine Ext.drewN ?_ _ | (refine Ext.trans ?_ (plus_ext _ _)) | (refine Ext.setCell ?_ (by have := Ext.size Ext.refl _; simp; omega) _)))).mono ?_
          rintro e w2 ⟨rfl, q, rfl⟩
          go_wp2
          go_ret
          exact ⟨rfl, (by repeat (first | exact Ext.refl w | refine Ext.alloc ?_ _ | refine Ext.drew ?_ | refine Ext.drewN ?_ _ | (refine Ext.trans ?_ (plus_ext _ _)) | (refine Ext.setCell ?_ (by have := Ext.size Ext.refl w; simp; omega) _)))⟩
        · rw [if_pos rfl]
          go_enter Try.func28, Try.ntmps28
          go_wp2_with fail
          refine (unhide C _ (by repeat (first | exact Ext.refl _ | refine Ext.alloc ?_ _ | refine Ext.drew ?_ | refine Ext.drewN ?_ _ | (refine Ext.trans ?_ (plus_ext _ _)) | (refine Ext.setCell ?_ (by have := Ext.size Ext.refl _; simp; omega) _)))).mono ?_
          rintro e w2 ⟨rfl, q, rfl⟩
          go_wp2
          go_ret
          exact ⟨rfl, (by repeat (first | exact Ext.refl w | refine Ext.alloc ?_ _ | refine Ext.drew ?_ | refine Ext.drewN ?_ _ | (refine Ext.trans ?_ (plus_ext _ _)) | (refine Ext.setCell ?_ (by have := Ext.size Ext.refl w; simp; omega) _)))⟩
end Go.Proofs.Ytkebldjepdhioaa
