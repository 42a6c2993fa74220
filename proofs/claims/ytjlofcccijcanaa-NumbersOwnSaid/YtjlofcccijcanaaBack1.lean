/-
  The contracts of divide.Lift and divide.Lower.
-/
import Derived.Test.YtjlofcccijcanaaLift1
set_option linter.unusedVariables false
set_option linter.unusedSimpArgs false
namespace Go.Proofs.Ytjlofcccijcanaa
open Go.RowKit Go.BigFrame

def vp (p : Nat) : Nat → Nat → Nat
  | 0, _ => 0
  | f + 1, n => if n % p = 0 then vp p f (n / p) + 1 else 0
def facT (k : Nat) : List (Nat × Nat) := ([2, 3, 5, 7, 11, 13, 17, 19, 23, 29, 31, 37, 41, 43, 47, 53, 59].map fun p => (p, vp p 6 k)).filter fun x => x.2 != 0
def okFac (k : Nat) : Bool := decide ((facT k).Pairwise fun a b => a.1 < b.1) && (facT k).all (fun x => Wm.pchk x.1 (min 6 (x.1 - 2)) && decide (1 ≤ x.2)) && Wm.prodP (facT k) == k
theorem okFac_all : (List.range 60).all (fun i => okFac (i + 1)) = true := by decide +kernel
theorem facT_ok {k : Nat} (h1 : 1 ≤ k) (h6 : k ≤ 60) : Wm.IsFac k (facT k) := by
  have h := List.all_eq_true.1 okFac_all (k - 1) (List.mem_range.2 (by omega))
  rw [show k - 1 + 1 = k by omega] at h
  simp only [okFac, Bool.and_eq_true, decide_eq_true_eq, List.all_eq_true, beq_iff_eq] at h
  exact ⟨h.1.1, fun x hx => ⟨Wm.pchk_spec (h.1.2 x hx).1, (h.1.2 x hx).2⟩, h.2⟩
def muTab : List Int := 0 :: 1 :: (-1 : Int) :: (-1 : Int) :: 0 :: (-1 : Int) :: 1 :: (-1 : Int) :: 0 :: 0 :: 1 :: (-1 : Int) :: 0 :: (-1 : Int) :: 1 :: 1 :: 0 :: (-1 : Int) :: 0 :: (-1 : Int) :: 0 :: 1 :: 1 :: (-1 : Int) :: 0 :: 0 :: 1 :: 0 :: 0 :: (-1 : Int) :: (-1 : Int) :: (-1 : Int) :: 0 :: 1 :: 1 :: 1 :: 0 :: (-1 : Int) :: 1 :: 1 :: 0 :: (-1 : Int) :: (-1 : Int) :: (-1 : Int) :: 0 :: 0 :: 1 :: (-1 : Int) :: 0 :: 0 :: 0 :: 1 :: 0 :: (-1 : Int) :: 0 :: 1 :: 0 :: 1 :: 1 :: (-1 : Int) :: 0 :: []
def muG (k : Nat) : Int := muTab.getD k 0
def oneG (_ : Nat) : Int := 1
theorem muTab_all : (List.range 60).all (fun i => Wm.mulF gmu (facT (i + 1)) == muG (i + 1)) = true := by decide +kernel
theorem muG_ok {k : Nat} (h1 : 1 ≤ k) (h6 : k ≤ 60) : Wm.mulF gmu (facT k) = muG k := by
  have h := List.all_eq_true.1 muTab_all (k - 1) (List.mem_range.2 (by omega))
  rw [show k - 1 + 1 = k by omega] at h
  simpa using h
theorem muG_bound (k : Nat) : -1 ≤ muG k ∧ muG k ≤ 1 := by
  rcases Nat.lt_or_ge k 61 with h | h
  · have ha : (List.range 61).all (fun i => decide (-1 ≤ muG i ∧ muG i ≤ 1)) = true := by decide +kernel
    have := List.all_eq_true.1 ha k (List.mem_range.2 h)
    simpa using this
  · unfold muG
    rw [List.getD_eq_getElem?_getD, List.getElem?_eq_none (show muTab.length ≤ k from h)]; simp
theorem undone1 : Wm.undone oneG muG = true := by decide +kernel
theorem undone2 : Wm.undone muG oneG = true := by decide +kernel

theorem liftw_any (k : Int) (w : World) : Calls Try.prog 62 #[.int .i64 k] w fun e w' => e = .returned (.int .i64 1) ∧ Ext w w' := by
  go_enter Try.func62, Try.ntmps62
  go_wp2
  go_ret
  exact ⟨rfl, Ext.refl _⟩
theorem lowerw_any (k : Nat) (h1 : 1 ≤ k) (h6 : k ≤ 60) (w : World) : Calls Try.prog 63 #[.int .i64 k] w fun e w' => e = .returned (.int .i64 (muG k)) ∧ Ext w w' := by
  have C : Hid (∀ w : World, Calls Try.prog 64 #[.int .i64 k] w fun e w' => e = .returned (.tuple #[.int .i64 (muG k), .int .i64 0]) ∧ Ext w w') := hide fun w =>
    (Moebius_ok k h1 (by omega) w).mono fun e w' ⟨⟨l, hl, he⟩, hx⟩ => ⟨by rw [he, Wm.fac_unique hl (facT_ok h1 h6), muG_ok h1 h6], hx⟩
  go_enter Try.func63, Try.ntmps63
  go_wp2_with fail
  refine (unhide C _).mono ?_
  rintro e w1 ⟨rfl, E1⟩
  go_wp2
  go_ret
  exact ⟨rfl, E1⟩

theorem Lift_any (A : Option Addr) (n c : Nat) (l : List Int) (w : World) (R : Row w A n 1 (ints l)) (hm : n ≤ 4611686018427387904) :
    Calls Try.prog 32 #[.slice A n c] w fun e w' => SumsPost w w' n l oneG e ∧ Ext w w' := by
  have H := hide (lift_sums_any A n c l oneG w R hm (fun _ => by unfold oneG; omega) fun k _ _ W => liftw_any k W)
  clear R
  go_enter Try.func32, Try.ntmps32
  go_wp2_with fail
  refine (unhide H).mono ?_
  rintro e w1 ⟨⟨h1, rfl⟩ | ⟨h1, v, hv, rfl⟩, E1⟩
  · have H1 := hide h1
    clear h1
    go_wp2
    go_ret2
    exact ⟨.inl ⟨unhide H1, rfl⟩, E1⟩
  · have H1 := hide h1
    clear h1
    go_wp2
    go_ret2
    exact ⟨.inr ⟨unhide H1, v, hv, rfl⟩, E1⟩
theorem Lower_any (A : Option Addr) (n c : Nat) (l : List Int) (w : World) (R : Row w A n 1 (ints l)) (hm : n ≤ 4611686018427387904) :
    Calls Try.prog 33 #[.slice A n c] w fun e w' => SumsPost w w' n l muG e ∧ Ext w w' := by
  have H := hide (lower_sums_any A n c l muG w R hm muG_bound fun k h1 h6 W => lowerw_any k h1 h6 W)
  clear R
  go_enter Try.func33, Try.ntmps33
  go_wp2_with fail
  refine (unhide H).mono ?_
  rintro e w1 ⟨⟨h1, rfl⟩ | ⟨h1, v, hv, rfl⟩, E1⟩
  · have H1 := hide h1
    clear h1
    go_wp2
    go_ret2
    exact ⟨.inl ⟨unhide H1, rfl⟩, E1⟩
  · have H1 := hide h1
    clear h1
    go_wp2
    go_ret2
    exact ⟨.inr ⟨unhide H1, v, hv, rfl⟩, E1⟩

end Go.Proofs.Ytjlofcccijcanaa
