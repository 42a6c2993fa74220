/-
  The contract of store.find.
-/
import Derived.Test.YthmmofalepckgaaSto4
set_option linter.unusedVariables false
set_option linter.unusedSimpArgs false
namespace Go.Proofs.Ythmmofalepckgaa
open Go.RowKit Go.BigFrame

set_option maxRecDepth 100000 in
set_option maxHeartbeats 1000000 in
theorem find1_ok (x t : Nat) (s : ByteArray) (bx : Nat) (w : World) (c0 : w.cell? ⟨bx, 0, none⟩ = some (.int .i64 (t : Int))) (c1 : w.cell? ⟨bx, 1, none⟩ = some (.int .i64 0)) :
    Calls Try.prog 38 #[.agg #[.int .i64 (x : Int), .int .i64 0, .string s], .pointer (some ⟨bx, 0, none⟩)] w fun e w' => e = .returned (.bool (x == t)) ∧ Ext w w' := by
  have d0 := fun o => ((Ext.refl w).alloc o).keep c0
  have d1 := fun o => ((Ext.refl w).alloc o).keep c1
  by_cases h : x = t
  · subst h
    rw [beq_self_eq_true]
    go_enter Try.func38, Try.ntmps38
    go_wp2
    go_ret
    exact ⟨rfl, (Ext.refl _).alloc _⟩
  · rw [show (x == t) = false from by simpa using h]
    have hI : ¬ (x : Int) = (t : Int) := by omega
    clear h
    go_enter Try.func38, Try.ntmps38
    go_wp2
    go_ret
    exact ⟨rfl, (Ext.refl _).alloc _⟩


set_option maxRecDepth 100000 in
set_option maxHeartbeats 1000000 in
theorem find_index (A : Option Addr) (n c : Nat) (l : List (Nat × ByteArray)) (bx : Nat) (w : World) (R : Row w A n 3 (kps l)) (p : Nat × ByteArray → Bool)
    (hp : ∀ k, k < n → ∀ W, Ext w W → Calls Try.prog 38 (#[.agg #[.int .i64 ((kd l k).1 : Int), .int .i64 0, .string (kd l k).2]] ++ #[.pointer (some ⟨bx, 0, none⟩)]) W fun e w' => e = .returned (.bool (p (kd l k))) ∧ Ext W w') (hm : n ≤ 4611686018427387904) :
    Calls Try.prog 37 #[.slice A n c, .func (.func 38) #[] #[.pointer (some ⟨bx, 0, none⟩)]] w fun e w' => (∃ r : Int, e = .returned (.int .i64 r) ∧ ((r = -1 ∧ ∀ j, j < n → p (kd l j) = false) ∨ ∃ k, k < n ∧ r = (k : Int) ∧ p (kd l k) = true ∧ ∀ j, j < k → p (kd l j) = false)) ∧ Ext w w' := by
  have HP := hide hp
  have HR := hide R
  clear hp R
  go_enter Try.func37, Try.ntmps37
  go_wp2
  go_loopw [8] (fun i wr => ∃ k : Nat, k ≤ n ∧ i = .int .i64 k ∧ Hid (∀ j, j < k → p (kd l j) = false) ∧ Ext w wr) (fun i _ => n - (intOf i).toNat)
  case atStart => exact ⟨0, by omega, rfl, hide (fun j h => absurd h (by omega)), Ext.refl _⟩
  case round =>
    obtain ⟨k, hk, rfl, hz, hext⟩ := hrel
    by_cases hlt : k < n
    · obtain ⟨b, o, rfl, hb, c1, c2, c3⟩ := ((unhide HR).keep hext).kp hlt
      have hpk := unhide HP k hlt
      have hzk := hide (fun (h : p (kd l k) = false) j (hj : j < k + 1) => (show p (kd l j) = false from by
        by_cases h' : j < k
        · exact unhide hz j h'
        · obtain rfl : j = k := by omega
          exact h))
      have H1 := hide (rfl : p (kd l k) = p (kd l k))
      have H2 := hide (show p (kd l k) = true → p (kd l k) = true from id)
      generalize hq : p (kd l k) = q at hpk hzk
      have HQ := hide hpk
      have Hq := hide hq
      clear hpk H1 H2 hq
      generalize (kd l k).1 = x at *
      generalize (kd l k).2 = y at *
      cases q with
      | false =>
        have hz2 := hide (unhide hzk rfl)
        clear hzk
        go_wp2_with (go_at_call 38; refine (unhide HQ _ hext).mono ?_; rintro e w' ⟨rfl, E1⟩)
        go_roundw
        case rel => exact ⟨k + 1, by omega, by go_num, hz2, hext.trans E1⟩
        case measure => simp [intOf]; omega
      | true =>
        clear hzk
        go_wp2_with (go_at_call 38; refine (unhide HQ _ hext).mono ?_; rintro e w' ⟨rfl, E1⟩)
        go_ret
        exact ⟨⟨_, rfl, .inr ⟨k, hlt, rfl, unhide Hq, unhide hz⟩⟩, hext.trans E1⟩
    · obtain rfl : n = k := by omega
      go_wp2
      go_ret
      exact ⟨⟨_, rfl, .inl ⟨rfl, unhide hz⟩⟩, hext⟩


theorem findP_at {l : List (Nat × ByteArray)} {t k : Nat} (hk : k < l.length) (h : ((kd l k).1 == t) = true) (hj : ∀ j, j < k → ((kd l j).1 == t) = false) : Sto.findP l t = (kd l k).2 := by
  induction l generalizing k with
  | nil => simp at hk
  | cons e l ih =>
    unfold Sto.findP
    cases k with
    | zero =>
      have : (e.1 == t) = true := h
      simp only [List.find?_cons, this]; rfl
    | succ k =>
      have h0 := hj 0 (by omega)
      have : (e.1 == t) = false := h0
      simp only [List.find?_cons, this]
      exact ih (by simpa using hk) h fun j hj' => hj (j + 1) (by omega)
theorem findP_none {l : List (Nat × ByteArray)} {t : Nat} (hj : ∀ j, j < l.length → ((kd l j).1 == t) = false) : Sto.findP l t = ByteArray.empty := by
  unfold Sto.findP
  rw [List.find?_eq_none.2 (fun x hx h => by
    obtain ⟨j, hj', rfl⟩ := List.getElem_of_mem hx
    have := hj j hj'
    unfold kd at this
    rw [List.getD_eq_getElem?_getD, List.getElem?_eq_getElem hj', Option.getD_some] at this
    rw [this] at h
    cases h)]
  rfl

set_option maxRecDepth 100000 in
set_option maxHeartbeats 1000000 in
theorem find_ok (A : Option Addr) (n c t : Nat) (l : List (Nat × ByteArray)) (w : World) (R : Row w A n 3 (kps l)) (hm : n ≤ 4611686018427387904) :
    Calls Try.prog 30 #[.slice A n c, .agg #[.int .i64 (t : Int), .int .i64 0]] w fun e w' => (∃ b, e = .returned (.tuple #[.string (Sto.findP l t), .bool b])) ∧ Ext w w' := by
  have hmf : ∀ (fn : Fn) (first cap : Array Value) (w : World), (Instr.makeFunc fn first cap).run Try.prog w = .ok (.func fn first cap) w := fun _ _ _ _ => rfl
  have hl : l.length = n := by have := R.1; rw [kps_length] at this; omega
  have E1 := (Ext.refl w).alloc (.cells #[.int .i64 (t : Int), .int .i64 0] 34)
  have CI := hide (find_index A n c l w.heap.size _ (R.keep E1) (fun e => e.1 == t) (fun k hk W E => find1_ok (kd l k).1 t (kd l k).2 w.heap.size W (E.keep (by simp)) (E.keep (by simp))) hm)
  have HR := hide (R.keep E1)
  have HE1 := hide E1
  have HL := hide hl
  clear R E1 hl
  go_enter Try.func30, Try.ntmps30
  go_wp2_with (go_at_call 37; refine stop ?_)
  unfold Stop
  refine (unhide CI).mono ?_
  rintro e w2 ⟨⟨r, rfl, hr⟩, E2⟩
  rcases hr with ⟨rfl, hno⟩ | ⟨k, hk, rfl, hy, hno⟩
  · have HF := hide (findP_none (l := l) (t := t) fun j hj => hno j (by rw [← unhide HL]; exact hj))
    clear hno
    go_wp2
    go_ret2
    exact ⟨⟨_, by rw [unhide HF]; rfl⟩, (unhide HE1).trans E2⟩
  · have HF := hide (findP_at (l := l) (t := t) (by rw [unhide HL]; exact hk) hy hno)
    clear hno hy
    obtain ⟨b, o, rfl, hb, c1, c2, c3⟩ := ((unhide HR).keep E2).kp hk
    clear c1 c2
    generalize (kd l k).2 = y at *
    have hkI : (k : Int) < (n : Int) := by omega
    go_wp2
    go_ret2
    exact ⟨⟨_, by rw [unhide HF]; rfl⟩, (unhide HE1).trans E2⟩
end Go.Proofs.Ythmmofalepckgaa
