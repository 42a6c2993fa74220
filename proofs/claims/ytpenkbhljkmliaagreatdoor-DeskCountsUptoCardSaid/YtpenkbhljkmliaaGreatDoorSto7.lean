import Derived.Test.YtpenkbhljkmliaaGreatDoorSto5
import Derived.Test.YtpenkbhljkmliaaGreatDoorPiece7
/-
  The contract of store.find.
-/
set_option linter.unusedVariables false
set_option linter.unusedSimpArgs false
namespace Go.Proofs.YtpenkbhljkmliaaGreatDoor
open Go.RowKit Go.BigFrame

set_option maxRecDepth 100000 in
set_option maxHeartbeats 1000000 in
theorem find1_ok (x t : Nat) (s : ByteArray) (bx : Nat) (w : World) (c0 : w.cell? ⟨bx, 0, none⟩ = some (.int .i64 (t : Int))) (c1 : w.cell? ⟨bx, 1, none⟩ = some (.int .i64 0)) :
    Calls Tryz.prog 118 #[.agg #[.int .i64 (x : Int), .int .i64 0, .string s], .pointer (some ⟨bx, 0, none⟩)] w fun e w' => e = .returned (.bool (x == t)) ∧ Ext w w' := by
  have d0 := fun o => ((Ext.refl w).alloc o).keep c0
  have d1 := fun o => ((Ext.refl w).alloc o).keep c1
  by_cases h : x = t
  · subst h
    rw [beq_self_eq_true]
    go_enter Tryz.func118, Tryz.ntmps118
    go_wp2
    go_ret
    exact ⟨rfl, (Ext.refl _).alloc _⟩
  · rw [show (x == t) = false from by simpa using h]
    have hI : ¬ (x : Int) = (t : Int) := by omega
    clear h
    go_enter Tryz.func118, Tryz.ntmps118
    go_wp2
    go_ret
    exact ⟨rfl, (Ext.refl _).alloc _⟩


set_option maxRecDepth 100000 in
set_option maxHeartbeats 1000000 in
theorem find_index (A : Option Addr) (n c : Nat) (l : List (Nat × ByteArray)) (bx : Nat) (w : World) (R : Row w A n 3 (kps l)) (p : Nat × ByteArray → Bool)
    (hp : ∀ k, k < n → ∀ W, Ext w W → Calls Tryz.prog 118 (#[.agg #[.int .i64 ((kd l k).1 : Int), .int .i64 0, .string (kd l k).2]] ++ #[.pointer (some ⟨bx, 0, none⟩)]) W fun e w' => e = .returned (.bool (p (kd l k))) ∧ Ext W w') (hm : n ≤ 4611686018427387904) :
    Calls Tryz.prog 117 #[.slice A n c, .func (.func 118) #[] #[.pointer (some ⟨bx, 0, none⟩)]] w fun e w' => (∃ r : Int, e = .returned (.int .i64 r) ∧ ((r = -1 ∧ ∀ j, j < n → p (kd l j) = false) ∨ ∃ k, k < n ∧ r = (k : Int) ∧ p (kd l k) = true ∧ ∀ j, j < k → p (kd l j) = false)) ∧ Ext w w' := by
  have HP := hide hp
  have HR := hide R
  clear hp R
  go_enter Tryz.func117, Tryz.ntmps117
  go_wp2
  go_loopw [8] (fun i wr => ∃ k : Nat, k ≤ n ∧ i = .int .i64 k ∧ Hid (∀ j, j < k → p (kd l j) = false) ∧ Ext w wr) (fun i _ => n - (intOf i).toNat)
  case atStart => exact ⟨0, by omega, rfl, hide (fun j h => absurd h (by omega)), Ext.refl _⟩
  case round =>
    obtain ⟨k, hk, rfl, hz, hext⟩ := hrel
    by_cases hlt : k < n
    · obtain ⟨b, o, rfl, hb, c1, c2, c3⟩ := ((unhide HR).keep hext).kp hlt
      have hpk := unhide HP k hlt
      have hzk := hide (fun (h : p (kd l k) = false) j (hj : j < k + 1) => (show p (kd l j) = false from by
        by_cases h' : j < k
        · exact unhide hz j h'
        · obtain rfl : j = k := by omega
          exact h))
      have H1 := hide (rfl : p (kd l k) = p (kd l k))
      have H2 := hide (show p (kd l k) = true → p (kd l k) = true from id)
      generalize hq : p (kd l k) = q at hpk hzk
      have HQ := hide hpk
      have Hq := hide hq
      clear hpk H1 H2 hq
      generalize (kd l k).1 = x at *
      generalize (kd l k).2 = y at *
      cases q with
      | false =>
        have hz2 := hide (unhide hzk rfl)
        clear hzk
        go_wp2_with (go_at_call 118; refine (unhide HQ _ hext).mono ?_; rintro e w' ⟨rfl, E1⟩)
        go_roundw
        case rel => exact ⟨k + 1, by omega, by go_num, hz2, hext.trans E1⟩
        case measure => simp [intOf]; omega
      | true =>
        clear hzk
        go_wp2_with (go_at_call 118; refine (unhide HQ _ hext).mono ?_; rintro e w' ⟨rfl, E1⟩)
        go_ret
        exact ⟨⟨_, rfl, .inr ⟨k, hlt, rfl, unhide Hq, unhide hz⟩⟩, hext.trans E1⟩
    · obtain rfl : n = k := by omega
      go_wp2
      go_ret
      exact ⟨⟨_, rfl, .inl ⟨rfl, unhide hz⟩⟩, hext⟩


theorem findP_at {l : List (Nat × ByteArray)} {t k : Nat} (hk : k < l.length) (h : ((kd l k).1 == t) = true) (hj : ∀ j, j < k → ((kd l j).1 == t) = false) : Sto.findP l t = (kd l k).2 := by
  induction l generalizing k with
  | nil => simp at hk
  | cons e l ih =>
    unfold Sto.findP
    cases k with
    | zero =>
      have : (e.1 == t) = true := h
      simp only [List.find?_cons, this]; rfl
    | succ k =>
      have h0 := hj 0 (by omega)
      have : (e.1 == t) = false := h0
      simp only [List.find?_cons, this]
      exact ih (by simpa using hk) h fun j hj' => hj (j + 1) (by omega)
theorem findP_none {l : List (Nat × ByteArray)} {t : Nat} (hj : ∀ j, j < l.length → ((kd l j).1 == t) = false) : Sto.findP l t = ByteArray.empty := by
  unfold Sto.findP
  rw [List.find?_eq_none.2 (fun x hx h => by
    obtain ⟨j, hj', rfl⟩ := List.getElem_of_mem hx
    have := hj j hj'
    unfold kd at this
    rw [List.getD_eq_getElem?_getD, List.getElem?_eq_getElem hj', Option.getD_some] at this
    rw [this] at h
    cases h)]
  rfl

set_option maxRecDepth 100000 in
set_option maxHeartbeats 1000000 in
theorem find_ok (A : Option Addr) (n c t : Nat) (l : List (Nat × ByteArray)) (w : World) (R : Row w A n 3 (kps l)) (hm : n ≤ 4611686018427387904) :
    Calls Tryz.prog 105 #[.slice A n c, .agg #[.int .i64 (t : Int), .int .i64 0]] w fun e w' => (∃ b, e = .returned (.tuple #[.string (Sto.findP l t), .bool b])) ∧ Ext w w' := by
  have hmf : ∀ (fn : Fn) (first cap : Array Value) (w : World), (Instr.makeFunc fn first cap).run Tryz.prog w = .ok (.func fn first cap) w := fun _ _ _ _ => rfl
  have hl : l.length = n := by have := R.1; rw [kps_length] at this; omega
  have E1 := (Ext.refl w).alloc (.cells #[.int .i64 (t : Int), .int .i64 0] 65)
  have CI := hide (find_index A n c l w.heap.size _ (R.keep E1) (fun e => e.1 == t) (fun k hk W E => find1_ok (kd l k).1 t (kd l k).2 w.heap.size W (E.keep (by simp)) (E.keep (by simp))) hm)
  have HR := hide (R.keep E1)
  have HE1 := hide E1
  have HL := hide hl
  clear R E1 hl
  go_enter Tryz.func105, Tryz.ntmps105
  go_wp2_with (go_at_call 117; refine stop ?_)
  unfold Stop
  refine (unhide CI).mono ?_
  rintro e w2 ⟨⟨r, rfl, hr⟩, E2⟩
  rcases hr with ⟨rfl, hno⟩ | ⟨k, hk, rfl, hy, hno⟩
  · have HF := hide (findP_none (l := l) (t := t) fun j hj => hno j (by rw [← unhide HL]; exact hj))
    clear hno
    go_wp2
    go_ret2
    exact ⟨⟨_, by rw [unhide HF]; rfl⟩, (unhide HE1).trans E2⟩
  · have HF := hide (findP_at (l := l) (t := t) (by rw [unhide HL]; exact hk) hy hno)
    clear hno hy
    obtain ⟨b, o, rfl, hb, c1, c2, c3⟩ := ((unhide HR).keep E2).kp hk
    clear c1 c2
    generalize (kd l k).2 = y at *
    have hkI : (k : Int) < (n : Int) := by omega
    go_wp2
    go_ret2
    exact ⟨⟨_, by rw [unhide HF]; rfl⟩, (unhide HE1).trans E2⟩
end Go.Proofs.YtpenkbhljkmliaaGreatDoor

/-
  The contract of (*Store).split.
-/
set_option linter.unusedVariables false
set_option linter.unusedSimpArgs false
namespace Go.Proofs.YtpenkbhljkmliaaGreatDoor
open Go.RowKit Go.BigFrame

/-- What split answers. -/
def SpOut (σ : Sto) (s : ByteArray) (w w' : World) (e : Ending) : Prop :=
  (σ.splitE s ≠ 0 ∧ e = .returned (.tuple #[.slice none 0 0, .int .i64 (σ.splitE s)])) ∨
  (σ.splitE s = 0 ∧ ∃ gq, e = .returned (.tuple #[.slice (some ⟨gq, 0, none⟩) σ.N σ.N, .int .i64 0]) ∧ Made w' w.heap.size 9 1 (.slice (some ⟨gq, 0, none⟩) σ.N σ.N) σ.N (strs (splitL s σ.K σ.N)))
set_option maxRecDepth 100000 in
set_option maxHeartbeats 2000000 in
theorem split_ok {b0 p g : Nat} {w : World} {v : Nat → Nat → Value} {σ : Sto} (S : St b0 w p g v σ) (k1 : 1 ≤ σ.K) (kn : σ.K ≤ σ.N) (hN : σ.N ≤ 10) (hw : σ.wr ≤ 1000000) (s : ByteArray) (hss : (s.size : Int) ≤ 9223372036854775807) :
    Calls Tryz.prog 84 #[.pointer (some ⟨p, 0, none⟩), .string s] w fun e w' => SpOut σ s w w' e ∧ Ext w w' := by
  have HS := hide S
  have c0 := S.cN
  have c1 := S.cK
  have CS := hide (fun (W : World) => Split_any s σ.K σ.N W hss)
  have HE : splErr s σ.K σ.N = if 60 < s.size then 2 else 0 := by unfold splErr; rw [if_neg (by omega)]
  have HER := hide HE
  have HQ := hide (show ∀ W, Ext w W → Calls Tryz.prog 85 #[.pointer (some ⟨p, 0, none⟩)] W fun e w' => (∃ u, e = .returned u ∧ w'.ownsRow W.heap.size 3 1 u σ.ups.length (nats .i64 σ.ups)) ∧ Ext W w' from fun W E => up_ok (S.keep E) hN)
  have HU := hide σ.ups_le
  have HSE := hide (show σ.splitE s = if 60 < s.size then 2 else if σ.ups.length < σ.W then 9 else if σ.wr = 1000000 then 11 else 0 from rfl)
  have HW := hide hw
  have HN := hide hN
  have HK1 := hide k1
  have HKN := hide kn
  clear S k1 kn hN HE hw
  unfold SpOut
  obtain ⟨r, hr⟩ : ∃ r, r = σ.splitE s := ⟨_, rfl⟩
  rw [← hr] at HSE ⊢
  clear hr
  by_cases h60 : 60 < s.size
  · have CS2 := hide (fun (W : World) => Split_bad s σ.K σ.N W hss (by rw [unhide HER, if_pos h60]; decide))
    have HR := hide (show r = 2 from by rw [unhide HSE, if_pos h60])
    rw [unhide HER, if_pos h60] at CS2
    clear h60 HSE HER CS
    rw [unhide HR]
    go_enter Tryz.func84, Tryz.ntmps84
    go_upto_region 1 with fail
    go_region_held3 (fun W => W.cell? ⟨p, 0, none⟩ = some (.int .i64 (σ.N : Int)) ∧ W.cell? ⟨p, 1, none⟩ = some (.int .i64 (σ.K : Int))) (first | exact ⟨Ext.keep (Ext.refl w).drew c0, Ext.keep (Ext.refl w).drew c1⟩ | exact ⟨Ext.keep E1 c0, Ext.keep E1 c1⟩) (first
      | (go_at_call 89; refine (unhide CS2 _).mono ?_; rintro e w1 ⟨rfl, rfl⟩; have E1 : Ext w w.drew := (Ext.refl w).drew))
    go_wp2
    go_ret2
    exact ⟨.inl ⟨by decide, rfl⟩, (Ext.refl w).drew⟩
  · have CS2 := hide (fun (W : World) => Split_ok s σ.K σ.N W (by omega) (unhide HK1) (unhide HKN) (unhide HN))
    rw [if_neg h60] at HSE
    clear h60 HER CS
    go_enter Tryz.func84, Tryz.ntmps84
    go_upto_region 1 with fail
    go_region_held3 (fun W => W.cell? ⟨p, 0, none⟩ = some (.int .i64 (σ.N : Int)) ∧ W.cell? ⟨p, 1, none⟩ = some (.int .i64 (σ.K : Int))) (first | exact ⟨Ext.keep (Ext.refl w).drew c0, Ext.keep (Ext.refl w).drew c1⟩ | exact ⟨Ext.keep E1 c0, Ext.keep E1 c1⟩) (first
      | (go_at_call 89; refine (unhide CS2 _).mono ?_; rintro e w1 ⟨⟨gq, rfl, M1⟩, E1'⟩; have E1 : Ext w w1 := Ext.trans (Ext.refl w).drew E1'))
    have S1 := (unhide HS).keep E1
    have c2 := S1.cW
    have HM := hide (show Made w1 w.heap.size 9 1 (.slice (some ⟨gq, 0, none⟩) σ.N σ.N) σ.N (strs (splitL s σ.K σ.N)) from M1)
    have HE1 := hide E1
    clear S1 M1 E1' E1 c0 c1
    go_wp2
    go_region_held3 (fun W => W.cell? ⟨p, 2, none⟩ = some (.int .i64 (σ.W : Int))) (first | exact Ext.keep (Ext.refl w1).drew c2 | exact Ext.keep E2 c2) (first
      | (go_at_call 85; refine (unhide HQ _ (unhide HE1).drew).mono ?_; rintro e w2 ⟨⟨u, rfl, own⟩, E2'⟩; have E2 : Ext w1 w2 := Ext.trans (Ext.refl w1).drew E2'; obtain ⟨A, cc, rfl, -⟩ := row_of_own own))
    have S2 := (unhide HS).keep ((unhide HE1).trans E2)
    have c5 := S2.cwr
    have HM2 := hide ((unhide HM).keep E2)
    have HE2 := hide ((unhide HE1).trans E2)
    clear S2 E2 E2' own HM HE1 c2
    generalize σ.ups.length = U at *
    by_cases hU : U < σ.W
    · have HR := hide (show r = 9 from by rw [unhide HSE, if_pos hU])
      have hUI : (U : Int) < (σ.W : Int) := by omega
      clear HSE
      go_wp2
      go_ret2
      exact ⟨.inl ⟨by rw [unhide HR]; decide, by rw [unhide HR]; rfl⟩, unhide HE2⟩
    · rw [if_neg hU] at HSE
      have hUI : ¬ (U : Int) < (σ.W : Int) := by omega
      by_cases hwm : σ.wr = 1000000
      · have HR := hide (show r = 11 from by rw [unhide HSE, if_pos hwm])
        have hwI : ((σ.wr : Int) == 1000000) = true := by rw [beq_iff_eq]; omega
        clear HSE hwm
        go_wp2
        go_ret2
        exact ⟨.inl ⟨by rw [unhide HR]; decide, by rw [unhide HR]; rfl⟩, unhide HE2⟩
      · have HR := hide (show r = 0 from by rw [unhide HSE, if_neg hwm])
        have hwI : ((σ.wr : Int) == 1000000) = false := by rw [beq_eq_false_iff_ne]; omega
        clear HSE hwm
        go_wp2
        go_ret2
        exact ⟨.inr ⟨unhide HR, gq, rfl, unhide HM2⟩, unhide HE2⟩
end Go.Proofs.YtpenkbhljkmliaaGreatDoor
