/-
  The laws' own tape and their first look at the package massey.
-/
import Derived.Test.YtkcmlcomonfoiaaMassey2
set_option linter.unusedVariables false
set_option linter.unusedSimpArgs false
namespace Wm
/-- The first six bits, and their rule. -/
def f6 : Nat → Bool := fun k => [false, true, true, false, true, true].getD k false
def c6 : Nat → Bool := fun k => decide (k ≤ 2)
theorem c6_gen : Gen f6 c6 2 6 := ⟨fun k hk => decide_eq_false (by omega), rfl, fun i h1 h2 => by
  have : i = 2 ∨ i = 3 ∨ i = 4 ∨ i = 5 := by omega
  rcases this with rfl | rfl | rfl | rfl <;> rfl⟩
theorem f6_rule {C B : Nat → Bool} {L g : Nat} (h : St f6 6 C L B g) : L = 2 ∧ ∀ k, C k = c6 k := by
  obtain ⟨hG, hmin, -⟩ := h
  have h2 := hmin _ _ c6_gen
  have hL : L = 2 := by
    have e0 := hG.2.1
    rcases (by omega : L = 0 ∨ L = 1 ∨ L = 2) with rfl | rfl | rfl
    · have := hG.2.2 1 (by omega) (by omega)
      simp [dot, xs, e0, f6] at this
    · have := hG.2.2 1 (by omega) (by omega)
      simp [dot, xs, e0, f6] at this
    · rfl
  subst hL
  exact ⟨rfl, unique hG c6_gen hmin (by omega)⟩
end Wm
namespace Go.Proofs.Ytkcmlcomonfoiaa
open Go.RowKit Go.BigFrame

set_option maxRecDepth 100000 in
set_option maxHeartbeats 1000000 in
theorem equal_byte (A B : Option Addr) (n m c d : Nat) (xs ys : List Nat) (w : World) (R : Row w A n 1 (nats .u8 xs)) (S : Row w B m 1 (nats .u8 ys)) (hn : (n : Int) ≤ 9223372036854775807) (hm : (m : Int) ≤ 9223372036854775807) :
    Calls Try.prog 16 #[.slice A n c, .slice B m d] w fun e w' => e = .returned (.bool (decide (xs = ys))) ∧ ∃ k, w' = w.drewN k := by
  have hx := R.numN
  have hy := S.numN
  by_cases hnm : n = m
  · subst hnm
    have HX := hide hx
    have HY := hide hy
    have HR := hide R
    have HS := hide S
    clear hx hy R S
    go_enter Try.func16, Try.ntmps16
    go_wp2
    go_loopw [13] (fun i wr => ∃ k : Nat, k ≤ n ∧ i = .int .i64 k ∧ Hid (∀ j, j < k → xs.getD j 0 = ys.getD j 0) ∧ ∃ q, wr = w.drewN q) (fun i _ => n - (intOf i).toNat)
    case atStart => exact ⟨0, by omega, rfl, hide (fun j h => absurd h (by omega)), 0, rfl⟩
    case round =>
      obtain ⟨k, hk, rfl, hz, q, rfl⟩ := hrel
      by_cases hlt : k < n
      · obtain ⟨b, o, rfl, hb, c1⟩ := (unhide HR).nat hlt
        obtain ⟨b', o', rfl, hb', c2⟩ := (unhide HS).nat hlt
        have hk0 : (0 : Int) ≤ (k : Int) := by omega
        have hk1 : (k : Int) < (n : Int) := by omega
        by_cases he : xs.getD k 0 = ys.getD k 0
        · have hz2 := hide (fun j (hj : j < k + 1) => (show xs.getD j 0 = ys.getD j 0 from by
            by_cases h : j < k
            · exact unhide hz j h
            · obtain rfl : j = k := by omega
              exact he))
          rw [he] at c1
          clear he
          generalize ys.getD k 0 = y at *
          go_wp2
          go_quiet (fail)
          go_wp2
          go_roundw
          case rel => exact ⟨k + 1, by omega, by go_num, hz2, _, rfl⟩
          case measure => simp [intOf]; omega
        · have hne : (((xs.getD k 0 : Nat) : Int) != ((ys.getD k 0 : Nat) : Int)) = true := by rw [bne_iff_ne]; exact fun h => he (by exact_mod_cast h)
          have hfin := hide (show decide (xs = ys) = false from decide_eq_false (fun h => he (by rw [h])))
          clear he
          generalize xs.getD k 0 = x at *
          generalize ys.getD k 0 = y at *
          go_wp2
          go_quiet (fail)
          go_wp2
          go_ret
          exact ⟨ret_boolv (unhide hfin).symm, _, World.drewN_drewN _ _ _⟩
      · obtain rfl : k = n := by omega
        have hfin := hide (show decide (xs = ys) = true from decide_eq_true (by
          have h1 := unhide HX
          have h2 := unhide HY
          apply List.ext_getElem (by omega)
          intro j j1 j2
          have := unhide hz j (by omega)
          rwa [List.getD_eq_getElem?_getD, List.getElem?_eq_getElem j1, List.getD_eq_getElem?_getD, List.getElem?_eq_getElem j2] at this))
        go_wp2
        go_ret
        exact ⟨ret_boolv (unhide hfin).symm, _, rfl⟩
  · have hv : decide (xs = ys) = false := decide_eq_false (fun h => hnm (by rw [← hx, ← hy, h]))
    rw [hv]
    have hb1 : ((n : Int) != (m : Int)) = true := by rw [bne_iff_ne]; omega
    have hb2 : (n != m) = true := by rw [bne_iff_ne]; exact hnm
    clear hv hx hy hnm R S
    go_enter Try.func16, Try.ntmps16
    go_wp2
    go_ret
    exact ⟨rfl, 0, rfl⟩


set_option maxRecDepth 100000 in
set_option maxHeartbeats 1000000 in
theorem masseys_any (w : World) : Calls Try.prog 11 #[] w fun e w' => e = .returned (.bool true) ∧ Ext w w' := by
  go_enter Try.func11, Try.ntmps11
  go_wp2_with fail
  refine (Rule_ok (some ⟨w.heap.size, 0, none⟩) 6 6 Wm.f6 _ (row_new w #[.int .u8 0, .int .u8 1, .int .u8 1, .int .u8 0, .int .u8 1, .int .u8 1] 5 6 1 rfl) (by omega)).mono ?_
  rintro e w1 ⟨⟨C, B, L, g, v, hst, rfl, hm⟩, E1⟩
  obtain ⟨rfl, hC⟩ := Wm.f6_rule hst
  have hrow : bsl (fun k => C (k + 1)) 2 = [1, 1] := by
    rw [bsl_congr (g := fun k => Wm.c6 (k + 1)) fun k _ => hC (k + 1)]; rfl
  rw [hrow] at hm
  obtain ⟨A, c, rfl, R, -⟩ := hm.open_
  have EE := ((Ext.refl w).alloc _).trans E1
  clear hst hC hrow hm
  go_wp2_with fail
  refine (Next_ok (some ⟨w1.heap.size, 0, none⟩) 2 2 (fun k => decide (k = 1)) (some ⟨w1.heap.size + 1, 0, none⟩) 2 2 (fun _ => true) ((w1.alloc (.cells #[.int .u8 0, .int .u8 1] 5)).alloc (.cells #[.int .u8 1, .int .u8 1] 5)) ?k1 ?k2 (by omega) (by omega)).mono ?_
  case k1 => exact (row_new w1 #[.int .u8 0, .int .u8 1] 5 2 1 rfl).alloc _
  case k2 =>
    have := row_new (w1.alloc (.cells #[.int .u8 0, .int .u8 1] 5)) #[.int .u8 1, .int .u8 1] 5 2 1 rfl
    rw [show (w1.alloc (.cells #[.int .u8 0, .int .u8 1] 5)).heap.size = w1.heap.size + 1 by simp] at this
    exact this
  rintro e w2 ⟨rfl, hw2⟩
  subst hw2
  have EE2 := (EE.alloc (.cells #[.int .u8 0, .int .u8 1] 5)).alloc (.cells #[.int .u8 1, .int .u8 1] 5)
  have R2 := (R.alloc (.cells #[.int .u8 0, .int .u8 1] 5)).alloc (.cells #[.int .u8 1, .int .u8 1] 5)
  clear EE R
  generalize ((w1.alloc (.cells #[.int .u8 0, .int .u8 1] 5)).alloc (.cells #[.int .u8 1, .int .u8 1] 5)) = w2 at *
  go_wp2_with fail
  refine (equal_byte A (some ⟨w2.heap.size, 0, none⟩) 2 2 c 2 [1, 1] [1, 1] (w2.alloc (.cells #[.int .u8 1, .int .u8 1] 5)) (R2.alloc _) (row_new w2 #[.int .u8 1, .int .u8 1] 5 2 1 rfl) (by omega) (by omega)).mono ?_
  rintro e w3 ⟨rfl, k, rfl⟩
  rw [decide_eq_true rfl]
  have EE3 := (EE2.alloc (.cells #[.int .u8 1, .int .u8 1] 5)).drewN k
  clear EE2 R2
  generalize ((w2.alloc (.cells #[.int .u8 1, .int .u8 1] 5)).drewN k) = w4 at *
  go_wp2
  go_ret
  exact ⟨rfl, EE3⟩
def tapeF (l : List Nat) : Nat → Bool := fun k => decide (l.getD k 0 % 2 = 1)
set_option maxRecDepth 100000 in
theorem tape_any (A : Option Addr) (n c : Nat) (l : List Nat) (w : World) (S : SliceIn w A n c 1 1 (nats .u8 l)) (h8 : ∀ x ∈ l, x < 256) :
    Calls Try.prog 12 #[.slice A n c] w fun e w' => (∃ v, e = .returned v ∧ w'.ownsRow w.heap.size 5 1 v (min n 60) (nats .u8 (bsl (tapeF l) (min n 60)))) ∧ Ext w w' := by
  obtain ⟨R, hnc, hcb, hcm, hnil⟩ := S
  have hlen := R.numN
  obtain ⟨m, hm⟩ : ∃ m, m = min n 60 := ⟨_, rfl⟩
  have hm1 : m ≤ n := by omega
  have hm2 : m ≤ 60 := by omega
  have hmI : (if (60 : Int) < (n : Int) then (60 : Int) else (n : Int)) = (m : Int) := by split <;> omega
  have hwm : IntKind.i64.wrap (m : Int) = (m : Int) := IntWalk.i64_in _ (by omega)
  rw [← hm]
  clear hm
  have H8 := hide h8
  clear h8
  go_enter Try.func12, Try.ntmps12
  go_wp2
  go_loopw [3, 12] (fun v i wr => ∃ k : Nat, k ≤ m ∧ i = .int .i64 k ∧ wr.ownsRow w.heap.size 5 1 v k (nats .u8 (bsl (tapeF l) k)) ∧ Ext w wr) (fun _ i _ => m - (intOf i).toNat)
  case atStart => exact ⟨0, Nat.zero_le _, rfl, World.ownsRow_nil _ _ _ _, Ext.refl _⟩
  case round =>
    obtain ⟨k, hk, rfl, hown, hext⟩ := hrel
    by_cases hlt : k < m
    · obtain ⟨b, o, rfl, hb, hc⟩ := (R.keep hext).nat (k := k) (by omega)
      have hx8 := unhide H8 _ (getD_mem l 0 (show k < l.length by omega))
      have hmod : ((l.getD k 0 : Nat) : Int).tmod 2 = (((tapeF l k).toNat : Nat) : Int) := by
        unfold tapeF
        generalize l.getD k 0 = x
        by_cases h : x % 2 = 1
        · rw [decide_eq_true h, Int.tmod_eq_emod_of_nonneg (by omega)]
          show (x : Int) % 2 = 1
          omega
        · rw [decide_eq_false h, Int.tmod_eq_emod_of_nonneg (by omega)]
          show (x : Int) % 2 = 0
          omega
      have hww : IntKind.u8.wrap (((tapeF l k).toNat : Nat) : Int) = (((tapeF l k).toNat : Nat) : Int) := by cases tapeF l k <;> rfl
      have htk : nats .u8 (bsl (tapeF l) (k + 1)) = nats .u8 (bsl (tapeF l) k) ++ [.int .u8 (((tapeF l k).toNat : Nat) : Int)] := by
        rw [bsl_succ, ← nats_append]; rfl
      have HT := hide htk
      have HOW := hide hown
      have hbd : (k + 1) * 1 ≤ 140737488355328 ∧ k + 1 ≤ 9223372036854775807 := by omega
      generalize (tapeF l k).toNat = y at *
      generalize l.getD k 0 = x at *
      clear htk hown R hlen
      go_wp2_with (at_builtin; refine wpList_app rfl _ _ 22 (by rfl) 5 byteM hext _ _ _ _ (by rfl) (unhide HOW) 1 1 (by rfl) rfl rfl hbd ?_)
      intro v' w2 hown' hext' _
      have hown2 : w2.ownsRow w.heap.size 5 1 v' (k + 1) (nats .u8 (bsl (tapeF l) (k + 1))) := by rw [unhide HT]; exact hown'
      clear hown'
      go_wp2
      go_roundw
      case rel => exact ⟨k + 1, by omega, num_eqM (by omega), hown2, hext'⟩
      case measure => simp [intOf]; omega
    · obtain rfl : k = m := by omega
      have HOW := hide hown
      clear hown R hlen
      go_wp2
      go_ret
      exact ⟨⟨_, rfl, unhide HOW⟩, hext⟩
end Go.Proofs.Ytkcmlcomonfoiaa
