/-
  The contracts of wholekeep.sum and wholeref.Ones, and Equal at int.
-/
import Derived.Test.YtbejhfafipedmaaLin10
set_option linter.unusedVariables false
set_option linter.unusedSimpArgs false
namespace Wm
theorem sum_le_mul {B : Nat} : ∀ l : List Nat, (∀ x ∈ l, x ≤ B) → l.sum ≤ B * l.length
  | [], _ => by simp
  | a :: l, h => by
    have := sum_le_mul l fun x hx => h x (List.mem_cons_of_mem _ hx)
    have h2 := h a List.mem_cons_self
    rw [List.sum_cons, List.length_cons, Nat.mul_add, Nat.mul_one]
    omega
theorem sum_take {l : List Nat} {k : Nat} (h : k < l.length) : (l.take (k + 1)).sum = (l.take k).sum + l.getD k 0 := by
  rw [List.take_succ_eq_append_getElem h, List.sum_append]
  simp [List.getD_eq_getElem?_getD, h]
theorem sum_take_le {B k : Nat} {l : List Nat} (h : ∀ x ∈ l, x ≤ B) : (l.take k).sum ≤ B * l.length :=
  Nat.le_trans (sum_le_mul _ fun x hx => h x (List.mem_of_mem_take hx)) (Nat.mul_le_mul (Nat.le_refl _) (by rw [List.length_take]; omega))
theorem mkS_sum (f : Nat → Nat) : ∀ n, (((mkS n f).sum : Nat) : Int) = sI (List.range n) fun i => (f i : Int)
  | 0 => rfl
  | n + 1 => by
    rw [sI_range, ← mkS_sum f n]
    unfold mkS
    rw [List.range_succ, List.map_append, List.sum_append]
    simp
end Wm
namespace Go.Proofs.Ytbejhfafipedmaa
open Go.RowKit Go.BigFrame Go.Sort

set_option maxRecDepth 100000 in
set_option maxHeartbeats 1000000 in
theorem equal_i64 (A B : Option Addr) (n m c d : Nat) (xs ys : List Nat) (w : World) (R : Row w A n 1 (nats .i64 xs)) (S : Row w B m 1 (nats .i64 ys)) (hn : (n : Int) ≤ 9223372036854775807) (hm : (m : Int) ≤ 9223372036854775807) :
    Calls Try.prog 23 #[.slice A n c, .slice B m d] w fun e w' => e = .returned (.bool (decide (xs = ys))) ∧ ∃ k, w' = w.drewN k := by
  have hx := R.numN
  have hy := S.numN
  by_cases hnm : n = m
  · subst hnm
    have HX := hide hx
    have HY := hide hy
    have HR := hide R
    have HS := hide S
    clear hx hy R S
    go_enter Try.func23, Try.ntmps23
    go_wp2
    go_loopw [13] (fun i wr => ∃ k : Nat, k ≤ n ∧ i = .int .i64 k ∧ Hid (∀ j, j < k → xs.getD j 0 = ys.getD j 0) ∧ ∃ q, wr = w.drewN q) (fun i _ => n - (intOf i).toNat)
    case atStart => exact ⟨0, by omega, rfl, hide (fun j h => absurd h (by omega)), 0, rfl⟩
    case round =>
      obtain ⟨k, hk, rfl, hz, q, rfl⟩ := hrel
      by_cases hlt : k < n
      · obtain ⟨b, o, rfl, hb, c1⟩ := (unhide HR).nat hlt
        obtain ⟨b', o', rfl, hb', c2⟩ := (unhide HS).nat hlt
        have hk0 : (0 : Int) ≤ (k : Int) := by omega
        have hk1 : (k : Int) < (n : Int) := by omega
        by_cases he : xs.getD k 0 = ys.getD k 0
        · have hz2 := hide (fun j (hj : j < k + 1) => (show xs.getD j 0 = ys.getD j 0 from by
            by_cases h : j < k
            · exact unhide hz j h
            · obtain rfl : j = k := by omega
              exact he))
          rw [he] at c1
          clear he
          generalize ys.getD k 0 = y at *
          go_wp2
          go_quiet (fail)
          go_wp2
          go_roundw
          case rel => exact ⟨k + 1, by omega, by go_num, hz2, _, rfl⟩
          case measure => simp [intOf]; omega
        · have hne : (((xs.getD k 0 : Nat) : Int) != ((ys.getD k 0 : Nat) : Int)) = true := by rw [bne_iff_ne]; exact fun h => he (by exact_mod_cast h)
          have hfin := hide (show decide (xs = ys) = false from decide_eq_false (fun h => he (by rw [h])))
          clear he
          generalize xs.getD k 0 = x at *
          generalize ys.getD k 0 = y at *
          go_wp2
          go_quiet (fail)
          go_wp2
          go_ret
          exact ⟨ret_boolv (unhide hfin).symm, _, World.drewN_drewN _ _ _⟩
      · obtain rfl : k = n := by omega
        have hfin := hide (show decide (xs = ys) = true from decide_eq_true (by
          have h1 := unhide HX
          have h2 := unhide HY
          apply List.ext_getElem (by omega)
          intro j j1 j2
          have := unhide hz j (by omega)
          rwa [List.getD_eq_getElem?_getD, List.getElem?_eq_getElem j1, List.getD_eq_getElem?_getD, List.getElem?_eq_getElem j2] at this))
        go_wp2
        go_ret
        exact ⟨ret_boolv (unhide hfin).symm, _, rfl⟩
  · have hv : decide (xs = ys) = false := decide_eq_false (fun h => hnm (by rw [← hx, ← hy, h]))
    rw [hv]
    have hb1 : ((n : Int) != (m : Int)) = true := by rw [bne_iff_ne]; omega
    have hb2 : (n != m) = true := by rw [bne_iff_ne]; exact hnm
    clear hv hx hy hnm R S
    go_enter Try.func23, Try.ntmps23
    go_wp2
    go_ret
    exact ⟨rfl, 0, rfl⟩

/-- A row of numbers just made. -/
theorem rowI (w : World) (xs : List Nat) (n : Nat) (hn : xs.length = n) (cs : Array Value) (hcs : cs.toList = nats .i64 xs) : Row (w.alloc (.cells cs 3)) (some ⟨w.heap.size, 0, none⟩) n 1 (nats .i64 xs) := by
  have hs : cs.size = n * 1 := by
    have := congrArg List.length hcs
    rw [nats_length] at this
    simpa [hn] using this
  have := row_new w cs 3 n 1 hs
  rwa [hcs] at this
set_option maxRecDepth 100000 in
set_option maxHeartbeats 1000000 in
theorem sum_ok (A : Option Addr) (m c : Nat) (xs : List Nat) (w : World) (R : Row w A m 1 (nats .i64 xs)) (hm : m ≤ 64) (hx : ∀ x ∈ xs, x ≤ 4096) :
    Calls Try.prog 24 #[.slice A m c] w fun e w' => e = .returned (.int .i64 ((xs.sum : Nat) : Int)) ∧ w' = w := by
  have hlen := R.numN
  have HR := hide R
  have HB := hide (show ∀ k, (xs.take k).sum ≤ 262144 from fun k => Nat.le_trans (Wm.sum_take_le hx) (by rw [hlen]; exact Nat.mul_le_mul (Nat.le_refl 4096) hm))
  have HS := hide (show ∀ k, k < m → (xs.take (k + 1)).sum = (xs.take k).sum + xs.getD k 0 from fun k hk => Wm.sum_take (by omega))
  have HT := hide (show xs.take m = xs by rw [← hlen]; exact List.take_length)
  clear R hx hlen
  go_enter Try.func24, Try.ntmps24
  go_wp2
  go_loopw [3, 8] (fun a i wr => ∃ k : Nat, k ≤ m ∧ i = .int .i64 k ∧ a = .int .i64 (((xs.take k).sum : Nat) : Int) ∧ wr = w) (fun _ i _ => m - (intOf i).toNat)
  case atStart => exact ⟨0, Nat.zero_le _, rfl, rfl, rfl⟩
  case round =>
    obtain ⟨k, hk, rfl, rfl, hw⟩ := hrel
    subst hw
    by_cases hlt : k < m
    · obtain ⟨b, o, rfl, hb, hc⟩ := (unhide HR).nat hlt
      have hs := unhide HS k hlt
      have h1 := unhide HB k
      have h2 := unhide HB (k + 1)
      have HSS := hide hs
      rw [hs] at h2
      clear hs
      generalize (xs.take k).sum = u at *
      generalize xs.getD k 0 = x at *
      go_wp2
      go_roundw
      case rel => exact ⟨k + 1, by omega, by go_num, by rw [unhide HSS]; go_num, trivial⟩
      case measure => simp [intOf]; omega
    · obtain rfl : k = m := by omega
      rw [unhide HT]
      go_wp2
      go_ret
      exact ⟨rfl, rfl⟩
theorem wts_trial (W : World) (b : Nat) (R : Row W (some ⟨b, 0, none⟩) 2 1 (nats .u16 [3, 5])) :
    Calls Try.prog 22 #[.int .i64 3, .slice (some ⟨b, 0, none⟩) 2 2] W fun e w' => (∃ v, e = .returned (.tuple #[v, .int .i64 0]) ∧ Made w' W.heap.size 3 1 v 4 (nats .i64 [1, 0, 3, 0])) ∧ Ext W w' :=
  (Weights_any 3 (some ⟨b, 0, none⟩) 2 2 [3, 5] W R (by omega) (by decide)).mono fun e w' h => by
    obtain ⟨h | ⟨-, v, rfl, M⟩, E⟩ := h
    · exact absurd Wm.chk_35 h.1
    · rw [Wm.wl_35, show Wm.wts (Int.toNat 3) [0, 3, 5, 6] = [1, 0, 3, 0] by decide] at M
      exact ⟨⟨v, rfl, M⟩, E⟩
end Go.Proofs.Ytbejhfafipedmaa
