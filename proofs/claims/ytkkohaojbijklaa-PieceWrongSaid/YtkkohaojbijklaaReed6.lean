/-
  Put, whatever it is given; and two rows of bytes compared.
-/
import Derived.Test.YtkkohaojbijklaaReed5
set_option linter.unusedVariables false
set_option linter.unusedSimpArgs false
namespace Wm
theorem putL_lt {d : List Nat} {n : Nat} (hd : B256 d) (hk : d.length ≤ n) (hn : n ≤ 256) : B256 (putL d n) := rowL_lt (B256.range (by omega)) hd hn
end Wm
namespace Go.Proofs.Ytkkohaojbijklaa
open Go.RowKit Go.BigFrame

set_option maxRecDepth 100000 in
set_option maxHeartbeats 1000000 in
theorem equal_u8 (A B : Option Addr) (n m c d : Nat) (xs ys : List Nat) (w : World) (R : Row w A n 1 (nats .u8 xs)) (S : Row w B m 1 (nats .u8 ys)) (hn : (n : Int) ≤ 9223372036854775807) (hm : (m : Int) ≤ 9223372036854775807) :
    Calls Try.prog 14 #[.slice A n c, .slice B m d] w fun e w' => e = .returned (.bool (decide (xs = ys))) ∧ ∃ k, w' = w.drewN k := by
  have hx := R.numN
  have hy := S.numN
  by_cases hnm : n = m
  · subst hnm
    have HX := hide hx
    have HY := hide hy
    have HR := hide R
    have HS := hide S
    clear hx hy R S
    go_enter Try.func14, Try.ntmps14
    go_wp2
    go_loopw [13] (fun i wr => ∃ k : Nat, k ≤ n ∧ i = .int .i64 k ∧ Hid (∀ j, j < k → xs.getD j 0 = ys.getD j 0) ∧ ∃ q, wr = w.drewN q) (fun i _ => n - (intOf i).toNat)
    case atStart => exact ⟨0, by omega, rfl, hide (fun j h => absurd h (by omega)), 0, rfl⟩
    case round =>
      obtain ⟨k, hk, rfl, hz, q, rfl⟩ := hrel
      by_cases hlt : k < n
      · obtain ⟨b, o, rfl, hb, c1⟩ := (unhide HR).nat hlt
        obtain ⟨b', o', rfl, hb', c2⟩ := (unhide HS).nat hlt
        have hk0 : (0 : Int) ≤ (k : Int) := by omega
        have hk1 : (k : Int) < (n : Int) := by omega
        by_cases he : xs.getD k 0 = ys.getD k 0
        · have hz2 := hide (fun j (hj : j < k + 1) => (show xs.getD j 0 = ys.getD j 0 from by
            by_cases h : j < k
            · exact unhide hz j h
            · obtain rfl : j = k := by omega
              exact he))
          rw [he] at c1
          clear he
          generalize ys.getD k 0 = y at *
          go_wp2
          go_quiet (fail)
          go_wp2
          go_roundw
          case rel => exact ⟨k + 1, by omega, by go_num, hz2, _, rfl⟩
          case measure => simp [intOf]; omega
        · have hne : (((xs.getD k 0 : Nat) : Int) != ((ys.getD k 0 : Nat) : Int)) = true := by rw [bne_iff_ne]; exact fun h => he (by exact_mod_cast h)
          have hfin := hide (show decide (xs = ys) = false from decide_eq_false (fun h => he (by rw [h])))
          clear he
          generalize xs.getD k 0 = x at *
          generalize ys.getD k 0 = y at *
          go_wp2
          go_quiet (fail)
          go_wp2
          go_ret
          exact ⟨ret_boolv (unhide hfin).symm, _, World.drewN_drewN _ _ _⟩
      · obtain rfl : k = n := by omega
        have hfin := hide (show decide (xs = ys) = true from decide_eq_true (by
          have h1 := unhide HX
          have h2 := unhide HY
          apply List.ext_getElem (by omega)
          intro j j1 j2
          have := unhide hz j (by omega)
          rwa [List.getD_eq_getElem?_getD, List.getElem?_eq_getElem j1, List.getD_eq_getElem?_getD, List.getElem?_eq_getElem j2] at this))
        go_wp2
        go_ret
        exact ⟨ret_boolv (unhide hfin).symm, _, rfl⟩
  · have hv : decide (xs = ys) = false := decide_eq_false (fun h => hnm (by rw [← hx, ← hy, h]))
    rw [hv]
    have hb1 : ((n : Int) != (m : Int)) = true := by rw [bne_iff_ne]; omega
    have hb2 : (n != m) = true := by rw [bne_iff_ne]; exact hnm
    clear hv hx hy hnm R S
    go_enter Try.func14, Try.ntmps14
    go_wp2
    go_ret
    exact ⟨rfl, 0, rfl⟩

/-- A number that Put takes. -/
theorem put_nat {n : Nat} {N : Int} (h : putErr n N = 0) : ∃ m : Nat, N = m ∧ 1 ≤ n ∧ n ≤ m ∧ m ≤ 20 := by
  unfold putErr at h
  by_cases a : n < 1 ∨ 20 < n
  · rw [if_pos a] at h; exact absurd h (by omega)
  · rw [if_neg a] at h
    by_cases b : N < n ∨ 20 < N
    · rw [if_pos b] at h; exact absurd h (by omega)
    · exact ⟨N.toNat, by omega, by omega, by omega, by omega⟩
/-- What Put answers. -/
def PutOut (w w' : World) (k : Nat) (N : Int) (d : List Nat) (e : Ending) : Prop :=
  (putErr k N ≠ 0 ∧ e = .returned (.tuple #[.slice none 0 0, .int .i64 (putErr k N)])) ∨
  (putErr k N = 0 ∧ ∃ m : Nat, N = m ∧ 1 ≤ k ∧ k ≤ m ∧ m ≤ 20 ∧ ∃ v, e = .returned (.tuple #[v, .int .i64 0]) ∧ Made w' w.heap.size 5 1 v m (nats .u8 (Wm.putL d m)))
theorem Put_any (A : Option Addr) (k c : Nat) (N : Int) (d : List Nat) (w : World) (R : Row w A k 1 (nats .u8 d)) (hd : Wm.B256 d) :
    Calls Try.prog 13 #[.slice A k c, .int .i64 N] w fun e w' => PutOut w w' k N d e ∧ Ext w w' := by
  by_cases hp : putErr k N = 0
  · obtain ⟨m, rfl, h1, h2, h3⟩ := put_nat hp
    refine (Put_ok A k c m d w R hd h1 h2 h3).mono ?_
    rintro e w' ⟨⟨v, hv, M⟩, E⟩
    exact ⟨.inr ⟨hp, m, rfl, h1, h2, h3, v, hv, M⟩, E⟩
  · refine (Put_bad A k c N w hp).mono ?_
    rintro e w' ⟨he, rfl⟩
    exact ⟨.inl ⟨hp, he⟩, Ext.refl _⟩
/-- The answer's two halves. -/
theorem PutOut.halves {w w' : World} {k : Nat} {N : Int} {d : List Nat} {e : Ending} (h : PutOut w w' k N d e) : ∃ v q, e = .returned (.tuple #[v, .int .i64 q]) ∧ q = putErr k N ∧
    (q ≠ 0 → v = .slice none 0 0) ∧ (q = 0 → ∃ m : Nat, N = m ∧ 1 ≤ k ∧ k ≤ m ∧ m ≤ 20 ∧ Made w' w.heap.size 5 1 v m (nats .u8 (Wm.putL d m))) := by
  rcases h with ⟨hp, rfl⟩ | ⟨hp, m, hN, h1, h2, h3, v, rfl, M⟩
  · exact ⟨_, _, rfl, rfl, fun _ => rfl, fun h => absurd h hp⟩
  · exact ⟨_, _, rfl, hp.symm, fun h => absurd rfl h, fun _ => ⟨m, hN, h1, h2, h3, M⟩⟩
end Go.Proofs.Ytkkohaojbijklaa
