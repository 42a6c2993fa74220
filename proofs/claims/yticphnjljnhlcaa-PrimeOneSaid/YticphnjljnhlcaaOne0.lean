/-
  slices.Equal, slices.Concat and slices.ContainsFunc at api.Power, for the law PrimeOne.
-/
import Derived.Test.YticphnjljnhlcaaFactor1
import Derived.Test.YticphnjljnhlcaaAppRow
import Derived.Lib.AppendZeros
import Derived.BigQuiet
set_option linter.unusedVariables false
set_option linter.unusedSimpArgs false
namespace Go.Proofs.Yticphnjljnhlcaa
open Go.RowKit Go.BigFrame

set_option maxRecDepth 100000 in
set_option maxHeartbeats 1000000 in
theorem equal_power (A B : Option Addr) (n c d : Nat) (l : List (Int × Int)) (w : World) (R : Row w A n 2 (prs l)) (S : Row w B n 2 (prs l)) (hn : (n : Int) ≤ 9223372036854775807) :
    Calls Try.prog 16 #[.slice A n c, .slice B n d] w fun e w' => e = .returned (.bool true) ∧ ∃ k, w' = w.drewN k := by
  have hne : ∀ (x y : Int) (w : World), (binOp .neq 28 (.agg #[.int .i64 x, .int .i64 y]) (.agg #[.int .i64 x, .int .i64 y])).run Try.prog w = .ok (.bool false) w := by
    intro x y w
    have h1 := Try.underlying28
    have h2 := Try.underlying3
    rw [run_neq_struct]
    simp [go_sem, h1, h2]
  have HR := hide R
  have HS := hide S
  clear R S
  go_enter Try.func16, Try.ntmps16
  go_wp2
  go_loopw [13] (fun i wr => ∃ k : Nat, k ≤ n ∧ i = .int .i64 k ∧ ∃ q, wr = w.drewN q) (fun i _ => n - (intOf i).toNat)
  case atStart => exact ⟨0, by omega, rfl, 0, rfl⟩
  case round =>
    obtain ⟨k, hk, rfl, q, rfl⟩ := hrel
    by_cases hlt : k < n
    · obtain ⟨b, o, rfl, hb, c1, c2⟩ := (unhide HR).pair hlt
      obtain ⟨b', o', rfl, hb', d1, d2⟩ := (unhide HS).pair hlt
      have hk0 : (0 : Int) ≤ (k : Int) := by omega
      have hk1 : (k : Int) < (n : Int) := by omega
      generalize (l.getD k (0, 0)).1 = x at *
      generalize (l.getD k (0, 0)).2 = y at *
      go_wp2
      go_quiet (fail)
      go_wp2
      go_roundw
      case rel => exact ⟨k + 1, by omega, by go_num, _, rfl⟩
      case measure => simp [intOf]; omega
    · obtain rfl : k = n := by omega
      go_wp2
      go_ret
      exact ⟨rfl, _, rfl⟩


set_option maxRecDepth 100000 in
set_option maxHeartbeats 1000000 in
theorem concat_power_grow (N : Nat) (w : World) (hb : N * 16 ≤ 140737488355328) (h63 : N ≤ 4611686018427387904) :
    Calls Try.prog 45 #[.slice none 0 0, .int .i64 N] w fun e w' => (∃ v, e = .returned v ∧ w'.ownsRow w.heap.size 28 2 v 0 []) ∧ Ext w w' := by
  have hi0 : (Try.prog.info? 28).map (fun i => (i.zero, i.size, i.bytes)) = some (some (Value.agg #[.int .i64 0, .int .i64 0]), 2, 16) := by kernel_rfl
  obtain ⟨i0, hi, hz0, hz1, hz2⟩ := info_parts hi0
  rcases Nat.eq_zero_or_pos N with rfl | h0
  · go_enter Try.func45, Try.ntmps45
    go_wp2
    go_ret
    exact ⟨⟨_, rfl, World.ownsRow_nil _ _ _ _⟩, Ext.refl _⟩
  · have hrun := fun w : World => Lib.run_append_nil_zeros (P := Try.prog) w 22 3 22 28 i0 (Value.agg #[.int .i64 0, .int .i64 0]) .i64 .i64 Try.underlying22 Try.underlying3 hi hz0 N h0 (by rw [hz1]; decide) (by omega) (by rw [hz2]; omega)
    have hcap := grownCap_le_maxLen w N 0 28 (by unfold maxLen; omega)
    have hge := grownCap_ge w N 0 28
    have hown := World.ownsRow_made (base := w.heap.size) (e := 28) (size := 2) w.drew (Builtin.zeroCells (Value.agg #[.int .i64 0, .int .i64 0]).cells N ++ Builtin.zeroCells (Value.agg #[.int .i64 0, .int .i64 0]).cells (grownCap w N 0 28 - N)) (grownCap w N 0 28) (Nat.le_refl _) hcap (by
      have hz : (Value.agg #[.int .i64 0, .int .i64 0] : Value).cells.size = 2 := rfl
      simp only [Array.size_append, size_zeroCells, hz, ← Nat.add_mul]
      rw [Nat.add_sub_cancel' hge])
    have HO := hide hown
    clear hown
    have HR := hide (hrun w)
    clear hrun
    generalize grownCap w N 0 28 = C at *
    go_enter Try.func45, Try.ntmps45
    go_wp2_with (at_builtin; refine Lib.wpList_append_run _ rfl _ _ _ _ rfl _ _ rfl rfl _ _ (unhide HR) ?_)
    go_ret
    exact ⟨⟨_, rfl, unhide HO⟩, ((Ext.refl w).drewN 1).alloc _⟩

set_option maxRecDepth 100000 in
set_option maxHeartbeats 1000000 in
theorem concat_power (g n c m d : Nat) (A B : Option Addr) (xs ys : List Value) (w : World) (hg : g < w.heap.size) (c0 : w.cell? ⟨g, 0, none⟩ = some (.slice A n c)) (c1 : w.cell? ⟨g, 1, none⟩ = some (.slice B m d))
    (R : Row w A n 2 xs) (S : Row w B m 2 ys) (o1 : ∀ u ∈ xs, u.oneCell' = true) (o2 : ∀ u ∈ ys, u.oneCell' = true) (hA : A = none → n = 0 ∧ c = 0) (hB : B = none → m = 0 ∧ d = 0)
    (hb : (n + m) * 16 ≤ 140737488355328) (h63 : n + m ≤ 4611686018427387904) :
    Calls Try.prog 19 #[.slice (some ⟨g, 0, none⟩) 2 2] w fun e w' => (∃ v, e = .returned v ∧ w'.ownsRow w.heap.size 28 2 v (n + m) (xs ++ ys)) ∧ Ext w w' := by
  have hI : EInfo Try.prog 22 28 (Value.agg #[.int .i64 0, .int .i64 0]) 2 16 := EInfo.mk_ Try.underlying22 (by kernel_rfl) rfl (by omega)
  have hgrow := concat_power_grow (n + m) w hb h63
  have HG := hide hgrow
  have HR := hide R
  have HS := hide S
  have HI := hide hI
  have C0 := hide (fun (w' : World) (E : Ext w w') => (E.cell (p := ⟨g, 0, none⟩) hg).trans c0)
  have C1 := hide (fun (w' : World) (E : Ext w w') => (E.cell (p := ⟨g, 1, none⟩) hg).trans c1)
  have HA := hide hA
  have HB := hide hB
  have O1 := hide o1
  have O2 := hide o2
  clear hgrow R S hI hA hB o1 o2
  go_enter Try.func19, Try.ntmps19
  go_wp2
  go_loopw [3, 5, 11] (fun s _ i wr => w = wr ∧ ((i = .int .i64 0 ∧ s = .int .i64 0) ∨ (i = .int .i64 1 ∧ s = .int .i64 (n : Int)) ∨ (i = .int .i64 2 ∧ s = .int .i64 ((n + m : Nat) : Int)))) (fun _ _ i _ => 2 - (intOf i).toNat)
  case atStart => exact ⟨rfl, .inl ⟨rfl, rfl⟩⟩
  case round =>
    obtain ⟨rfl, ⟨rfl, rfl⟩ | ⟨rfl, rfl⟩ | ⟨rfl, rfl⟩⟩ := hrel
    · go_wp2
      go_roundw
      case rel => exact ⟨by first | trivial | rfl, .inr (.inl ⟨rfl, by go_num⟩)⟩
      case measure => simp [intOf]
    · go_wp2
      go_roundw
      case rel => exact ⟨by first | trivial | rfl, .inr (.inr ⟨rfl, by go_num⟩)⟩
      case measure => simp [intOf]
    · go_wp2_with fail
      refine (unhide HG).mono ?_
      rintro e w1 ⟨⟨v, rfl, hown⟩, E1⟩
      go_wp2
      go_loopw [6, 8, 27] (fun s _ i wr => ∃ (N : Nat) (zs : List Value), ((i = .int .i64 0 ∧ N = 0 ∧ zs = []) ∨ (i = .int .i64 1 ∧ N = n ∧ zs = xs) ∨ (i = .int .i64 2 ∧ N = n + m ∧ zs = xs ++ ys)) ∧ wr.ownsRow w.heap.size 28 2 s N zs ∧ Ext w wr) (fun _ _ i _ => 2 - (intOf i).toNat)
      case atStart => exact ⟨0, [], .inl ⟨rfl, rfl, rfl⟩, hown, E1⟩
      case round =>
        clear hown
        obtain ⟨N, zs, ⟨rfl, rfl, rfl⟩ | ⟨rfl, rfl, rfl⟩ | ⟨rfl, rfl, rfl⟩, hown, E2⟩ := hrel
        · have d0 := unhide C0 _ E2
          have hs := E2.size
          go_wp2_with (at_builtin; refine wpList_append_row rfl _ _ 22 (by rfl) w.heap.size 28 (unhide HI) _ 0 [] (by rfl) hown A n c xs (by rfl) ((unhide HR).keep E2) (unhide HA) (unhide O1) (by unfold maxLen; omega) (by omega) hs ?_)
          intro v' w' hown' hgrow
          have E3 := E2.grown hgrow (fun q hq => (hown.lt q hq).1)
          clear hgrow hown
          go_wp2
          go_roundw
          case rel => exact ⟨_, _, .inr (.inl ⟨rfl, rfl, rfl⟩), hown', E3⟩
          case measure => simp [intOf]
        · have d1 := unhide C1 _ E2
          have hs := E2.size
          go_wp2_with (at_builtin; refine wpList_append_row rfl _ _ 22 (by rfl) w.heap.size 28 (unhide HI) _ _ _ (by rfl) hown B m d ys (by rfl) ((unhide HS).keep E2) (unhide HB) (unhide O2) (by unfold maxLen; omega) (by omega) hs ?_)
          intro v' w' hown' hgrow
          have E3 := E2.grown hgrow (fun q hq => (hown.lt q hq).1)
          clear hgrow hown
          go_wp2
          go_roundw
          case rel => exact ⟨_, _, .inr (.inr ⟨rfl, rfl, rfl⟩), hown', E3⟩
          case measure => simp [intOf]
        · go_wp2
          go_ret
          exact ⟨⟨_, rfl, hown⟩, E2⟩



set_option maxRecDepth 100000 in
set_option maxHeartbeats 1000000 in
theorem has_index (A : Option Addr) (n c : Nat) (l : List (Int × Int)) (q : Addr) (w : World) (R : Row w A n 2 (prs l)) (p : Int × Int → Bool)
    (hp : ∀ k, k < n → ∀ W, Ext w W → Calls Try.prog 21 (#[.agg #[.int .i64 (l.getD k (0, 0)).1, .int .i64 (l.getD k (0, 0)).2]] ++ #[.pointer (some q)]) W fun e w' => e = .returned (.bool (p (l.getD k (0, 0)))) ∧ Ext W w') (hm : n ≤ 4611686018427387904) :
    Calls Try.prog 46 #[.slice A n c, .func (.func 21) #[] #[.pointer (some q)]] w fun e w' => (∃ r : Int, e = .returned (.int .i64 r) ∧ decide (0 ≤ r) = l.any p) ∧ Ext w w' := by
  have HP := hide hp
  have HL := hide R.prn
  have HR := hide R
  clear hp R
  go_enter Try.func46, Try.ntmps46
  go_wp2
  go_loopw [8] (fun i wr => ∃ k : Nat, k ≤ n ∧ i = .int .i64 k ∧ Hid (∀ j, j < k → p (l.getD j (0, 0)) = false) ∧ Ext w wr) (fun i _ => n - (intOf i).toNat)
  case atStart => exact ⟨0, by omega, rfl, hide (fun j h => absurd h (by omega)), Ext.refl _⟩
  case round =>
    obtain ⟨k, hk, rfl, hz, hext⟩ := hrel
    by_cases hlt : k < n
    · obtain ⟨b, o, rfl, hb, c1, c2⟩ := ((unhide HR).keep hext).pair hlt
      have hpk := unhide HP k hlt
      have hmem := getD_mem l (0, 0) (k := k) (by rw [unhide HL]; exact hlt)
      have hzk := hide (fun (h : p (l.getD k (0, 0)) = false) j (hj : j < k + 1) => (show p (l.getD j (0, 0)) = false from by
        by_cases h' : j < k
        · exact unhide hz j h'
        · obtain rfl : j = k := by omega
          exact h))
      have hfin := hide (fun (h : p (l.getD k (0, 0)) = true) => (List.any_eq_true.2 ⟨_, hmem, h⟩ : l.any p = true))
      clear hmem
      have H1 := hide (rfl : p (l.getD k (0, 0)) = p (l.getD k (0, 0)))
      generalize hq : p (l.getD k (0, 0)) = q at *
      clear hq H1
      generalize (l.getD k (0, 0)).1 = x at *
      generalize (l.getD k (0, 0)).2 = y at *
      have HQ := hide hpk
      clear hpk
      cases q with
      | false =>
        have hz2 := hide (unhide hzk rfl)
        clear hzk hfin
        go_wp2_with (go_at_call 21; refine (unhide HQ _ hext).mono ?_; rintro e w' ⟨rfl, E1⟩)
        go_roundw
        case rel => exact ⟨k + 1, by omega, by go_num, hz2, hext.trans E1⟩
        case measure => simp [intOf]; omega
      | true =>
        have hf2 := hide (unhide hfin rfl)
        clear hzk hfin
        go_wp2_with (go_at_call 21; refine (unhide HQ _ hext).mono ?_; rintro e w' ⟨rfl, E1⟩)
        go_ret
        exact ⟨⟨_, rfl, by rw [unhide hf2]; simp⟩, hext.trans E1⟩
    · have hfin := hide (show l.any p = false by
        rw [List.any_eq_false]
        intro x hx
        obtain ⟨j, hj, rfl⟩ := List.getElem_of_mem hx
        have := unhide hz j (by have := unhide HL; omega)
        rw [List.getD_eq_getElem?_getD, List.getElem?_eq_getElem hj] at this
        simpa using this)
      go_wp2
      go_ret
      exact ⟨⟨_, rfl, by rw [unhide hfin]; simp⟩, hext⟩

theorem has_contains (A : Option Addr) (n c : Nat) (l : List (Int × Int)) (q : Addr) (w : World) (R : Row w A n 2 (prs l)) (p : Int × Int → Bool)
    (hp : ∀ k, k < n → ∀ W, Ext w W → Calls Try.prog 21 (#[.agg #[.int .i64 (l.getD k (0, 0)).1, .int .i64 (l.getD k (0, 0)).2]] ++ #[.pointer (some q)]) W fun e w' => e = .returned (.bool (p (l.getD k (0, 0)))) ∧ Ext W w') (hm : n ≤ 4611686018427387904) :
    Calls Try.prog 20 #[.slice A n c, .func (.func 21) #[] #[.pointer (some q)]] w fun e w' => e = .returned (.bool (l.any p)) ∧ Ext w w' := by
  have H := hide (has_index A n c l q w R p hp hm)
  clear R hp
  generalize l.any p = v at *
  go_enter Try.func20, Try.ntmps20
  go_wp2_with fail
  refine (unhide H).mono ?_
  rintro e w' ⟨⟨n, rfl, hn⟩, E1⟩
  go_wp2
  go_ret
  exact ⟨rfl, E1⟩


end Go.Proofs.Yticphnjljnhlcaa
