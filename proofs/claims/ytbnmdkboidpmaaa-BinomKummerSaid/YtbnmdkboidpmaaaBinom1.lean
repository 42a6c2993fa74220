/-
  The contract of binom.Of.
-/
import Derived.Test.YtbnmdkboidpmaaaRow1
import Derived.Test.YtbnmdkboidpmaaaBinom0
set_option linter.unusedVariables false
set_option linter.unusedSimpArgs false
namespace Go.Proofs.Ytbnmdkboidpmaaa
open Go.RowKit Go.BigFrame

/-- The first i numbers of row n of Pascal's triangle. -/
def pasc (n i : Nat) : List Int := (List.range i).map fun j => (Wm.C n j : Int)
theorem pasc_length (n i : Nat) : (pasc n i).length = i := by simp [pasc]
theorem pasc_get (n i j : Nat) (h : j < i) : (pasc n i).getD j 0 = (Wm.C n j : Int) := by
  unfold pasc
  rw [List.getD_eq_getElem?_getD, List.getElem?_map, List.getElem?_range h]
  rfl
theorem pasc_succ (n i : Nat) : pasc n (i + 1) = pasc n i ++ [(Wm.C n i : Int)] := by simp [pasc, List.range_succ]
theorem info_int : (Try.prog.info? 3).map (fun i => (i.zero, i.size, i.bytes)) = some (some (.int .i64 0), 1, 8) := by kernel_rfl

set_option maxRecDepth 100000 in
set_option maxHeartbeats 2000000 in
theorem Of_ok (n k : Nat) (hn : n ≤ 60) (hk : k ≤ n) (w : World) :
    Calls Try.prog 18 #[.int .i64 n, .int .i64 k] w fun e w' => e = .returned (.tuple #[.int .i64 (Wm.C n k), .int .i64 0]) ∧ Ext w w' := by
  obtain ⟨i0, hi, hz0, hz1, hz2⟩ := info_parts info_int
  have hkn : decide (n < k) = false := decide_eq_false (by omega)
  go_enter Try.func18, Try.ntmps18
  go_wp2
  go_loopw [6, 24] (fun v i wr => ∃ r : Nat, r ≤ n ∧ i = .int .i64 r ∧ wr.ownsRow w.heap.size 3 1 v (r + 1) (ints (pasc r (r + 1))) ∧ Ext w wr) (fun _ i _ => n - (intOf i).toNat)
  case atStart => exact ⟨0, by omega, rfl, World.ownsRow_lit w _ 1 (by omega) (by unfold maxLen; omega) rfl, (Ext.refl _).alloc _⟩
  case round =>
    obtain ⟨r, hr, rfl, hown, hext⟩ := hrel
    obtain ⟨g, cap, rfl, hg1, hg2, hg3, hg4, hcell⟩ := row_open hown (by omega)
    by_cases hlt : r < n
    · unfold maxLen at hg4
      have HCELL := hide hcell
      clear hcell
      go_wp2
      obtain ⟨wo, rfl⟩ : ∃ wo : World, wo = wr := ⟨_, rfl⟩
      go_loopw [7, 8] (fun v i wi => ∃ d : Nat, d ≤ r ∧ i = .int .i64 ((d : Int) + 1) ∧ wi.ownsRow wo.heap.size 3 1 v (d + 1) (ints (pasc (r + 1) (d + 1))) ∧ Ext wo wi) (fun _ i _ => r + 5 - (intOf i).toNat)
      case atStart => exact ⟨0, by omega, rfl, World.ownsRow_lit wo _ 1 (by omega) (by unfold maxLen; omega) (by rfl), (Ext.refl _).alloc _⟩
      case round =>
        obtain ⟨d, hd, rfl, hown2, hext2⟩ := hrel
        obtain ⟨g2, cap2, rfl, hg21, hg22, hg23, hg24, -⟩ := row_open hown2 (by omega)
        have hcc : ∀ j, j < r + 1 → wr.cell? ⟨g, j, none⟩ = some (.int .i64 (Wm.C r j)) := fun j hj => (hext2.cell (p := ⟨g, j, none⟩) hg2).trans ((unhide HCELL j (by omega)).trans ((ints_get _ j (by rw [pasc_length]; omega)).trans (by rw [pasc_get _ _ _ hj])))
        have hsz := hext2.size
        by_cases hdl : d < r
        · have hc1 := hcc d (by omega)
          have hc2 := hcc (d + 1) (by omega)
          have b1 := Wm.C_le r d
          have b2 := Wm.C_le r (d + 1)
          have b3 : 2 ^ r ≤ 2 ^ 60 := Nat.pow_le_pow_right (by omega) (by omega)
          clear hcc
          unfold maxLen at hg24
          have hw1 : IntKind.i64.wrap ((Wm.C r d : Int) + (Wm.C r (d + 1) : Int)) = (Wm.C r d : Int) + (Wm.C r (d + 1) : Int) := IntWalk.i64_in _ (by omega)
          have hd0 : (0 : Int) ≤ (d : Int) := by omega
          have hd1 : (d : Int) < (r : Int) + 1 := by omega
          have hd2 : (d : Int) + 1 < (r : Int) + 1 := by omega
          have hsub : IntKind.i64.wrap (d : Int) = (d : Int) := IntWalk.i64_in _ (by omega)
          have hd3 : (0 : Int) ≤ (d : Int) + 1 := by omega
          have hd4 : ((d : Int) + 1).toNat = d + 1 := by omega
          clear b1 b2 b3
          go_wp2
          go_region_held3 (fun w' => w'.cell? ⟨g, d, none⟩ = some (.int .i64 (Wm.C r d)) ∧ w'.cell? ⟨g, d + 1, none⟩ = some (.int .i64 (Wm.C r (d + 1)))) (go_keep)
            ((refine step_append_own rfl (.tmp 33) (.tmp 44) 39 rfl wo.heap.size 3 i0 (.int .i64 0) 1 8 Try.underlying39 hi hz0 hz1 hz2 rfl (by decide) (.slice (some ⟨g2, 0, none⟩) (d + 1) cap2) (d + 1) (ints (pasc (r + 1) (d + 1))) rfl ?o ⟨wr.heap.size, 0, none⟩ 1 1 [.int .i64 (Wm.C r d + Wm.C r (d + 1))] rfl rfl ?c1 ?c2 ?c3 ?c4 ?c5 ?h
              case o => exact World.ownsRow.alloc (World.ownsRow.drew hown2) _
              case c1 =>
                intro j u hj
                match j, hj with
                | 0, hj => simp at hj; subst hj; exact (World.cell?_alloc_at _ _ _ _ rfl).trans rfl
              case c2 => intro u hu; simp at hu; subst hu; rfl
              case c3 => unfold maxLen; omega
              case c4 => omega
              case c5 => simp; omega
              intro v' w' hown' hgrow _
              have k1 := hgrow.cell (a := ⟨g, d, none⟩) (v := .int .i64 (Wm.C r d)) (by simp [*]) (by simp [Value.ownBlock]; omega)
              have k2 := hgrow.cell (a := ⟨g, d + 1, none⟩) (v := .int .i64 (Wm.C r (d + 1))) (by simp [*]) (by simp [Value.ownBlock]; omega)))
          have hrow : ints (pasc (r + 1) (d + 1)) ++ [Value.int .i64 (Wm.C r d + Wm.C r (d + 1))] = ints (pasc (r + 1) (d + 1 + 1)) := by
            rw [pasc_succ (r + 1) (d + 1), ← ints_append, Wm.C_succ]; push_cast; rfl
          rw [hrow] at hown'
          have hext3 := (hext2.drew.alloc (.cells #[.int .i64 (Wm.C r d + Wm.C r (d + 1))] 3)).grown hgrow (fun q hq => by simp [Value.ownBlock] at hq; omega)
          clear hrow hgrow k1 k2 hc1 hc2
          go_wp2
          go_roundw
          case rel => exact ⟨d + 1, by omega, by go_num, hown', hext3⟩
          case measure => simp [intOf]; omega
        · obtain rfl : d = r := by omega
          clear hcc
          unfold maxLen at hg24
          go_wp2_with (at_builtin; refine wpList_append_own _ rfl _ _ 39 rfl wo.heap.size 3 i0 (.int .i64 0) 1 8 Try.underlying39 hi hz0 hz1 hz2 rfl (by decide) _ _ _ rfl (hown2.alloc _) ⟨wr.heap.size, 0, none⟩ 1 1 [.int .i64 1] rfl rfl ?c1 ?c2 ?c3 ?c4 ?c5 ?_)
          case c1 =>
            intro j u hj
            match j, hj with
            | 0, hj => simp at hj; subst hj; simp [Addr.add]
          case c2 => intro u hu; simp at hu; subst hu; rfl
          case c3 => unfold maxLen; omega
          case c4 => omega
          case c5 => simp; omega
          intro v' w' hown' hgrow _
          have hrow : ints (pasc (d + 1) (d + 1)) ++ [Value.int .i64 1] = ints (pasc (d + 1) (d + 1 + 1)) := by
            rw [pasc_succ (d + 1) (d + 1), ← ints_append, Wm.C_self]; rfl
          rw [hrow] at hown'
          have hext3 := hext.trans ((hext2.alloc (.cells #[.int .i64 1] 3)).grown hgrow (fun q hq => by simp [Value.ownBlock] at hq; omega))
          have hown3 := row_mono hown' hext.size
          clear hrow hgrow hown'
          go_wp2
          go_roundw
          case rel => exact ⟨d + 1, by omega, by go_num, hown3, hext3⟩
          case measure => simp [intOf]; omega
    · obtain rfl : r = n := by omega
      have hck : wr.cell? ⟨g, k, none⟩ = some (.int .i64 (Wm.C r k)) := by
        rw [hcell k (by omega), ints_get _ k (by rw [pasc_length]; omega), pasc_get _ _ _ (by omega)]
      clear hcell
      unfold maxLen at hg4
      go_wp2
      go_ret2
      exact ⟨rfl, hext⟩

end Go.Proofs.Ytbnmdkboidpmaaa
