/-
  The contract of frac.Farey: the walk.
-/
import Derived.Test.YtlfpmmgfgmeilaaFarey3
set_option linter.unusedVariables false
set_option linter.unusedSimpArgs false
namespace Go.Proofs.Ytlfpmmgfgmeilaa
open Go.RowKit Go.BigFrame

theorem castF_append (l m : List (Nat × Nat)) : castF (l ++ m) = castF l ++ castF m := List.map_append ..
theorem rowF_zero (q : Nat) : Wm.rowF q 0 = [] := rfl
theorem rowF_yes {q p : Nat} (h : Nat.gcd p q = 1) : Wm.rowF q (p + 1) = Wm.rowF q p ++ [(p, q)] := by
  unfold Wm.rowF
  rw [List.range_succ, List.filter_append, List.map_append]
  simp [h]
theorem rowF_no {q p : Nat} (h : ¬ Nat.gcd p q = 1) : Wm.rowF q (p + 1) = Wm.rowF q p := by
  unfold Wm.rowF
  rw [List.range_succ, List.filter_append, List.map_append]
  simp [h]

set_option maxRecDepth 100000 in
set_option maxHeartbeats 4000000 in
theorem Farey_ok (n : Nat) (h1 : 1 ≤ n) (h30 : n ≤ 30) (w : World) :
    Calls Try.prog 4 #[.int .i64 n] w fun e w' => (∃ g, e = .returned (.tuple #[.slice (some ⟨g, 0, none⟩) (Wm.srtF n).length (Wm.srtF n).length, .int .i64 0]) ∧ Row w' (some ⟨g, 0, none⟩) (Wm.srtF n).length 2 (prs (castF (Wm.srtF n)))) ∧ Ext w w' := by
  have HS := hide (fun (w : World) (base L cap g : Nat) hL own => sort_far (base := base) (n := n) (L := L) (cap := cap) (g := g) h1 h30 hL w own)
  have HP := hide (Wm.srtF_perm n).length_eq
  have HLN := hide (show (Wm.rawF n).length = Wm.sumPh n from by rw [← (Wm.srtF_perm n).length_eq]; exact (Wm.okF h1 h30).len)
  have HPos := hide (show 0 < (Wm.rawF n).length from by
    have h := h1
    cases n with
    | zero => omega
    | succ m =>
      simp only [Wm.rawF, List.length_append]
      have : 0 < (Wm.rowF (m + 1) (m + 2)).length := by
        rw [show m + 2 = (m + 1) + 1 from rfl]
        rcases Nat.eq_zero_or_pos m with rfl | hm
        · decide
        · have e1 : Wm.rowF (m + 1) 2 = Wm.rowF (m + 1) 1 ++ [(1, m + 1)] := rowF_yes (by simp)
          have : ∀ k, (Wm.rowF (m + 1) 2).length ≤ (Wm.rowF (m + 1) (2 + k)).length := fun k => by
            induction k with
            | zero => exact Nat.le_refl _
            | succ k ih =>
              rw [show 2 + (k + 1) = (2 + k) + 1 by omega]
              by_cases c : Nat.gcd (2 + k) (m + 1) = 1
              · rw [rowF_yes c, List.length_append]; omega
              · rw [rowF_no c]; exact ih
          have h2 := this m
          rw [e1, List.length_append] at h2
          rw [show m + 1 + 1 = 2 + m by omega]
          simp only [List.length_singleton] at h2
          omega
      omega)
  go_enter Try.func4, Try.ntmps4
  go_wp2
  go_loopw [4, 5] (fun v q wr => ∃ i : Nat, i ≤ n ∧ q = .int .i64 ((i + 1 : Nat) : Int) ∧ Hid (wr.ownsRow w.heap.size 28 2 v (Wm.rawF i).length (prs (castF (Wm.rawF i)))) ∧ Hid (Ext w wr)) (fun _ q _ => n + 1 - (intOf q).toNat)
  case atStart => exact ⟨0, Nat.zero_le _, rfl, hide (World.ownsRow_nil _ _ _ _), hide (Ext.refl _)⟩
  case round =>
    obtain ⟨i, hi, rfl, HO, HE⟩ := hrel
    by_cases hlt : i < n
    · obtain ⟨q, hq⟩ : ∃ q, q = i + 1 := ⟨_, rfl⟩
      rw [← hq]
      have hqn : (q : Int) ≤ (n : Int) := by omega
      have hq31 : q ≤ 30 := by omega
      have HRS := hide (show Wm.rawF q = Wm.rawF i ++ Wm.rowF q (q + 1) from by rw [hq]; rfl)
      have hRL := (Wm.raw_len i).resolve_right (by omega)
      have HIQ := hide hq
      clear hq
      go_wp2
      go_loopw [4, 22] (fun v k wr => ∃ p : Nat, p ≤ q + 1 ∧ k = .int .i64 p ∧ Hid (wr.ownsRow w.heap.size 28 2 v ((Wm.rawF i).length + (Wm.rowF q p).length) (prs (castF (Wm.rawF i ++ Wm.rowF q p)))) ∧ Hid (Ext w wr)) (fun _ k _ => q + 1 - (intOf k).toNat)
      case atStart => exact ⟨0, Nat.zero_le _, rfl, by rw [rowF_zero, List.append_nil]; exact HO, HE⟩
      case round =>
        clear HO HE
        obtain ⟨p, hp, rfl, HO, HE⟩ := hrel
        by_cases hpq : p < q + 1
        · have CG := hide (fun w : World => Gcd_ok (p : Int) (q : Int) w (by omega) (by omega))
          have hgI : Int.gcd (p : Int) (q : Int) = Nat.gcd p q := Int.gcd_natCast_natCast _ _
          rw [hgI] at CG
          have hpI : (p : Int) < (q : Int) + 1 := by omega
          by_cases hg : Nat.gcd p q = 1
          · rw [hg] at CG
            have HY := hide (rowF_yes hg)
            have hrl : (Wm.rowF q p).length ≤ 31 := by
              unfold Wm.rowF
              rw [List.length_map]
              have := List.length_filter_le (fun p => decide (Nat.gcd p q = 1)) (List.range p)
              simp only [List.length_range] at this
              omega
            have HBD := hide (show ((Wm.rawF i).length + (Wm.rowF q p).length + 1) * 16 ≤ 140737488355328 ∧ (Wm.rawF i).length + (Wm.rowF q p).length + 1 ≤ 9223372036854775807 by omega)
            clear hg hgI
            generalize hL1 : (Wm.rawF i).length + (Wm.rowF q p).length = L1 at *
            have HL1 := hide hL1
            clear hL1
            go_wp2_with fail
            refine (unhide CG _).mono ?_
            rintro e w3 ⟨rfl, k3, rfl⟩
            have HE3 := hide ((unhide HE).drewN k3)
            have HO3 := hide (row_ext (unhide HO) ((Ext.refl wr).drewN k3))
            go_wp2_with (at_builtin; refine stop ?_)
            unfold Stop
            refine wpList_app rfl _ _ 22 (by rfl) 28 fracM (unhide HE3) #[.int .i64 (p : Int), .int .i64 (q : Int)] _ L1 _ (by rfl) (unhide HO3) 1 1 (by rfl) rfl rfl (unhide HBD) ?_
            intro v' w6 hown6 hE6 _
            have HO6 := hide (show w6.ownsRow w.heap.size 28 2 v' ((Wm.rawF i).length + (Wm.rowF q (p + 1)).length) (prs (castF (Wm.rawF i ++ Wm.rowF q (p + 1)))) from by
              rw [unhide HY, List.length_append, ← List.append_assoc, castF_append, ← prs_append, ← Nat.add_assoc, unhide HL1]
              exact hown6)
            have HE6 := hide hE6
            clear hown6 hE6
            go_wp2
            go_roundw
            case rel => exact ⟨p + 1, by omega, by go_num, HO6, HE6⟩
            case measure => simp [intOf]; omega
          · have HY := hide (rowF_no hg)
            have hgB : ((Nat.gcd p q : Int) == 1) = false := by rw [beq_eq_false_iff_ne]; omega
            clear hg hgI
            generalize Nat.gcd p q = G at *
            go_wp2_with fail
            refine (unhide CG _).mono ?_
            rintro e w3 ⟨rfl, k3, rfl⟩
            go_wp2
            go_roundw
            case rel => exact ⟨p + 1, by omega, by go_num, by rw [unhide HY]; exact hide (row_ext (unhide HO) ((Ext.refl wr).drewN k3)), hide ((unhide HE).drewN k3)⟩
            case measure => simp [intOf]; omega
        · obtain rfl : p = q + 1 := by omega
          have HO6 := hide (show wr.ownsRow w.heap.size 28 2 u4 (Wm.rawF q).length (prs (castF (Wm.rawF q))) from by
            rw [unhide HRS, List.length_append]; exact unhide HO)
          have hqq := unhide HIQ
          go_wp2
          go_roundw
          case rel => exact ⟨q, by omega, by go_num, HO6, HE⟩
          case measure => simp [intOf]; omega
    · obtain rfl : n = i := by omega
      obtain ⟨g, cap, hv, hb1, hb2, hc1, hc2, hcell⟩ := row_open (unhide HO) (unhide HPos)
      subst hv
      have CS := hide (unhide HS wr w.heap.size _ cap g rfl (unhide HO))
      have HCC := hide (show (Wm.rawF n).length ≤ cap ∧ (cap : Int) ≤ 9223372036854775807 from ⟨hc1, by unfold maxLen at hc2; omega⟩)
      have HB1 := hide hb1
      have hnn : ¬ (((n + 1 : Nat) : Int) ≤ (n : Int)) := by omega
      clear hcell hb1 hb2 hc1 hc2 HS
      generalize (Wm.rawF n).length = L at *
      go_wp2_with fail
      refine (unhide CS).mono ?_
      rintro e w5 ⟨rfl, R5, hg5⟩
      have HR5 := hide R5
      have HE5 := hide ((unhide HE).grown hg5 (fun q h => by injection h with h; rw [← h]; exact unhide HB1))
      clear R5 hg5 CS
      have CC := hide (fun w : World => clip_frac (some ⟨g, 0, none⟩) L cap w (unhide HCC).1 (unhide HCC).2 (fun h => by cases h))
      go_wp2_with fail
      refine (unhide CC _).mono ?_
      rintro e w6 ⟨rfl, rfl⟩
      go_wp2
      go_ret2
      exact ⟨⟨g, by rw [unhide HP]; rfl, by rw [unhide HP]; exact unhide HR5⟩, unhide HE5⟩
end Go.Proofs.Ytlfpmmgfgmeilaa
