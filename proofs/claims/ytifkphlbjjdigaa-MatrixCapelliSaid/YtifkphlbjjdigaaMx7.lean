/-
  The contract of the laws' turned.
-/
import Derived.Test.YtifkphlbjjdigaaMxTimesW
set_option linter.unusedVariables false
set_option linter.unusedSimpArgs false
namespace Go.Proofs.Ytifkphlbjjdigaa
open Go.RowKit Go.BigFrame Wm.Fld

def trN (M : Nat → Nat → Nat) : Nat → Nat → Nat := fun i j => M j i
set_option maxRecDepth 100000 in
set_option maxHeartbeats 4000000 in
theorem turned_ok (A : Option Addr) (n c : Nat) (ra : Nat → Option Addr) (ln cp : Nat → Nat) (M : Nat → Nat → Nat) (w : World) (T : Tab w A n ra ln cp M) (h : chkM n ln = 0) :
    Calls Try.prog 19 #[.slice A n c] w fun e w' => (∃ g cg bl cp', e = .returned (.slice (some ⟨g, 0, none⟩) (ln 0) cg) ∧ Tb w' w.heap.size g (ln 0) bl cp' n (trN M)) ∧ Ext w w' := by
  obtain ⟨a1, a2, a3, a4, a5⟩ := chkM_ok h
  obtain ⟨ba, oa, rfl, hba, hca⟩ := T.hd (by omega)
  obtain ⟨l, hl⟩ : ∃ l, l = ln 0 := ⟨_, rfl⟩
  have HCA := hide (show ∀ i, i < n → w.cell? ⟨ba, oa + i, none⟩ = some (.slice (ra i) l (cp i)) from fun i hi => by rw [hca i hi, a5 i hi, hl])
  have HRW := hide (show ∀ i, i < n → ∃ b o, ra i = some ⟨b, o, none⟩ ∧ b < w.heap.size ∧ ∀ j, j < l → w.cell? ⟨b, o + j, none⟩ = some (.int .u8 (M i j : Int)) from fun i hi => by
    obtain ⟨b, o, h1, h2, h3⟩ := T.row i hi (by rw [a5 i hi]; omega)
    exact ⟨b, o, h1, h2, fun j hj => h3 j (by rw [a5 i hi, ← hl]; exact hj)⟩)
  have HLT := hide T.lt
  rw [← hl] at a3 a4 ⊢
  have hc0 := unhide HCA 0 (by omega)
  rw [Nat.add_zero] at hc0
  obtain ⟨P, hP⟩ : ∃ P, P = trN M := ⟨_, rfl⟩
  rw [← hP]
  have HP := hide hP
  generalize ra 0 = r0 at *
  generalize cp 0 = c0 at *
  clear hca T h a5 hl hP
  go_enter Try.func19, Try.ntmps19
  go_wp2
  go_loopw [3, 11] (fun v i wr => ∃ x : Nat, x ≤ l ∧ i = .int .i64 x ∧ ∃ bl cq : Nat → Nat, Hid (Bld 26 w wr v x bl cq n P)) (fun _ i _ => l - (intOf i).toNat)
  case atStart => exact ⟨0, Nat.zero_le _, rfl, _, _, hide (Bld.nil 26 w (fun _ => 0) (fun _ => 0) n P)⟩
  case round =>
    obtain ⟨x, hx, rfl, bl, cq, HB⟩ := hrel
    by_cases hlt : x < l
    · obtain ⟨wa, hwa⟩ : ∃ wa, wa = wr := ⟨_, rfl⟩
      subst hwa
      have HEA := hide (unhide HB).ext
      go_wp2
      go_loopw [5, 16] (fun v i wz => ∃ t : Nat, t ≤ n ∧ i = .int .i64 t ∧ Hid (wz.ownsRow wa.heap.size 5 1 v t (nats .u8 ((List.range t).map fun i => M i x))) ∧ Ext wa wz) (fun _ i _ => n - (intOf i).toNat)
      case atStart => exact ⟨0, Nat.zero_le _, rfl, hide (World.ownsRow_nil _ _ _ _), Ext.refl _⟩
      case round =>
        obtain ⟨t, ht, rfl, HOW, hext⟩ := hrel
        by_cases htn : t < n
        · have EE := (unhide HEA).trans hext
          have hct := EE.keep (unhide HCA t htn)
          obtain ⟨b, o, hrt, hb, hcell⟩ := unhide HRW t htn
          rw [hrt] at hct
          have hy := EE.keep (hcell x hlt)
          obtain ⟨Y, hY⟩ : ∃ Y, Y = M t x := ⟨_, rfl⟩
          rw [← hY] at hy
          have HTT := hide (show nats .u8 ((List.range (t + 1)).map fun i => M i x) = nats .u8 ((List.range t).map fun i => M i x) ++ [.int .u8 (Y : Int)] from by rw [List.range_succ, List.map_append, ← nats_append, hY]; rfl)
          have hbd : (t + 1) * 1 ≤ 140737488355328 ∧ t + 1 ≤ 9223372036854775807 := by omega
          clear hcell hrt hY EE
          generalize cp t = ct at *
          go_wp2_with (at_builtin; refine stop ?_)
          unfold Stop
          refine wpList_app rfl _ _ 26 (by rfl) 5 byteM hext _ _ _ _ (by rfl) (unhide HOW) 1 1 (by rfl) rfl rfl hbd ?_
          intro v' w2 hown' hext' _
          have hown2 : Hid (w2.ownsRow wa.heap.size 5 1 v' (t + 1) (nats .u8 ((List.range (t + 1)).map fun i => M i x))) := hide (by rw [unhide HTT]; exact hown')
          clear hown'
          go_wp2
          go_roundw
          case rel => exact ⟨t + 1, by omega, by go_num, hown2, hext'⟩
          case measure => simp [intOf]; omega
        · obtain rfl : n = t := by omega
          have hown := unhide HOW
          obtain ⟨gx, cap, hu, hgx1, hgx2, hlc, hcm, hcell⟩ := row_open hown (by omega)
          subst hu
          have hfz : ∀ j, wr.frozen? ⟨gx, j, none⟩ = false := fun j => by
            rcases hown.2 with ⟨h, -⟩ | ⟨q, cp, cur, h, -, hh, -⟩
            · cases h
            · injection h with h
              simp only [Option.some.injEq, Addr.mk.injEq, and_true] at h
              subst h
              simp [World.frozen?, hh]
          have hrow : ∀ j, j < n → wr.cell? ⟨gx, j, none⟩ = some (.int .u8 (M j x : Int)) ∧ wr.frozen? ⟨gx, j, none⟩ = false := fun j hj => by
            refine ⟨?_, hfz j⟩
            rw [hcell j (by omega), nats_get _ _ _ (by simpa using hj)]
            simp [hj]
          have EN := hext.alloc (.cells #[.slice (some ⟨gx, 0, none⟩) n cap] 26)
          have HEN := hide EN
          have HRX := hide (show ∀ j, j < n → (wr.alloc (.cells #[.slice (some ⟨gx, 0, none⟩) n cap] 26)).cell? ⟨gx, j, none⟩ = some (.int .u8 (M j x : Int)) ∧ (wr.alloc (.cells #[.slice (some ⟨gx, 0, none⟩) n cap] 26)).frozen? ⟨gx, j, none⟩ = false from fun j hj => by
            have EE := (Ext.refl wr).alloc (.cells #[.slice (some ⟨gx, 0, none⟩) n cap] 26)
            exact ⟨(EE.cell (p := ⟨gx, j, none⟩) hgx2).trans (hrow j hj).1, (EE.frozen (p := ⟨gx, j, none⟩) hgx2).trans (hrow j hj).2⟩)
          have HG2 := hide (show gx < (wr.alloc (.cells #[.slice (some ⟨gx, 0, none⟩) n cap] 26)).heap.size from by simp; omega)
          have HOB := hide ((unhide HB).keep EN).own
          have HBD := hide (show (x + 1) * 24 ≤ 140737488355328 ∧ x + 1 ≤ 9223372036854775807 by omega)
          have HBS := hide (show w.heap.size ≤ (wr.alloc (.cells #[.slice (some ⟨gx, 0, none⟩) n cap] 26)).heap.size from ((unhide HB).ext.trans EN).size)
          have HONE := hide (show ([.slice (some ⟨gx, 0, none⟩) n cap] : List Value).all (fun u => u.oneCell') = true from by simp [Value.oneCell'])
          have HRN := hide (row_new wr #[.slice (some ⟨gx, 0, none⟩) n cap] 26 1 1 rfl)
          have HCAP := hide (show n ≤ cap ∧ cap ≤ 9223372036854775807 from ⟨hlc, by unfold maxLen at hcm; exact hcm⟩)
          clear hown HOW hcell hfz hrow EN hext hcm hlc hgx2
          go_wp2_with (at_builtin; refine stop ?_)
          unfold Stop
          refine wpList_app_any rfl _ _ 22 (by rfl) 26 rowM w.heap.size _ x _ (by rfl) (unhide HOB) (some ⟨wr.heap.size, 0, none⟩) 1 1 [.slice (some ⟨gx, 0, none⟩) n cap] (by rfl) (unhide HRN) (unhide HONE) (unhide HBD) (unhide HBS) ?_
          intro v' w6 hown6 hg6 hat6
          have HBN := hide ((unhide HB).add (unhide HEN) (b := gx) (c := cap) (f := fun j => M j x) hgx1 (unhide HG2) (unhide HCAP) (unhide HRX) hown6 hg6 (by
            rcases hat6 with h | h
            · exact .inl h
            · exact .inr ⟨_, h, Nat.le_refl _⟩))
          have HBN2 := hide ((unhide HBN).congr (M' := P) fun i j hi hj => by
            rw [unhide HP]
            by_cases c : i = x
            · subst c; rw [upf_same]; rfl
            · rw [upf_ne _ _ c])
          clear hown6 hg6 hat6 HBN
          go_wp2
          go_roundw
          case rel => exact ⟨x + 1, by omega, by go_num, _, _, HBN2⟩
          case measure => simp [intOf]; omega
    · obtain rfl : l = x := by omega
      obtain ⟨g, cg, rfl, hcg, TB⟩ := (unhide HB).done (by omega) (fun i j => by rw [unhide HP]; exact unhide HLT j i)
      have HTB := hide TB
      have HEF := hide (unhide HB).ext
      clear TB HB
      go_wp2
      go_ret
      exact ⟨⟨g, cg, bl, cq, rfl, unhide HTB⟩, unhide HEF⟩
theorem m8m_tr (M : Nat → Nat → Nat) : Wm.m8m (trN M) = tr (Wm.m8m M) := rfl
end Go.Proofs.Ytifkphlbjjdigaa
