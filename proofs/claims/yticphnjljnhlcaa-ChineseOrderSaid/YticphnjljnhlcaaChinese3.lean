/-
  Generic functions of package slices at api.Rest; chinese.Parts; wholekeep.joins.
-/
import Derived.Test.YticphnjljnhlcaaChinese2
import Derived.Test.YticphnjljnhlcaaApp
import Derived.BigRegion
import Derived.Deep.RegionLaw
namespace Go.Proofs.Yticphnjljnhlcaa
open Go.RowKit Go.BigFrame

theorem restI : EInfo Try.prog 47 55 (.agg #[.int .i64 0, .int .i64 0]) 2 16 := EInfo.mk_ Try.underlying47 (by kernel_rfl) rfl (by omega)


set_option maxRecDepth 100000 in
set_option maxHeartbeats 1000000 in
theorem clone_rest (A : Option Addr) (n c : Nat) (xs : List Value) (w : World) (R : Row w A n 2 xs) (h1 : ∀ u ∈ xs, u.oneCell' = true) (hb : n * 16 ≤ 140737488355328) (hnil : A = none → n = 0 ∧ c = 0) :
    Calls Try.prog 38 #[.slice A n c] w fun e w' => (∃ v, e = .returned v ∧ w'.ownsRow w.heap.size 55 2 v n xs) ∧ Ext w w' := by
  have hi0 : (Try.prog.info? 55).map (fun i => (i.zero, i.size, i.bytes)) = some (some (.agg #[.int .i64 0, .int .i64 0]), 2, 16) := by kernel_rfl
  obtain ⟨i0, hi, hz0, hz1, hz2⟩ := info_parts hi0
  cases A with
  | none =>
    obtain ⟨rfl, rfl⟩ := hnil rfl
    obtain rfl := R.empty
    have heq := fun w : World => Lib.run_eql_slice_nil w 47 55 none 0 0 0 0 Try.underlying47
    go_enter Try.func38, Try.ntmps38
    go_wp2
    go_ret
    exact ⟨⟨_, rfl, World.ownsRow_nil _ _ _ _⟩, Ext.refl _⟩
  | some ad =>
    have heq := fun w : World => Lib.run_eql_slice_nil w 47 55 (some ad) n c 0 0 Try.underlying47
    have hr := R.2
    have hl := R.1
    have hown := World.ownsRow_lit (base := w.heap.size) (e := 55) (size := 2) w #[] 0 (Nat.le_refl _) (by unfold maxLen; omega) rfl
    have HR := hide hr
    have HL := hide hl
    clear R hnil hr hl
    go_enter Try.func38, Try.ntmps38
    go_wp2_with (at_builtin; refine wpList_append_own _ rfl _ _ 47 rfl w.heap.size 55 i0 (.agg #[.int .i64 0, .int .i64 0]) 2 16 Try.underlying47 hi hz0 hz1 hz2 rfl (by decide) _ _ _ rfl hown ad n c xs rfl (unhide HL) ?c1 h1 (by unfold maxLen; omega) (by omega) (by simp) ?_)
    case c1 =>
      intro j u hj
      have hjn : j < n * 2 := by
        have := (List.getElem?_eq_some_iff.1 hj).1
        have := unhide HL
        omega
      obtain ⟨b, o, e, hb, hc⟩ := unhide HR (by omega)
      injection e with e
      subst e
      have hj' := (hc j hjn).trans hj
      have : (⟨b, o, none⟩ : Addr).add j = ⟨b, o + j, none⟩ := by
        unfold Addr.add
        split
        · rename_i h0; simp [h0]
        · rfl
      rw [this]
      exact (World.cell?_alloc_lt _ _ _ hb).trans hj'
    intro v' w' hown' hgrow _
    have hown2 : w'.ownsRow w.heap.size 55 2 v' n xs := by simpa using hown'
    have E1 : Ext w w' := ((Ext.refl w).alloc _).grown hgrow (fun q hq => by simp [Value.ownBlock] at hq; omega)
    clear hgrow
    go_wp2
    go_ret
    exact ⟨⟨_, rfl, hown2⟩, E1⟩



set_option maxRecDepth 100000 in
set_option maxHeartbeats 1000000 in
theorem fits_index (A : Option Addr) (n c : Nat) (l : List (Int × Int)) (q : Addr) (w : World) (R : Row w A n 2 (prs l)) (p : Int × Int → Bool)
    (hp : ∀ k, k < n → ∀ W, Ext w W → Calls Try.prog 37 (#[.agg #[.int .i64 (l.getD k (0, 0)).1, .int .i64 (l.getD k (0, 0)).2]] ++ #[.pointer (some q)]) W fun e w' => e = .returned (.bool (p (l.getD k (0, 0)))) ∧ Ext W w') (hm : n ≤ 4611686018427387904) :
    Calls Try.prog 59 #[.slice A n c, .func (.func 37) #[] #[.pointer (some q)]] w fun e w' => (∃ r : Int, e = .returned (.int .i64 r) ∧ decide (0 ≤ r) = l.any p) ∧ Ext w w' := by
  have HP := hide hp
  have HL := hide R.prn
  have HR := hide R
  clear hp R
  go_enter Try.func59, Try.ntmps59
  go_wp2
  go_loopw [8] (fun i wr => ∃ k : Nat, k ≤ n ∧ i = .int .i64 k ∧ Hid (∀ j, j < k → p (l.getD j (0, 0)) = false) ∧ Ext w wr) (fun i _ => n - (intOf i).toNat)
  case atStart => exact ⟨0, by omega, rfl, hide (fun j h => absurd h (by omega)), Ext.refl _⟩
  case round =>
    obtain ⟨k, hk, rfl, hz, hext⟩ := hrel
    by_cases hlt : k < n
    · obtain ⟨b, o, rfl, hb, c1, c2⟩ := ((unhide HR).keep hext).pair hlt
      have hpk := unhide HP k hlt
      have hmem := getD_mem l (0, 0) (k := k) (by rw [unhide HL]; exact hlt)
      have hzk := hide (fun (h : p (l.getD k (0, 0)) = false) j (hj : j < k + 1) => (show p (l.getD j (0, 0)) = false from by
        by_cases h' : j < k
        · exact unhide hz j h'
        · obtain rfl : j = k := by omega
          exact h))
      have hfin := hide (fun (h : p (l.getD k (0, 0)) = true) => (List.any_eq_true.2 ⟨_, hmem, h⟩ : l.any p = true))
      clear hmem
      have H1 := hide (rfl : p (l.getD k (0, 0)) = p (l.getD k (0, 0)))
      generalize hq : p (l.getD k (0, 0)) = q at *
      clear hq H1
      generalize (l.getD k (0, 0)).1 = x at *
      generalize (l.getD k (0, 0)).2 = y at *
      have HQ := hide hpk
      clear hpk
      cases q with
      | false =>
        have hz2 := hide (unhide hzk rfl)
        clear hzk hfin
        go_wp2_with (go_at_call 37; refine (unhide HQ _ hext).mono ?_; rintro e w' ⟨rfl, E1⟩)
        go_roundw
        case rel => exact ⟨k + 1, by omega, by go_num, hz2, hext.trans E1⟩
        case measure => simp [intOf]; omega
      | true =>
        have hf2 := hide (unhide hfin rfl)
        clear hzk hfin
        go_wp2_with (go_at_call 37; refine (unhide HQ _ hext).mono ?_; rintro e w' ⟨rfl, E1⟩)
        go_ret
        exact ⟨⟨_, rfl, by rw [unhide hf2]; simp⟩, hext.trans E1⟩
    · have hfin := hide (show l.any p = false by
        rw [List.any_eq_false]
        intro x hx
        obtain ⟨j, hj, rfl⟩ := List.getElem_of_mem hx
        have := unhide hz j (by have := unhide HL; omega)
        rw [List.getD_eq_getElem?_getD, List.getElem?_eq_getElem hj] at this
        simpa using this)
      go_wp2
      go_ret
      exact ⟨⟨_, rfl, by rw [unhide hfin]; simp⟩, hext⟩

theorem fits_contains (A : Option Addr) (n c : Nat) (l : List (Int × Int)) (q : Addr) (w : World) (R : Row w A n 2 (prs l)) (p : Int × Int → Bool)
    (hp : ∀ k, k < n → ∀ W, Ext w W → Calls Try.prog 37 (#[.agg #[.int .i64 (l.getD k (0, 0)).1, .int .i64 (l.getD k (0, 0)).2]] ++ #[.pointer (some q)]) W fun e w' => e = .returned (.bool (p (l.getD k (0, 0)))) ∧ Ext W w') (hm : n ≤ 4611686018427387904) :
    Calls Try.prog 36 #[.slice A n c, .func (.func 37) #[] #[.pointer (some q)]] w fun e w' => e = .returned (.bool (l.any p)) ∧ Ext w w' := by
  have H := hide (fits_index A n c l q w R p hp hm)
  clear R hp
  generalize l.any p = v at *
  go_enter Try.func36, Try.ntmps36
  go_wp2_with fail
  refine (unhide H).mono ?_
  rintro e w' ⟨⟨n, rfl, hn⟩, E1⟩
  go_wp2
  go_ret
  exact ⟨rfl, E1⟩



set_option maxRecDepth 100000 in
set_option maxHeartbeats 4000000 in
theorem reverse_rest_core (a w : World) (g n c : Nat) (l : List (Int × Int)) (E : Ext a w) (h : Made w a.heap.size 55 2 (.slice (some ⟨g, 0, none⟩) n c) n (prs l)) (hn : n ≤ 1000000000000000) :
    Calls Try.prog 39 #[.slice (some ⟨g, 0, none⟩) n c] w fun e w' => e = .returned (.tuple #[]) ∧ Made w' a.heap.size 55 2 (.slice (some ⟨g, 0, none⟩) n c) n (prs l.reverse) ∧ Ext a w' := by
  have hgb := (h.lt g rfl).1
  have hln : l.length = n := by have := h.1; rw [prs_length] at this; omega
  have HL := hide hln
  have H := hide h
  clear h hln
  go_enter Try.func39, Try.ntmps39
  go_wp2
  go_loopw [2, 3] (fun p q wr => ∃ (k : Nat) (m : List (Int × Int)), 2 * k ≤ n + 1 ∧ p = .int .i64 k ∧ q = .int .i64 ((n : Int) - 1 - (k : Int)) ∧ Made wr a.heap.size 55 2 (.slice (some ⟨g, 0, none⟩) n c) n (prs m) ∧ Hid (Revd l m n k) ∧ Ext a wr) (fun p _ _ => n - (intOf p).toNat)
  case atStart => exact ⟨0, l, by omega, rfl, by simp, unhide H, hide (Revd.start (unhide HL)), E⟩
  case round =>
    obtain ⟨k, m, hk2, rfl, rfl, hm, hrv, hext⟩ := hrel
    by_cases hlt : (k : Int) < (n : Int) - 1 - (k : Int)
    · obtain ⟨j, hj⟩ : ∃ j : Nat, (n : Int) - 1 - (k : Int) = (j : Int) := ⟨n - 1 - k, by omega⟩
      have hstep := (unhide hrv).step (j := j) (by omega) (by omega) (0, 0)
      have HST := hide hstep
      rw [hj] at hlt
      obtain ⟨A, c', hv, R, -⟩ := hm.open_
      simp only [Value.slice.injEq] at hv
      obtain ⟨hv, -, rfl⟩ := hv
      obtain ⟨b, o, hA, hb, c1, c2⟩ := R.pair (k := k) (by omega)
      obtain ⟨b', o', hA', hb', c3, c4⟩ := R.pair (k := j) (by omega)
      rw [← hv] at hA hA'
      injection hA with hA
      injection hA with hA1 hA2
      injection hA' with hA'
      injection hA' with hA1' hA2'
      subst hA1 hA2 hA1' hA2'
      have f1 := hm.frozen (k * 2)
      have f2 := hm.frozen (k * 2 + 1)
      have f3 := hm.frozen (j * 2)
      have f4 := hm.frozen (j * 2 + 1)
      have hjn : j < n := by omega
      have hkn : k < n := by omega
      simp only [Nat.zero_add] at c1 c2 c3 c4
      obtain ⟨p1, hp1⟩ : ∃ p, p = m.getD k (0, 0) := ⟨_, rfl⟩
      obtain ⟨p2, hp2⟩ : ∃ p, p = m.getD j (0, 0) := ⟨_, rfl⟩
      rw [← hp1] at c1 c2
      rw [← hp2] at c3 c4
      rw [← hp1, ← hp2] at hstep
      have HS2 := hide hstep
      have hmade := (((hm.set (j := k * 2) (by omega) (.int .i64 p2.1)).set (j := k * 2 + 1) (by omega) (.int .i64 p2.2)).set (j := j * 2) (by omega) (.int .i64 p1.1)).set (j := j * 2 + 1) (by omega) (.int .i64 p1.2)
      rw [← prs_set, ← prs_set] at hmade
      have HM := hide hmade
      have HX := hide (Ext.drew ((((hext.setCell (p := ⟨g, k * 2, none⟩) hgb (.int .i64 p2.1)).setCell (p := ⟨g, k * 2 + 1, none⟩) hgb (.int .i64 p2.2)).setCell (p := ⟨g, j * 2, none⟩) hgb (.int .i64 p1.1)).setCell (p := ⟨g, j * 2 + 1, none⟩) hgb (.int .i64 p1.2)))
      have HJ := hide hj
      clear hm R hv hj hmade hstep HST hp1 hp2
      generalize p1.1 = x1 at *
      generalize p1.2 = x2 at *
      generalize p2.1 = y1 at *
      generalize p2.2 = y2 at *
      have d1 : (0 : Int) ≤ (k : Int) := by omega
      have d2 : (k : Int) < (n : Int) := by omega
      have d3 : (0 : Int) ≤ (j : Int) := by omega
      have d4 : (j : Int) < (n : Int) := by omega
      rw [unhide HJ]
      go_wp2
      go_region_law (fail)
      all_goals
        have hjj := unhide HJ
        go_wp2
        go_roundw
        case rel => exact ⟨k + 1, _, by omega, by go_num, num_eq (by push_cast; omega), (unhide HM).keep ((Ext.refl _).drew), HS2, unhide HX⟩
        case measure => simp [intOf]; omega
    · have hfin := (unhide hrv).done (by omega)
      have HF := hide hfin
      clear hfin
      go_wp2
      go_end0
      exact ⟨rfl, by rw [← unhide HF]; exact hm, hext⟩

set_option maxRecDepth 100000 in
/-- Reverse, of what the call made. -/
theorem reverse_rest (a w : World) (A : Option Addr) (n c : Nat) (l : List (Int × Int)) (E : Ext a w) (h : Made w a.heap.size 55 2 (.slice A n c) n (prs l)) (hn : n ≤ 1000000000000000) :
    Calls Try.prog 39 #[.slice A n c] w fun e w' => e = .returned (.tuple #[]) ∧ Made w' a.heap.size 55 2 (.slice A n c) n (prs l.reverse) ∧ Ext a w' := by
  rcases h.2 with ⟨hv, rfl⟩ | ⟨g, c', cur, hv, -⟩
  · have hl : l = [] := List.eq_nil_of_length_eq_zero (by have := h.1; rw [prs_length] at this; omega)
    subst hl
    injection hv with hv _ hc
    subst hv; subst hc
    have H := hide h
    clear h
    go_enter Try.func39, Try.ntmps39
    go_wp2
    go_loopw [2, 3] (fun p q wr => p = .int .i64 0 ∧ q = .int .i64 (-1) ∧ wr = w) (fun _ _ _ => 0)
    case atStart => exact ⟨rfl, by simp, rfl⟩
    case round =>
      obtain ⟨rfl, rfl, rfl⟩ := hrel
      go_wp2
      go_end0
      exact ⟨rfl, unhide H, E⟩
  · injection hv with hv _ hc
    subst hv
    exact reverse_rest_core a w g n c l E h hn


/-- The remainders of a number. -/
def partsOf (N : Nat) (l : List Int) : List (Int × Int) := l.map fun m => ((N : Int) % m, m)
theorem partsOf_length (N : Nat) (l : List Int) : (partsOf N l).length = l.length := List.length_map _

set_option maxRecDepth 100000 in
set_option maxHeartbeats 2000000 in
theorem Parts_ok (N : Nat) (A : Option Addr) (n c : Nat) (l : List Int) (w : World) (hN : (N : Int) ≤ 9223372036854775807) (R : Row w A n 1 (ints l)) (h6 : n ≤ 6) (hall : ∀ m ∈ l, 1 ≤ m ∧ m ≤ 1000) :
    Calls Try.prog 33 #[.int .i64 N, .slice A n c] w fun e w' => (∃ v, e = .returned (.tuple #[v, .int .i64 0]) ∧ w'.ownsRow w.heap.size 55 2 v n (prs (partsOf N l))) ∧ Ext w w' := by
  have hmk := make_run0 restI n (by omega) (by omega)
  have hown := World.ownsRow_made (base := w.heap.size) (e := 55) (size := 2) w (madeCells (Value.agg #[.int .i64 0, .int .i64 0]).cells (n * 2)) n (Nat.le_refl _) (by unfold maxLen; omega) (made_size _ _)
  have HL := hide R.num
  have HA := hide hall
  have HO := hide hown
  have HR := hide R
  clear hall hown R
  go_enter Try.func33, Try.ntmps33
  go_wp2
  go_loopw [6, 23] (fun v i wr => ∃ k : Nat, k ≤ n ∧ i = .int .i64 k ∧ wr.ownsRow w.heap.size 55 2 v k (prs (partsOf N (l.take k))) ∧ Ext w wr) (fun _ i _ => n - (intOf i).toNat)
  case atStart => exact ⟨0, by omega, rfl, unhide HO, (Ext.refl _).alloc _⟩
  case round =>
    clear hmk
    obtain ⟨k, hk, rfl, hown, hext⟩ := hrel
    by_cases hlt : k < n
    · obtain ⟨b, o, rfl, hb, c1⟩ := ((unhide HR).keep hext).int hlt
      obtain ⟨v1, v2⟩ := unhide HA _ (getD_mem l 0 (k := k) (by rw [unhide HL]; exact hlt))
      have hcells : prs (partsOf N (l.take (k + 1))) = prs (partsOf N (l.take k)) ++ [.int .i64 ((N : Int) % l.getD k 0), .int .i64 (l.getD k 0)] := by
        rw [take_snoc l 0 (by rw [unhide HL]; exact hlt)]
        simp only [partsOf, List.map_append, ← prs_append]
        rfl
      have HC := hide hcells
      clear hcells
      have hsl : _ ∨ _ := hown.2
      generalize hm : l.getD k 0 = m at *
      have cm := hide (fun w : World => modulus_yes m w ⟨v1, v2⟩)
      have co := hide (fun w : World => of_ok (N : Int) m w v1 (by omega))
      clear hsl hm
      have HOW := hide hown
      clear hown
      go_wp2_with fail
      refine (unhide cm _).mono ?_
      rintro e w' ⟨rfl, rfl⟩
      go_wp2_with fail
      refine (unhide co _).mono ?_
      rintro e w' ⟨rfl, rfl⟩
      have hbd : (k + 1) * 16 ≤ 140737488355328 ∧ k + 1 ≤ 9223372036854775807 := by omega
      go_wp2_with (at_builtin; refine wpList_app rfl _ _ 47 (by rfl) 55 restI hext _ _ _ _ (by rfl) (unhide HOW) 1 1 (by rfl) rfl rfl hbd ?_)
      intro v' w' hown' hext' _
      have hown2 : w'.ownsRow w.heap.size 55 2 v' (k + 1) (prs (partsOf N (l.take (k + 1)))) := by rw [unhide HC]; exact hown'
      clear hown'
      go_wp2
      go_roundw
      case rel => exact ⟨k + 1, by omega, by go_num, hown2, hext'⟩
      case measure => simp [intOf]; omega
    · obtain rfl : k = n := by omega
      rw [List.take_of_length_le (by rw [unhide HL]; exact Nat.le_refl _)] at hown
      have HOW := hide hown
      clear hown
      go_wp2
      go_ret2
      exact ⟨⟨_, rfl, unhide HOW⟩, hext⟩

end Go.Proofs.Yticphnjljnhlcaa
