/-
  The law PointsMore returns true: the walk.
-/
import Derived.Test.YtkfdimofkkckeaaPts4
import Derived.Test.YtkfdimofkkckeaaLaw
set_option linter.unusedVariables false
set_option linter.unusedSimpArgs false
namespace Go.Proofs.Ytkfdimofkkckeaa
open Go.RowKit Go.BigFrame

theorem own_set {w : World} {base e : TypeId} {sz n c g : Nat} {xs : List Value} (h : w.ownsRow base e sz (.slice (some ⟨g, 0, none⟩) n c) n xs) {j : Nat} (hj : j < n * sz) (u : Value) :
    (w.setCell ⟨g, j, none⟩ u).ownsRow base e sz (.slice (some ⟨g, 0, none⟩) n c) n (xs.set j u) := by
  obtain ⟨h1, h2⟩ := h
  refine ⟨by rw [List.length_set, h1], ?_⟩
  rcases h2 with ⟨h2, -⟩ | ⟨g', c', cur, h3, h4, h5, h6, h7, h8, h9⟩
  · cases h2
  · injection h3 with h3 _ h3'
    simp only [Option.some.injEq, Addr.mk.injEq, and_true] at h3
    subst h3; subst h3'
    refine .inr ⟨g, c, cur.setIfInBounds j u, rfl, h4, ?_, h6, h7, by simpa using h8, ?_⟩
    · simp [World.setCell, Array.getElem?_modify, h5]
    · rw [Array.toList_setIfInBounds, ← h9, List.take_set]


set_option maxRecDepth 100000 in
set_option maxHeartbeats 1000000 in
theorem clone_pts (A : Option Addr) (n c : Nat) (xs : List Value) (w : World) (R : Row w A n 2 xs) (h1 : ∀ u ∈ xs, u.oneCell' = true) (hb : n * 16 ≤ 140737488355328) (hnil : A = none → n = 0 ∧ c = 0) :
    Calls Try.prog 32 #[.slice A n c] w fun e w' => (∃ v, e = .returned v ∧ w'.ownsRow w.heap.size 49 2 v n xs) ∧ Ext w w' := by
  have hi0 : (Try.prog.info? 49).map (fun i => (i.zero, i.size, i.bytes)) = some (some (.agg #[.int .i64 0, .int .i64 0]), 2, 16) := by kernel_rfl
  obtain ⟨i0, hi, hz0, hz1, hz2⟩ := info_parts hi0
  cases A with
  | none =>
    obtain ⟨rfl, rfl⟩ := hnil rfl
    obtain rfl := R.empty
    have heq := fun w : World => Lib.run_eql_slice_nil w 43 49 none 0 0 0 0 Try.underlying43
    go_enter Try.func32, Try.ntmps32
    go_wp2
    go_ret
    exact ⟨⟨_, rfl, World.ownsRow_nil _ _ _ _⟩, Ext.refl _⟩
  | some ad =>
    have heq := fun w : World => Lib.run_eql_slice_nil w 43 49 (some ad) n c 0 0 Try.underlying43
    have hr := R.2
    have hl := R.1
    have hown := World.ownsRow_lit (base := w.heap.size) (e := 49) (size := 2) w #[] 0 (Nat.le_refl _) (by unfold maxLen; omega) rfl
    have HR := hide hr
    have HL := hide hl
    clear R hnil hr hl
    go_enter Try.func32, Try.ntmps32
    go_wp2_with (at_builtin; refine wpList_append_own _ rfl _ _ 43 rfl w.heap.size 49 i0 (.agg #[.int .i64 0, .int .i64 0]) 2 16 Try.underlying43 hi hz0 hz1 hz2 rfl (by decide) _ _ _ rfl hown ad n c xs rfl (unhide HL) ?c1 h1 (by unfold maxLen; omega) (by omega) (by simp) ?_)
    case c1 =>
      intro j u hj
      have hjn : j < n * 2 := by
        have := (List.getElem?_eq_some_iff.1 hj).1
        have := unhide HL
        omega
      obtain ⟨b, o, e, hb, hc⟩ := unhide HR (by omega)
      injection e with e
      subst e
      have hj' := (hc j hjn).trans hj
      have : (⟨b, o, none⟩ : Addr).add j = ⟨b, o + j, none⟩ := by
        unfold Addr.add
        split
        · rename_i h0; simp [h0]
        · rfl
      rw [this]
      exact (World.cell?_alloc_lt _ _ _ hb).trans hj'
    intro v' w' hown' hgrow _
    have hown2 : w'.ownsRow w.heap.size 49 2 v' n xs := by simpa using hown'
    have E1 : Ext w w' := ((Ext.refl w).alloc _).grown hgrow (fun q hq => by simp [Value.ownBlock] at hq; omega)
    clear hgrow
    go_wp2
    go_ret
    exact ⟨⟨_, rfl, hown2⟩, E1⟩


set_option maxRecDepth 100000 in
set_option maxHeartbeats 4000000 in
theorem reverse_pts_core (a w : World) (g n c : Nat) (l : List (Int × Int)) (E : Ext a w) (h : w.ownsRow a.heap.size 49 2 (.slice (some ⟨g, 0, none⟩) n c) n (prs l)) (hn : n ≤ 1000000000000000) :
    Calls Try.prog 33 #[.slice (some ⟨g, 0, none⟩) n c] w fun e w' => e = .returned (.tuple #[]) ∧ w'.ownsRow a.heap.size 49 2 (.slice (some ⟨g, 0, none⟩) n c) n (prs l.reverse) ∧ Ext a w' := by
  have hgb := (h.lt g rfl).1
  have hln : l.length = n := by have := h.1; rw [prs_length] at this; omega
  have HL := hide hln
  have H := hide h
  clear h hln
  go_enter Try.func33, Try.ntmps33
  go_wp2
  go_loopw [2, 3] (fun p q wr => ∃ (k : Nat) (m : List (Int × Int)), 2 * k ≤ n + 1 ∧ p = .int .i64 k ∧ q = .int .i64 ((n : Int) - 1 - (k : Int)) ∧ wr.ownsRow a.heap.size 49 2 (.slice (some ⟨g, 0, none⟩) n c) n (prs m) ∧ Hid (Revd l m n k) ∧ Ext a wr) (fun p _ _ => n - (intOf p).toNat)
  case atStart => exact ⟨0, l, by omega, rfl, by simp, unhide H, hide (Revd.start (unhide HL)), E⟩
  case round =>
    obtain ⟨k, m, hk2, rfl, rfl, hm, hrv, hext⟩ := hrel
    by_cases hlt : (k : Int) < (n : Int) - 1 - (k : Int)
    · obtain ⟨j, hj⟩ : ∃ j : Nat, (n : Int) - 1 - (k : Int) = (j : Int) := ⟨n - 1 - k, by omega⟩
      have hstep := (unhide hrv).step (j := j) (by omega) (by omega) (0, 0)
      have HST := hide hstep
      rw [hj] at hlt
      obtain ⟨A, c', hv, R, -⟩ := (Made.of_own hm).open_
      simp only [Value.slice.injEq] at hv
      obtain ⟨hv, -, rfl⟩ := hv
      obtain ⟨b, o, hA, hb, c1, c2⟩ := R.pair (k := k) (by omega)
      obtain ⟨b', o', hA', hb', c3, c4⟩ := R.pair (k := j) (by omega)
      rw [← hv] at hA hA'
      injection hA with hA
      injection hA with hA1 hA2
      injection hA' with hA'
      injection hA' with hA1' hA2'
      subst hA1 hA2 hA1' hA2'
      have f1 := (Made.of_own hm).frozen (k * 2)
      have f2 := (Made.of_own hm).frozen (k * 2 + 1)
      have f3 := (Made.of_own hm).frozen (j * 2)
      have f4 := (Made.of_own hm).frozen (j * 2 + 1)
      have hjn : j < n := by omega
      have hkn : k < n := by omega
      simp only [Nat.zero_add] at c1 c2 c3 c4
      obtain ⟨p1, hp1⟩ : ∃ p, p = m.getD k (0, 0) := ⟨_, rfl⟩
      obtain ⟨p2, hp2⟩ : ∃ p, p = m.getD j (0, 0) := ⟨_, rfl⟩
      rw [← hp1] at c1 c2
      rw [← hp2] at c3 c4
      rw [← hp1, ← hp2] at hstep
      have HS2 := hide hstep
      have hmade := own_set (own_set (own_set (own_set hm (j := k * 2) (by omega) (.int .i64 p2.1)) (j := k * 2 + 1) (by omega) (.int .i64 p2.2)) (j := j * 2) (by omega) (.int .i64 p1.1)) (j := j * 2 + 1) (by omega) (.int .i64 p1.2)
      rw [← prs_set, ← prs_set] at hmade
      have HM := hide hmade
      have HX := hide (Ext.drew ((((hext.setCell (p := ⟨g, k * 2, none⟩) hgb (.int .i64 p2.1)).setCell (p := ⟨g, k * 2 + 1, none⟩) hgb (.int .i64 p2.2)).setCell (p := ⟨g, j * 2, none⟩) hgb (.int .i64 p1.1)).setCell (p := ⟨g, j * 2 + 1, none⟩) hgb (.int .i64 p1.2)))
      have HJ := hide hj
      clear hm R hv hj hmade hstep HST hp1 hp2
      generalize p1.1 = x1 at *
      generalize p1.2 = x2 at *
      generalize p2.1 = y1 at *
      generalize p2.2 = y2 at *
      have d1 : (0 : Int) ≤ (k : Int) := by omega
      have d2 : (k : Int) < (n : Int) := by omega
      have d3 : (0 : Int) ≤ (j : Int) := by omega
      have d4 : (j : Int) < (n : Int) := by omega
      rw [unhide HJ]
      go_wp2
      go_region_law (fail)
      all_goals
        have hjj := unhide HJ
        go_wp2
        go_roundw
        case rel => exact ⟨k + 1, _, by omega, by go_num, num_eqQ (by push_cast; omega), row_ext (unhide HM) ((Ext.refl _).drew), HS2, unhide HX⟩
        case measure => simp [intOf]; omega
    · have hfin := (unhide hrv).done (by omega)
      have HF := hide hfin
      clear hfin
      go_wp2
      go_end0
      exact ⟨rfl, by rw [← unhide HF]; exact hm, hext⟩

set_option maxRecDepth 100000 in
/-- Reverse, of what the call made. -/
theorem reverse_pts (a w : World) (A : Option Addr) (n c : Nat) (l : List (Int × Int)) (E : Ext a w) (h : w.ownsRow a.heap.size 49 2 (.slice A n c) n (prs l)) (hn : n ≤ 1000000000000000) :
    Calls Try.prog 33 #[.slice A n c] w fun e w' => e = .returned (.tuple #[]) ∧ w'.ownsRow a.heap.size 49 2 (.slice A n c) n (prs l.reverse) ∧ Ext a w' := by
  rcases h.2 with ⟨hv, rfl⟩ | ⟨g, c', cur, hv, -⟩
  · have hl : l = [] := List.eq_nil_of_length_eq_zero (by have := h.1; rw [prs_length] at this; omega)
    subst hl
    injection hv with hv _ hc
    subst hv; subst hc
    have H := hide h
    clear h
    go_enter Try.func33, Try.ntmps33
    go_wp2
    go_loopw [2, 3] (fun p q wr => p = .int .i64 0 ∧ q = .int .i64 (-1) ∧ wr = w) (fun _ _ _ => 0)
    case atStart => exact ⟨rfl, by simp, rfl⟩
    case round =>
      obtain ⟨rfl, rfl, rfl⟩ := hrel
      go_wp2
      go_end0
      exact ⟨rfl, unhide H, E⟩
  · injection hv with hv _ hc
    subst hv
    exact reverse_pts_core a w g n c l E h hn


theorem prs_one_ (l : List (Int × Int)) : ∀ u ∈ prs l, u.oneCell' = true := by
  intro u hu
  induction l with
  | nil => simp [prs] at hu
  | cons p l ih =>
    simp only [prs, List.mem_cons] at hu
    rcases hu with rfl | rfl | hu
    · rfl
    · rfl
    · exact ih hu
theorem rev_get {α : Type} (l : List α) (d : α) {i : Nat} (h : i < l.length) : l.reverse.getD i d = l.getD (l.length - 1 - i) d := by
  rw [List.getD_eq_getElem?_getD, List.getElem?_reverse h, ← List.getD_eq_getElem?_getD]
theorem snoc_get {α : Type} (l : List α) (x d : α) (i : Nat) : (l ++ [x]).getD i d = if i < l.length then l.getD i d else if i = l.length then x else d := by
  by_cases h : i < l.length
  · rw [if_pos h, List.getD_eq_getElem?_getD, List.getElem?_append_left h, ← List.getD_eq_getElem?_getD]
  · rw [if_neg h, List.getD_eq_getElem?_getD, List.getElem?_append_right (by omega)]
    by_cases h2 : i = l.length
    · subst h2; simp
    · rw [if_neg h2, List.getElem?_eq_none (by simp; omega)]; rfl
theorem PtsOk.rev {P : Wm.Pr} {L : List (Int × Int)} (h : PtsOk P L) : PtsOk P L.reverse := by
  refine ⟨by rw [List.length_reverse]; exact h.len, fun x hx => h.rng x (List.mem_reverse.1 hx), fun i j hi hj e => ?_⟩
  rw [List.length_reverse] at hi hj
  rw [rev_get _ _ hi, rev_get _ _ hj] at e
  have := h.dst _ _ (by omega) (by omega) e
  omega
/-- One point more, at a place that is free. -/
theorem PtsOk.more {P : Wm.Pr} {L : List (Int × Int)} (h : PtsOk P L) {x y : Nat} (hx : x < P.p) (hy : y < P.p) (hl : L.length < 12) (hf : ∀ j, j < L.length → (L.getD j (0, 0)).1 ≠ (x : Int)) : PtsOk P (L ++ [((x : Int), (y : Int))]) := by
  have hlen : (L ++ [((x : Int), (y : Int))]).length = L.length + 1 := by simp
  refine ⟨by omega, fun z hz => ?_, fun i j hi hj e => ?_⟩
  · rcases List.mem_append.1 hz with h1 | h1
    · exact h.rng z h1
    · have : z = ((x : Int), (y : Int)) := by simpa using h1
      subst this; dsimp only; omega
  · rw [hlen] at hi hj
    rw [snoc_get, snoc_get] at e
    by_cases h1 : i < L.length
    · rw [if_pos h1] at e
      by_cases h2 : j < L.length
      · rw [if_pos h2] at e; exact h.dst i j h1 h2 e
      · rw [if_neg h2, if_pos (by omega)] at e
        exact absurd e (hf i h1)
    · rw [if_neg h1, if_pos (by omega)] at e
      by_cases h2 : j < L.length
      · rw [if_pos h2] at e
        exact absurd e.symm (hf j h2)
      · omega
theorem ThruL.rev {P : Wm.Pr} {L : List (Int × Int)} {F : List Nat} (h : ThruL P L F) : ThruL P L.reverse F := by
  refine ⟨h.isP, by rw [List.length_reverse]; exact h.len, fun i hi => ?_⟩
  rw [List.length_reverse] at hi
  unfold pxN pyN
  rw [rev_get _ _ hi]
  exact h.ev _ (by omega)
theorem ThruL.more {P : Wm.Pr} {L : List (Int × Int)} {F : List Nat} (h : ThruL P L F) (x : Nat) : ThruL P (L ++ [((x : Int), ((Wm.evN P.p F x : Nat) : Int))]) F := by
  have hlen : (L ++ [((x : Int), ((Wm.evN P.p F x : Nat) : Int))]).length = L.length + 1 := by simp
  refine ⟨h.isP, by rw [hlen]; have := h.len; omega, fun i hi => ?_⟩
  rw [hlen] at hi
  unfold pxN pyN
  rw [snoc_get]
  by_cases h1 : i < L.length
  · rw [if_pos h1]; exact h.ev i h1
  · rw [if_neg h1, if_pos (by omega)]; simp
/-- A point more than there may be; a place that is taken. -/
theorem errPts_large {P : Wm.Pr} (h9 : P.p ≤ 997) {L : List (Int × Int)} (h : 12 < L.length) : errPts P.p L = 2 := by
  unfold errPts
  rw [if_neg (fun h => h ⟨P.p, rfl, P.hp, h9⟩), if_pos h]
theorem errPts_there {P : Wm.Pr} (h9 : P.p ≤ 997) {L : List (Int × Int)} (h : PtsOk P L) {x y : Nat} (hx : x < P.p) (hy : y < P.p) (hl : L.length < 12) {j : Nat} (hj : j < L.length) (he : (L.getD j (0, 0)).1 = (x : Int)) : errPts P.p (L ++ [((x : Int), (y : Int))]) = 6 := by
  have hlen : (L ++ [((x : Int), (y : Int))]).length = L.length + 1 := by simp
  unfold errPts
  rw [if_neg (fun h => h ⟨P.p, rfl, P.hp, h9⟩), if_neg (by omega)]
  have h0 : errTo P.p (L ++ [((x : Int), (y : Int))]) L.length = 0 := (errTo_zero _).2 fun k hk => by
    have hz := (errTo_zero (p := P.p) (L := L) L.length).1 (by
      have := pts_zero h9 h
      unfold errPts at this
      rwa [if_neg (fun h => h ⟨P.p, rfl, P.hp, h9⟩), if_neg (by omega)] at this) k hk
    rw [errP1_zero] at hz ⊢
    rw [snoc_get, if_pos hk, List.take_append_of_le_length (by omega)]
    exact hz
  have h1 : errP1 P.p (L ++ [((x : Int), (y : Int))]) L.length = 6 := by
    have hg : (L ++ [((x : Int), (y : Int))]).getD L.length (0, 0) = ((x : Int), (y : Int)) := by rw [snoc_get, if_neg (by omega), if_pos rfl]
    have hr : rngP P.p ((x : Int), (y : Int)) = false := by
      unfold rngP
      rw [decide_eq_false (by dsimp only; omega), decide_eq_false (by dsimp only; omega), decide_eq_false (by dsimp only; omega), decide_eq_false (by dsimp only; omega)]; rfl
    have ha : ((L ++ [((x : Int), (y : Int))]).take L.length).any (fun z => z.1 == (x : Int)) = true := by
      rw [List.take_append_of_le_length (Nat.le_refl _), List.take_length, List.any_eq_true]
      exact ⟨_, getD_mem L (0, 0) hj, by simpa using he⟩
    unfold errP1
    rw [hg, if_neg (by rw [hr]; simp), if_pos ha]
  rw [hlen, errTo_at h0 (by rw [h1]; omega) (by omega), h1]


set_option maxRecDepth 100000 in
set_option maxHeartbeats 1000000 in
theorem isat_index (A : Option Addr) (n c : Nat) (l : List (Int × Int)) (q r : Addr) (w : World) (R : Row w A n 2 (prs l)) (p : Int × Int → Bool)
    (hp : ∀ k, k < n → ∀ W, Ext w W → Calls Try.prog 35 (#[.agg #[.int .i64 (l.getD k (0, 0)).1, .int .i64 (l.getD k (0, 0)).2]] ++ #[.pointer (some q), .pointer (some r)]) W fun e w' => e = .returned (.bool (p (l.getD k (0, 0)))) ∧ Ext W w') (hm : n ≤ 4611686018427387904) :
    Calls Try.prog 58 #[.slice A n c, .func (.func 35) #[] #[.pointer (some q), .pointer (some r)]] w fun e w' => (∃ r : Int, e = .returned (.int .i64 r) ∧ decide (0 ≤ r) = l.any p) ∧ Ext w w' := by
  have HP := hide hp
  have HL := hide R.prn
  have HR := hide R
  clear hp R
  go_enter Try.func58, Try.ntmps58
  go_wp2
  go_loopw [8] (fun i wr => ∃ k : Nat, k ≤ n ∧ i = .int .i64 k ∧ Hid (∀ j, j < k → p (l.getD j (0, 0)) = false) ∧ Ext w wr) (fun i _ => n - (intOf i).toNat)
  case atStart => exact ⟨0, by omega, rfl, hide (fun j h => absurd h (by omega)), Ext.refl _⟩
  case round =>
    obtain ⟨k, hk, rfl, hz, hext⟩ := hrel
    by_cases hlt : k < n
    · obtain ⟨b, o, rfl, hb, c1, c2⟩ := ((unhide HR).keep hext).pair hlt
      have hpk := unhide HP k hlt
      have hmem := getD_mem l (0, 0) (k := k) (by rw [unhide HL]; exact hlt)
      have hzk := hide (fun (h : p (l.getD k (0, 0)) = false) j (hj : j < k + 1) => (show p (l.getD j (0, 0)) = false from by
        by_cases h' : j < k
        · exact unhide hz j h'
        · obtain rfl : j = k := by omega
          exact h))
      have hfin := hide (fun (h : p (l.getD k (0, 0)) = true) => (List.any_eq_true.2 ⟨_, hmem, h⟩ : l.any p = true))
      clear hmem
      have H1 := hide (rfl : p (l.getD k (0, 0)) = p (l.getD k (0, 0)))
      generalize hq : p (l.getD k (0, 0)) = q at *
      clear hq H1
      generalize (l.getD k (0, 0)).1 = x at *
      generalize (l.getD k (0, 0)).2 = y at *
      have HQ := hide hpk
      clear hpk
      cases q with
      | false =>
        have hz2 := hide (unhide hzk rfl)
        clear hzk hfin
        go_wp2_with (go_at_call 35; refine (unhide HQ _ hext).mono ?_; rintro e w' ⟨rfl, E1⟩)
        go_roundw
        case rel => exact ⟨k + 1, by omega, by go_num, hz2, hext.trans E1⟩
        case measure => simp [intOf]; omega
      | true =>
        have hf2 := hide (unhide hfin rfl)
        clear hzk hfin
        go_wp2_with (go_at_call 35; refine (unhide HQ _ hext).mono ?_; rintro e w' ⟨rfl, E1⟩)
        go_ret
        exact ⟨⟨_, rfl, by rw [unhide hf2]; simp⟩, hext.trans E1⟩
    · have hfin := hide (show l.any p = false by
        rw [List.any_eq_false]
        intro x hx
        obtain ⟨j, hj, rfl⟩ := List.getElem_of_mem hx
        have := unhide hz j (by have := unhide HL; omega)
        rw [List.getD_eq_getElem?_getD, List.getElem?_eq_getElem hj] at this
        simpa using this)
      go_wp2
      go_ret
      exact ⟨⟨_, rfl, by rw [unhide hfin]; simp⟩, hext⟩

theorem isat_contains (A : Option Addr) (n c : Nat) (l : List (Int × Int)) (q r : Addr) (w : World) (R : Row w A n 2 (prs l)) (p : Int × Int → Bool)
    (hp : ∀ k, k < n → ∀ W, Ext w W → Calls Try.prog 35 (#[.agg #[.int .i64 (l.getD k (0, 0)).1, .int .i64 (l.getD k (0, 0)).2]] ++ #[.pointer (some q), .pointer (some r)]) W fun e w' => e = .returned (.bool (p (l.getD k (0, 0)))) ∧ Ext W w') (hm : n ≤ 4611686018427387904) :
    Calls Try.prog 34 #[.slice A n c, .func (.func 35) #[] #[.pointer (some q), .pointer (some r)]] w fun e w' => e = .returned (.bool (l.any p)) ∧ Ext w w' := by
  have H := hide (isat_index A n c l q r w R p hp hm)
  clear R hp
  generalize l.any p = v at *
  go_enter Try.func34, Try.ntmps34
  go_wp2_with fail
  refine (unhide H).mono ?_
  rintro e w' ⟨⟨n, rfl, hn⟩, E1⟩
  go_wp2
  go_ret
  exact ⟨rfl, E1⟩

theorem isat_any (x y X Y : Int) (q r : Addr) (w : World) (hq : w.cell? q = some (.int .i64 X)) (hr : w.cell? r = some (.int .i64 Y)) :
    Calls Try.prog 35 #[.agg #[.int .i64 x, .int .i64 y], .pointer (some q), .pointer (some r)] w fun e w' => e = .returned (.bool ((x == X) && (y == Y))) ∧ Ext w w' := by
  have hqa : ∀ o, (w.alloc o).cell? q = some (.int .i64 X) := fun o => (World.cell?_alloc_lt w o q (cell_lt hq)).trans hq
  have hra : ∀ o, (w.alloc o).cell? r = some (.int .i64 Y) := fun o => (World.cell?_alloc_lt w o r (cell_lt hr)).trans hr
  by_cases h : x = X
  · subst h
    have hxx : (x == x) = true := by simp
    go_enter Try.func35, Try.ntmps35
    go_wp2
    go_ret
    exact ⟨ret_boolv (by rw [hxx, Bool.true_and]), (by repeat (first | exact Ext.refl _ | refine Ext.alloc ?_ _ | refine Ext.drew ?_ | refine Ext.drewN ?_ _ | (refine Ext.trans ?_ (plus_ext _ _)) | (refine Ext.setCell ?_ (by have := Ext.size Ext.refl _; simp; omega) _)))⟩
  · have hxx : (x == X) = false := by rw [beq_eq_false_iff_ne]; exact h
    go_enter Try.func35, Try.ntmps35
    go_wp2
    go_ret
    exact ⟨ret_boolv (by rw [hxx, Bool.false_and]), (by repeat (first | exact Ext.refl _ | refine Ext.alloc ?_ _ | refine Ext.drew ?_ | refine Ext.drewN ?_ _ | (refine Ext.trans ?_ (plus_ext _ _)) | (refine Ext.setCell ?_ (by have := Ext.size Ext.refl _; simp; omega) _)))⟩

set_option maxRecDepth 100000 in
set_option maxHeartbeats 1000000 in
theorem pmore_law (p : Int) (A : Option Addr) (n c : Nat) (L : List (Int × Int)) (x : Int) (w : World)
    (S : SliceIn w A n c 2 16 (prs L)) (_ : ∀ y ∈ L, (-9223372036854775808 ≤ y.1 ∧ y.1 ≤ 9223372036854775807) ∧ (-9223372036854775808 ≤ y.2 ∧ y.2 ≤ 9223372036854775807)) :
    Calls Try.prog 10 #[.int .i64 p, .slice A n c, .int .i64 x] w fun e w' => e = .returned (.bool true) ∧ Ext w w' := by
  have CL := hide (fun w : World => lines_any w)
  have hR := S.1
  have hnc := S.2.1
  have hcap := S.2.2.2.1
  have hby : n * 16 ≤ 140737488355328 := by have := S.2.2.1; omega
  have hnil := S.2.2.2.2
  have hlen := hR.prn
  clear S
  by_cases he : errPts p L = 0
  · obtain ⟨P, rfl, h9, hok⟩ := pts_of_zero he
    have hn12 : n ≤ 12 := by have := hok.len; omega
    have hp := P.two
    have hpI : ¬ (P.p : Int) < 1 := by omega
    have CT := hide (fun (W : World) (E : Ext w W) => Through_ok P h9 A n c L W (hR.keep E) hnc hcap hok)
    have hxb := Wm.emod_bound x (show (0 : Int) < (P.p : Int) by omega)
    have CW := hide (fun w : World => within_any x P.p w (by omega) (by omega))
    obtain ⟨xr, hxr⟩ : ∃ xr : Nat, (xr : Int) = x % (P.p : Int) := ⟨(x % (P.p : Int)).toNat, by omega⟩
    rw [← hxr] at CW hxb
    have hxp : xr < P.p := by omega
    have CC := hide (fun (W : World) (E : Ext w W) => clone_pts A n c (prs L) W (hR.keep E) (prs_one_ L) (by omega) hnil)
    have CP := hide (fun (F : List Nat) (hF : ThruL P L F) (W : World) (E : Ext w W) => PAt_ok P h9 A n c L xr W (hR.keep E) hnc hcap hok F hF xr (Int.emod_eq_of_lt (by omega) (by omega)))
    have HR := hide hR
    have HOK := hide hok
    have HL := hide hlen
    clear hR hok he hxr hlen
    go_enter Try.func10, Try.ntmps10
    go_wp2_with fail
    refine (unhide CL _).mono ?_
    rintro e w1 ⟨rfl, EN⟩
    have x0 := EN.keep (a := ⟨w.heap.size, 0, none⟩) (v := .int .i64 x) (by simp [go_sem])
    have xf : w1.frozen? ⟨w.heap.size, 0, none⟩ = false := (EN.frozen (p := ⟨w.heap.size, 0, none⟩) (by simp)).trans (by simp [go_sem])
    have Fw1 : Ext w w1 := Ext.trans (by repeat (first | exact Ext.refl w | refine Ext.alloc ?_ _ | refine Ext.drew ?_ | refine Ext.drewN ?_ _ | (refine Ext.trans ?_ (plus_ext _ _)) | (refine Ext.setCell ?_ (by have := Ext.size Ext.refl w; simp; omega) _))) EN
    clear EN
    go_wp2_with fail
    refine (unhide CT _ (by repeat (first | exact Ext.refl _ | assumption | refine Ext.alloc ?_ _ | refine Ext.drew ?_ | refine Ext.drewN ?_ _ | refine Ext.trans ?_ ‹Ext _ _›))).mono ?_
    rintro e w2 ⟨⟨F, v, hF, rfl, MN⟩, EN⟩
    have Fw2 : Ext w1 w2 := Ext.trans (by repeat (first | exact Ext.refl _ | assumption | refine Ext.alloc ?_ _ | refine Ext.drew ?_ | refine Ext.drewN ?_ _ | refine Ext.trans ?_ ‹Ext _ _›)) EN
    obtain ⟨AF, cF, rfl, PF⟩ := MN.pv
    have x1 := Fw2.keep x0
    have xf1 : w2.frozen? ⟨w.heap.size, 0, none⟩ = false := (Fw2.frozen (p := ⟨w.heap.size, 0, none⟩) (cell_lt x0)).trans xf
    have HAF := hide (show ∀ g o, AF = some ⟨g, o, none⟩ → g ≠ w.heap.size from fun g o ha => by
      have h1 := (MN.lt g (by rw [ha]; rfl)).1
      have h2 : w.heap.size < w1.heap.size := cell_lt x0
      omega)
    have HF := hide hF
    have E2 := And.intro (show Ext w w2 from (by repeat (first | exact Ext.refl _ | assumption | refine Ext.alloc ?_ _ | refine Ext.drew ?_ | refine Ext.drewN ?_ _ | refine Ext.trans ?_ ‹Ext _ _›))) trivial
    clear MN EN hF x0 xf CT Fw1 Fw2
    go_wp2_with fail
    refine (unhide CW _).mono ?_
    rintro e w2' ⟨rfl, rfl⟩
    obtain ⟨w3, hw3⟩ : ∃ w3, w3 = w2'.setCell ⟨w.heap.size, 0, none⟩ (.int .i64 (xr : Int)) := ⟨_, rfl⟩
    have E3 : Ext w w3 := by rw [hw3]; exact E2.1.setCell (p := ⟨w.heap.size, 0, none⟩) (Nat.le_refl _) _
    have x3 : w3.cell? ⟨w.heap.size, 0, none⟩ = some (.int .i64 (xr : Int)) := by rw [hw3]; exact World.cell?_setCell_same' _ _ _ (by rw [x1]; rfl)
    have PF3 : Pv w3 AF F.length cF F := by rw [hw3]; exact PF.oth (p := ⟨w.heap.size, 0, none⟩) (unhide HAF) _
    have CP2 := hide (unhide CP F (unhide HF))
    obtain ⟨y, hy⟩ : ∃ y, y = Wm.evN P.p F xr := ⟨_, rfl⟩
    rw [← hy] at CP2
    have HY := hide hy
    have hyp : y < P.p := by rw [hy]; exact Wm.evN_lt P.pos _ _
    clear CP PF hy
    go_wp2_with fail
    rw [← hw3]
    clear hw3 x1 xf1 E2
    refine (unhide CP2 _ E3).mono ?_
    rintro e w4 ⟨rfl, F4⟩
    obtain ⟨W5, hW5⟩ : ∃ W5, W5 = w4.alloc (.cells #[.int .i64 (y : Int)] 3) := ⟨_, rfl⟩
    have F5 : Ext w3 W5 := by rw [hW5]; exact F4.alloc _
    have x5 := F5.keep x3
    have y5 : W5.cell? ⟨w4.heap.size, 0, none⟩ = some (.int .i64 (y : Int)) := by rw [hW5]; simp [go_sem]
    have CC5 := hide (unhide CC W5 (E3.trans F5))
    clear CP2 CC F4 x3
    go_wp2_with fail
    rw [← hW5]
    clear hW5
    refine (unhide CC5).mono ?_
    rintro e w6 ⟨⟨vB, rfl, hown⟩, F6⟩
    obtain ⟨AB, cB, rfl, -, -, -, -⟩ := row_of_own hown
    have CR := hide (reverse_pts W5 w6 AB n cB L F6 hown (by omega))
    clear CC5 hown F6
    go_wp2_with fail
    refine (unhide CR).mono ?_
    rintro e w7 ⟨rfl, hown7, F7⟩
    have x7 := F7.keep x5
    have y7 := F7.keep y5
    have HO7 := hide hown7
    have hbd : (n + 1) * 16 ≤ 140737488355328 ∧ n + 1 ≤ 9223372036854775807 := by omega
    clear CR hown7
    go_wp2_with (at_builtin; go_loud (refine wpList_app rfl _ _ 43 (by rfl) 49 pairQ F7 _ _ _ _ (by rfl) (unhide HO7) 1 1 (by rfl) rfl rfl hbd ?_))
    intro v' w8 hown8 F8 _
    have h8 : w8.ownsRow W5.heap.size 49 2 v' (n + 1) (prs (L.reverse ++ [((xr : Int), (y : Int))])) := by
      rw [← prs_append]; exact hown8
    obtain ⟨A8, c8, rfl, R8, h8a, h8b, -⟩ := row_of_own h8
    unfold maxLen at h8b
    have x8 := F8.keep x5
    have y8 := F8.keep y5
    have PF8 := (PF3.keep F5).keep F8
    have HL' := hide (show (L.reverse ++ [((xr : Int), (y : Int))]).length = n + 1 by rw [List.length_append, List.length_reverse, unhide HL]; rfl)
    have E8 := And.intro (E3.trans (F5.trans F8)) trivial
    clear hown8 h8 HO7 x7 y7 F7
    by_cases h12 : n = 12
    · have CT2 := hide (Through_bad P.p A8 (n + 1) c8 _ w8 R8 h8a h8b 2 (errPts_large h9 (by rw [unhide HL']; omega)) (by omega))
      have h12I : ((n : Int) == 12) = true := by rw [beq_iff_eq]; omega
      clear R8 hbd h12 hn12
      go_wp2_with fail
      refine (unhide CT2).mono ?_
      rintro e w9 ⟨rfl, F9⟩
      go_wp2
      go_ret
      exact ⟨ret_bool (by first | rfl | simp), (E8.1.trans F9)⟩
    · have hn11 : n < 12 := by omega
      by_cases hex : ∃ j, j < n ∧ (L.getD j (0, 0)).1 = (xr : Int)
      · obtain ⟨j, hj, hje⟩ := hex
        have hLn := unhide HL
        have hok := unhide HOK
        have hat := hok.at (show j < L.length by omega)
        have hev := (unhide HF).ev j (by omega)
        have hpx : pxN L j = xr := by have := hat.1; omega
        rw [hpx, ← unhide HY] at hev
        have hany : L.any (fun z => (z.1 == (xr : Int)) && (z.2 == (y : Int))) = true := by
          rw [List.any_eq_true]
          refine ⟨_, getD_mem L (0, 0) (show j < L.length by omega), ?_⟩
          rw [hje, hat.2.1, ← hev]
          simp
        have h6 : errPts P.p (L.reverse ++ [((xr : Int), (y : Int))]) = 6 := errPts_there h9 hok.rev hxp hyp (by rw [List.length_reverse]; omega) (j := n - 1 - j) (by rw [List.length_reverse]; omega) (by
          rw [rev_get _ _ (by omega), show L.length - 1 - (n - 1 - j) = j by omega]; exact hje)
        have CT2 := hide (Through_bad P.p A8 (n + 1) c8 _ w8 R8 h8a h8b 6 h6 (by omega))
        have CX := hide (fun (W : World) (E : Ext w8 W) => isat_contains A n c L ⟨w.heap.size, 0, none⟩ ⟨w4.heap.size, 0, none⟩ W ((unhide HR).keep (E8.1.trans E)) (fun z => (z.1 == (xr : Int)) && (z.2 == (y : Int))) (fun k hk W' E' => isat_any _ _ _ _ _ _ W' ((E.trans E').keep x8) ((E.trans E').keep y8)) (by omega))
        rw [hany] at CX
        clear R8 hbd h12 hn12 hLn hok hat hev hpx hany h6 x8 y8 x5 y5 hje
        go_wp2_with fail
        refine (unhide CT2).mono ?_
        rintro e w9 ⟨rfl, F9⟩
        go_wp2_with fail
        refine (unhide CX _ (by repeat (first | exact F9 | refine Ext.alloc ?_ _ | refine Ext.drew ?_ | refine Ext.drewN ?_ _ | (refine Ext.trans ?_ (plus_ext _ _)) | (refine Ext.setCell ?_ (by have := Ext.size F9; simp; omega) _)))).mono ?_
        rintro e w10 ⟨rfl, F10⟩
        go_wp2
        go_ret
        exact ⟨ret_bool (by first | rfl | simp), E8.1.trans (Ext.trans (by repeat (first | exact F9 | refine Ext.alloc ?_ _ | refine Ext.drew ?_ | refine Ext.drewN ?_ _ | (refine Ext.trans ?_ (plus_ext _ _)) | (refine Ext.setCell ?_ (by have := Ext.size F9; simp; omega) _))) F10)⟩
      · have hfree : ∀ j, j < L.reverse.length → (L.reverse.getD j (0, 0)).1 ≠ (xr : Int) := fun j hj e => by
          rw [List.length_reverse] at hj
          have hLn := unhide HL
          rw [rev_get _ _ hj] at e
          exact hex ⟨L.length - 1 - j, by omega, e⟩
        have hok2 := (unhide HOK).rev.more hxp hyp (by rw [List.length_reverse]; have := unhide HL; omega) hfree
        have hth2 := (unhide HF).rev.more xr
        rw [← unhide HY] at hth2
        have CT2 := hide (Through_ok P h9 A8 (n + 1) c8 _ w8 R8 h8a h8b hok2)
        have HU := hide (fun G (b : ThruL P _ G) => ThruL.unique hok2 b hth2)
        clear R8 hbd h12 hn12 x8 y8 x5 y5 hex hfree hok2 hth2
        go_wp2_with fail
        refine (unhide CT2).mono ?_
        rintro e w9 ⟨⟨G, vG, hG, rfl, MG⟩, F9⟩
        obtain rfl := unhide HU G hG
        obtain ⟨AG, cG, rfl, PG⟩ := MG.pv
        have CE := hide (equal_pv AF AG _ _ cF cG G G w9 (PF8.keep F9) PG)
        rw [decide_eq_true rfl] at CE
        clear HU hG MG PG PF8 PF3 CT2
        go_wp2_with fail
        refine (unhide CE).mono ?_
        rintro e w10 ⟨rfl, k10, rfl⟩
        go_wp2
        go_ret
        exact ⟨ret_bool (by first | rfl | simp), (E8.1.trans F9).drewN _⟩
  · obtain ⟨r, hr⟩ : ∃ r, errPts p L = r := ⟨_, rfl⟩
    have CT := hide (fun (W : World) (E : Ext w W) => Through_bad p A n c L W (hR.keep E) hnc hcap r hr (by rw [← hr]; exact he))
    have hrI : (r != 0) = true := by rw [bne_iff_ne, ← hr]; exact he
    have hrJ : ¬ r = 0 := by rw [← hr]; exact he
    clear hR hr he
    go_enter Try.func10, Try.ntmps10
    go_wp2_with fail
    refine (unhide CL _).mono ?_
    rintro e w1 ⟨rfl, EN⟩
    have Fw1 : Ext w w1 := Ext.trans (by repeat (first | exact Ext.refl w | refine Ext.alloc ?_ _ | refine Ext.drew ?_ | refine Ext.drewN ?_ _ | (refine Ext.trans ?_ (plus_ext _ _)) | (refine Ext.setCell ?_ (by have := Ext.size Ext.refl w; simp; omega) _))) EN
    clear EN
    go_wp2_with fail
    refine (unhide CT _ (by repeat (first | exact Ext.refl _ | assumption | refine Ext.alloc ?_ _ | refine Ext.drew ?_ | refine Ext.drewN ?_ _ | refine Ext.trans ?_ ‹Ext _ _›))).mono ?_
    rintro e w2 ⟨rfl, EN⟩
    have Fw2 : Ext w1 w2 := Ext.trans (by repeat (first | exact Ext.refl _ | assumption | refine Ext.alloc ?_ _ | refine Ext.drew ?_ | refine Ext.drewN ?_ _ | refine Ext.trans ?_ ‹Ext _ _›)) EN
    clear EN
    go_wp2
    go_ret
    exact ⟨ret_bool (by first | rfl | simp [hrJ]), (by repeat (first | exact Ext.refl _ | assumption | refine Ext.alloc ?_ _ | refine Ext.drew ?_ | refine Ext.drewN ?_ _ | refine Ext.trans ?_ ‹Ext _ _›))⟩
end Go.Proofs.Ytkfdimofkkckeaa
