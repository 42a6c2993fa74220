/-
  The law SecretBlind returns true: the walk.
-/
import Derived.Test.YtojjcdbphmcmeaaSec1
import Derived.Test.YtojjcdbphmcmeaaLaw
import Derived.Test.YtojjcdbphmcmeaaHold
import Derived.Test.YtojjcdbphmcmeaaMin
import Derived.Test.YtojjcdbphmcmeaaBlind0
set_option linter.unusedVariables false
set_option linter.unusedSimpArgs false
namespace Go.Proofs.Ytojjcdbphmcmeaa
open Go.RowKit Go.BigFrame

theorem Row.oth {w : World} {A : Option Addr} {n sz : Nat} {xs : List Value} (R : Row w A n sz xs) {g : Nat} (h : ∀ b o, A = some ⟨b, o, none⟩ → b ≠ g) (j : Nat) (u : Value) : Row (w.setCell ⟨g, j, none⟩ u) A n sz xs := by
  obtain ⟨r1, r2⟩ := R
  refine ⟨r1, fun h0 => ?_⟩
  obtain ⟨b, o, e, h3, h4⟩ := r2 h0
  refine ⟨b, o, e, by simpa using h3, fun j hj => ?_⟩
  have := h b o e
  rw [World.cell?_setCell_other _ _ _ _ (by simp only [ne_eq, Addr.mk.injEq, not_and]; omega)]
  exact h4 j hj
theorem prime_31q : Wm.Prime 31 := Wm.pchk_spec (r := 10) (by decide +kernel)
def P31 : Wm.Pr := ⟨31, prime_31q⟩
theorem snoc_getB (L : List (Int × Int)) (x : Int × Int) (i : Nat) : (L ++ [x]).getD i (0, 0) = if i < L.length then L.getD i (0, 0) else if i = L.length then x else (0, 0) := by
  rw [List.getD_eq_getElem?_getD, List.getElem?_append]
  by_cases h : i < L.length
  · rw [if_pos h, if_pos h, ← List.getD_eq_getElem?_getD]
  · rw [if_neg h, if_neg h]
    by_cases e : i = L.length
    · subst e; simp
    · rw [if_neg e, List.getElem?_eq_none (by simp; omega)]; rfl
/-- Points at places that are not nothing, no two alike. -/
structure BlOk (P : Wm.Pr) (L : List (Int × Int)) : Prop where
  rng : ∀ x ∈ L, (1 ≤ x.1 ∧ x.1 < P.p) ∧ (0 ≤ x.2 ∧ x.2 < P.p)
  dst : ∀ i j, i < L.length → j < L.length → (L.getD i (0, 0)).1 = (L.getD j (0, 0)).1 → i = j
theorem BlOk.nil (P : Wm.Pr) : BlOk P [] := ⟨fun x h => by simp at h, fun i j h => by simp at h⟩
theorem BlOk.snoc {P : Wm.Pr} {L : List (Int × Int)} (h : BlOk P L) {x y : Int} (hx : 1 ≤ x ∧ x < P.p) (hy : 0 ≤ y ∧ y < P.p) (hno : L.any (fun b => b.1 == x) = false) : BlOk P (L ++ [(x, y)]) := by
  have hno' : ∀ i, i < L.length → (L.getD i (0, 0)).1 ≠ x := fun i hi e => by
    rw [List.any_eq_false] at hno
    exact hno _ (getD_mem L (0, 0) hi) (by simpa using e)
  refine ⟨fun z hz => ?_, fun i j hi hj e => ?_⟩
  · rcases List.mem_append.1 hz with hz | hz
    · exact h.rng z hz
    · simp only [List.mem_singleton] at hz
      subst hz; exact ⟨hx, hy⟩
  · rw [List.length_append, List.length_singleton] at hi hj
    rw [snoc_getB, snoc_getB] at e
    by_cases h1 : i < L.length
    · rw [if_pos h1] at e
      by_cases h2 : j < L.length
      · rw [if_pos h2] at e; exact h.dst i j h1 h2 e
      · rw [if_neg h2, if_pos (by omega)] at e; exact absurd e (hno' i h1)
    · rw [if_neg h1, if_pos (by omega)] at e
      by_cases h2 : j < L.length
      · rw [if_pos h2] at e; exact absurd e.symm (hno' j h2)
      · omega
theorem BlOk.pts {P : Wm.Pr} {L : List (Int × Int)} (h : BlOk P L) (hl : L.length ≤ 12) : PtsOk P L := ⟨hl, fun x hx => by have := h.rng x hx; omega, h.dst⟩
theorem BlOk.get {P : Wm.Pr} {L : List (Int × Int)} (h : BlOk P L) {i : Nat} (hi : i < L.length) : (1 ≤ (L.getD i (0, 0)).1 ∧ (L.getD i (0, 0)).1 < P.p) ∧ (0 ≤ (L.getD i (0, 0)).2 ∧ (L.getD i (0, 0)).2 < P.p) := h.rng _ (getD_mem L (0, 0) hi)
theorem BlOk.thru {P : Wm.Pr} {L : List (Int × Int)} (h : BlOk P L) : ∃ F, ThruL P L F := by
  unfold ThruL
  have hp := P.pos
  have hx : ∀ k, pxN L k < P.p := fun k => by
    unfold pxN
    rcases Nat.lt_or_ge k L.length with hk | hk
    · have := h.get hk; omega
    · rw [List.getD_eq_getElem?_getD, List.getElem?_eq_none hk]; exact hp
  have hy : ∀ k, pyN L k < P.p := fun k => by
    unfold pyN
    rcases Nat.lt_or_ge k L.length with hk | hk
    · have := h.get hk; omega
    · rw [List.getD_eq_getElem?_getD, List.getElem?_eq_none hk]; exact hp
  exact Wm.thru_ex hx hy fun i j hi hj e => h.dst i j hi hj (by
    unfold pxN at e
    have h1 := h.get hi
    have h2 := h.get hj
    omega)
theorem BlOk.blind {P : Wm.Pr} {L : List (Int × Int)} (h : BlOk P L) {x : Int} {y y' : Nat} {F G : List Nat} (hF : ThruL P (L ++ [(x, (y : Int))]) F) (hG : ThruL P (L ++ [(x, (y' : Int))]) G) (h0 : Wm.evN P.p F 0 = Wm.evN P.p G 0) : y = y' := by
  unfold ThruL at hF hG
  rw [List.length_append, List.length_singleton] at hF hG
  have hpx : pxN (L ++ [(x, (y : Int))]) = pxN (L ++ [(x, (y' : Int))]) := by
    funext i
    unfold pxN
    rw [snoc_getB, snoc_getB]
    by_cases h1 : i < L.length
    · rw [if_pos h1, if_pos h1]
    · rw [if_neg h1, if_neg h1]
      by_cases h2 : i = L.length
      · rw [if_pos h2, if_pos h2]
      · rw [if_neg h2, if_neg h2]
  rw [hpx] at hF
  have hg : ∀ i, i < L.length → ∀ z : Int × Int, (L ++ [z]).getD i (0, 0) = L.getD i (0, 0) := fun i hi z => by rw [snoc_getB, if_pos hi]
  have e := Wm.blind (n := L.length) hF hG (fun i hi => by unfold pyN; rw [hg i hi, hg i hi])
    (fun i hi => by unfold pxN; rw [hg i hi]; have := h.get hi; omega) (fun i hi => by unfold pxN; rw [hg i hi]; have := h.get hi; omega)
    (fun i j hi hj e => h.dst i j hi hj (by
      unfold pxN at e
      rw [hg i hi, hg j hj] at e
      have h1 := h.get hi
      have h2 := h.get hj
      omega)) h0
  unfold pyN at e
  rw [snoc_getB, snoc_getB, if_neg (by omega), if_pos rfl, if_neg (by omega), if_pos rfl] at e
  simpa using e


set_option maxRecDepth 100000 in
set_option maxHeartbeats 1000000 in
theorem bla_index (A : Option Addr) (n c : Nat) (l : List (Int × Int)) (q : Addr) (w : World) (R : Row w A n 2 (prs l)) (p : Int × Int → Bool)
    (hp : ∀ k, k < n → ∀ W, Ext w W → Calls Try.prog 23 (#[.agg #[.int .i64 (l.getD k (0, 0)).1, .int .i64 (l.getD k (0, 0)).2]] ++ #[.pointer (some q)]) W fun e w' => e = .returned (.bool (p (l.getD k (0, 0)))) ∧ Ext W w') (hm : n ≤ 4611686018427387904) :
    Calls Try.prog 51 #[.slice A n c, .func (.func 23) #[] #[.pointer (some q)]] w fun e w' => (∃ r : Int, e = .returned (.int .i64 r) ∧ decide (0 ≤ r) = l.any p) ∧ Ext w w' := by
  have HP := hide hp
  have HL := hide R.prn
  have HR := hide R
  clear hp R
  go_enter Try.func51, Try.ntmps51
  go_wp2
  go_loopw [8] (fun i wr => ∃ k : Nat, k ≤ n ∧ i = .int .i64 k ∧ Hid (∀ j, j < k → p (l.getD j (0, 0)) = false) ∧ Ext w wr) (fun i _ => n - (intOf i).toNat)
  case atStart => exact ⟨0, by omega, rfl, hide (fun j h => absurd h (by omega)), Ext.refl _⟩
  case round =>
    obtain ⟨k, hk, rfl, hz, hext⟩ := hrel
    by_cases hlt : k < n
    · obtain ⟨b, o, rfl, hb, c1, c2⟩ := ((unhide HR).keep hext).pair hlt
      have hpk := unhide HP k hlt
      have hmem := getD_mem l (0, 0) (k := k) (by rw [unhide HL]; exact hlt)
      have hzk := hide (fun (h : p (l.getD k (0, 0)) = false) j (hj : j < k + 1) => (show p (l.getD j (0, 0)) = false from by
        by_cases h' : j < k
        · exact unhide hz j h'
        · obtain rfl : j = k := by omega
          exact h))
      have hfin := hide (fun (h : p (l.getD k (0, 0)) = true) => (List.any_eq_true.2 ⟨_, hmem, h⟩ : l.any p = true))
      clear hmem
      have H1 := hide (rfl : p (l.getD k (0, 0)) = p (l.getD k (0, 0)))
      generalize hq : p (l.getD k (0, 0)) = q at *
      clear hq H1
      generalize (l.getD k (0, 0)).1 = x at *
      generalize (l.getD k (0, 0)).2 = y at *
      have HQ := hide hpk
      clear hpk
      cases q with
      | false =>
        have hz2 := hide (unhide hzk rfl)
        clear hzk hfin
        go_wp2_with (go_at_call 23; refine (unhide HQ _ hext).mono ?_; rintro e w' ⟨rfl, E1⟩)
        go_roundw
        case rel => exact ⟨k + 1, by omega, by go_num, hz2, hext.trans E1⟩
        case measure => simp [intOf]; omega
      | true =>
        have hf2 := hide (unhide hfin rfl)
        clear hzk hfin
        go_wp2_with (go_at_call 23; refine (unhide HQ _ hext).mono ?_; rintro e w' ⟨rfl, E1⟩)
        go_ret
        exact ⟨⟨_, rfl, by rw [unhide hf2]; simp⟩, hext.trans E1⟩
    · have hfin := hide (show l.any p = false by
        rw [List.any_eq_false]
        intro x hx
        obtain ⟨j, hj, rfl⟩ := List.getElem_of_mem hx
        have := unhide hz j (by have := unhide HL; omega)
        rw [List.getD_eq_getElem?_getD, List.getElem?_eq_getElem hj] at this
        simpa using this)
      go_wp2
      go_ret
      exact ⟨⟨_, rfl, by rw [unhide hfin]; simp⟩, hext⟩

theorem bla_contains (A : Option Addr) (n c : Nat) (l : List (Int × Int)) (q : Addr) (w : World) (R : Row w A n 2 (prs l)) (p : Int × Int → Bool)
    (hp : ∀ k, k < n → ∀ W, Ext w W → Calls Try.prog 23 (#[.agg #[.int .i64 (l.getD k (0, 0)).1, .int .i64 (l.getD k (0, 0)).2]] ++ #[.pointer (some q)]) W fun e w' => e = .returned (.bool (p (l.getD k (0, 0)))) ∧ Ext W w') (hm : n ≤ 4611686018427387904) :
    Calls Try.prog 22 #[.slice A n c, .func (.func 23) #[] #[.pointer (some q)]] w fun e w' => e = .returned (.bool (l.any p)) ∧ Ext w w' := by
  have H := hide (bla_index A n c l q w R p hp hm)
  clear R hp
  generalize l.any p = v at *
  go_enter Try.func22, Try.ntmps22
  go_wp2_with fail
  refine (unhide H).mono ?_
  rintro e w' ⟨⟨n, rfl, hn⟩, E1⟩
  go_wp2
  go_ret
  exact ⟨rfl, E1⟩


set_option maxRecDepth 100000 in
set_option maxHeartbeats 1000000 in
theorem clone_blp (A : Option Addr) (n c : Nat) (xs : List Value) (w : World) (R : Row w A n 2 xs) (h1 : ∀ u ∈ xs, u.oneCell' = true) (hb : n * 16 ≤ 140737488355328) (hnil : A = none → n = 0 ∧ c = 0) :
    Calls Try.prog 25 #[.slice A n c] w fun e w' => (∃ v, e = .returned v ∧ w'.ownsRow w.heap.size 43 2 v n xs) ∧ Ext w w' := by
  have hi0 : (Try.prog.info? 43).map (fun i => (i.zero, i.size, i.bytes)) = some (some (.agg #[.int .i64 0, .int .i64 0]), 2, 16) := by kernel_rfl
  obtain ⟨i0, hi, hz0, hz1, hz2⟩ := info_parts hi0
  cases A with
  | none =>
    obtain ⟨rfl, rfl⟩ := hnil rfl
    obtain rfl := R.empty
    have heq := fun w : World => Lib.run_eql_slice_nil w 39 43 none 0 0 0 0 Try.underlying39
    go_enter Try.func25, Try.ntmps25
    go_wp2
    go_ret
    exact ⟨⟨_, rfl, World.ownsRow_nil _ _ _ _⟩, Ext.refl _⟩
  | some ad =>
    have heq := fun w : World => Lib.run_eql_slice_nil w 39 43 (some ad) n c 0 0 Try.underlying39
    have hr := R.2
    have hl := R.1
    have hown := World.ownsRow_lit (base := w.heap.size) (e := 43) (size := 2) w #[] 0 (Nat.le_refl _) (by unfold maxLen; omega) rfl
    have HR := hide hr
    have HL := hide hl
    clear R hnil hr hl
    go_enter Try.func25, Try.ntmps25
    go_wp2_with (at_builtin; refine wpList_append_own _ rfl _ _ 39 rfl w.heap.size 43 i0 (.agg #[.int .i64 0, .int .i64 0]) 2 16 Try.underlying39 hi hz0 hz1 hz2 rfl (by decide) _ _ _ rfl hown ad n c xs rfl (unhide HL) ?c1 h1 (by unfold maxLen; omega) (by omega) (by simp) ?_)
    case c1 =>
      intro j u hj
      have hjn : j < n * 2 := by
        have := (List.getElem?_eq_some_iff.1 hj).1
        have := unhide HL
        omega
      obtain ⟨b, o, e, hb, hc⟩ := unhide HR (by omega)
      injection e with e
      subst e
      have hj' := (hc j hjn).trans hj
      have : (⟨b, o, none⟩ : Addr).add j = ⟨b, o + j, none⟩ := by
        unfold Addr.add
        split
        · rename_i h0; simp [h0]
        · rfl
      rw [this]
      exact (World.cell?_alloc_lt _ _ _ hb).trans hj'
    intro v' w' hown' hgrow _
    have hown2 : w'.ownsRow w.heap.size 43 2 v' n xs := by simpa using hown'
    have E1 : Ext w w' := ((Ext.refl w).alloc _).grown hgrow (fun q hq => by simp [Value.ownBlock] at hq; omega)
    clear hgrow
    go_wp2
    go_ret
    exact ⟨⟨_, rfl, hown2⟩, E1⟩

theorem bla_any (x y X : Int) (q : Addr) (w : World) (hq : w.cell? q = some (.int .i64 X)) (hq0 : q.off = 0 ∧ q.spot = none) :
    Calls Try.prog 23 #[.agg #[.int .i64 x, .int .i64 y], .pointer (some q)] w fun e w' => e = .returned (.bool (x == X)) ∧ Ext w w' := by
  obtain ⟨g, o, s⟩ := q
  obtain ⟨rfl, rfl⟩ := hq0
  have hqa : ∀ o, (w.alloc o).cell? ⟨g, 0, none⟩ = some (.int .i64 X) := fun o => (World.cell?_alloc_lt w o ⟨g, 0, none⟩ (cell_lt hq)).trans hq
  go_enter Try.func23, Try.ntmps23
  go_wp2
  go_ret
  have hsw : (X == x) = (x == X) := by
    by_cases e : x = X
    · subst e; rfl
    · rw [beq_eq_false_iff_ne.2 e, beq_eq_false_iff_ne.2 (fun h => e h.symm)]
  exact ⟨ret_boolv hsw, (by repeat (first | exact Ext.refl _ | refine Ext.alloc ?_ _ | refine Ext.drew ?_ | refine Ext.drewN ?_ _ | (refine Ext.trans ?_ (plus_ext _ _)) | (refine Ext.setCell ?_ (by have := Ext.size Ext.refl _; simp; omega) _)))⟩

set_option maxRecDepth 100000 in
set_option maxHeartbeats 1000000 in
theorem blb_index (A : Option Addr) (n c : Nat) (l : List (Int × Int)) (q : Addr) (w : World) (R : Row w A n 2 (prs l)) (p : Int × Int → Bool)
    (hp : ∀ k, k < n → ∀ W, Ext w W → Calls Try.prog 24 (#[.agg #[.int .i64 (l.getD k (0, 0)).1, .int .i64 (l.getD k (0, 0)).2]] ++ #[.pointer (some q)]) W fun e w' => e = .returned (.bool (p (l.getD k (0, 0)))) ∧ Ext W w') (hm : n ≤ 4611686018427387904) :
    Calls Try.prog 51 #[.slice A n c, .func (.func 24) #[] #[.pointer (some q)]] w fun e w' => (∃ r : Int, e = .returned (.int .i64 r) ∧ decide (0 ≤ r) = l.any p) ∧ Ext w w' := by
  have HP := hide hp
  have HL := hide R.prn
  have HR := hide R
  clear hp R
  go_enter Try.func51, Try.ntmps51
  go_wp2
  go_loopw [8] (fun i wr => ∃ k : Nat, k ≤ n ∧ i = .int .i64 k ∧ Hid (∀ j, j < k → p (l.getD j (0, 0)) = false) ∧ Ext w wr) (fun i _ => n - (intOf i).toNat)
  case atStart => exact ⟨0, by omega, rfl, hide (fun j h => absurd h (by omega)), Ext.refl _⟩
  case round =>
    obtain ⟨k, hk, rfl, hz, hext⟩ := hrel
    by_cases hlt : k < n
    · obtain ⟨b, o, rfl, hb, c1, c2⟩ := ((unhide HR).keep hext).pair hlt
      have hpk := unhide HP k hlt
      have hmem := getD_mem l (0, 0) (k := k) (by rw [unhide HL]; exact hlt)
      have hzk := hide (fun (h : p (l.getD k (0, 0)) = false) j (hj : j < k + 1) => (show p (l.getD j (0, 0)) = false from by
        by_cases h' : j < k
        · exact unhide hz j h'
        · obtain rfl : j = k := by omega
          exact h))
      have hfin := hide (fun (h : p (l.getD k (0, 0)) = true) => (List.any_eq_true.2 ⟨_, hmem, h⟩ : l.any p = true))
      clear hmem
      have H1 := hide (rfl : p (l.getD k (0, 0)) = p (l.getD k (0, 0)))
      generalize hq : p (l.getD k (0, 0)) = q at *
      clear hq H1
      generalize (l.getD k (0, 0)).1 = x at *
      generalize (l.getD k (0, 0)).2 = y at *
      have HQ := hide hpk
      clear hpk
      cases q with
      | false =>
        have hz2 := hide (unhide hzk rfl)
        clear hzk hfin
        go_wp2_with (go_at_call 24; refine (unhide HQ _ hext).mono ?_; rintro e w' ⟨rfl, E1⟩)
        go_roundw
        case rel => exact ⟨k + 1, by omega, by go_num, hz2, hext.trans E1⟩
        case measure => simp [intOf]; omega
      | true =>
        have hf2 := hide (unhide hfin rfl)
        clear hzk hfin
        go_wp2_with (go_at_call 24; refine (unhide HQ _ hext).mono ?_; rintro e w' ⟨rfl, E1⟩)
        go_ret
        exact ⟨⟨_, rfl, by rw [unhide hf2]; simp⟩, hext.trans E1⟩
    · have hfin := hide (show l.any p = false by
        rw [List.any_eq_false]
        intro x hx
        obtain ⟨j, hj, rfl⟩ := List.getElem_of_mem hx
        have := unhide hz j (by have := unhide HL; omega)
        rw [List.getD_eq_getElem?_getD, List.getElem?_eq_getElem hj] at this
        simpa using this)
      go_wp2
      go_ret
      exact ⟨⟨_, rfl, by rw [unhide hfin]; simp⟩, hext⟩

theorem blb_contains (A : Option Addr) (n c : Nat) (l : List (Int × Int)) (q : Addr) (w : World) (R : Row w A n 2 (prs l)) (p : Int × Int → Bool)
    (hp : ∀ k, k < n → ∀ W, Ext w W → Calls Try.prog 24 (#[.agg #[.int .i64 (l.getD k (0, 0)).1, .int .i64 (l.getD k (0, 0)).2]] ++ #[.pointer (some q)]) W fun e w' => e = .returned (.bool (p (l.getD k (0, 0)))) ∧ Ext W w') (hm : n ≤ 4611686018427387904) :
    Calls Try.prog 22 #[.slice A n c, .func (.func 24) #[] #[.pointer (some q)]] w fun e w' => e = .returned (.bool (l.any p)) ∧ Ext w w' := by
  have H := hide (blb_index A n c l q w R p hp hm)
  clear R hp
  generalize l.any p = v at *
  go_enter Try.func22, Try.ntmps22
  go_wp2_with fail
  refine (unhide H).mono ?_
  rintro e w' ⟨⟨n, rfl, hn⟩, E1⟩
  go_wp2
  go_ret
  exact ⟨rfl, E1⟩

theorem blb_any (x y X : Int) (q : Addr) (w : World) (hq : w.cell? q = some (.int .i64 X)) :
    Calls Try.prog 24 #[.agg #[.int .i64 x, .int .i64 y], .pointer (some q)] w fun e w' => e = .returned (.bool (x == X)) ∧ Ext w w' := by
  have hqa : ∀ o, (w.alloc o).cell? q = some (.int .i64 X) := fun o => (World.cell?_alloc_lt w o q (cell_lt hq)).trans hq
  go_enter Try.func24, Try.ntmps24
  go_wp2
  go_ret
  exact ⟨rfl, (by repeat (first | exact Ext.refl _ | refine Ext.alloc ?_ _ | refine Ext.drew ?_ | refine Ext.drewN ?_ _ | (refine Ext.trans ?_ (plus_ext _ _)) | (refine Ext.setCell ?_ (by have := Ext.size Ext.refl _; simp; omega) _)))⟩
theorem prs_oneB : ∀ l : List (Int × Int), ∀ u ∈ prs l, u.oneCell' = true
  | [], u, h => by simp [prs] at h
  | p :: l, u, h => by
    simp only [prs, List.mem_cons] at h
    rcases h with rfl | rfl | h
    · rfl
    · rfl
    · exact prs_oneB l u h
theorem boolQ : EInfo Try.prog 48 4 (.bool false) 1 1 := EInfo.mk_ Try.underlying48 (by kernel_rfl) rfl (by omega)

set_option maxRecDepth 100000 in
set_option maxHeartbeats 12000000 in
theorem sblind_law (a : Int) (A1 : Option Addr) (n1 c1 : Nat) (L1 : List (Int × Int)) (x : Int) (w : World)
    (S1 : SliceIn w A1 n1 c1 2 16 (prs L1)) (_ : ∀ y ∈ L1, (-9223372036854775808 ≤ y.1 ∧ y.1 ≤ 9223372036854775807) ∧ (-9223372036854775808 ≤ y.2 ∧ y.2 ≤ 9223372036854775807)) :
    Calls Try.prog 6 #[.int .i64 a, .slice A1 n1 c1, .int .i64 x] w fun e w' => e = .returned (.bool true) ∧ Ext w w' := by
  have CL := hide (fun w : World => deals_any w)
  have C0 := hide (fun w : World => polys_any w)
  have CF := hide (fun w : World => fieldOf_any a w)
  have HR1 := hide S1.1
  have hnc1 := S1.2.1
  have hcb := S1.2.2.2.1
  clear S1
  go_enter Try.func6, Try.ntmps6
  go_wp2_with fail
  refine (unhide CL _).mono ?_
  rintro e w1 ⟨rfl, EN⟩
  have x0 := EN.keep (a := ⟨w.heap.size, 0, none⟩) (v := .int .i64 x) (by simp [go_sem])
  have xf : w1.frozen? ⟨w.heap.size, 0, none⟩ = false := (EN.frozen (p := ⟨w.heap.size, 0, none⟩) (by simp)).trans (by simp [go_sem])
  have Fw1 : Ext w w1 := Ext.trans (by repeat (first | exact Ext.refl w | refine Ext.alloc ?_ _ | refine Ext.drew ?_ | refine Ext.drewN ?_ _ | (refine Ext.trans ?_ (plus_ext _ _)) | (refine Ext.setCell ?_ (by have := Ext.size Ext.refl w; simp; omega) _))) EN
  clear EN
  go_wp2_with fail
  refine (unhide C0 _).mono ?_
  rintro e w2 ⟨rfl, Fw2⟩
  have x2 := Fw2.keep x0
  have xf2 : w2.frozen? ⟨w.heap.size, 0, none⟩ = false := (Fw2.frozen (p := ⟨w.heap.size, 0, none⟩) (cell_lt x0)).trans xf
  have E2 := And.intro (Fw1.trans Fw2) trivial
  clear x0 xf Fw1 Fw2
  go_wp2_with fail
  refine (unhide CF _).mono ?_
  rintro e w3 ⟨⟨P0, h9, rfl⟩, k3, rfl⟩
  have hp0 := P0.two
  clear CL C0 CF
  obtain ⟨M, hM⟩ : ∃ M : Nat, (M : Int) = min (n1 : Int) 8 := ⟨(min (n1 : Int) 8).toNat, by omega⟩
  have hMn : M ≤ n1 := by omega
  have hM8 : M ≤ 8 := by omega
  have HMM := hide hM
  have hMc : (M : Int) ≤ (c1 : Int) := by omega
  have xk2 : (w2.drewN k3).cell? ⟨w.heap.size, 0, none⟩ = some (.int .i64 x) := x2
  have xkf2 : (w2.drewN k3).frozen? ⟨w.heap.size, 0, none⟩ = false := xf2
  obtain ⟨w4, hw4⟩ : ∃ w4, w4 = w2.drewN k3 := ⟨_, rfl⟩
  have E4 := And.intro (show Ext w w4 by rw [hw4]; exact E2.1.drewN _) trivial
  rw [← hw4] at xk2 xkf2 ⊢
  clear hM x2 xf2 E2 hw4
  by_cases h40 : 40 < P0.p
  · have h40I : (40 : Int) < (P0.p : Int) := by omega
    obtain ⟨P, hP⟩ : ∃ P, P = P31 := ⟨_, rfl⟩
    have hpp : P.p = 31 := by rw [hP]; rfl
    have hpI : (31 : Int) = (P.p : Int) := by omega
    have hp := P.two
    have hp40 : P.p ≤ 40 := by omega
    have HPI := hide hpI
    clear hP hpI hpp
    go_wp2_with (refine wpList_min2 (o := ⟨some 28, _, _, _, _, _⟩) rfl _ _ _ (by rfl) _ _ (by rfl) (by rfl) (M : Int) (by have := unhide HMM; omega) ?_)
    rw [unhide HPI]
    clear HPI
    have CW1 := hide (fun (z : Int) (w : World) => within_any z ((P.p : Int) - 1) w (by omega) (by omega))
    have CW2 := hide (fun (z : Int) (w : World) => within_any z P.p w (by omega) (by omega))
    go_loopw [8, 31] (fun v i wr => ∃ (j : Nat) (lm : List (Int × Int)), j ≤ M ∧ i = .int .i64 j ∧ Hid (lm.length ≤ j ∧ BlOk P lm) ∧ (Hid (Hold w4 wr [⟨43, 2, v, lm.length, prs lm⟩]) ∧ True)) (fun _ i _ => M - (intOf i).toNat)
    case atStart => exact ⟨0, [], Nat.zero_le _, rfl, hide ⟨Nat.le_refl _, BlOk.nil P⟩, hide (Hold.none_ (Hold.nil (by repeat (first | exact Ext.refl _ | refine Ext.alloc ?_ _ | refine Ext.drew ?_ | refine Ext.drewN ?_ _ | (refine Ext.trans ?_ (plus_ext _ _)) | (refine Ext.setCell ?_ (by have := Ext.size Ext.refl _; simp; omega) _)))) _ _), trivial⟩
    case round =>
      obtain ⟨j, lm, hj, rfl, HL, HT, -⟩ := hrel
      have T0 := unhide HT
      have hopen := row_of_own (T0.own List.mem_cons_self)
      dsimp only at hopen
      have hvn := hide (row_nil (T0.own List.mem_cons_self))
      obtain ⟨Av, cv, rfl, Rv, hv1, hv2, hv3⟩ := hopen
      have hv0 := hide (show Av = none → lm.length = 0 ∧ cv = 0 from unhide hvn Av _ cv rfl)
      clear hvn
      unfold maxLen at hv2
      have hlj := (unhide HL).1
      by_cases hjM : j < M
      · obtain ⟨b, o, rfl, hb, q1, q2⟩ := ((unhide HR1).keep (E4.1.trans T0.1)).pair (k := j) (by omega)
        have hxb := Wm.emod_bound (L1.getD j (0, 0)).1 (show (0 : Int) < (P.p : Int) - 1 by omega)
        have hyb := Wm.emod_bound (L1.getD j (0, 0)).2 (show (0 : Int) < (P.p : Int) by omega)
        have C1 := hide (fun w : World => unhide CW1 (L1.getD j (0, 0)).1 w)
        have C2 := hide (fun w : World => unhide CW2 (L1.getD j (0, 0)).2 w)
        generalize (L1.getD j (0, 0)).1 % ((P.p : Int) - 1) = X1 at *
        generalize (L1.getD j (0, 0)).2 % (P.p : Int) = Y1 at *
        generalize (L1.getD j (0, 0)).1 = X at *
        generalize (L1.getD j (0, 0)).2 = Y at *
        have hjI : (j : Int) < (M : Int) := by omega
        have hj0 : (0 : Int) ≤ (j : Int) := by omega
        have wp1 : IntKind.i64.wrap ((P.p : Int) - 1) = (P.p : Int) - 1 := IntWalk.i64_in _ (by omega)
        have wx1 : IntKind.i64.wrap (1 + X1) = 1 + X1 := IntWalk.i64_in _ (by omega)
        have CX := hide (fun (W : World) (E : Ext wr W) (q : Addr) (hq : W.cell? q = some (.int .i64 (1 + X1))) (hq0 : q.off = 0 ∧ q.spot = none) => bla_contains Av lm.length cv lm q W (Rv.keep E) (fun b => b.1 == 1 + X1) (fun k hk W' E' => bla_any _ _ _ q W' (E'.keep hq) hq0) (by omega))
        have HOK := hide (fun (h : lm.any (fun b => b.1 == 1 + X1) = false) => (unhide HL).2.snoc (x := 1 + X1) (y := Y1) (by omega) (by omega) h)
        by_cases hany : lm.any (fun b => b.1 == 1 + X1) = true
        · rw [hany] at CX
          clear HOK hany Rv
          go_wp2
          go_region_with (first | (go_at_call 11; refine (unhide C1 _).mono ?_; rintro e wc ⟨rfl, rfl⟩) | (go_at_call 11; refine (unhide C2 _).mono ?_; rintro e wc ⟨rfl, rfl⟩))
          all_goals
            go_wp2_with fail
            refine (unhide CX _ ?_ ⟨wr.heap.size, 0, none⟩ ?_ ⟨rfl, rfl⟩).mono ?_
            · exact (by repeat (first | exact Ext.refl wr | refine Ext.alloc ?_ _ | refine Ext.drew ?_ | refine Ext.drewN ?_ _ | (refine Ext.trans ?_ (plus_ext _ _)) | (refine Ext.setCell ?_ (by have := Ext.size Ext.refl wr; simp; omega) _)))
            · simp [go_sem]
            rintro e w5 ⟨rfl, E5⟩
            have T5 := hide (T0.keep (Ext.trans (by repeat (first | exact Ext.refl wr | refine Ext.alloc ?_ _ | refine Ext.drew ?_ | refine Ext.drewN ?_ _ | (refine Ext.trans ?_ (plus_ext _ _)) | (refine Ext.setCell ?_ (by have := Ext.size Ext.refl wr; simp; omega) _))) E5))
            have HL2 := hide (show lm.length ≤ j + 1 ∧ BlOk P lm from ⟨by omega, (unhide HL).2⟩)
            clear E5 T0 HT HL
            go_wp2
            go_roundw
            case rel => exact ⟨j + 1, lm, by omega, by go_num, HL2, T5, trivial⟩
            case measure => simp [intOf]; omega
        · have hany' : lm.any (fun b => b.1 == 1 + X1) = false := Bool.eq_false_iff.2 hany
          rw [hany'] at CX
          have hok := unhide HOK hany'
          have HLX := hide (show (lm ++ [(1 + X1, Y1)]).length = lm.length + 1 ∧ prs (lm ++ [(1 + X1, Y1)]) = prs lm ++ [.int .i64 (1 + X1), .int .i64 Y1] from ⟨by simp, (prs_append _ _).symm⟩)
          have HL2 := hide (show (lm ++ [(1 + X1, Y1)]).length ≤ j + 1 ∧ BlOk P (lm ++ [(1 + X1, Y1)]) from ⟨by simp; omega, hok⟩)
          clear HOK hany hany' hok Rv
          go_wp2
          go_region_with (first | (go_at_call 11; refine (unhide C1 _).mono ?_; rintro e wc ⟨rfl, rfl⟩) | (go_at_call 11; refine (unhide C2 _).mono ?_; rintro e wc ⟨rfl, rfl⟩))
          all_goals
            go_wp2_with fail
            refine (unhide CX _ ?_ ⟨wr.heap.size, 0, none⟩ ?_ ⟨rfl, rfl⟩).mono ?_
            · exact (by repeat (first | exact Ext.refl wr | refine Ext.alloc ?_ _ | refine Ext.drew ?_ | refine Ext.drewN ?_ _ | (refine Ext.trans ?_ (plus_ext _ _)) | (refine Ext.setCell ?_ (by have := Ext.size Ext.refl wr; simp; omega) _)))
            · simp [go_sem]
            rintro e w5 ⟨rfl, E5⟩
            have T5 := T0.keep (Ext.trans (by repeat (first | exact Ext.refl wr | refine Ext.alloc ?_ _ | refine Ext.drew ?_ | refine Ext.drewN ?_ _ | (refine Ext.trans ?_ (plus_ext _ _)) | (refine Ext.setCell ?_ (by have := Ext.size Ext.refl wr; simp; omega) _))) E5)
            have hA0 := E5.keep (a := ⟨wr.heap.size, 0, none⟩) (v := .int .i64 (1 + X1)) (by simp [go_sem])
            have hA1 := E5.keep (a := ⟨wr.heap.size, 1, none⟩) (v := .int .i64 Y1) (by simp [go_sem])
            clear E5 T0 HT HL CX
            go_wp2_with (at_builtin; refine wpList_app_hold rfl _ _ 39 (by rfl) pairQ T5 0 rfl rfl 1 rfl rfl rfl ?hb ?_; (case hb => omega); intro vx wx TX)
            have T6 : Hid (Hold w4 wx [⟨43, 2, vx, (lm ++ [(1 + X1, Y1)]).length, prs (lm ++ [(1 + X1, Y1)])⟩]) := hide (by rw [(unhide HLX).1, (unhide HLX).2]; exact TX)
            clear TX T5 hA0 hA1
            go_wp2
            go_roundw
            case rel => exact ⟨j + 1, lm ++ [(1 + X1, Y1)], by omega, by go_num, HL2, T6, trivial⟩
            case measure => simp [intOf]; omega
      · obtain rfl : M = j := by omega
        have hxb := Wm.emod_bound x (show (0 : Int) < (P.p : Int) - 1 by omega)
        have C1 := hide (fun w : World => unhide CW1 x w)
        obtain ⟨x1, hx1⟩ : ∃ x1 : Int, x1 = x % ((P.p : Int) - 1) := ⟨_, rfl⟩
        rw [← hx1] at C1 hxb
        have wp1 : IntKind.i64.wrap ((P.p : Int) - 1) = (P.p : Int) - 1 := IntWalk.i64_in _ (by omega)
        have wx1 : IntKind.i64.wrap (1 + x1) = 1 + x1 := IntWalk.i64_in _ (by omega)
        have xr := T0.1.keep xk2
        have xrf : wr.frozen? ⟨w.heap.size, 0, none⟩ = false := (T0.1.frozen (p := ⟨w.heap.size, 0, none⟩) (cell_lt xk2)).trans xkf2
        have hw4 : w.heap.size < w4.heap.size := cell_lt xk2
        have HOK := hide (unhide HL).2
        have E5 := And.intro (E4.1.trans T0.1) trivial
        clear HT T0 HL hx1 xk2 xkf2
        go_wp2_with fail
        refine (unhide C1 _).mono ?_
        rintro e wr ⟨rfl, rfl⟩
        obtain ⟨w6, hw6⟩ : ∃ w6, w6 = wr.setCell ⟨w.heap.size, 0, none⟩ (.int .i64 (1 + x1)) := ⟨_, rfl⟩
        have E6 := And.intro (show Ext w w6 by rw [hw6]; exact E5.1.setCell (p := ⟨w.heap.size, 0, none⟩) (Nat.le_refl _) _) trivial
        have x6 : w6.cell? ⟨w.heap.size, 0, none⟩ = some (.int .i64 (1 + x1)) := by rw [hw6]; exact World.cell?_setCell_same' _ _ _ (by rw [xr]; rfl)
        have R6 : Row w6 Av lm.length 2 (prs lm) := by rw [hw6]; exact Rv.oth (fun b o h => by have := (hv3 b o h).1; omega) 0 _
        have CX := hide (fun (W : World) (E : Ext w6 W) (q : Addr) (hq : W.cell? q = some (.int .i64 (1 + x1))) => blb_contains Av lm.length cv lm q W (R6.keep E) (fun b => b.1 == 1 + x1) (fun k hk W' E' => blb_any _ _ _ q W' (E'.keep hq)) (by omega))
        have HR6 := hide R6
        clear Rv R6 hv3 C1 E5
        have h9' : P.p ≤ 997 := by omega
        go_wp2_with fail
        rw [← hw6]
        clear hw6 xr xrf
        generalize hxx : 1 + x1 = xx at *
        have hxx1 : 1 ≤ xx ∧ xx < (P.p : Int) := by omega
        clear hxx wp1 hxb
        by_cases hany : lm.any (fun b => b.1 == xx) = true
        · rw [hany] at CX
          refine (unhide CX _ (Ext.refl _) _ x6).mono ?_
          rintro e w7 ⟨rfl, E7⟩
          have F7 := And.intro (E6.1.trans E7) trivial
          clear E7 E6 CX HR6 hany
          go_wp2
          go_ret
          exact ⟨rfl, (by repeat (first | exact F7.1 | refine Ext.alloc ?_ _ | refine Ext.drew ?_ | refine Ext.drewN ?_ _ | (refine Ext.trans ?_ (plus_ext _ _)) | (refine Ext.setCell ?_ (by have := Ext.size F7.1; simp; omega) _)))⟩
        · have hany' : lm.any (fun b => b.1 == xx) = false := Bool.eq_false_iff.2 hany
          rw [hany'] at CX
          have hsn := fun (y : Nat) (hy : y < P.p) => (unhide HOK).snoc (x := xx) (y := (y : Int)) (by omega) (by omega) hany'
          obtain ⟨J, hJ⟩ : ∃ J : Nat → List Nat, ∀ y, y < P.p → ThruL P (lm ++ [(xx, (y : Int))]) (J y) :=
            ⟨fun y => if h : y < P.p then (hsn y h).thru.choose else [], fun y hy => by simp only [hy, dif_pos]; exact (hsn y hy).thru.choose_spec⟩
          have HJ := hide hJ
          have HIN := hide (fun (y y' : Nat) (hy : y < P.p) (hy' : y' < P.p) (h : Wm.evN P.p (J y) 0 = Wm.evN P.p (J y') 0) => (unhide HOK).blind (hJ y hy) (hJ y' hy') h)
          have HPT := hide (fun (y : Nat) (hy : y < P.p) => (hsn y hy).pts (by simp; omega))
          have HPOS := hide (fun (y : Nat) (hy : y < P.p) => (show ∀ i, i < lm.length + 1 → ((lm ++ [(xx, (y : Int))]).getD i (0, 0)).1 ≠ 0 from fun i hi => by
            have := (hsn y hy).get (i := i) (by simp; omega)
            omega))
          have hmk : ∀ w : World, (Instr.makeSlice 48 (.int .i64 (P.p : Int)) (.int .i64 (P.p : Int))).run Try.prog w = .ok (.slice (some ⟨w.heap.size, 0, none⟩) P.p P.p) (w.alloc (.cells (madeCells #[.bool false] P.p) 4)) := fun w => by
            have := make_run boolQ P.p P.p (Nat.le_refl _) (by omega) (by omega) w
            rwa [Nat.mul_one] at this
          refine (unhide CX _ (Ext.refl _) _ x6).mono ?_
          rintro e w7 ⟨rfl, E7⟩
          have F7 := And.intro E7 trivial
          have x7 := E7.keep x6
          have HR7 := hide ((unhide HR6).keep E7)
          have HE7 := hide (E6.1.trans E7)
          have HM0 : Hid (∃ H : List Bool, Made (w7.alloc (.cells (madeCells #[.bool false] P.p) 4)) w7.heap.size 4 1 (.slice (some ⟨w7.heap.size, 0, none⟩) P.p P.p) P.p (H.map Value.bool) ∧ H.length = P.p ∧ ∀ s, s < P.p → H.getD s false = (List.range 0).any (fun y' => Wm.evN P.p (J y') 0 == s)) := hide
            ⟨List.replicate P.p false, by
              have := Made.make (w := w7) (base := w7.heap.size) (e := 4) (.bool false) P.p (Nat.le_refl _) (by omega)
              rwa [List.map_replicate], by simp, fun s hs => by
                simp [List.getD_eq_getElem?_getD, hs]⟩
          clear E7 E6 CX HR6 hany hany' hsn hJ x6
          go_wp2
          obtain ⟨g, hg⟩ : ∃ g, g = w7.heap.size := ⟨_, rfl⟩
          rw [← hg] at HM0 ⊢
          have hgw : w7.heap.size ≤ g := by omega
          clear hmk hg
          go_loopw [66] (fun i wz => ∃ y : Nat, y ≤ P.p ∧ i = .int .i64 y ∧ Hid (∃ H : List Bool, Made wz g 4 1 (.slice (some ⟨g, 0, none⟩) P.p P.p) P.p (H.map Value.bool) ∧ H.length = P.p ∧ ∀ s, s < P.p → H.getD s false = (List.range y).any (fun y' => Wm.evN P.p (J y') 0 == s)) ∧ (Ext w7 wz ∧ True)) (fun i _ => P.p - (intOf i).toNat)
          case atStart => exact ⟨0, Nat.zero_le _, rfl, HM0, (by repeat (first | exact Ext.refl _ | refine Ext.alloc ?_ _ | refine Ext.drew ?_ | refine Ext.drewN ?_ _ | (refine Ext.trans ?_ (plus_ext _ _)) | (refine Ext.setCell ?_ (by have := Ext.size Ext.refl _; simp; omega) _))), trivial⟩
          case round =>
            clear HM0
            obtain ⟨y, hy, rfl, HM, hE⟩ := hrel
            by_cases hyp : y < P.p
            · have CC := hide (fun (W : World) (E : Ext w7 W) => clone_blp Av lm.length cv (prs lm) W ((unhide HR7).keep E) (prs_oneB lm) (by omega) (fun h => by
                subst h
                have h1 := unhide hv0 rfl
                exact h1))
              have CJ := hide (fun (A : Option Addr) (c : Nat) (W : World) (R : Row W A (lm.length + 1) 2 (prs lm ++ [.int .i64 xx, .int .i64 (y : Int)])) (h1 : lm.length + 1 ≤ c) (h2 : c ≤ 9223372036854775807) => Join_ok P h9' A (lm.length + 1) c (lm ++ [(xx, (y : Int))]) W (by rw [← prs_append]; exact R) h1 h2 (unhide HPT y hyp) (by omega) (unhide HPOS y hyp) (J y) (unhide HJ y hyp))
              obtain ⟨H, MH, hH1, hH2⟩ := unhide HM
              have hs0 := Wm.evN_lt (show 0 < P.p by omega) (J y) 0
              have hno : H.getD (Wm.evN P.p (J y) 0) false = false := by
                rw [hH2 _ hs0, List.any_eq_false]
                intro y' hy' h
                have hy2 := List.mem_range.1 hy'
                have := unhide HIN y' y (by omega) hyp (by simpa using h)
                omega
              have HH2 := hide (show ∀ t, t < P.p → (H.set (Wm.evN P.p (J y) 0) true).getD t false = (List.range (y + 1)).any (fun y' => Wm.evN P.p (J y') 0 == t) from fun t ht => by
                rw [List.range_succ, List.any_append, ← hH2 t ht, List.getD_eq_getElem?_getD, List.getElem?_set]
                by_cases e : Wm.evN P.p (J y) 0 = t
                · rw [if_pos e, if_pos (by omega)]; simp [e]
                · rw [if_neg e, ← List.getD_eq_getElem?_getD]; simp [e])
              generalize Wm.evN P.p (J y) 0 = s at *
              have xr := hE.1.keep x7
              have T0 := Hold.nil (Ext.refl wr)
              have hsI : (s : Int) < (P.p : Int) := by omega
              have hs0I : (0 : Int) ≤ (s : Int) := by omega
              have HMH := hide MH
              have HH1 := hide hH1
              have HNO := hide hno
              have HS0 := hide hs0
              clear MH HM hH1 hH2 hno hs0 hv1 hv2 hnc1 hcb hMc hMn hw4 x7
              go_wp2
              go_region_held3 (fun W => W.cell? ⟨w.heap.size, 0, none⟩ = some (.int .i64 xx)) (first | go_keep | exact (Hold.ext_ (by assumption)).keep xr | exact ((Hold.ext_ (by assumption)).trans (by assumption)).keep xr) (first
                | (go_at_call 25; refine (unhide CC _ ?hE).mono ?_; (case hE => exact (by repeat (first | exact hE.1 | refine Ext.alloc ?_ _ | refine Ext.drew ?_ | refine Ext.drewN ?_ _ | (refine Ext.trans ?_ (plus_ext _ _)) | (refine Ext.setCell ?_ (by have := Ext.size hE.1; simp; omega) _)))); rintro e wc ⟨⟨vc, rfl, O⟩, EC⟩; (first | have TC := Hold.more T0.drew EC O | have TC := Hold.more (Hold.push2 T0 _ _ _).drew EC O))
                | (refine step_app_rows rfl (.tmp 72) (.tmp 76) 39 rfl pairQ (Hold.push2 TC _ _ _) 0 rfl rfl [.int .i64 xx, .int .i64 (y : Int)] rfl ?hm rfl ?hb ?_; (case hm => simp); (case hb => omega); intro vx wx TX hgx; have hopen := row_of_own (TX.own (r := ⟨43, 2, vx, lm.length + 1, prs lm ++ [.int .i64 xx, .int .i64 (y : Int)]⟩) (by simp)); dsimp only at hopen; obtain ⟨AJ, cJ, rfl, RJ, qJ1, qJ2, -⟩ := hopen; unfold maxLen at qJ2)
                | (refine step_app_rows rfl (.tmp 72) (.tmp 76) 39 rfl pairQ TC 1 rfl rfl [.int .i64 xx, .int .i64 (y : Int)] rfl ?hm rfl ?hb ?_; (case hm => simp); (case hb => omega); intro vx wx TX hgx; have hopen := row_of_own (TX.own (r := ⟨43, 2, vx, lm.length + 1, prs lm ++ [.int .i64 xx, .int .i64 (y : Int)]⟩) (by simp)); dsimp only at hopen; obtain ⟨AJ, cJ, rfl, RJ, qJ1, qJ2, -⟩ := hopen; unfold maxLen at qJ2)
                | (go_at_call 21; refine (unhide CJ _ _ _ RJ qJ1 qJ2).mono ?_; rintro e wj ⟨rfl, EJ⟩))
              all_goals
                have F8 := TX.1.trans EJ
                have M8 := (unhide HMH).keep F8
                have hs0 := unhide HS0
                have hno := unhide HNO
                have hcell := M8.cell (k := s) hs0
                have hfr := M8.frozen s
                have hcell2 : wj.cell? ⟨g, s, none⟩ = some (.bool false) := by
                  rw [hcell, List.getD_eq_getElem?_getD, List.getElem?_map]
                  rw [List.getD_eq_getElem?_getD] at hno
                  have hsl : s < H.length := by rw [unhide HH1]; exact hs0
                  rw [List.getElem?_eq_getElem hsl] at hno ⊢
                  simp only [Option.getD_some] at hno
                  simp [hno]
                have HM2 : Hid (∃ H : List Bool, Made (wj.setCell ⟨g, s, none⟩ (.bool true)) g 4 1 (.slice (some ⟨g, 0, none⟩) P.p P.p) P.p (H.map Value.bool) ∧ H.length = P.p ∧ ∀ s, s < P.p → H.getD s false = (List.range (y + 1)).any (fun y' => Wm.evN P.p (J y') 0 == s)) := hide ⟨H.set s true, by
                  have := M8.set (j := s) (by omega) (.bool true)
                  rwa [List.map_set], by rw [List.length_set]; exact unhide HH1, unhide HH2⟩
                have EX := And.intro ((hE.1.trans F8).setCell (p := ⟨g, s, none⟩) hgw (.bool true)) trivial
                clear TX EJ TC O EC RJ F8 M8 hcell hno HMH
                go_wp2
                go_roundw
                case rel => exact ⟨y + 1, by omega, by go_num, HM2, EX⟩
                case measure => simp [intOf]; omega
            · obtain rfl : P.p = y := by omega
              go_wp2
              go_ret
              exact ⟨rfl, (unhide HE7).trans (by repeat (first | exact hE.1 | refine Ext.alloc ?_ _ | refine Ext.drew ?_ | refine Ext.drewN ?_ _ | (refine Ext.trans ?_ (plus_ext _ _)) | (refine Ext.setCell ?_ (by have := Ext.size hE.1; simp; omega) _)))⟩


  · have h40I : ¬ (40 : Int) < (P0.p : Int) := by omega
    obtain ⟨P, rfl⟩ : ∃ P, P = P0 := ⟨_, rfl⟩
    have hp := hp0
    have hp40 : P.p ≤ 40 := by omega
    go_wp2_with (refine wpList_min2 (o := ⟨some 28, _, _, _, _, _⟩) rfl _ _ _ (by rfl) _ _ (by rfl) (by rfl) (M : Int) (by have := unhide HMM; omega) ?_)
    have CW1 := hide (fun (z : Int) (w : World) => within_any z ((P.p : Int) - 1) w (by omega) (by omega))
    have CW2 := hide (fun (z : Int) (w : World) => within_any z P.p w (by omega) (by omega))
    go_loopw [8, 31] (fun v i wr => ∃ (j : Nat) (lm : List (Int × Int)), j ≤ M ∧ i = .int .i64 j ∧ Hid (lm.length ≤ j ∧ BlOk P lm) ∧ (Hid (Hold w4 wr [⟨43, 2, v, lm.length, prs lm⟩]) ∧ True)) (fun _ i _ => M - (intOf i).toNat)
    case atStart => exact ⟨0, [], Nat.zero_le _, rfl, hide ⟨Nat.le_refl _, BlOk.nil P⟩, hide (Hold.none_ (Hold.nil (by repeat (first | exact Ext.refl _ | refine Ext.alloc ?_ _ | refine Ext.drew ?_ | refine Ext.drewN ?_ _ | (refine Ext.trans ?_ (plus_ext _ _)) | (refine Ext.setCell ?_ (by have := Ext.size Ext.refl _; simp; omega) _)))) _ _), trivial⟩
    case round =>
      obtain ⟨j, lm, hj, rfl, HL, HT, -⟩ := hrel
      have T0 := unhide HT
      have hopen := row_of_own (T0.own List.mem_cons_self)
      dsimp only at hopen
      have hvn := hide (row_nil (T0.own List.mem_cons_self))
      obtain ⟨Av, cv, rfl, Rv, hv1, hv2, hv3⟩ := hopen
      have hv0 := hide (show Av = none → lm.length = 0 ∧ cv = 0 from unhide hvn Av _ cv rfl)
      clear hvn
      unfold maxLen at hv2
      have hlj := (unhide HL).1
      by_cases hjM : j < M
      · obtain ⟨b, o, rfl, hb, q1, q2⟩ := ((unhide HR1).keep (E4.1.trans T0.1)).pair (k := j) (by omega)
        have hxb := Wm.emod_bound (L1.getD j (0, 0)).1 (show (0 : Int) < (P.p : Int) - 1 by omega)
        have hyb := Wm.emod_bound (L1.getD j (0, 0)).2 (show (0 : Int) < (P.p : Int) by omega)
        have C1 := hide (fun w : World => unhide CW1 (L1.getD j (0, 0)).1 w)
        have C2 := hide (fun w : World => unhide CW2 (L1.getD j (0, 0)).2 w)
        generalize (L1.getD j (0, 0)).1 % ((P.p : Int) - 1) = X1 at *
        generalize (L1.getD j (0, 0)).2 % (P.p : Int) = Y1 at *
        generalize (L1.getD j (0, 0)).1 = X at *
        generalize (L1.getD j (0, 0)).2 = Y at *
        have hjI : (j : Int) < (M : Int) := by omega
        have hj0 : (0 : Int) ≤ (j : Int) := by omega
        have wp1 : IntKind.i64.wrap ((P.p : Int) - 1) = (P.p : Int) - 1 := IntWalk.i64_in _ (by omega)
        have wx1 : IntKind.i64.wrap (1 + X1) = 1 + X1 := IntWalk.i64_in _ (by omega)
        have CX := hide (fun (W : World) (E : Ext wr W) (q : Addr) (hq : W.cell? q = some (.int .i64 (1 + X1))) (hq0 : q.off = 0 ∧ q.spot = none) => bla_contains Av lm.length cv lm q W (Rv.keep E) (fun b => b.1 == 1 + X1) (fun k hk W' E' => bla_any _ _ _ q W' (E'.keep hq) hq0) (by omega))
        have HOK := hide (fun (h : lm.any (fun b => b.1 == 1 + X1) = false) => (unhide HL).2.snoc (x := 1 + X1) (y := Y1) (by omega) (by omega) h)
        by_cases hany : lm.any (fun b => b.1 == 1 + X1) = true
        · rw [hany] at CX
          clear HOK hany Rv
          go_wp2
          go_region_with (first | (go_at_call 11; refine (unhide C1 _).mono ?_; rintro e wc ⟨rfl, rfl⟩) | (go_at_call 11; refine (unhide C2 _).mono ?_; rintro e wc ⟨rfl, rfl⟩))
          all_goals
            go_wp2_with fail
            refine (unhide CX _ ?_ ⟨wr.heap.size, 0, none⟩ ?_ ⟨rfl, rfl⟩).mono ?_
            · exact (by repeat (first | exact Ext.refl wr | refine Ext.alloc ?_ _ | refine Ext.drew ?_ | refine Ext.drewN ?_ _ | (refine Ext.trans ?_ (plus_ext _ _)) | (refine Ext.setCell ?_ (by have := Ext.size Ext.refl wr; simp; omega) _)))
            · simp [go_sem]
            rintro e w5 ⟨rfl, E5⟩
            have T5 := hide (T0.keep (Ext.trans (by repeat (first | exact Ext.refl wr | refine Ext.alloc ?_ _ | refine Ext.drew ?_ | refine Ext.drewN ?_ _ | (refine Ext.trans ?_ (plus_ext _ _)) | (refine Ext.setCell ?_ (by have := Ext.size Ext.refl wr; simp; omega) _))) E5))
            have HL2 := hide (show lm.length ≤ j + 1 ∧ BlOk P lm from ⟨by omega, (unhide HL).2⟩)
            clear E5 T0 HT HL
            go_wp2
            go_roundw
            case rel => exact ⟨j + 1, lm, by omega, by go_num, HL2, T5, trivial⟩
            case measure => simp [intOf]; omega
        · have hany' : lm.any (fun b => b.1 == 1 + X1) = false := Bool.eq_false_iff.2 hany
          rw [hany'] at CX
          have hok := unhide HOK hany'
          have HLX := hide (show (lm ++ [(1 + X1, Y1)]).length = lm.length + 1 ∧ prs (lm ++ [(1 + X1, Y1)]) = prs lm ++ [.int .i64 (1 + X1), .int .i64 Y1] from ⟨by simp, (prs_append _ _).symm⟩)
          have HL2 := hide (show (lm ++ [(1 + X1, Y1)]).length ≤ j + 1 ∧ BlOk P (lm ++ [(1 + X1, Y1)]) from ⟨by simp; omega, hok⟩)
          clear HOK hany hany' hok Rv
          go_wp2
          go_region_with (first | (go_at_call 11; refine (unhide C1 _).mono ?_; rintro e wc ⟨rfl, rfl⟩) | (go_at_call 11; refine (unhide C2 _).mono ?_; rintro e wc ⟨rfl, rfl⟩))
          all_goals
            go_wp2_with fail
            refine (unhide CX _ ?_ ⟨wr.heap.size, 0, none⟩ ?_ ⟨rfl, rfl⟩).mono ?_
            · exact (by repeat (first | exact Ext.refl wr | refine Ext.alloc ?_ _ | refine Ext.drew ?_ | refine Ext.drewN ?_ _ | (refine Ext.trans ?_ (plus_ext _ _)) | (refine Ext.setCell ?_ (by have := Ext.size Ext.refl wr; simp; omega) _)))
            · simp [go_sem]
            rintro e w5 ⟨rfl, E5⟩
            have T5 := T0.keep (Ext.trans (by repeat (first | exact Ext.refl wr | refine Ext.alloc ?_ _ | refine Ext.drew ?_ | refine Ext.drewN ?_ _ | (refine Ext.trans ?_ (plus_ext _ _)) | (refine Ext.setCell ?_ (by have := Ext.size Ext.refl wr; simp; omega) _))) E5)
            have hA0 := E5.keep (a := ⟨wr.heap.size, 0, none⟩) (v := .int .i64 (1 + X1)) (by simp [go_sem])
            have hA1 := E5.keep (a := ⟨wr.heap.size, 1, none⟩) (v := .int .i64 Y1) (by simp [go_sem])
            clear E5 T0 HT HL CX
            go_wp2_with (at_builtin; refine wpList_app_hold rfl _ _ 39 (by rfl) pairQ T5 0 rfl rfl 1 rfl rfl rfl ?hb ?_; (case hb => omega); intro vx wx TX)
            have T6 : Hid (Hold w4 wx [⟨43, 2, vx, (lm ++ [(1 + X1, Y1)]).length, prs (lm ++ [(1 + X1, Y1)])⟩]) := hide (by rw [(unhide HLX).1, (unhide HLX).2]; exact TX)
            clear TX T5 hA0 hA1
            go_wp2
            go_roundw
            case rel => exact ⟨j + 1, lm ++ [(1 + X1, Y1)], by omega, by go_num, HL2, T6, trivial⟩
            case measure => simp [intOf]; omega
      · obtain rfl : M = j := by omega
        have hxb := Wm.emod_bound x (show (0 : Int) < (P.p : Int) - 1 by omega)
        have C1 := hide (fun w : World => unhide CW1 x w)
        obtain ⟨x1, hx1⟩ : ∃ x1 : Int, x1 = x % ((P.p : Int) - 1) := ⟨_, rfl⟩
        rw [← hx1] at C1 hxb
        have wp1 : IntKind.i64.wrap ((P.p : Int) - 1) = (P.p : Int) - 1 := IntWalk.i64_in _ (by omega)
        have wx1 : IntKind.i64.wrap (1 + x1) = 1 + x1 := IntWalk.i64_in _ (by omega)
        have xr := T0.1.keep xk2
        have xrf : wr.frozen? ⟨w.heap.size, 0, none⟩ = false := (T0.1.frozen (p := ⟨w.heap.size, 0, none⟩) (cell_lt xk2)).trans xkf2
        have hw4 : w.heap.size < w4.heap.size := cell_lt xk2
        have HOK := hide (unhide HL).2
        have E5 := And.intro (E4.1.trans T0.1) trivial
        clear HT T0 HL hx1 xk2 xkf2
        go_wp2_with fail
        refine (unhide C1 _).mono ?_
        rintro e wr ⟨rfl, rfl⟩
        obtain ⟨w6, hw6⟩ : ∃ w6, w6 = wr.setCell ⟨w.heap.size, 0, none⟩ (.int .i64 (1 + x1)) := ⟨_, rfl⟩
        have E6 := And.intro (show Ext w w6 by rw [hw6]; exact E5.1.setCell (p := ⟨w.heap.size, 0, none⟩) (Nat.le_refl _) _) trivial
        have x6 : w6.cell? ⟨w.heap.size, 0, none⟩ = some (.int .i64 (1 + x1)) := by rw [hw6]; exact World.cell?_setCell_same' _ _ _ (by rw [xr]; rfl)
        have R6 : Row w6 Av lm.length 2 (prs lm) := by rw [hw6]; exact Rv.oth (fun b o h => by have := (hv3 b o h).1; omega) 0 _
        have CX := hide (fun (W : World) (E : Ext w6 W) (q : Addr) (hq : W.cell? q = some (.int .i64 (1 + x1))) => blb_contains Av lm.length cv lm q W (R6.keep E) (fun b => b.1 == 1 + x1) (fun k hk W' E' => blb_any _ _ _ q W' (E'.keep hq)) (by omega))
        have HR6 := hide R6
        clear Rv R6 hv3 C1 E5
        have h9' : P.p ≤ 997 := by omega
        go_wp2_with fail
        rw [← hw6]
        clear hw6 xr xrf
        generalize hxx : 1 + x1 = xx at *
        have hxx1 : 1 ≤ xx ∧ xx < (P.p : Int) := by omega
        clear hxx wp1 hxb
        by_cases hany : lm.any (fun b => b.1 == xx) = true
        · rw [hany] at CX
          refine (unhide CX _ (Ext.refl _) _ x6).mono ?_
          rintro e w7 ⟨rfl, E7⟩
          have F7 := And.intro (E6.1.trans E7) trivial
          clear E7 E6 CX HR6 hany
          go_wp2
          go_ret
          exact ⟨rfl, (by repeat (first | exact F7.1 | refine Ext.alloc ?_ _ | refine Ext.drew ?_ | refine Ext.drewN ?_ _ | (refine Ext.trans ?_ (plus_ext _ _)) | (refine Ext.setCell ?_ (by have := Ext.size F7.1; simp; omega) _)))⟩
        · have hany' : lm.any (fun b => b.1 == xx) = false := Bool.eq_false_iff.2 hany
          rw [hany'] at CX
          have hsn := fun (y : Nat) (hy : y < P.p) => (unhide HOK).snoc (x := xx) (y := (y : Int)) (by omega) (by omega) hany'
          obtain ⟨J, hJ⟩ : ∃ J : Nat → List Nat, ∀ y, y < P.p → ThruL P (lm ++ [(xx, (y : Int))]) (J y) :=
            ⟨fun y => if h : y < P.p then (hsn y h).thru.choose else [], fun y hy => by simp only [hy, dif_pos]; exact (hsn y hy).thru.choose_spec⟩
          have HJ := hide hJ
          have HIN := hide (fun (y y' : Nat) (hy : y < P.p) (hy' : y' < P.p) (h : Wm.evN P.p (J y) 0 = Wm.evN P.p (J y') 0) => (unhide HOK).blind (hJ y hy) (hJ y' hy') h)
          have HPT := hide (fun (y : Nat) (hy : y < P.p) => (hsn y hy).pts (by simp; omega))
          have HPOS := hide (fun (y : Nat) (hy : y < P.p) => (show ∀ i, i < lm.length + 1 → ((lm ++ [(xx, (y : Int))]).getD i (0, 0)).1 ≠ 0 from fun i hi => by
            have := (hsn y hy).get (i := i) (by simp; omega)
            omega))
          have hmk : ∀ w : World, (Instr.makeSlice 48 (.int .i64 (P.p : Int)) (.int .i64 (P.p : Int))).run Try.prog w = .ok (.slice (some ⟨w.heap.size, 0, none⟩) P.p P.p) (w.alloc (.cells (madeCells #[.bool false] P.p) 4)) := fun w => by
            have := make_run boolQ P.p P.p (Nat.le_refl _) (by omega) (by omega) w
            rwa [Nat.mul_one] at this
          refine (unhide CX _ (Ext.refl _) _ x6).mono ?_
          rintro e w7 ⟨rfl, E7⟩
          have F7 := And.intro E7 trivial
          have x7 := E7.keep x6
          have HR7 := hide ((unhide HR6).keep E7)
          have HE7 := hide (E6.1.trans E7)
          have HM0 : Hid (∃ H : List Bool, Made (w7.alloc (.cells (madeCells #[.bool false] P.p) 4)) w7.heap.size 4 1 (.slice (some ⟨w7.heap.size, 0, none⟩) P.p P.p) P.p (H.map Value.bool) ∧ H.length = P.p ∧ ∀ s, s < P.p → H.getD s false = (List.range 0).any (fun y' => Wm.evN P.p (J y') 0 == s)) := hide
            ⟨List.replicate P.p false, by
              have := Made.make (w := w7) (base := w7.heap.size) (e := 4) (.bool false) P.p (Nat.le_refl _) (by omega)
              rwa [List.map_replicate], by simp, fun s hs => by
                simp [List.getD_eq_getElem?_getD, hs]⟩
          clear E7 E6 CX HR6 hany hany' hsn hJ x6
          go_wp2
          obtain ⟨g, hg⟩ : ∃ g, g = w7.heap.size := ⟨_, rfl⟩
          rw [← hg] at HM0 ⊢
          have hgw : w7.heap.size ≤ g := by omega
          clear hmk hg
          go_loopw [66] (fun i wz => ∃ y : Nat, y ≤ P.p ∧ i = .int .i64 y ∧ Hid (∃ H : List Bool, Made wz g 4 1 (.slice (some ⟨g, 0, none⟩) P.p P.p) P.p (H.map Value.bool) ∧ H.length = P.p ∧ ∀ s, s < P.p → H.getD s false = (List.range y).any (fun y' => Wm.evN P.p (J y') 0 == s)) ∧ (Ext w7 wz ∧ True)) (fun i _ => P.p - (intOf i).toNat)
          case atStart => exact ⟨0, Nat.zero_le _, rfl, HM0, (by repeat (first | exact Ext.refl _ | refine Ext.alloc ?_ _ | refine Ext.drew ?_ | refine Ext.drewN ?_ _ | (refine Ext.trans ?_ (plus_ext _ _)) | (refine Ext.setCell ?_ (by have := Ext.size Ext.refl _; simp; omega) _))), trivial⟩
          case round =>
            clear HM0
            obtain ⟨y, hy, rfl, HM, hE⟩ := hrel
            by_cases hyp : y < P.p
            · have CC := hide (fun (W : World) (E : Ext w7 W) => clone_blp Av lm.length cv (prs lm) W ((unhide HR7).keep E) (prs_oneB lm) (by omega) (fun h => by
                subst h
                have h1 := unhide hv0 rfl
                exact h1))
              have CJ := hide (fun (A : Option Addr) (c : Nat) (W : World) (R : Row W A (lm.length + 1) 2 (prs lm ++ [.int .i64 xx, .int .i64 (y : Int)])) (h1 : lm.length + 1 ≤ c) (h2 : c ≤ 9223372036854775807) => Join_ok P h9' A (lm.length + 1) c (lm ++ [(xx, (y : Int))]) W (by rw [← prs_append]; exact R) h1 h2 (unhide HPT y hyp) (by omega) (unhide HPOS y hyp) (J y) (unhide HJ y hyp))
              obtain ⟨H, MH, hH1, hH2⟩ := unhide HM
              have hs0 := Wm.evN_lt (show 0 < P.p by omega) (J y) 0
              have hno : H.getD (Wm.evN P.p (J y) 0) false = false := by
                rw [hH2 _ hs0, List.any_eq_false]
                intro y' hy' h
                have hy2 := List.mem_range.1 hy'
                have := unhide HIN y' y (by omega) hyp (by simpa using h)
                omega
              have HH2 := hide (show ∀ t, t < P.p → (H.set (Wm.evN P.p (J y) 0) true).getD t false = (List.range (y + 1)).any (fun y' => Wm.evN P.p (J y') 0 == t) from fun t ht => by
                rw [List.range_succ, List.any_append, ← hH2 t ht, List.getD_eq_getElem?_getD, List.getElem?_set]
                by_cases e : Wm.evN P.p (J y) 0 = t
                · rw [if_pos e, if_pos (by omega)]; simp [e]
                · rw [if_neg e, ← List.getD_eq_getElem?_getD]; simp [e])
              generalize Wm.evN P.p (J y) 0 = s at *
              have xr := hE.1.keep x7
              have T0 := Hold.nil (Ext.refl wr)
              have hsI : (s : Int) < (P.p : Int) := by omega
              have hs0I : (0 : Int) ≤ (s : Int) := by omega
              have HMH := hide MH
              have HH1 := hide hH1
              have HNO := hide hno
              have HS0 := hide hs0
              clear MH HM hH1 hH2 hno hs0 hv1 hv2 hnc1 hcb hMc hMn hw4 x7
              go_wp2
              go_region_held3 (fun W => W.cell? ⟨w.heap.size, 0, none⟩ = some (.int .i64 xx)) (first | go_keep | exact (Hold.ext_ (by assumption)).keep xr | exact ((Hold.ext_ (by assumption)).trans (by assumption)).keep xr) (first
                | (go_at_call 25; refine (unhide CC _ ?hE).mono ?_; (case hE => exact (by repeat (first | exact hE.1 | refine Ext.alloc ?_ _ | refine Ext.drew ?_ | refine Ext.drewN ?_ _ | (refine Ext.trans ?_ (plus_ext _ _)) | (refine Ext.setCell ?_ (by have := Ext.size hE.1; simp; omega) _)))); rintro e wc ⟨⟨vc, rfl, O⟩, EC⟩; (first | have TC := Hold.more T0.drew EC O | have TC := Hold.more (Hold.push2 T0 _ _ _).drew EC O))
                | (refine step_app_rows rfl (.tmp 72) (.tmp 76) 39 rfl pairQ (Hold.push2 TC _ _ _) 0 rfl rfl [.int .i64 xx, .int .i64 (y : Int)] rfl ?hm rfl ?hb ?_; (case hm => simp); (case hb => omega); intro vx wx TX hgx; have hopen := row_of_own (TX.own (r := ⟨43, 2, vx, lm.length + 1, prs lm ++ [.int .i64 xx, .int .i64 (y : Int)]⟩) (by simp)); dsimp only at hopen; obtain ⟨AJ, cJ, rfl, RJ, qJ1, qJ2, -⟩ := hopen; unfold maxLen at qJ2)
                | (refine step_app_rows rfl (.tmp 72) (.tmp 76) 39 rfl pairQ TC 1 rfl rfl [.int .i64 xx, .int .i64 (y : Int)] rfl ?hm rfl ?hb ?_; (case hm => simp); (case hb => omega); intro vx wx TX hgx; have hopen := row_of_own (TX.own (r := ⟨43, 2, vx, lm.length + 1, prs lm ++ [.int .i64 xx, .int .i64 (y : Int)]⟩) (by simp)); dsimp only at hopen; obtain ⟨AJ, cJ, rfl, RJ, qJ1, qJ2, -⟩ := hopen; unfold maxLen at qJ2)
                | (go_at_call 21; refine (unhide CJ _ _ _ RJ qJ1 qJ2).mono ?_; rintro e wj ⟨rfl, EJ⟩))
              all_goals
                have F8 := TX.1.trans EJ
                have M8 := (unhide HMH).keep F8
                have hs0 := unhide HS0
                have hno := unhide HNO
                have hcell := M8.cell (k := s) hs0
                have hfr := M8.frozen s
                have hcell2 : wj.cell? ⟨g, s, none⟩ = some (.bool false) := by
                  rw [hcell, List.getD_eq_getElem?_getD, List.getElem?_map]
                  rw [List.getD_eq_getElem?_getD] at hno
                  have hsl : s < H.length := by rw [unhide HH1]; exact hs0
                  rw [List.getElem?_eq_getElem hsl] at hno ⊢
                  simp only [Option.getD_some] at hno
                  simp [hno]
                have HM2 : Hid (∃ H : List Bool, Made (wj.setCell ⟨g, s, none⟩ (.bool true)) g 4 1 (.slice (some ⟨g, 0, none⟩) P.p P.p) P.p (H.map Value.bool) ∧ H.length = P.p ∧ ∀ s, s < P.p → H.getD s false = (List.range (y + 1)).any (fun y' => Wm.evN P.p (J y') 0 == s)) := hide ⟨H.set s true, by
                  have := M8.set (j := s) (by omega) (.bool true)
                  rwa [List.map_set], by rw [List.length_set]; exact unhide HH1, unhide HH2⟩
                have EX := And.intro ((hE.1.trans F8).setCell (p := ⟨g, s, none⟩) hgw (.bool true)) trivial
                clear TX EJ TC O EC RJ F8 M8 hcell hno HMH
                go_wp2
                go_roundw
                case rel => exact ⟨y + 1, by omega, by go_num, HM2, EX⟩
                case measure => simp [intOf]; omega
            · obtain rfl : P.p = y := by omega
              go_wp2
              go_ret
              exact ⟨rfl, (unhide HE7).trans (by repeat (first | exact hE.1 | refine Ext.alloc ?_ _ | refine Ext.drew ?_ | refine Ext.drewN ?_ _ | (refine Ext.trans ?_ (plus_ext _ _)) | (refine Ext.setCell ?_ (by have := Ext.size hE.1; simp; omega) _)))⟩


end Go.Proofs.Ytojjcdbphmcmeaa
