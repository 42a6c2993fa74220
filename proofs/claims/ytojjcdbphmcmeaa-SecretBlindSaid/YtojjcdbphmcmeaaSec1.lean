/-
  The contracts of secret.Deal and Join, and the laws' own trial.
-/
import Derived.Test.YtojjcdbphmcmeaaPts4
import Derived.Laws.AppendOwnNone
set_option linter.unusedVariables false
set_option linter.unusedSimpArgs false
namespace Go.Proofs.Ytojjcdbphmcmeaa
open Go.RowKit Go.BigFrame


set_option maxRecDepth 100000 in
set_option maxHeartbeats 1000000 in
theorem rngd_index (A : Option Addr) (n c : Nat) (l : List Int) (q : Addr) (w : World) (R : Row w A n 1 (ints l)) (p : Int → Bool)
    (hp : ∀ k, k < n → ∀ W, Ext w W → Calls Try.prog 45 (#[.int .i64 (l.getD k 0)] ++ #[.pointer (some q)]) W fun e w' => e = .returned (.bool (p (l.getD k 0))) ∧ Ext W w') (hm : n ≤ 4611686018427387904) :
    Calls Try.prog 62 #[.slice A n c, .func (.func 45) #[] #[.pointer (some q)]] w fun e w' => (∃ r : Int, e = .returned (.int .i64 r) ∧ decide (0 ≤ r) = l.any p) ∧ Ext w w' := by
  have HP := hide hp
  have HL := hide R.num
  have HR := hide R
  clear hp R
  go_enter Try.func62, Try.ntmps62
  go_wp2
  go_loopw [8] (fun i wr => ∃ k : Nat, k ≤ n ∧ i = .int .i64 k ∧ Hid (∀ j, j < k → p (l.getD j 0) = false) ∧ Ext w wr) (fun i _ => n - (intOf i).toNat)
  case atStart => exact ⟨0, by omega, rfl, hide (fun j h => absurd h (by omega)), Ext.refl _⟩
  case round =>
    obtain ⟨k, hk, rfl, hz, hext⟩ := hrel
    by_cases hlt : k < n
    · obtain ⟨b, o, rfl, hb, c1⟩ := ((unhide HR).keep hext).int hlt
      have hpk := unhide HP k hlt
      have hmem := getD_mem l 0 (k := k) (by rw [unhide HL]; exact hlt)
      have hzk := hide (fun (h : p (l.getD k 0) = false) j (hj : j < k + 1) => (show p (l.getD j 0) = false from by
        by_cases h' : j < k
        · exact unhide hz j h'
        · obtain rfl : j = k := by omega
          exact h))
      have hfin := hide (fun (h : p (l.getD k 0) = true) => (List.any_eq_true.2 ⟨_, hmem, h⟩ : l.any p = true))
      clear hmem
      generalize hq : p (l.getD k 0) = q at *
      clear hq
      generalize l.getD k 0 = x at *
      have HQ := hide hpk
      clear hpk
      cases q with
      | false =>
        have hz2 := hide (unhide hzk rfl)
        clear hzk hfin
        go_wp2_with (go_at_call 45; refine (unhide HQ _ hext).mono ?_; rintro e w' ⟨rfl, E1⟩)
        go_roundw
        case rel => exact ⟨k + 1, by omega, by go_num, hz2, hext.trans E1⟩
        case measure => simp [intOf]; omega
      | true =>
        have hf2 := hide (unhide hfin rfl)
        clear hzk hfin
        go_wp2_with (go_at_call 45; refine (unhide HQ _ hext).mono ?_; rintro e w' ⟨rfl, E1⟩)
        go_ret
        exact ⟨⟨_, rfl, by rw [unhide hf2]; simp⟩, hext.trans E1⟩
    · have hfin := hide (show l.any p = false by
        rw [List.any_eq_false]
        intro x hx
        obtain ⟨j, hj, rfl⟩ := List.getElem_of_mem hx
        have := unhide hz j (by have := unhide HL; omega)
        rw [List.getD_eq_getElem?_getD, List.getElem?_eq_getElem hj] at this
        simpa using this)
      go_wp2
      go_ret
      exact ⟨⟨_, rfl, by rw [unhide hfin]; simp⟩, hext⟩

theorem rngd_contains (A : Option Addr) (n c : Nat) (l : List Int) (q : Addr) (w : World) (R : Row w A n 1 (ints l)) (p : Int → Bool)
    (hp : ∀ k, k < n → ∀ W, Ext w W → Calls Try.prog 45 (#[.int .i64 (l.getD k 0)] ++ #[.pointer (some q)]) W fun e w' => e = .returned (.bool (p (l.getD k 0))) ∧ Ext W w') (hm : n ≤ 4611686018427387904) :
    Calls Try.prog 44 #[.slice A n c, .func (.func 45) #[] #[.pointer (some q)]] w fun e w' => e = .returned (.bool (l.any p)) ∧ Ext w w' := by
  have H := hide (rngd_index A n c l q w R p hp hm)
  clear R hp
  generalize l.any p = v at *
  go_enter Try.func44, Try.ntmps44
  go_wp2_with fail
  refine (unhide H).mono ?_
  rintro e w' ⟨⟨n, rfl, hn⟩, E1⟩
  go_wp2
  go_ret
  exact ⟨rfl, E1⟩

theorem outd_any (p x : Int) (q : Addr) (w : World) (hq : w.cell? q = some (.int .i64 p)) :
    Calls Try.prog 45 #[.int .i64 x, .pointer (some q)] w fun e w' => e = .returned (.bool (outB p x)) ∧ Ext w w' := by
  unfold outB
  by_cases h : x < 0
  · go_enter Try.func45, Try.ntmps45
    go_wp2
    go_ret
    exact ⟨ret_boolv (by simp [h]), (by repeat (first | exact Ext.refl _ | refine Ext.alloc ?_ _ | refine Ext.drew ?_ | refine Ext.drewN ?_ _ | (refine Ext.trans ?_ (plus_ext _ _)) | (refine Ext.setCell ?_ (by have := Ext.size Ext.refl _; simp; omega) _)))⟩
  · have h' : decide (x < 0) = false := decide_eq_false h
    go_enter Try.func45, Try.ntmps45
    go_wp2
    go_ret
    exact ⟨ret_boolv (by simp [h']), (by repeat (first | exact Ext.refl _ | refine Ext.alloc ?_ _ | refine Ext.drew ?_ | refine Ext.drewN ?_ _ | (refine Ext.trans ?_ (plus_ext _ _)) | (refine Ext.setCell ?_ (by have := Ext.size Ext.refl _; simp; omega) _)))⟩


set_option maxRecDepth 100000 in
set_option maxHeartbeats 1000000 in
theorem zerox_index (A : Option Addr) (n c : Nat) (l : List (Int × Int))  (w : World) (R : Row w A n 2 (prs l)) (p : Int × Int → Bool)
    (hp : ∀ k, k < n → ∀ W, Ext w W → Calls Try.prog 49 (#[.agg #[.int .i64 (l.getD k (0, 0)).1, .int .i64 (l.getD k (0, 0)).2]] ++ #[]) W fun e w' => e = .returned (.bool (p (l.getD k (0, 0)))) ∧ Ext W w') (hm : n ≤ 4611686018427387904) :
    Calls Try.prog 51 #[.slice A n c, .func (.func 49) #[] #[]] w fun e w' => (∃ r : Int, e = .returned (.int .i64 r) ∧ decide (0 ≤ r) = l.any p) ∧ Ext w w' := by
  have HP := hide hp
  have HL := hide R.prn
  have HR := hide R
  clear hp R
  go_enter Try.func51, Try.ntmps51
  go_wp2
  go_loopw [8] (fun i wr => ∃ k : Nat, k ≤ n ∧ i = .int .i64 k ∧ Hid (∀ j, j < k → p (l.getD j (0, 0)) = false) ∧ Ext w wr) (fun i _ => n - (intOf i).toNat)
  case atStart => exact ⟨0, by omega, rfl, hide (fun j h => absurd h (by omega)), Ext.refl _⟩
  case round =>
    obtain ⟨k, hk, rfl, hz, hext⟩ := hrel
    by_cases hlt : k < n
    · obtain ⟨b, o, rfl, hb, c1, c2⟩ := ((unhide HR).keep hext).pair hlt
      have hpk := unhide HP k hlt
      have hmem := getD_mem l (0, 0) (k := k) (by rw [unhide HL]; exact hlt)
      have hzk := hide (fun (h : p (l.getD k (0, 0)) = false) j (hj : j < k + 1) => (show p (l.getD j (0, 0)) = false from by
        by_cases h' : j < k
        · exact unhide hz j h'
        · obtain rfl : j = k := by omega
          exact h))
      have hfin := hide (fun (h : p (l.getD k (0, 0)) = true) => (List.any_eq_true.2 ⟨_, hmem, h⟩ : l.any p = true))
      clear hmem
      have H1 := hide (rfl : p (l.getD k (0, 0)) = p (l.getD k (0, 0)))
      generalize hq : p (l.getD k (0, 0)) = q at *
      clear hq H1
      generalize (l.getD k (0, 0)).1 = x at *
      generalize (l.getD k (0, 0)).2 = y at *
      have HQ := hide hpk
      clear hpk
      cases q with
      | false =>
        have hz2 := hide (unhide hzk rfl)
        clear hzk hfin
        go_wp2_with (go_at_call 49; refine (unhide HQ _ hext).mono ?_; rintro e w' ⟨rfl, E1⟩)
        go_roundw
        case rel => exact ⟨k + 1, by omega, by go_num, hz2, hext.trans E1⟩
        case measure => simp [intOf]; omega
      | true =>
        have hf2 := hide (unhide hfin rfl)
        clear hzk hfin
        go_wp2_with (go_at_call 49; refine (unhide HQ _ hext).mono ?_; rintro e w' ⟨rfl, E1⟩)
        go_ret
        exact ⟨⟨_, rfl, by rw [unhide hf2]; simp⟩, hext.trans E1⟩
    · have hfin := hide (show l.any p = false by
        rw [List.any_eq_false]
        intro x hx
        obtain ⟨j, hj, rfl⟩ := List.getElem_of_mem hx
        have := unhide hz j (by have := unhide HL; omega)
        rw [List.getD_eq_getElem?_getD, List.getElem?_eq_getElem hj] at this
        simpa using this)
      go_wp2
      go_ret
      exact ⟨⟨_, rfl, by rw [unhide hfin]; simp⟩, hext⟩

theorem zerox_contains (A : Option Addr) (n c : Nat) (l : List (Int × Int))  (w : World) (R : Row w A n 2 (prs l)) (p : Int × Int → Bool)
    (hp : ∀ k, k < n → ∀ W, Ext w W → Calls Try.prog 49 (#[.agg #[.int .i64 (l.getD k (0, 0)).1, .int .i64 (l.getD k (0, 0)).2]] ++ #[]) W fun e w' => e = .returned (.bool (p (l.getD k (0, 0)))) ∧ Ext W w') (hm : n ≤ 4611686018427387904) :
    Calls Try.prog 22 #[.slice A n c, .func (.func 49) #[] #[]] w fun e w' => e = .returned (.bool (l.any p)) ∧ Ext w w' := by
  have H := hide (zerox_index A n c l  w R p hp hm)
  clear R hp
  generalize l.any p = v at *
  go_enter Try.func22, Try.ntmps22
  go_wp2_with fail
  refine (unhide H).mono ?_
  rintro e w' ⟨⟨n, rfl, hn⟩, E1⟩
  go_wp2
  go_ret
  exact ⟨rfl, E1⟩

theorem zerox_any (x y : Int) (w : World) :
    Calls Try.prog 49 #[.agg #[.int .i64 x, .int .i64 y]] w fun e w' => e = .returned (.bool (x == 0)) ∧ Ext w w' := by
  go_enter Try.func49, Try.ntmps49
  go_wp2
  go_ret
  exact ⟨rfl, (by repeat (first | exact Ext.refl _ | refine Ext.alloc ?_ _ | refine Ext.drew ?_ | refine Ext.drewN ?_ _ | (refine Ext.trans ?_ (plus_ext _ _)) | (refine Ext.setCell ?_ (by have := Ext.size Ext.refl _; simp; omega) _)))⟩

set_option maxRecDepth 100000 in
set_option maxHeartbeats 1000000 in
theorem Join_ok (P : Wm.Pr) (h9 : P.p ≤ 997) (A : Option Addr) (n c : Nat) (L : List (Int × Int)) (w : World) (R : Row w A n 2 (prs L)) (hnc : n ≤ c) (hcap : c ≤ 9223372036854775807) (h : PtsOk P L) (h1 : 1 ≤ n) (h0 : ∀ i, i < n → (L.getD i (0, 0)).1 ≠ 0) (F : List Nat) (hF : ThruL P L F) :
    Calls Try.prog 21 #[.int .i64 P.p, .slice A n c] w fun e w' => e = .returned (.tuple #[.int .i64 ((Wm.evN P.p F 0 : Nat) : Int), .int .i64 0]) ∧ Ext w w' := by
  have hlen := R.prn
  have hn12 : n ≤ 12 := by have := h.len; omega
  have CK := hide (PCheck_ok P h9 A n c L w R hnc hcap h)
  have hany : L.any (fun y => y.1 == 0) = false := by
    have := (take_any (L := L) (k := n) (X := 0) (by omega)).2 h0
    rwa [List.take_of_length_le (by omega)] at this
  have CX := hide (fun (W : World) (E : Ext w W) => zerox_contains A n c L W (R.keep E) (fun y => y.1 == 0) (fun k hk W' E' => zerox_any _ _ W') (by omega))
  rw [hany] at CX
  have CA := hide (fun (W : World) (E : Ext w W) => PAt_ok P h9 A n c L 0 W (R.keep E) hnc hcap h F hF 0 (by simp))
  have nI : ((n : Int) == 0) = false := by rw [beq_eq_false_iff_ne]; omega
  generalize Wm.evN P.p F 0 = y at *
  clear R h h0 hF hany
  go_enter Try.func21, Try.ntmps21
  go_wp2_with fail
  refine (unhide CK).mono ?_
  rintro e w1 ⟨rfl, Fw1⟩
  go_wp2_with fail
  refine (unhide CX _ (by repeat (first | exact Ext.refl _ | assumption | refine Ext.alloc ?_ _ | refine Ext.drew ?_ | refine Ext.drewN ?_ _ | refine Ext.trans ?_ ‹Ext _ _›))).mono ?_
  rintro e w2 ⟨rfl, EN⟩
  have Fw2 : Ext w1 w2 := Ext.trans (by repeat (first | exact Ext.refl _ | assumption | refine Ext.alloc ?_ _ | refine Ext.drew ?_ | refine Ext.drewN ?_ _ | refine Ext.trans ?_ ‹Ext _ _›)) EN
  clear EN
  go_wp2_with fail
  refine (unhide CA _ (by repeat (first | exact Ext.refl _ | assumption | refine Ext.alloc ?_ _ | refine Ext.drew ?_ | refine Ext.drewN ?_ _ | refine Ext.trans ?_ ‹Ext _ _›))).mono ?_
  rintro e w3 ⟨rfl, EN⟩
  have Fw3 : Ext w2 w3 := Ext.trans (by repeat (first | exact Ext.refl _ | assumption | refine Ext.alloc ?_ _ | refine Ext.drew ?_ | refine Ext.drewN ?_ _ | refine Ext.trans ?_ ‹Ext _ _›)) EN
  clear EN
  go_wp2
  go_ret2
  exact ⟨rfl, (by repeat (first | exact Ext.refl _ | assumption | refine Ext.alloc ?_ _ | refine Ext.drew ?_ | refine Ext.drewN ?_ _ | refine Ext.trans ?_ ‹Ext _ _›))⟩

/-- The shares. -/
def shL (p : Nat) (F : List Nat) (k n : Nat) : List (Int × Int) := (List.range n).map fun (i : Nat) => if i < k then (((i + 1 : Nat) : Int), ((Wm.evN p F (i + 1) : Nat) : Int)) else (0, 0)
theorem shL_len (p : Nat) (F : List Nat) (k n : Nat) : (shL p F k n).length = n := by simp [shL]
theorem shL_get (p : Nat) (F : List Nat) (k : Nat) {n i : Nat} (h : i < n) : (shL p F k n).getD i (0, 0) = if i < k then (((i + 1 : Nat) : Int), ((Wm.evN p F (i + 1) : Nat) : Int)) else (0, 0) := by
  unfold shL
  rw [List.getD_eq_getElem?_getD, List.getElem?_map, List.getElem?_range h]; rfl
theorem shL_set (p : Nat) (F : List Nat) {k n : Nat} (h : k < n) : (shL p F k n).set k (((k + 1 : Nat) : Int), ((Wm.evN p F (k + 1) : Nat) : Int)) = shL p F (k + 1) n := by
  apply List.ext_getElem (by simp [shL])
  intro j h1 h2
  rw [List.getElem_set]
  simp only [shL, List.getElem_map, List.getElem_range]
  by_cases e : k = j
  · subst e; rw [if_pos rfl, if_pos (by omega)]
  · rw [if_neg e]
    by_cases hj : j < k
    · rw [if_pos hj, if_pos (by omega)]
    · rw [if_neg hj, if_neg (by omega)]
theorem mk_pairs (n : Nat) (hn : n ≤ 1000) (w : World) : (Instr.makeSlice 39 (.int .i64 (n : Int)) (.int .i64 (n : Int))).run Try.prog w = .ok (.slice (some ⟨w.heap.size, 0, none⟩) n n) (w.alloc (.cells (madeCells #[.int .i64 0, .int .i64 0] (n * 2)) 43)) := by
  exact make_run pairQ n n (Nat.le_refl _) (by omega) (by omega) w
theorem Made.mkp {w : World} {base : Nat} (n : Nat) (hb : base ≤ w.heap.size) (hn : n ≤ 1000) (p : Nat) (F : List Nat) :
    Made (w.alloc (.cells (madeCells #[.int .i64 0, .int .i64 0] (n * 2)) 43)) base 43 2 (.slice (some ⟨w.heap.size, 0, none⟩) n n) n (prs (shL p F 0 n)) := by
  refine ⟨by rw [prs_length, shL_len], .inr ⟨w.heap.size, n, madeCells #[.int .i64 0, .int .i64 0] (n * 2), rfl, hb, by rw [← World.alloc_eq]; simp, Nat.le_refl _, by unfold maxLen; omega, by rw [made_size]; omega, ?_⟩⟩
  rw [List.take_of_length_le (by rw [Array.length_toList, made_size]; omega)]
  have key : ∀ m, (madeCells #[Value.int .i64 0, .int .i64 0] (m * 2)).toList = prs (List.replicate m (0, 0)) := fun m => by
    induction m with
    | zero => simp [madeCells, prs]
    | succ m ih =>
      have h1 : (madeCells #[Value.int .i64 0, .int .i64 0] ((m + 1) * 2)).toList = (madeCells #[Value.int .i64 0, .int .i64 0] (m * 2)).toList ++ [.int .i64 0, .int .i64 0] := by
        unfold madeCells
        rw [Array.toList_map, Array.toList_map, Array.toList_range, Array.toList_range, show (m + 1) * 2 = m * 2 + 1 + 1 by omega, List.range_succ, List.range_succ, List.map_append, List.map_append, List.append_assoc]
        congr 1
        simp [show m * 2 % 2 = 0 by omega, show (m * 2 + 1) % 2 = 1 by omega]
      rw [h1, ih, List.replicate_succ', ← prs_append]; rfl
  rw [key]
  congr 1
  apply List.ext_getElem (by simp [shL])
  intro j h1 h2
  simp [shL]

def DealPost (P : Wm.Pr) (F : List Nat) (N : Nat) (w w' : World) (e : Ending) : Prop := ∃ g : Nat, e = .returned (.tuple #[.slice (some ⟨g, 0, none⟩) N N, .int .i64 0]) ∧ Made w' w.heap.size 43 2 (.slice (some ⟨g, 0, none⟩) N N) N (prs (shL P.p F N N))

set_option maxRecDepth 100000 in
set_option maxHeartbeats 800000 in
theorem Deal_ok (P : Wm.Pr) (h9 : P.p ≤ 997) (s : Nat) (hs : s < P.p) (A : Option Addr) (n c : Nat) (t : List Nat) (N : Nat) (w : World) (R : Pv w A n c t) (ht : ∀ x ∈ t, x < P.p) (hn : n < 12) (hN : N ≤ 12) (hNp : N < P.p) :
    Calls Try.prog 20 #[.int .i64 P.p, .int .i64 s, .slice A n c, .int .i64 N] w fun e w' => DealPost P (Wm.trimL (s :: t)) N w w' e ∧ Ext w w' := by
  have hlen := R.len
  have CF := hide (fun w : World => Field_any P.p w)
  rw [errF_yes ⟨P.p, rfl, P.hp, h9⟩] at CF
  obtain ⟨F, hF⟩ : ∃ F, F = Wm.trimL (s :: t) := ⟨_, rfl⟩
  rw [← hF]
  have HFP := hide (show Wm.IsP P.p F ∧ F.length ≤ 12 from by
    rw [hF]
    exact ⟨Wm.trimL_isP (fun x hx => by rcases List.mem_cons.1 hx with rfl | h; exact hs; exact ht x h), by have := Wm.trimL_len (s :: t); simp at this; omega⟩)
  have HF := hide hF
  have hall : (((s :: t).map fun (x : Nat) => (x : Int)).any (outB P.p)) = false := by
    rw [List.any_eq_false]
    intro x hx ho
    obtain ⟨y, hy, rfl⟩ := List.mem_map.1 hx
    have : y < P.p := by rcases List.mem_cons.1 hy with rfl | h; exact hs; exact ht y h
    simp [outB] at ho
    omega
  have HX := hide (fun (W : World) (A : Option Addr) (c m : Nat) (hm : m ≤ 12) (R : Row W A m 1 (nats .i64 (s :: t))) (q : Addr) (hq : W.cell? q = some (.int .i64 P.p)) => rngd_contains A m c _ q W (by rw [← nats_ints]; exact R) (outB P.p) (fun k hk W' E' => outd_any P.p _ q W' (E'.keep hq)) (by omega))
  rw [hall] at HX
  obtain ⟨i0, hi, hz0, hz1, hz2⟩ := intQ.2.1
  have hcap := R.cap
  have hp := P.two
  have hNI : ¬ (N : Int) < 0 := by omega
  have hNpI : (N : Int) < (P.p : Int) := by omega
  have HR := hide R
  have HL := hide hlen
  clear R ht hF hall hlen
  cases A with
  | none =>
    obtain ⟨h1, h2⟩ := (unhide HR).nil rfl
    have ht0 : t = [] := List.eq_nil_of_length_eq_zero (by rw [unhide HL, h1])
    rw [show Value.slice none n c = .slice none 0 0 by rw [h1, h2]]
    have HT0 := hide ht0
    clear h1 h2 ht0
    go_enter Try.func20, Try.ntmps20
    go_wp2_with fail
    refine (unhide CF _).mono ?_
    rintro e w' ⟨rfl, rfl⟩
    obtain ⟨W4, hW4⟩ : ∃ W4, W4 = (w.alloc (.cells #[.int .i64 (P.p : Int)] 3)).alloc (.cells #[.int .i64 (s : Int)] 3) := ⟨_, rfl⟩
    have E4 : Ext w W4 := by rw [hW4]; exact ((Ext.refl w).alloc _).alloc _
    have hcp : W4.cell? ⟨w.heap.size, 0, none⟩ = some (.int .i64 (P.p : Int)) := by rw [hW4]; simp [go_sem]
    have HPW : Hid (Pv W4 (some ⟨w.heap.size + 1, 0, none⟩) 1 1 (s :: t)) := hide (by
      rw [hW4, unhide HT0]
      have := row_new (w.alloc (.cells #[.int .i64 (P.p : Int)] 3)) #[.int .i64 (s : Int)] 3 1 1 rfl
      rw [show (w.alloc (.cells #[.int .i64 (P.p : Int)] 3)).heap.size = w.heap.size + 1 by simp] at this
      exact ⟨this, Nat.le_refl _, by omega, fun h => by cases h⟩)
    go_wp2_with fail
    rw [← hW4]
    clear hW4
    refine (unhide HX _ _ _ _ (by omega) (unhide HPW).row _ hcp).mono ?_
    rintro e w5 ⟨rfl, EN⟩
    have Fw5 : Ext W4 w5 := EN
    have hcp5 := Fw5.keep hcp
    have CT := hide (fun (W : World) (E : Ext w5 W) => Trim_ok _ (1) _ (s :: t) W (((unhide HPW).keep Fw5).keep E) (by omega))
    rw [← unhide HF] at CT
    clear hcp EN HX
    go_wp2_with fail
    refine (unhide CT _ (by repeat (first | exact Ext.refl _ | assumption | refine Ext.alloc ?_ _ | refine Ext.drew ?_ | refine Ext.drewN ?_ _ | refine Ext.trans ?_ ‹Ext _ _›))).mono ?_
    rintro e w6 ⟨⟨vF, rfl, MF⟩, EN⟩
    have Fw6 : Ext w5 w6 := Ext.trans (by repeat (first | exact Ext.refl _ | assumption | refine Ext.alloc ?_ _ | refine Ext.drew ?_ | refine Ext.drewN ?_ _ | refine Ext.trans ?_ ‹Ext _ _›)) EN
    have hcp6 := Fw6.keep hcp5
    obtain ⟨AF, cF, rfl, PF⟩ := MF.pv
    have BF := MF.blk
    have CA := hide (fun (W : World) (E : Ext w6 W) (k : Nat) (hk : k < N) => At_ok P h9 AF _ cF F ((k : Int) + 1) W (PF.keep E) (BF.keep E) (unhide HFP).1 (by have := (unhide HFP).2; omega) (k + 1) (by rw [Int.emod_eq_of_lt (by omega) (by omega)]; omega))
    have hmk := mk_pairs N (by omega) w6
    have HM : Hid (Made (w6.alloc (.cells (madeCells #[.int .i64 0, .int .i64 0] (N * 2)) 43)) w.heap.size 43 2 (.slice (some ⟨w6.heap.size, 0, none⟩) N N) N (prs (shL P.p F 0 N))) := hide (Made.mkp N (Ext.size (E4.trans (Fw5.trans Fw6))) (by omega) _ _)
    have E6 := And.intro (E4.trans (Fw5.trans Fw6)) trivial
    clear hcp5 EN MF PF BF CT HPW
    go_wp2
    obtain ⟨g, hg⟩ : ∃ g, g = w6.heap.size := ⟨_, rfl⟩
    have hgw : w.heap.size ≤ g := by have := Ext.size E6.1; omega
    have hcp7 : (w6.alloc (.cells (madeCells #[.int .i64 0, .int .i64 0] (N * 2)) 43)).cell? ⟨w.heap.size, 0, none⟩ = some (.int .i64 (P.p : Int)) := (World.cell?_alloc_lt w6 _ ⟨w.heap.size, 0, none⟩ (cell_lt hcp6)).trans hcp6
    have hbg : w.heap.size < g := by have h6 : w.heap.size < w6.heap.size := cell_lt hcp6; omega
    have hg6 : w6.heap.size ≤ g := by omega
    rw [← hg] at HM ⊢
    clear hmk hcp6 hg
    go_loopw [51] (fun i wr => ∃ k : Nat, k ≤ N ∧ i = .int .i64 k ∧ Hid (Made wr w.heap.size 43 2 (.slice (some ⟨g, 0, none⟩) N N) N (prs (shL P.p F k N))) ∧ Hid (wr.cell? ⟨w.heap.size, 0, none⟩ = some (.int .i64 (P.p : Int))) ∧ Hid (Ext w6 wr) ∧ (Ext w wr ∧ True)) (fun i _ => N - (intOf i).toNat)
    case atStart => exact ⟨0, Nat.zero_le _, rfl, HM, hide hcp7, hide (by repeat (first | exact Ext.refl w6 | refine Ext.alloc ?_ _ | refine Ext.drew ?_ | refine Ext.drewN ?_ _ | (refine Ext.trans ?_ (plus_ext _ _)) | (refine Ext.setCell ?_ (by have := Ext.size Ext.refl w6; simp; omega) _))), (by repeat (first | exact E6.1 | refine Ext.alloc ?_ _ | refine Ext.drew ?_ | refine Ext.drewN ?_ _ | (refine Ext.trans ?_ (plus_ext _ _)) | (refine Ext.setCell ?_ (by have := Ext.size E6.1; simp; omega) _))), trivial⟩
    case round =>
      clear HM hcp7
      obtain ⟨k, hk, rfl, HM, HC, HE6, hE⟩ := hrel
      by_cases hlt : k < N
      · have hc := unhide HC
        have CA2 := hide (fun (W : World) (E : Ext wr W) => unhide CA W ((unhide HE6).trans E) k hlt)
        have HSET := hide (shL_set P.p F hlt)
        generalize Wm.evN P.p F (k + 1) = y at *
        go_wp2_with fail
        refine (unhide CA2 _ (by repeat (first | exact Ext.refl _ | refine Ext.alloc ?_ _ | refine Ext.drew ?_ | refine Ext.drewN ?_ _ | (refine Ext.trans ?_ (plus_ext _ _)) | (refine Ext.setCell ?_ (by have := Ext.size Ext.refl _; simp; omega) _)))).mono ?_
        rintro e w7 ⟨rfl, EN⟩
        have Fw7 : Ext wr w7 := Ext.trans (by repeat (first | exact Ext.refl wr | refine Ext.alloc ?_ _ | refine Ext.drew ?_ | refine Ext.drewN ?_ _ | (refine Ext.trans ?_ (plus_ext _ _)) | (refine Ext.setCell ?_ (by have := Ext.size Ext.refl wr; simp; omega) _))) EN
        have M7 := (unhide HM).keep Fw7
        have hc7 := Fw7.keep hc
        have hlen7 := shL_len P.p F k N
        have q0 := prs_get (shL P.p F k N) k (by omega)
        have hcell0 : w7.cell? ⟨g, k * 2, none⟩ = some (.int .i64 ((shL P.p F k N).getD k (0, 0)).1) := by
          obtain ⟨A', c', e', R', -⟩ := M7.open_
          injection e' with e1 e2 e3
          subst e1
          obtain ⟨b', o', e4, -, h4, -⟩ := R'.pair hlt
          injection e4 with e4
          injection e4 with e5 e6
          subst e5; subst e6
          rwa [Nat.zero_add] at h4
        have hcell1 : w7.cell? ⟨g, k * 2 + 1, none⟩ = some (.int .i64 ((shL P.p F k N).getD k (0, 0)).2) := by
          obtain ⟨A', c', e', R', -⟩ := M7.open_
          injection e' with e1 e2 e3
          subst e1
          obtain ⟨b', o', e4, -, -, h4⟩ := R'.pair hlt
          injection e4 with e4
          injection e4 with e5 e6
          subst e5; subst e6
          rwa [Nat.zero_add] at h4
        have f0 := M7.frozen (k * 2)
        have f1 := M7.frozen (k * 2 + 1)
        have HM2 : Hid (Made ((w7.setCell ⟨g, k * 2, none⟩ (.int .i64 ((k : Int) + 1))).setCell ⟨g, k * 2 + 1, none⟩ (.int .i64 (y : Int))) w.heap.size 43 2 (.slice (some ⟨g, 0, none⟩) N N) N (prs (shL P.p F (k + 1) N))) := hide (by
          have h1 := M7.set (j := k * 2) (by omega) (.int .i64 ((k : Int) + 1))
          have h2 := h1.set (j := k * 2 + 1) (by omega) (.int .i64 (y : Int))
          rw [← unhide HSET, prs_set]
          exact h2)
        have E8 := And.intro (((hE.1.trans Fw7).setCell (p := ⟨g, k * 2, none⟩) hgw (.int .i64 ((k : Int) + 1))).setCell (p := ⟨g, k * 2 + 1, none⟩) hgw (.int .i64 (y : Int))) trivial
        have HE8 : Hid (Ext w6 ((w7.setCell ⟨g, k * 2, none⟩ (.int .i64 ((k : Int) + 1))).setCell ⟨g, k * 2 + 1, none⟩ (.int .i64 (y : Int)))) := hide ((((unhide HE6).trans Fw7).setCell (p := ⟨g, k * 2, none⟩) hg6 _).setCell (p := ⟨g, k * 2 + 1, none⟩) hg6 _)
        have HC8 : Hid (((w7.setCell ⟨g, k * 2, none⟩ (.int .i64 ((k : Int) + 1))).setCell ⟨g, k * 2 + 1, none⟩ (.int .i64 (y : Int))).cell? ⟨w.heap.size, 0, none⟩ = some (.int .i64 (P.p : Int))) := hide (by
          rw [World.cell?_setCell_other _ _ _ _ (by simp only [ne_eq, Addr.mk.injEq, not_and]; omega), World.cell?_setCell_other _ _ _ _ (by simp only [ne_eq, Addr.mk.injEq, not_and]; omega)]
          exact hc7)
        generalize ((shL P.p F k N).getD k (0, 0)).1 = o1 at *
        generalize ((shL P.p F k N).getD k (0, 0)).2 = o2 at *
        clear HM HC HE6 M7 hc q0 HSET EN CA2
        go_wp2
        go_roundw
        case rel => exact ⟨k + 1, by omega, by go_num, HM2, HC8, HE8, E8⟩
        case measure => simp [intOf]; omega
      · obtain rfl : k = N := by omega
        have HF2 := unhide HM
        have HMF := hide HF2
        clear HM HF2
        go_wp2
        go_ret2
        exact ⟨⟨g, rfl, unhide HMF⟩, hE.1⟩

  | some ad =>
    have hr := (unhide HR).row
    have hown := World.ownsRow_lit (base := w.heap.size) (e := 3) (size := 1) (w.alloc (.cells #[.int .i64 (P.p : Int)] 3)) #[.int .i64 (s : Int)] 1 (by simp) (by unfold maxLen; omega) rfl
    rw [show (w.alloc (.cells #[.int .i64 (P.p : Int)] 3)).heap.size = w.heap.size + 1 by simp] at hown
    have HR1 := hide hr.1
    have HR2 := hide hr.2
    have HO := hide hown
    clear hr hown
    go_enter Try.func20, Try.ntmps20
    go_wp2_with fail
    refine (unhide CF _).mono ?_
    rintro e w' ⟨rfl, rfl⟩
    go_wp2_with (at_builtin; go_loud (refine wpList_append_own _ rfl _ _ 29 (by rfl) w.heap.size 3 i0 (.int .i64 0) 1 8 Try.underlying29 hi hz0 hz1 hz2 rfl (by decide) _ 1 _ (by rfl) (unhide HO) ad n c (nats .i64 t) (by rfl) (unhide HR1) ?c1 (nats_one _ _) (by unfold maxLen; omega) (by omega) (by simp; omega) ?_))
    case c1 =>
      intro j u hj
      have hjn : j < n * 1 := by
        have := (List.getElem?_eq_some_iff.1 hj).1
        have := unhide HR1
        omega
      obtain ⟨b, o, e, hb, hc⟩ := unhide HR2 (by omega)
      injection e with e
      subst e
      have hj' := (hc j hjn).trans hj
      have : (⟨b, o, none⟩ : Addr).add j = ⟨b, o + j, none⟩ := by
        unfold Addr.add
        split
        · rename_i h0; simp [h0]
        · rfl
      rw [this]
      exact (Ext.cell (p := ⟨b, o + j, none⟩) ((by repeat (first | exact Ext.refl w | refine Ext.alloc ?_ _ | refine Ext.drew ?_ | refine Ext.drewN ?_ _ | (refine Ext.trans ?_ (plus_ext _ _)) | (refine Ext.setCell ?_ (by have := Ext.size Ext.refl w; simp; omega) _))) : Ext w _) hb).trans hj'
    intro v' W4 hown' hgrow _
    obtain ⟨AT, cT, rfl, RT, hT1, hT2, -⟩ := row_of_own hown'
    have hcp : W4.cell? ⟨w.heap.size, 0, none⟩ = some (.int .i64 (P.p : Int)) := by
      rw [World.cell?_of_block (a := ⟨w.heap.size, 0, none⟩) (hgrow.block w.heap.size (by simp; omega) (by simp [Value.ownBlock]))]
      simp [go_sem]
    have E4 : Ext w W4 := ((by repeat (first | exact Ext.refl w | refine Ext.alloc ?_ _ | refine Ext.drew ?_ | refine Ext.drewN ?_ _ | (refine Ext.trans ?_ (plus_ext _ _)) | (refine Ext.setCell ?_ (by have := Ext.size Ext.refl w; simp; omega) _))) : Ext w _).grown hgrow (fun q hq => by simp [Value.ownBlock] at hq; omega)
    have HPW : Hid (Pv W4 AT (1 + n) cT (s :: t)) := hide ⟨RT, hT1, by unfold maxLen at hT2; exact hT2, fun hA => by
      subst hA
      exfalso
      have h1 := hown'.1
      rcases hown'.2 with ⟨-, h3⟩ | ⟨g', cap', cur', h2, -⟩
      · omega
      · injection h2 with h2; cases h2⟩
    clear hown' hgrow RT hT1 hT2
    go_wp2_with fail
    refine (unhide HX _ _ _ _ (by omega) (unhide HPW).row _ hcp).mono ?_
    rintro e w5 ⟨rfl, EN⟩
    have Fw5 : Ext W4 w5 := EN
    have hcp5 := Fw5.keep hcp
    have CT := hide (fun (W : World) (E : Ext w5 W) => Trim_ok _ (1+n) _ (s :: t) W (((unhide HPW).keep Fw5).keep E) (by omega))
    rw [← unhide HF] at CT
    clear hcp EN HX
    go_wp2_with fail
    refine (unhide CT _ (by repeat (first | exact Ext.refl _ | assumption | refine Ext.alloc ?_ _ | refine Ext.drew ?_ | refine Ext.drewN ?_ _ | refine Ext.trans ?_ ‹Ext _ _›))).mono ?_
    rintro e w6 ⟨⟨vF, rfl, MF⟩, EN⟩
    have Fw6 : Ext w5 w6 := Ext.trans (by repeat (first | exact Ext.refl _ | assumption | refine Ext.alloc ?_ _ | refine Ext.drew ?_ | refine Ext.drewN ?_ _ | refine Ext.trans ?_ ‹Ext _ _›)) EN
    have hcp6 := Fw6.keep hcp5
    obtain ⟨AF, cF, rfl, PF⟩ := MF.pv
    have BF := MF.blk
    have CA := hide (fun (W : World) (E : Ext w6 W) (k : Nat) (hk : k < N) => At_ok P h9 AF _ cF F ((k : Int) + 1) W (PF.keep E) (BF.keep E) (unhide HFP).1 (by have := (unhide HFP).2; omega) (k + 1) (by rw [Int.emod_eq_of_lt (by omega) (by omega)]; omega))
    have hmk := mk_pairs N (by omega) w6
    have HM : Hid (Made (w6.alloc (.cells (madeCells #[.int .i64 0, .int .i64 0] (N * 2)) 43)) w.heap.size 43 2 (.slice (some ⟨w6.heap.size, 0, none⟩) N N) N (prs (shL P.p F 0 N))) := hide (Made.mkp N (Ext.size (E4.trans (Fw5.trans Fw6))) (by omega) _ _)
    have E6 := And.intro (E4.trans (Fw5.trans Fw6)) trivial
    clear hcp5 EN MF PF BF CT HPW
    go_wp2
    obtain ⟨g, hg⟩ : ∃ g, g = w6.heap.size := ⟨_, rfl⟩
    have hgw : w.heap.size ≤ g := by have := Ext.size E6.1; omega
    have hcp7 : (w6.alloc (.cells (madeCells #[.int .i64 0, .int .i64 0] (N * 2)) 43)).cell? ⟨w.heap.size, 0, none⟩ = some (.int .i64 (P.p : Int)) := (World.cell?_alloc_lt w6 _ ⟨w.heap.size, 0, none⟩ (cell_lt hcp6)).trans hcp6
    have hbg : w.heap.size < g := by have h6 : w.heap.size < w6.heap.size := cell_lt hcp6; omega
    have hg6 : w6.heap.size ≤ g := by omega
    rw [← hg] at HM ⊢
    clear hmk hcp6 hg
    go_loopw [51] (fun i wr => ∃ k : Nat, k ≤ N ∧ i = .int .i64 k ∧ Hid (Made wr w.heap.size 43 2 (.slice (some ⟨g, 0, none⟩) N N) N (prs (shL P.p F k N))) ∧ Hid (wr.cell? ⟨w.heap.size, 0, none⟩ = some (.int .i64 (P.p : Int))) ∧ Hid (Ext w6 wr) ∧ (Ext w wr ∧ True)) (fun i _ => N - (intOf i).toNat)
    case atStart => exact ⟨0, Nat.zero_le _, rfl, HM, hide hcp7, hide (by repeat (first | exact Ext.refl w6 | refine Ext.alloc ?_ _ | refine Ext.drew ?_ | refine Ext.drewN ?_ _ | (refine Ext.trans ?_ (plus_ext _ _)) | (refine Ext.setCell ?_ (by have := Ext.size Ext.refl w6; simp; omega) _))), (by repeat (first | exact E6.1 | refine Ext.alloc ?_ _ | refine Ext.drew ?_ | refine Ext.drewN ?_ _ | (refine Ext.trans ?_ (plus_ext _ _)) | (refine Ext.setCell ?_ (by have := Ext.size E6.1; simp; omega) _))), trivial⟩
    case round =>
      clear HM hcp7
      obtain ⟨k, hk, rfl, HM, HC, HE6, hE⟩ := hrel
      by_cases hlt : k < N
      · have hc := unhide HC
        have CA2 := hide (fun (W : World) (E : Ext wr W) => unhide CA W ((unhide HE6).trans E) k hlt)
        have HSET := hide (shL_set P.p F hlt)
        generalize Wm.evN P.p F (k + 1) = y at *
        go_wp2_with fail
        refine (unhide CA2 _ (by repeat (first | exact Ext.refl _ | refine Ext.alloc ?_ _ | refine Ext.drew ?_ | refine Ext.drewN ?_ _ | (refine Ext.trans ?_ (plus_ext _ _)) | (refine Ext.setCell ?_ (by have := Ext.size Ext.refl _; simp; omega) _)))).mono ?_
        rintro e w7 ⟨rfl, EN⟩
        have Fw7 : Ext wr w7 := Ext.trans (by repeat (first | exact Ext.refl wr | refine Ext.alloc ?_ _ | refine Ext.drew ?_ | refine Ext.drewN ?_ _ | (refine Ext.trans ?_ (plus_ext _ _)) | (refine Ext.setCell ?_ (by have := Ext.size Ext.refl wr; simp; omega) _))) EN
        have M7 := (unhide HM).keep Fw7
        have hc7 := Fw7.keep hc
        have hlen7 := shL_len P.p F k N
        have q0 := prs_get (shL P.p F k N) k (by omega)
        have hcell0 : w7.cell? ⟨g, k * 2, none⟩ = some (.int .i64 ((shL P.p F k N).getD k (0, 0)).1) := by
          obtain ⟨A', c', e', R', -⟩ := M7.open_
          injection e' with e1 e2 e3
          subst e1
          obtain ⟨b', o', e4, -, h4, -⟩ := R'.pair hlt
          injection e4 with e4
          injection e4 with e5 e6
          subst e5; subst e6
          rwa [Nat.zero_add] at h4
        have hcell1 : w7.cell? ⟨g, k * 2 + 1, none⟩ = some (.int .i64 ((shL P.p F k N).getD k (0, 0)).2) := by
          obtain ⟨A', c', e', R', -⟩ := M7.open_
          injection e' with e1 e2 e3
          subst e1
          obtain ⟨b', o', e4, -, -, h4⟩ := R'.pair hlt
          injection e4 with e4
          injection e4 with e5 e6
          subst e5; subst e6
          rwa [Nat.zero_add] at h4
        have f0 := M7.frozen (k * 2)
        have f1 := M7.frozen (k * 2 + 1)
        have HM2 : Hid (Made ((w7.setCell ⟨g, k * 2, none⟩ (.int .i64 ((k : Int) + 1))).setCell ⟨g, k * 2 + 1, none⟩ (.int .i64 (y : Int))) w.heap.size 43 2 (.slice (some ⟨g, 0, none⟩) N N) N (prs (shL P.p F (k + 1) N))) := hide (by
          have h1 := M7.set (j := k * 2) (by omega) (.int .i64 ((k : Int) + 1))
          have h2 := h1.set (j := k * 2 + 1) (by omega) (.int .i64 (y : Int))
          rw [← unhide HSET, prs_set]
          exact h2)
        have E8 := And.intro (((hE.1.trans Fw7).setCell (p := ⟨g, k * 2, none⟩) hgw (.int .i64 ((k : Int) + 1))).setCell (p := ⟨g, k * 2 + 1, none⟩) hgw (.int .i64 (y : Int))) trivial
        have HE8 : Hid (Ext w6 ((w7.setCell ⟨g, k * 2, none⟩ (.int .i64 ((k : Int) + 1))).setCell ⟨g, k * 2 + 1, none⟩ (.int .i64 (y : Int)))) := hide ((((unhide HE6).trans Fw7).setCell (p := ⟨g, k * 2, none⟩) hg6 _).setCell (p := ⟨g, k * 2 + 1, none⟩) hg6 _)
        have HC8 : Hid (((w7.setCell ⟨g, k * 2, none⟩ (.int .i64 ((k : Int) + 1))).setCell ⟨g, k * 2 + 1, none⟩ (.int .i64 (y : Int))).cell? ⟨w.heap.size, 0, none⟩ = some (.int .i64 (P.p : Int))) := hide (by
          rw [World.cell?_setCell_other _ _ _ _ (by simp only [ne_eq, Addr.mk.injEq, not_and]; omega), World.cell?_setCell_other _ _ _ _ (by simp only [ne_eq, Addr.mk.injEq, not_and]; omega)]
          exact hc7)
        generalize ((shL P.p F k N).getD k (0, 0)).1 = o1 at *
        generalize ((shL P.p F k N).getD k (0, 0)).2 = o2 at *
        clear HM HC HE6 M7 hc q0 HSET EN CA2
        go_wp2
        go_roundw
        case rel => exact ⟨k + 1, by omega, by go_num, HM2, HC8, HE8, E8⟩
        case measure => simp [intOf]; omega
      · obtain rfl : k = N := by omega
        have HF2 := unhide HM
        have HMF := hide HF2
        clear HM HF2
        go_wp2
        go_ret2
        exact ⟨⟨g, rfl, unhide HMF⟩, hE.1⟩



set_option maxRecDepth 100000 in
set_option maxHeartbeats 1000000 in
theorem equal_pts (A B : Option Addr) (n c d : Nat) (l : List (Int × Int)) (w : World) (R : Row w A n 2 (prs l)) (S : Row w B n 2 (prs l)) (hn : (n : Int) ≤ 9223372036854775807) :
    Calls Try.prog 42 #[.slice A n c, .slice B n d] w fun e w' => e = .returned (.bool true) ∧ ∃ k, w' = w.drewN k := by
  have hne : ∀ (x y : Int) (w : World), (binOp .neq 43 (.agg #[.int .i64 x, .int .i64 y]) (.agg #[.int .i64 x, .int .i64 y])).run Try.prog w = .ok (.bool false) w := by
    intro x y w
    have h1 := Try.underlying43
    have h2 := Try.underlying3
    rw [run_neq_struct]
    simp [go_sem, h1, h2]
  have HR := hide R
  have HS := hide S
  clear R S
  go_enter Try.func42, Try.ntmps42
  go_wp2
  go_loopw [13] (fun i wr => ∃ k : Nat, k ≤ n ∧ i = .int .i64 k ∧ ∃ q, wr = w.drewN q) (fun i _ => n - (intOf i).toNat)
  case atStart => exact ⟨0, by omega, rfl, 0, rfl⟩
  case round =>
    obtain ⟨k, hk, rfl, q, rfl⟩ := hrel
    by_cases hlt : k < n
    · obtain ⟨b, o, rfl, hb, c1, c2⟩ := (unhide HR).pair hlt
      obtain ⟨b', o', rfl, hb', d1, d2⟩ := (unhide HS).pair hlt
      have hk0 : (0 : Int) ≤ (k : Int) := by omega
      have hk1 : (k : Int) < (n : Int) := by omega
      generalize (l.getD k (0, 0)).1 = x at *
      generalize (l.getD k (0, 0)).2 = y at *
      go_wp2
      go_quiet (fail)
      go_wp2
      go_roundw
      case rel => exact ⟨k + 1, by omega, by go_num, _, rfl⟩
      case measure => simp [intOf]; omega
    · obtain rfl : k = n := by omega
      go_wp2
      go_ret
      exact ⟨rfl, _, rfl⟩


theorem deal7_ok : PtsOk Wm.P7q [(1, 6), (3, 3)] := ⟨by decide, by decide, fun i j hi hj => by
  have hi : i < 2 := hi
  have hj : j < 2 := hj
  have : i = 0 ∨ i = 1 := by omega
  have : j = 0 ∨ j = 1 := by omega
  rcases ‹i = 0 ∨ i = 1› with rfl | rfl <;> rcases ‹j = 0 ∨ j = 1› with rfl | rfl <;> simp⟩
theorem deal7_thru : ThruL Wm.P7q [(1, 6), (3, 3)] [4, 2] := ⟨⟨by decide, fun _ => by decide⟩, by decide, fun i hi => by
  have hi : i < 2 := hi
  have : i = 0 ∨ i = 1 := by omega
  rcases this with rfl | rfl <;> decide⟩
set_option maxRecDepth 100000 in
set_option maxHeartbeats 1000000 in
theorem deals_any (w : World) : Calls Try.prog 19 #[] w fun e w' => e = .returned (.bool true) ∧ Ext w w' := by
  have CD := hide (fun (W : World) (b : Nat) (R : Pv W (some ⟨b, 0, none⟩) 1 1 [2]) => Deal_ok Wm.P7q (by decide) 4 (by decide) (some ⟨b, 0, none⟩) 1 1 [2] 3 W R (by decide) (by omega) (by omega) (by decide))
  have CJ := hide (fun (W : World) (b : Nat) (R : Row W (some ⟨b, 0, none⟩) 2 2 (prs [(1, 6), (3, 3)])) => Join_ok Wm.P7q (by decide) (some ⟨b, 0, none⟩) 2 2 [(1, 6), (3, 3)] W R (by omega) (by omega) deal7_ok (by omega) (fun i hi => by
    have : i = 0 ∨ i = 1 := by omega
    rcases this with rfl | rfl <;> simp) [4, 2] deal7_thru)
  rw [show Wm.trimL [4, 2] = [4, 2] by decide, show Wm.P7q.p = 7 from rfl] at CD
  rw [show Wm.evN Wm.P7q.p [4, 2] 0 = 4 by decide, show Wm.P7q.p = 7 from rfl] at CJ
  go_enter Try.func19, Try.ntmps19
  go_wp2_with fail
  refine (unhide CD _ _ ⟨row_new w #[.int .i64 2] 3 1 1 rfl, Nat.le_refl _, by omega, fun h => by cases h⟩).mono ?_
  rintro e w1 ⟨⟨g, rfl, MD⟩, EN⟩
  have Fw1 : Ext w w1 := Ext.trans (by repeat (first | exact Ext.refl _ | assumption | refine Ext.alloc ?_ _ | refine Ext.drew ?_ | refine Ext.drewN ?_ _ | refine Ext.trans ?_ ‹Ext _ _›)) EN
  obtain ⟨A', c', e', RD, -⟩ := MD.open_
  injection e' with e1 e2 e3
  subst e1; subst e3
  rw [show Wm.P7q.p = 7 from rfl, show shL 7 [4, 2] 3 3 = [(1, 6), (2, 1), (3, 3)] by decide] at RD
  clear CD MD EN
  go_wp2_with fail
  refine (unhide CJ _ _ (row_new w1 #[.int .i64 1, .int .i64 6, .int .i64 3, .int .i64 3] 43 2 2 rfl)).mono ?_
  rintro e w2 ⟨rfl, EN⟩
  have Fw2 : Ext w1 w2 := Ext.trans (by repeat (first | exact Ext.refl _ | assumption | refine Ext.alloc ?_ _ | refine Ext.drew ?_ | refine Ext.drewN ?_ _ | refine Ext.trans ?_ ‹Ext _ _›)) EN
  have CE := hide (fun (W : World) (E : Ext w2 W) (b : Nat) (S : Row W (some ⟨b, 0, none⟩) 3 2 (prs [(1, 6), (2, 1), (3, 3)])) => equal_pts (some ⟨g, 0, none⟩) (some ⟨b, 0, none⟩) 3 3 3 _ W ((RD.keep (show Ext w1 w2 from (by repeat (first | exact Ext.refl _ | assumption | refine Ext.alloc ?_ _ | refine Ext.drew ?_ | refine Ext.drewN ?_ _ | refine Ext.trans ?_ ‹Ext _ _›)))).keep E) S (by omega))
  clear EN CJ RD
  go_wp2_with (go_at_call 16; refine (good_made' [0, 0] _ _ _ _ _ rfl rfl (by decide) (by simp)).mono ?_; rintro e wg ⟨rfl, rfl⟩)
  refine (unhide CE _ (by repeat (first | exact Ext.refl _ | assumption | refine Ext.alloc ?_ _ | refine Ext.drew ?_ | refine Ext.drewN ?_ _ | refine Ext.trans ?_ ‹Ext _ _›)) _ (by
    have := row_new (w2.alloc (.cells #[.int .i64 0, .int .i64 0] 22)) #[.int .i64 1, .int .i64 6, .int .i64 2, .int .i64 1, .int .i64 3, .int .i64 3] 43 3 2 rfl
    first | exact this | (rw [show (w2.alloc (.cells #[.int .i64 0, .int .i64 0] 22)).heap.size = w2.heap.size + 1 by simp] at this; exact this))).mono ?_
  rintro e w3 ⟨rfl, k, rfl⟩
  go_wp2
  go_ret
  exact ⟨rfl, (by repeat (first | exact Ext.refl _ | assumption | refine Ext.alloc ?_ _ | refine Ext.drew ?_ | refine Ext.drewN ?_ _ | refine Ext.trans ?_ ‹Ext _ _›))⟩
end Go.Proofs.Ytojjcdbphmcmeaa
