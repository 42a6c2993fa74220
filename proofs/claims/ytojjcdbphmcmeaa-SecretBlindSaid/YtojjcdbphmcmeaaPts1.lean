/-
  The contract of points.Check.
-/
import Derived.Test.YtojjcdbphmcmeaaPts0
import Derived.Test.YtojjcdbphmcmeaaPolyAt
set_option linter.unusedVariables false
set_option linter.unusedSimpArgs false
namespace Go.Proofs.Ytojjcdbphmcmeaa
open Go.RowKit Go.BigFrame

theorem pairQ : EInfo Try.prog 39 43 (.agg #[.int .i64 0, .int .i64 0]) 2 16 := EInfo.mk_ Try.underlying39 (by kernel_rfl) rfl (by omega)
/-- Points that are told right. -/
structure PtsOk (P : Wm.Pr) (L : List (Int × Int)) : Prop where
  len : L.length ≤ 12
  rng : ∀ x ∈ L, (0 ≤ x.1 ∧ x.1 < P.p) ∧ (0 ≤ x.2 ∧ x.2 < P.p)
  dst : ∀ i j, i < L.length → j < L.length → (L.getD i (0, 0)).1 = (L.getD j (0, 0)).1 → i = j


set_option maxRecDepth 100000 in
set_option maxHeartbeats 1000000 in
theorem samex_index (A : Option Addr) (n c : Nat) (l : List (Int × Int)) (q : Addr) (w : World) (R : Row w A n 2 (prs l)) (p : Int × Int → Bool)
    (hp : ∀ k, k < n → ∀ W, Ext w W → Calls Try.prog 64 (#[.agg #[.int .i64 (l.getD k (0, 0)).1, .int .i64 (l.getD k (0, 0)).2]] ++ #[.pointer (some q)]) W fun e w' => e = .returned (.bool (p (l.getD k (0, 0)))) ∧ Ext W w') (hm : n ≤ 4611686018427387904) :
    Calls Try.prog 51 #[.slice A n c, .func (.func 64) #[] #[.pointer (some q)]] w fun e w' => (∃ r : Int, e = .returned (.int .i64 r) ∧ decide (0 ≤ r) = l.any p) ∧ Ext w w' := by
  have HP := hide hp
  have HL := hide R.prn
  have HR := hide R
  clear hp R
  go_enter Try.func51, Try.ntmps51
  go_wp2
  go_loopw [8] (fun i wr => ∃ k : Nat, k ≤ n ∧ i = .int .i64 k ∧ Hid (∀ j, j < k → p (l.getD j (0, 0)) = false) ∧ Ext w wr) (fun i _ => n - (intOf i).toNat)
  case atStart => exact ⟨0, by omega, rfl, hide (fun j h => absurd h (by omega)), Ext.refl _⟩
  case round =>
    obtain ⟨k, hk, rfl, hz, hext⟩ := hrel
    by_cases hlt : k < n
    · obtain ⟨b, o, rfl, hb, c1, c2⟩ := ((unhide HR).keep hext).pair hlt
      have hpk := unhide HP k hlt
      have hmem := getD_mem l (0, 0) (k := k) (by rw [unhide HL]; exact hlt)
      have hzk := hide (fun (h : p (l.getD k (0, 0)) = false) j (hj : j < k + 1) => (show p (l.getD j (0, 0)) = false from by
        by_cases h' : j < k
        · exact unhide hz j h'
        · obtain rfl : j = k := by omega
          exact h))
      have hfin := hide (fun (h : p (l.getD k (0, 0)) = true) => (List.any_eq_true.2 ⟨_, hmem, h⟩ : l.any p = true))
      clear hmem
      have H1 := hide (rfl : p (l.getD k (0, 0)) = p (l.getD k (0, 0)))
      generalize hq : p (l.getD k (0, 0)) = q at *
      clear hq H1
      generalize (l.getD k (0, 0)).1 = x at *
      generalize (l.getD k (0, 0)).2 = y at *
      have HQ := hide hpk
      clear hpk
      cases q with
      | false =>
        have hz2 := hide (unhide hzk rfl)
        clear hzk hfin
        go_wp2_with (go_at_call 64; refine (unhide HQ _ hext).mono ?_; rintro e w' ⟨rfl, E1⟩)
        go_roundw
        case rel => exact ⟨k + 1, by omega, by go_num, hz2, hext.trans E1⟩
        case measure => simp [intOf]; omega
      | true =>
        have hf2 := hide (unhide hfin rfl)
        clear hzk hfin
        go_wp2_with (go_at_call 64; refine (unhide HQ _ hext).mono ?_; rintro e w' ⟨rfl, E1⟩)
        go_ret
        exact ⟨⟨_, rfl, by rw [unhide hf2]; simp⟩, hext.trans E1⟩
    · have hfin := hide (show l.any p = false by
        rw [List.any_eq_false]
        intro x hx
        obtain ⟨j, hj, rfl⟩ := List.getElem_of_mem hx
        have := unhide hz j (by have := unhide HL; omega)
        rw [List.getD_eq_getElem?_getD, List.getElem?_eq_getElem hj] at this
        simpa using this)
      go_wp2
      go_ret
      exact ⟨⟨_, rfl, by rw [unhide hfin]; simp⟩, hext⟩

theorem samex_contains (A : Option Addr) (n c : Nat) (l : List (Int × Int)) (q : Addr) (w : World) (R : Row w A n 2 (prs l)) (p : Int × Int → Bool)
    (hp : ∀ k, k < n → ∀ W, Ext w W → Calls Try.prog 64 (#[.agg #[.int .i64 (l.getD k (0, 0)).1, .int .i64 (l.getD k (0, 0)).2]] ++ #[.pointer (some q)]) W fun e w' => e = .returned (.bool (p (l.getD k (0, 0)))) ∧ Ext W w') (hm : n ≤ 4611686018427387904) :
    Calls Try.prog 22 #[.slice A n c, .func (.func 64) #[] #[.pointer (some q)]] w fun e w' => e = .returned (.bool (l.any p)) ∧ Ext w w' := by
  have H := hide (samex_index A n c l q w R p hp hm)
  clear R hp
  generalize l.any p = v at *
  go_enter Try.func22, Try.ntmps22
  go_wp2_with fail
  refine (unhide H).mono ?_
  rintro e w' ⟨⟨n, rfl, hn⟩, E1⟩
  go_wp2
  go_ret
  exact ⟨rfl, E1⟩


theorem samex_any (x y X : Int) (q : Addr) (w : World) (hq : w.cell? q = some (.int .i64 X)) :
    Calls Try.prog 64 #[.agg #[.int .i64 x, .int .i64 y], .pointer (some q)] w fun e w' => e = .returned (.bool (x == X)) ∧ Ext w w' := by
  have hqa : ∀ o, (w.alloc o).cell? q = some (.int .i64 X) := fun o => (World.cell?_alloc_lt w o q (cell_lt hq)).trans hq
  go_enter Try.func64, Try.ntmps64
  go_wp2
  go_ret
  exact ⟨rfl, (by repeat (first | exact Ext.refl _ | refine Ext.alloc ?_ _ | refine Ext.drew ?_ | refine Ext.drewN ?_ _ | (refine Ext.trans ?_ (plus_ext _ _)) | (refine Ext.setCell ?_ (by have := Ext.size Ext.refl _; simp; omega) _)))⟩
def rngP (p : Int) (x : Int × Int) : Bool := decide (x.1 < 0) || decide (p ≤ x.1) || decide (x.2 < 0) || decide (p ≤ x.2)
def errP1 (p : Int) (L : List (Int × Int)) (k : Nat) : Int := if rngP p (L.getD k (0, 0)) = true then 1 else if (L.take k).any (fun y => y.1 == (L.getD k (0, 0)).1) = true then 6 else 0
def errTo (p : Int) (L : List (Int × Int)) : Nat → Int
  | 0 => 0
  | k + 1 => if errTo p L k ≠ 0 then errTo p L k else errP1 p L k
theorem errTo_stay {p : Int} {L : List (Int × Int)} {k : Nat} (h : errTo p L k ≠ 0) : ∀ d, errTo p L (k + d) = errTo p L k
  | 0 => rfl
  | d + 1 => by
    show (if errTo p L (k + d) ≠ 0 then errTo p L (k + d) else errP1 p L (k + d)) = _
    rw [errTo_stay h d, if_pos h]
theorem errTo_at {p : Int} {L : List (Int × Int)} {k n : Nat} (h0 : errTo p L k = 0) (h1 : errP1 p L k ≠ 0) (hk : k < n) : errTo p L n = errP1 p L k := by
  have h2 : errTo p L (k + 1) = errP1 p L k := by
    show (if errTo p L k ≠ 0 then errTo p L k else errP1 p L k) = _
    rw [if_neg (fun h => h h0)]
  have := errTo_stay (p := p) (L := L) (k := k + 1) (by rw [h2]; exact h1) (n - (k + 1))
  rw [show k + 1 + (n - (k + 1)) = n by omega] at this
  rw [this, h2]
open Classical in
noncomputable def errPts (p : Int) (L : List (Int × Int)) : Int := if ¬ FieldB p then 1 else if 12 < L.length then 2 else errTo p L L.length

set_option maxRecDepth 100000 in
set_option maxHeartbeats 2000000 in
theorem PCheck_any (p : Int) (A : Option Addr) (n c : Nat) (L : List (Int × Int)) (w : World) (R : Row w A n 2 (prs L)) (hnc : n ≤ c) (hcap : c ≤ 9223372036854775807) :
    Calls Try.prog 48 #[.int .i64 p, .slice A n c] w fun e w' => e = .returned (.int .i64 (errPts p L)) ∧ Ext w w' := by
  have hlen := R.prn
  obtain ⟨r, hr⟩ : ∃ r, r = errPts p L := ⟨_, rfl⟩
  rw [← hr]
  have HR0 := hide hr
  have CF := hide (fun w : World => Field_any p w)
  clear hr
  by_cases hf : FieldB p
  · rw [errF_yes hf] at CF
    have hp1 : 1 < p := by obtain ⟨q, rfl, hq, -⟩ := hf; have := hq.1; omega
    by_cases h12 : 12 < n
    · have H := hide (show r = 2 by rw [unhide HR0]; unfold errPts; rw [if_neg (fun h => h hf), if_pos (by omega)])
      have h12I : (12 : Int) < (n : Int) := by omega
      clear R hf hlen
      go_enter Try.func48, Try.ntmps48
      go_wp2_with fail
      refine (unhide CF _).mono ?_
      rintro e w' ⟨rfl, rfl⟩
      go_wp2
      go_ret
      exact ⟨ret_int (unhide H).symm, (by repeat (first | exact Ext.refl _ | refine Ext.alloc ?_ _ | refine Ext.drew ?_ | refine Ext.drewN ?_ _ | (refine Ext.trans ?_ (plus_ext _ _)) | (refine Ext.setCell ?_ (by have := Ext.size Ext.refl _; simp; omega) _)))⟩
    · have h12I : ¬ (12 : Int) < (n : Int) := by omega
      have H := hide (show r = errTo p L n by rw [unhide HR0]; unfold errPts; rw [if_neg (fun h => h hf), if_neg (by omega), hlen])
      have HR := hide R
      have HL := hide hlen
      clear R hlen hf HR0
      go_enter Try.func48, Try.ntmps48
      go_wp2_with fail
      refine (unhide CF _).mono ?_
      rintro e w' ⟨rfl, rfl⟩
      go_wp2
      go_loopw [18] (fun i wr => ∃ k : Nat, k ≤ n ∧ i = .int .i64 k ∧ Hid (errTo p L k = 0) ∧ (Ext w' wr ∧ True)) (fun i _ => n - (intOf i).toNat)
      case atStart => exact ⟨0, Nat.zero_le _, rfl, hide rfl, (by repeat (first | exact Ext.refl _ | refine Ext.alloc ?_ _ | refine Ext.drew ?_ | refine Ext.drewN ?_ _ | (refine Ext.trans ?_ (plus_ext _ _)) | (refine Ext.setCell ?_ (by have := Ext.size Ext.refl _; simp; omega) _))), trivial⟩
      case round =>
        obtain ⟨k, hk, rfl, h0, hE⟩ := hrel
        by_cases hlt : k < n
        · obtain ⟨b, o, rfl, hb, hc1, hc2⟩ := ((unhide HR).keep hE.1).pair (k := k) hlt
          have HE1 := hide (fun h1 : errP1 p L k ≠ 0 => (show r = errP1 p L k by rw [unhide H]; exact errTo_at (unhide h0) h1 hlt))
          have HE0 := hide (fun h1 : errP1 p L k = 0 => (show errTo p L (k + 1) = 0 by
            show (if errTo p L k ≠ 0 then errTo p L k else errP1 p L k) = 0
            rw [if_neg (fun h => h (unhide h0)), h1]))
          have HQ : Hid (errP1 p L k = if rngP p (L.getD k (0, 0)) = true then 1 else if (L.take k).any (fun y => y.1 == (L.getD k (0, 0)).1) = true then 6 else 0) := hide rfl
          have CX := hide (fun (W : World) (E : Ext w' W) (q : Addr) (X : Int) (hq : W.cell? q = some (.int .i64 X)) => samex_contains (some ⟨b, o, none⟩) k c (L.take k) q W (by have := ((unhide HR).keep E).take (k := k) (by omega); rwa [prs_take] at this) (fun y => y.1 == X) (fun j hj W' E' => samex_any _ _ X q W' (E'.keep hq)) (by omega))
          generalize L.getD k (0, 0) = x at *
          obtain ⟨X, Y⟩ := x
          dsimp only at hc1 hc2
          clear h0
          by_cases t1 : X < 0
          · have HF := hide (show r = 1 by
              have e : errP1 p L k = 1 := by rw [unhide HQ, if_pos (by simp [rngP, t1])]
              rw [unhide HE1 (by rw [e]; omega), e])
            go_wp2
            go_ret
            exact ⟨ret_int (unhide HF).symm, (by repeat (first | exact hE.1 | refine Ext.alloc ?_ _ | refine Ext.drew ?_ | refine Ext.drewN ?_ _ | (refine Ext.trans ?_ (plus_ext _ _)) | (refine Ext.setCell ?_ (by have := Ext.size hE.1; simp; omega) _)))⟩
          · by_cases t2 : p ≤ X
            · have HF := hide (show r = 1 by
                have e : errP1 p L k = 1 := by rw [unhide HQ, if_pos (by simp [rngP, t2])]
                rw [unhide HE1 (by rw [e]; omega), e])
              go_wp2
              go_ret
              exact ⟨ret_int (unhide HF).symm, (by repeat (first | exact hE.1 | refine Ext.alloc ?_ _ | refine Ext.drew ?_ | refine Ext.drewN ?_ _ | (refine Ext.trans ?_ (plus_ext _ _)) | (refine Ext.setCell ?_ (by have := Ext.size hE.1; simp; omega) _)))⟩
            · by_cases t3 : Y < 0
              · have HF := hide (show r = 1 by
                  have e : errP1 p L k = 1 := by rw [unhide HQ, if_pos (by simp [rngP, t3])]
                  rw [unhide HE1 (by rw [e]; omega), e])
                go_wp2
                go_ret
                exact ⟨ret_int (unhide HF).symm, (by repeat (first | exact hE.1 | refine Ext.alloc ?_ _ | refine Ext.drew ?_ | refine Ext.drewN ?_ _ | (refine Ext.trans ?_ (plus_ext _ _)) | (refine Ext.setCell ?_ (by have := Ext.size hE.1; simp; omega) _)))⟩
              · by_cases t4 : p ≤ Y
                · have HF := hide (show r = 1 by
                    have e : errP1 p L k = 1 := by rw [unhide HQ, if_pos (by simp [rngP, t4])]
                    rw [unhide HE1 (by rw [e]; omega), e])
                  go_wp2
                  go_ret
                  exact ⟨ret_int (unhide HF).symm, (by repeat (first | exact hE.1 | refine Ext.alloc ?_ _ | refine Ext.drew ?_ | refine Ext.drewN ?_ _ | (refine Ext.trans ?_ (plus_ext _ _)) | (refine Ext.setCell ?_ (by have := Ext.size hE.1; simp; omega) _)))⟩
                · have hrg : rngP p (X, Y) = false := by simp [rngP]; omega
                  have HQ2 : Hid (errP1 p L k = if (L.take k).any (fun y => y.1 == X) = true then 6 else 0) := hide (by rw [unhide HQ, if_neg (by rw [hrg]; simp)])
                  have hk0 : (0 : Int) ≤ (k : Int) := by omega
                  have hkc : (k : Int) ≤ (c : Int) := by omega
                  by_cases ha : (L.take k).any (fun y => y.1 == X) = true
                  · have HF := hide (show r = 6 by
                      have e : errP1 p L k = 6 := by rw [unhide HQ2, if_pos ha]
                      rw [unhide HE1 (by rw [e]; omega), e])
                    have CX2 := hide (fun W E q hq => unhide CX W E q X hq)
                    rw [ha] at CX2
                    clear HQ HQ2 HE1 HE0 ha hrg CX
                    go_wp2_with fail
                    refine (unhide CX2 _ (by repeat (first | exact hE.1 | refine Ext.alloc ?_ _ | refine Ext.drew ?_ | refine Ext.drewN ?_ _ | (refine Ext.trans ?_ (plus_ext _ _)) | (refine Ext.setCell ?_ (by have := Ext.size hE.1; simp; omega) _))) _ (by simp [go_sem])).mono ?_
                    rintro e w3 ⟨rfl, E3'⟩
                    have E3 : Ext w' w3 := Ext.trans (by repeat (first | exact hE.1 | refine Ext.alloc ?_ _ | refine Ext.drew ?_ | refine Ext.drewN ?_ _ | (refine Ext.trans ?_ (plus_ext _ _)) | (refine Ext.setCell ?_ (by have := Ext.size hE.1; simp; omega) _))) E3'
                    go_wp2
                    go_ret
                    exact ⟨ret_int (unhide HF).symm, (by repeat (first | exact E3 | refine Ext.alloc ?_ _ | refine Ext.drew ?_ | refine Ext.drewN ?_ _ | (refine Ext.trans ?_ (plus_ext _ _)) | (refine Ext.setCell ?_ (by have := Ext.size E3; simp; omega) _)))⟩
                  · have ha' : (L.take k).any (fun y => y.1 == X) = false := Bool.eq_false_iff.2 ha
                    have HF := hide (show errTo p L (k + 1) = 0 from unhide HE0 (by rw [unhide HQ2, if_neg ha]))
                    have CX2 := hide (fun W E q hq => unhide CX W E q X hq)
                    rw [ha'] at CX2
                    clear HQ HQ2 HE1 HE0 ha ha' hrg CX
                    go_wp2_with fail
                    refine (unhide CX2 _ (by repeat (first | exact hE.1 | refine Ext.alloc ?_ _ | refine Ext.drew ?_ | refine Ext.drewN ?_ _ | (refine Ext.trans ?_ (plus_ext _ _)) | (refine Ext.setCell ?_ (by have := Ext.size hE.1; simp; omega) _))) _ (by simp [go_sem])).mono ?_
                    rintro e w3 ⟨rfl, E3'⟩
                    have E3 : Ext w' w3 := Ext.trans (by repeat (first | exact hE.1 | refine Ext.alloc ?_ _ | refine Ext.drew ?_ | refine Ext.drewN ?_ _ | (refine Ext.trans ?_ (plus_ext _ _)) | (refine Ext.setCell ?_ (by have := Ext.size hE.1; simp; omega) _))) E3'
                    clear E3' hc1 hc2
                    go_wp2
                    go_roundw
                    case rel => exact ⟨k + 1, by omega, by go_num, HF, (by repeat (first | exact E3 | refine Ext.alloc ?_ _ | refine Ext.drew ?_ | refine Ext.drewN ?_ _ | (refine Ext.trans ?_ (plus_ext _ _)) | (refine Ext.setCell ?_ (by have := Ext.size E3; simp; omega) _))), trivial⟩
                    case measure => simp [intOf]; omega
        · obtain rfl : n = k := by omega
          have HF := hide (show r = 0 by rw [unhide H]; exact unhide h0)
          go_wp2
          go_ret
          exact ⟨ret_int (unhide HF).symm, (by repeat (first | exact hE.1 | refine Ext.alloc ?_ _ | refine Ext.drew ?_ | refine Ext.drewN ?_ _ | (refine Ext.trans ?_ (plus_ext _ _)) | (refine Ext.setCell ?_ (by have := Ext.size hE.1; simp; omega) _)))⟩
  · rw [errF_no hf] at CF
    have H := hide (show r = 1 by rw [unhide HR0]; unfold errPts; rw [if_pos hf])
    clear R hf hlen HR0
    go_enter Try.func48, Try.ntmps48
    go_wp2_with fail
    refine (unhide CF _).mono ?_
    rintro e w' ⟨rfl, rfl⟩
    go_wp2
    go_ret
    exact ⟨ret_int (unhide H).symm, (by repeat (first | exact Ext.refl _ | refine Ext.alloc ?_ _ | refine Ext.drew ?_ | refine Ext.drewN ?_ _ | (refine Ext.trans ?_ (plus_ext _ _)) | (refine Ext.setCell ?_ (by have := Ext.size Ext.refl _; simp; omega) _)))⟩

theorem errTo_zero {p : Int} {L : List (Int × Int)} : ∀ n, errTo p L n = 0 ↔ ∀ k, k < n → errP1 p L k = 0
  | 0 => ⟨fun _ k hk => absurd hk (by omega), fun _ => rfl⟩
  | n + 1 => by
    show (if errTo p L n ≠ 0 then errTo p L n else errP1 p L n) = 0 ↔ _
    have ih := errTo_zero (p := p) (L := L) n
    by_cases h : errTo p L n = 0
    · rw [if_neg (fun h' => h' h)]
      constructor
      · intro h1 k hk
        by_cases e : k = n
        · subst e; exact h1
        · exact ih.1 h k (by omega)
      · intro h1; exact h1 n (by omega)
    · rw [if_pos h]
      exact ⟨fun h1 => absurd h1 h, fun h1 => absurd (ih.2 fun k hk => h1 k (by omega)) h⟩
theorem errP1_zero {p : Int} {L : List (Int × Int)} {k : Nat} : errP1 p L k = 0 ↔ rngP p (L.getD k (0, 0)) = false ∧ (L.take k).any (fun y => y.1 == (L.getD k (0, 0)).1) = false := by
  unfold errP1
  cases rngP p (L.getD k (0, 0)) <;> cases (L.take k).any (fun y => y.1 == (L.getD k (0, 0)).1) <;> simp
theorem take_any {L : List (Int × Int)} {k : Nat} {X : Int} (hk : k ≤ L.length) : (L.take k).any (fun y => y.1 == X) = false ↔ ∀ j, j < k → (L.getD j (0, 0)).1 ≠ X := by
  rw [List.any_eq_false]
  constructor
  · intro h j hj e
    refine h (L.getD j (0, 0)) ?_ (by simpa using e)
    rw [List.mem_take_iff_getElem]
    exact ⟨j, by omega, by rw [List.getD_eq_getElem?_getD, List.getElem?_eq_getElem (by omega)]; rfl⟩
  · intro h x hx e
    rw [List.mem_take_iff_getElem] at hx
    obtain ⟨j, hj, rfl⟩ := hx
    refine h j (by omega) ?_
    rw [List.getD_eq_getElem?_getD, List.getElem?_eq_getElem (by omega)]
    simpa using e
theorem pts_of_zero {p : Int} {L : List (Int × Int)} (h : errPts p L = 0) : ∃ P : Wm.Pr, p = P.p ∧ P.p ≤ 997 ∧ PtsOk P L := by
  unfold errPts at h
  by_cases hf : FieldB p
  · rw [if_neg (fun h => h hf)] at h
    by_cases h12 : 12 < L.length
    · rw [if_pos h12] at h; omega
    · rw [if_neg h12] at h
      obtain ⟨q, rfl, hq, h9⟩ := hf
      have h1 := (errTo_zero _).1 h
      refine ⟨⟨q, hq⟩, rfl, h9, by omega, fun x hx => ?_, fun i j hi hj e => ?_⟩
      · obtain ⟨k, hk, rfl⟩ := List.getElem_of_mem hx
        have := (errP1_zero.1 (h1 k hk)).1
        rw [List.getD_eq_getElem?_getD, List.getElem?_eq_getElem hk] at this
        simp [rngP] at this
        show _ ∧ _
        dsimp only
        omega
      · rcases Nat.lt_trichotomy i j with hij | hij | hij
        · exact absurd e ((take_any (by omega)).1 (errP1_zero.1 (h1 j hj)).2 i hij)
        · exact hij
        · exact absurd e.symm ((take_any (by omega)).1 (errP1_zero.1 (h1 i hi)).2 j hij)
  · rw [if_pos hf] at h; omega
theorem pts_zero {P : Wm.Pr} (h9 : P.p ≤ 997) {L : List (Int × Int)} (h : PtsOk P L) : errPts P.p L = 0 := by
  unfold errPts
  rw [if_neg (fun h => h ⟨P.p, rfl, P.hp, h9⟩), if_neg (by have := h.len; omega)]
  refine (errTo_zero _).2 fun k hk => errP1_zero.2 ⟨?_, (take_any (by omega)).2 fun j hj e => ?_⟩
  · have := h.rng _ (getD_mem L (0, 0) hk)
    unfold rngP
    rw [decide_eq_false (by omega), decide_eq_false (by omega), decide_eq_false (by omega), decide_eq_false (by omega)]; rfl
  · have := h.dst j k (by omega) hk e
    omega
theorem PCheck_ok (P : Wm.Pr) (h9 : P.p ≤ 997) (A : Option Addr) (n c : Nat) (L : List (Int × Int)) (w : World) (R : Row w A n 2 (prs L)) (hnc : n ≤ c) (hcap : c ≤ 9223372036854775807) (h : PtsOk P L) :
    Calls Try.prog 48 #[.int .i64 P.p, .slice A n c] w fun e w' => e = .returned (.int .i64 0) ∧ Ext w w' := by
  have := PCheck_any P.p A n c L w R hnc hcap
  rwa [pts_zero h9 h] at this
end Go.Proofs.Ytojjcdbphmcmeaa
