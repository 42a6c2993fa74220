/-
  The contracts of poly.Field, Check, checks and Trim.
-/
import Derived.Test.YtahchidghfeofaaZp0
import Derived.Test.YtahchidghfeofaaApp
import Derived.Test.YtahchidghfeofaaMake
import Derived.Test.YtahchidghfeofaaPrime1
import Derived.Test.YtahchidghfeofaaArith1
import Derived.Test.YtahchidghfeofaaHead
import Derived.Test.YtahchidghfeofaaTri
import Derived.Deep.AppendLies
import Derived.BigRegion
import Derived.Deep.Cut
import Derived.Deep.CutRange
import Derived.Deep.RegionHeld3
import Derived.Deep.RegionLaw
set_option linter.unusedVariables false
set_option linter.unusedSimpArgs false
namespace Go.Proofs.Ytahchidghfeofaa
open Go.RowKit Go.BigFrame

theorem num_eqQ {K : IntKind} {a b : Int} (h : a = b) : Value.int K a = Value.int K b := by rw [h]
theorem intQ : EInfo Try.prog 22 3 (.int .i64 0) 1 8 := EInfo.mk_ Try.underlying22 (by kernel_rfl) rfl (by omega)
theorem nats_ints (l : List Nat) : nats .i64 l = ints (l.map fun (x : Nat) => (x : Int)) := by simp [nats, ints]
theorem nats_one (K : IntKind) (l : List Nat) : ∀ u ∈ nats K l, u.oneCell' = true := by
  intro u hu
  obtain ⟨x, -, rfl⟩ := List.mem_map.1 hu
  rfl
theorem ints_one (l : List Int) : ∀ u ∈ ints l, u.oneCell' = true := by
  intro u hu
  obtain ⟨x, -, rfl⟩ := List.mem_map.1 hu
  rfl

/-- A slice of numbers: how it stands. -/
structure Pv (w : World) (A : Option Addr) (n c : Nat) (l : List Nat) : Prop where
  row : Row w A n 1 (nats .i64 l)
  le : n ≤ c
  cap : c ≤ 9223372036854775807
  nil : A = none → n = 0 ∧ c = 0
theorem Pv.keep {w w' : World} {A : Option Addr} {n c : Nat} {l : List Nat} (h : Pv w A n c l) (E : Ext w w') : Pv w' A n c l := ⟨h.row.keep E, h.le, h.cap, h.nil⟩
theorem Pv.len {w : World} {A : Option Addr} {n c : Nat} {l : List Nat} (h : Pv w A n c l) : l.length = n := h.row.numN
theorem Made.pv {w : World} {base n : Nat} {e : TypeId} {v : Value} {l : List Nat} (h : Made w base e 1 v n (nats .i64 l)) : ∃ A c, v = .slice A n c ∧ Pv w A n c l := by
  have ho := h.open_
  obtain ⟨A, c, rfl, R, h1, h2, -⟩ := ho
  refine ⟨A, c, rfl, R, h1, by unfold maxLen at h2; exact h2, fun hA => ?_⟩
  subst hA
  rcases h.2 with ⟨h3, h4⟩ | ⟨g, c', cur, h3, -⟩
  · injection h3 with _ _ h5
    exact ⟨h4, h5⟩
  · injection h3 with h5
    cases h5
/-- Where a slice lies. -/
def Blk (w : World) (A : Option Addr) : Prop := A = none ∨ ∃ g o, A = some ⟨g, o, none⟩ ∧ g < w.heap.size
theorem Blk.keep {w w' : World} {A : Option Addr} (h : Blk w A) (E : Ext w w') : Blk w' A := by
  rcases h with h | ⟨g, o, h, hg⟩
  · exact .inl h
  · exact .inr ⟨g, o, h, Nat.lt_of_lt_of_le hg E.size⟩
theorem Made.blk {w : World} {base n sz : Nat} {e : TypeId} {A : Option Addr} {m c : Nat} {xs : List Value} (h : Made w base e sz (.slice A m c) n xs) : Blk w A := by
  have hl := h.lt
  rcases h.2 with ⟨h3, -⟩ | ⟨g, c', cur, h3, -⟩
  · injection h3 with h3
    exact .inl h3
  · injection h3 with h3
    subst h3
    exact .inr ⟨g, 0, rfl, (hl g rfl).2⟩
theorem Pv.none_ (w : World) : Pv w none 0 0 [] := ⟨Row.none_, Nat.le_refl _, by omega, fun _ => ⟨rfl, rfl⟩⟩

def FieldB (p : Int) : Prop := ∃ q : Nat, p = (q : Int) ∧ Wm.Prime q ∧ q ≤ 997
open Classical in
noncomputable def errF (p : Int) : Int := if FieldB p then 0 else 1
theorem errF_yes {p : Int} (h : FieldB p) : errF p = 0 := if_pos h
theorem errF_no {p : Int} (h : ¬ FieldB p) : errF p = 1 := if_neg h

theorem Field_any (p : Int) (w : World) : Calls Try.prog 32 #[.int .i64 p] w fun e w' => e = .returned (.int .i64 (errF p)) ∧ w' = w := by
  by_cases hr : 0 ≤ p ∧ p ≤ 1000000
  · obtain ⟨q, rfl⟩ : ∃ q : Nat, p = (q : Int) := ⟨p.toNat, by omega⟩
    have C := hide (fun w : World => Is_ok q (by omega) w)
    by_cases hp : Wm.Prime q
    · rw [Wm.isp_true hp] at C
      by_cases h9 : q ≤ 997
      · rw [errF_yes ⟨q, rfl, hp, h9⟩]
        clear hr hp
        have h9' : ¬ (997 : Int) < (q : Int) := by omega
        go_enter Try.func32, Try.ntmps32
        go_wp2_with fail
        refine (unhide C _).mono ?_
        rintro e w' ⟨rfl, rfl⟩
        go_wp2
        go_ret
        exact ⟨rfl, rfl⟩
      · rw [errF_no (fun h => by obtain ⟨r, e, -, h⟩ := h; omega)]
        clear hr hp
        have h9' : (997 : Int) < (q : Int) := by omega
        go_enter Try.func32, Try.ntmps32
        go_wp2_with fail
        refine (unhide C _).mono ?_
        rintro e w' ⟨rfl, rfl⟩
        go_wp2
        go_ret
        exact ⟨rfl, rfl⟩
    · rw [Wm.isp_false hp] at C
      have hno : ¬ FieldB (q : Int) := fun h => by
        obtain ⟨r, e, h, -⟩ := h
        obtain rfl : q = r := by omega
        exact hp h
      rw [errF_no hno]
      clear hno
      clear hr hp
      go_enter Try.func32, Try.ntmps32
      go_wp2_with fail
      refine (unhide C _).mono ?_
      rintro e w' ⟨rfl, rfl⟩
      go_wp2
      go_ret
      exact ⟨rfl, rfl⟩
  · have C := hide (fun w : World => Is_bad p (by omega) w)
    rw [errF_no (by rintro ⟨r, e, -, h⟩; omega)]
    clear hr
    go_enter Try.func32, Try.ntmps32
    go_wp2_with fail
    refine (unhide C _).mono ?_
    rintro e w' ⟨rfl, rfl⟩
    go_wp2
    go_ret
    exact ⟨rfl, rfl⟩


set_option maxRecDepth 100000 in
set_option maxHeartbeats 1000000 in
theorem rng_index (A : Option Addr) (n c : Nat) (l : List Int) (q : Addr) (w : World) (R : Row w A n 1 (ints l)) (p : Int → Bool)
    (hp : ∀ k, k < n → ∀ W, Ext w W → Calls Try.prog 45 (#[.int .i64 (l.getD k 0)] ++ #[.pointer (some q)]) W fun e w' => e = .returned (.bool (p (l.getD k 0))) ∧ Ext W w') (hm : n ≤ 4611686018427387904) :
    Calls Try.prog 50 #[.slice A n c, .func (.func 45) #[] #[.pointer (some q)]] w fun e w' => (∃ r : Int, e = .returned (.int .i64 r) ∧ decide (0 ≤ r) = l.any p) ∧ Ext w w' := by
  have HP := hide hp
  have HL := hide R.num
  have HR := hide R
  clear hp R
  go_enter Try.func50, Try.ntmps50
  go_wp2
  go_loopw [8] (fun i wr => ∃ k : Nat, k ≤ n ∧ i = .int .i64 k ∧ Hid (∀ j, j < k → p (l.getD j 0) = false) ∧ Ext w wr) (fun i _ => n - (intOf i).toNat)
  case atStart => exact ⟨0, by omega, rfl, hide (fun j h => absurd h (by omega)), Ext.refl _⟩
  case round =>
    obtain ⟨k, hk, rfl, hz, hext⟩ := hrel
    by_cases hlt : k < n
    · obtain ⟨b, o, rfl, hb, c1⟩ := ((unhide HR).keep hext).int hlt
      have hpk := unhide HP k hlt
      have hmem := getD_mem l 0 (k := k) (by rw [unhide HL]; exact hlt)
      have hzk := hide (fun (h : p (l.getD k 0) = false) j (hj : j < k + 1) => (show p (l.getD j 0) = false from by
        by_cases h' : j < k
        · exact unhide hz j h'
        · obtain rfl : j = k := by omega
          exact h))
      have hfin := hide (fun (h : p (l.getD k 0) = true) => (List.any_eq_true.2 ⟨_, hmem, h⟩ : l.any p = true))
      clear hmem
      generalize hq : p (l.getD k 0) = q at *
      clear hq
      generalize l.getD k 0 = x at *
      have HQ := hide hpk
      clear hpk
      cases q with
      | false =>
        have hz2 := hide (unhide hzk rfl)
        clear hzk hfin
        go_wp2_with (go_at_call 45; refine (unhide HQ _ hext).mono ?_; rintro e w' ⟨rfl, E1⟩)
        go_roundw
        case rel => exact ⟨k + 1, by omega, by go_num, hz2, hext.trans E1⟩
        case measure => simp [intOf]; omega
      | true =>
        have hf2 := hide (unhide hfin rfl)
        clear hzk hfin
        go_wp2_with (go_at_call 45; refine (unhide HQ _ hext).mono ?_; rintro e w' ⟨rfl, E1⟩)
        go_ret
        exact ⟨⟨_, rfl, by rw [unhide hf2]; simp⟩, hext.trans E1⟩
    · have hfin := hide (show l.any p = false by
        rw [List.any_eq_false]
        intro x hx
        obtain ⟨j, hj, rfl⟩ := List.getElem_of_mem hx
        have := unhide hz j (by have := unhide HL; omega)
        rw [List.getD_eq_getElem?_getD, List.getElem?_eq_getElem hj] at this
        simpa using this)
      go_wp2
      go_ret
      exact ⟨⟨_, rfl, by rw [unhide hfin]; simp⟩, hext⟩

theorem rng_contains (A : Option Addr) (n c : Nat) (l : List Int) (q : Addr) (w : World) (R : Row w A n 1 (ints l)) (p : Int → Bool)
    (hp : ∀ k, k < n → ∀ W, Ext w W → Calls Try.prog 45 (#[.int .i64 (l.getD k 0)] ++ #[.pointer (some q)]) W fun e w' => e = .returned (.bool (p (l.getD k 0))) ∧ Ext W w') (hm : n ≤ 4611686018427387904) :
    Calls Try.prog 44 #[.slice A n c, .func (.func 45) #[] #[.pointer (some q)]] w fun e w' => e = .returned (.bool (l.any p)) ∧ Ext w w' := by
  have H := hide (rng_index A n c l q w R p hp hm)
  clear R hp
  generalize l.any p = v at *
  go_enter Try.func44, Try.ntmps44
  go_wp2_with fail
  refine (unhide H).mono ?_
  rintro e w' ⟨⟨n, rfl, hn⟩, E1⟩
  go_wp2
  go_ret
  exact ⟨rfl, E1⟩


def outB (p c : Int) : Bool := decide (c < 0) || decide (p ≤ c)
theorem out_any (p x : Int) (q : Addr) (w : World) (hq : w.cell? q = some (.int .i64 p)) :
    Calls Try.prog 45 #[.int .i64 x, .pointer (some q)] w fun e w' => e = .returned (.bool (outB p x)) ∧ Ext w w' := by
  unfold outB
  by_cases h : x < 0
  · go_enter Try.func45, Try.ntmps45
    go_wp2
    go_ret
    exact ⟨ret_boolv (by simp [h]), (by repeat (first | exact Ext.refl _ | refine Ext.alloc ?_ _ | refine Ext.drew ?_ | refine Ext.drewN ?_ _ | (refine Ext.trans ?_ (plus_ext _ _)) | (refine Ext.setCell ?_ (by have := Ext.size Ext.refl _; simp; omega) _)))⟩
  · have h' : decide (x < 0) = false := decide_eq_false h
    go_enter Try.func45, Try.ntmps45
    go_wp2
    go_ret
    exact ⟨ret_boolv (by simp [h']), (by repeat (first | exact Ext.refl _ | refine Ext.alloc ?_ _ | refine Ext.drew ?_ | refine Ext.drewN ?_ _ | (refine Ext.trans ?_ (plus_ext _ _)) | (refine Ext.setCell ?_ (by have := Ext.size Ext.refl _; simp; omega) _)))⟩

open Classical in
noncomputable def errC (p : Int) (l : List Int) : Int :=
  if ¬ FieldB p then 1 else if 40 < l.length then 2 else if l.any (outB p) = true then 1 else if l ≠ [] ∧ l.getD (l.length - 1) 0 = 0 then 3 else 0

set_option maxRecDepth 100000 in
set_option maxHeartbeats 1000000 in
theorem Check_any (p : Int) (A : Option Addr) (n c : Nat) (l : List Int) (w : World) (R : Row w A n 1 (ints l)) (hn : n ≤ 4611686018427387904) :
    Calls Try.prog 34 #[.int .i64 p, .slice A n c] w fun e w' => e = .returned (.int .i64 (errC p l)) ∧ Ext w w' := by
  have hlen := R.num
  have CF := hide (fun w : World => Field_any p w)
  by_cases hf : FieldB p
  · rw [errF_yes hf] at CF
    by_cases h40 : 40 < n
    · have hr : errC p l = 2 := by unfold errC; rw [if_neg (fun h => h hf), if_pos (by omega)]
      rw [hr]
      have h40' : (40 : Int) < (n : Int) := by omega
      clear hr hf R hlen
      go_enter Try.func34, Try.ntmps34
      go_wp2_with fail
      refine (unhide CF _).mono ?_
      rintro e w' ⟨rfl, rfl⟩
      go_wp2
      go_ret
      exact ⟨rfl, (by repeat (first | exact Ext.refl _ | refine Ext.alloc ?_ _ | refine Ext.drew ?_ | refine Ext.drewN ?_ _ | (refine Ext.trans ?_ (plus_ext _ _)) | (refine Ext.setCell ?_ (by have := Ext.size Ext.refl _; simp; omega) _)))⟩
    · have h40' : ¬ (40 : Int) < (n : Int) := by omega
      have CX := hide (fun (W : World) (E : Ext w W) (q : Addr) (hq : W.cell? q = some (.int .i64 p)) => rng_contains A n c l q W (R.keep E) (outB p) (fun k hk W' E' => out_any p _ q W' (E'.keep hq)) hn)
      by_cases ho : l.any (outB p) = true
      · have hr : errC p l = 1 := by unfold errC; rw [if_neg (fun h => h hf), if_neg (by omega), if_pos ho]
        rw [hr]
        rw [ho] at CX
        clear hr hf R hlen ho
        go_enter Try.func34, Try.ntmps34
        go_wp2_with fail
        refine (unhide CF _).mono ?_
        rintro e w' ⟨rfl, rfl⟩
        go_wp2_with fail
        refine (unhide CX _ (by repeat (first | exact Ext.refl w | refine Ext.alloc ?_ _ | refine Ext.drew ?_ | refine Ext.drewN ?_ _ | (refine Ext.trans ?_ (plus_ext _ _)) | (refine Ext.setCell ?_ (by have := Ext.size Ext.refl w; simp; omega) _))) _ (by simp [go_sem])).mono ?_
        rintro e w' ⟨rfl, E1⟩
        go_wp2
        go_ret
        exact ⟨rfl, Ext.trans (by repeat (first | exact Ext.refl w | refine Ext.alloc ?_ _ | refine Ext.drew ?_ | refine Ext.drewN ?_ _ | (refine Ext.trans ?_ (plus_ext _ _)) | (refine Ext.setCell ?_ (by have := Ext.size Ext.refl w; simp; omega) _))) E1⟩
      · have ho' : l.any (outB p) = false := by simpa using ho
        rw [ho'] at CX
        by_cases hn0 : n = 0
        · subst hn0
          have hr : errC p l = 0 := by unfold errC; rw [if_neg (fun h => h hf), if_neg (by omega), if_neg ho, if_neg (fun h => h.1 (List.eq_nil_of_length_eq_zero (by omega)))]
          rw [hr]
          clear hr hf R hlen ho ho'
          go_enter Try.func34, Try.ntmps34
          go_wp2_with fail
          refine (unhide CF _).mono ?_
          rintro e w' ⟨rfl, rfl⟩
          go_wp2_with fail
          refine (unhide CX _ (by repeat (first | exact Ext.refl w | refine Ext.alloc ?_ _ | refine Ext.drew ?_ | refine Ext.drewN ?_ _ | (refine Ext.trans ?_ (plus_ext _ _)) | (refine Ext.setCell ?_ (by have := Ext.size Ext.refl w; simp; omega) _))) _ (by simp [go_sem])).mono ?_
          rintro e w' ⟨rfl, E1⟩
          go_wp2
          go_ret
          exact ⟨rfl, Ext.trans (by repeat (first | exact Ext.refl w | refine Ext.alloc ?_ _ | refine Ext.drew ?_ | refine Ext.drewN ?_ _ | (refine Ext.trans ?_ (plus_ext _ _)) | (refine Ext.setCell ?_ (by have := Ext.size Ext.refl w; simp; omega) _))) E1⟩
        · obtain ⟨b, o, rfl, hb, hc⟩ := R.int (k := n - 1) (by omega)
          have hnI : (0 : Int) < (n : Int) := by omega
          have hn1 : ((n - 1 : Nat) : Int) = (n : Int) - 1 := by omega
          have hne : l ≠ [] := fun h => hn0 (by rw [← hlen, h]; rfl)
          by_cases hz : l.getD (n - 1) 0 = 0
          · have hr : errC p l = 3 := by unfold errC; rw [if_neg (fun h => h hf), if_neg (by omega), if_neg ho, if_pos ⟨hne, by rw [hlen]; exact hz⟩]
            rw [hr]
            rw [hz] at hc
            clear hr hf R hlen ho ho' hz hne
            go_enter Try.func34, Try.ntmps34
            go_wp2_with fail
            refine (unhide CF _).mono ?_
            rintro e w' ⟨rfl, rfl⟩
            go_wp2_with fail
            refine (unhide CX _ (by repeat (first | exact Ext.refl w | refine Ext.alloc ?_ _ | refine Ext.drew ?_ | refine Ext.drewN ?_ _ | (refine Ext.trans ?_ (plus_ext _ _)) | (refine Ext.setCell ?_ (by have := Ext.size Ext.refl w; simp; omega) _))) _ (by simp [go_sem])).mono ?_
            rintro e w' ⟨rfl, E1⟩
            have E2 : Ext w w' := Ext.trans (by repeat (first | exact Ext.refl w | refine Ext.alloc ?_ _ | refine Ext.drew ?_ | refine Ext.drewN ?_ _ | (refine Ext.trans ?_ (plus_ext _ _)) | (refine Ext.setCell ?_ (by have := Ext.size Ext.refl w; simp; omega) _))) E1
            have hc' := E2.keep hc
            clear hc
            go_wp2
            go_ret
            exact ⟨rfl, (by repeat (first | exact E2 | refine Ext.alloc ?_ _ | refine Ext.drew ?_ | refine Ext.drewN ?_ _ | (refine Ext.trans ?_ (plus_ext _ _)) | (refine Ext.setCell ?_ (by have := Ext.size E2; simp; omega) _)))⟩
          · have hr : errC p l = 0 := by unfold errC; rw [if_neg (fun h => h hf), if_neg (by omega), if_neg ho, if_neg (fun h => hz (by rw [← hlen]; exact h.2))]
            rw [hr]
            generalize l.getD (n - 1) 0 = x at *
            have hz' : (x == 0) = false := by rw [beq_eq_false_iff_ne]; exact hz
            clear hr hf R hlen ho ho' hne
            go_enter Try.func34, Try.ntmps34
            go_wp2_with fail
            refine (unhide CF _).mono ?_
            rintro e w' ⟨rfl, rfl⟩
            go_wp2_with fail
            refine (unhide CX _ (by repeat (first | exact Ext.refl w | refine Ext.alloc ?_ _ | refine Ext.drew ?_ | refine Ext.drewN ?_ _ | (refine Ext.trans ?_ (plus_ext _ _)) | (refine Ext.setCell ?_ (by have := Ext.size Ext.refl w; simp; omega) _))) _ (by simp [go_sem])).mono ?_
            rintro e w' ⟨rfl, E1⟩
            have E2 : Ext w w' := Ext.trans (by repeat (first | exact Ext.refl w | refine Ext.alloc ?_ _ | refine Ext.drew ?_ | refine Ext.drewN ?_ _ | (refine Ext.trans ?_ (plus_ext _ _)) | (refine Ext.setCell ?_ (by have := Ext.size Ext.refl w; simp; omega) _))) E1
            have hc' := E2.keep hc
            clear hc
            go_wp2
            go_ret
            exact ⟨rfl, (by repeat (first | exact E2 | refine Ext.alloc ?_ _ | refine Ext.drew ?_ | refine Ext.drewN ?_ _ | (refine Ext.trans ?_ (plus_ext _ _)) | (refine Ext.setCell ?_ (by have := Ext.size E2; simp; omega) _)))⟩
  · have hr : errC p l = 1 := by unfold errC; rw [if_pos hf]
    rw [errF_no hf] at CF
    rw [hr]
    clear hr hf R hlen
    go_enter Try.func34, Try.ntmps34
    go_wp2_with fail
    refine (unhide CF _).mono ?_
    rintro e w' ⟨rfl, rfl⟩
    go_wp2
    go_ret
    exact ⟨rfl, (by repeat (first | exact Ext.refl _ | refine Ext.alloc ?_ _ | refine Ext.drew ?_ | refine Ext.drewN ?_ _ | (refine Ext.trans ?_ (plus_ext _ _)) | (refine Ext.setCell ?_ (by have := Ext.size Ext.refl _; simp; omega) _)))⟩

noncomputable def errCC (p : Int) (l m : List Int) : Int := if errC p l ≠ 0 then errC p l else errC p m
theorem checks_any (p : Int) (A B : Option Addr) (n c m d : Nat) (f g : List Int) (w : World) (R : Row w A n 1 (ints f)) (S : Row w B m 1 (ints g)) (hn : n ≤ 4611686018427387904) (hm : m ≤ 4611686018427387904) :
    Calls Try.prog 22 #[.int .i64 p, .slice A n c, .slice B m d] w fun e w' => e = .returned (.int .i64 (errCC p f g)) ∧ Ext w w' := by
  have C1 := hide (Check_any p A n c f w R hn)
  have C2 := hide (fun (W : World) (E : Ext w W) => Check_any p B m d g W (S.keep E) hm)
  unfold errCC
  by_cases h : errC p f = 0
  · rw [if_neg (fun e => e h)]
    rw [h] at C1
    generalize errC p g = y at *
    clear R S h
    go_enter Try.func22, Try.ntmps22
    go_wp2_with fail
    refine (unhide C1).mono ?_
    rintro e w1 ⟨rfl, E1⟩
    go_wp2_with fail
    refine (unhide C2 _ (by repeat (first | exact E1 | refine Ext.alloc ?_ _ | refine Ext.drew ?_ | refine Ext.drewN ?_ _ | (refine Ext.trans ?_ (plus_ext _ _)) | (refine Ext.setCell ?_ (by have := Ext.size E1; simp; omega) _)))).mono ?_
    rintro e w2 ⟨rfl, E2⟩
    go_wp2
    go_ret
    exact ⟨rfl, Ext.trans (by repeat (first | exact E1 | refine Ext.alloc ?_ _ | refine Ext.drew ?_ | refine Ext.drewN ?_ _ | (refine Ext.trans ?_ (plus_ext _ _)) | (refine Ext.setCell ?_ (by have := Ext.size E1; simp; omega) _))) E2⟩
  · rw [if_pos h]
    generalize errC p f = y at *
    have hy : (y != 0) = true := by rw [bne_iff_ne]; exact h
    clear R S C2
    go_enter Try.func22, Try.ntmps22
    go_wp2_with fail
    refine (unhide C1).mono ?_
    rintro e w1 ⟨rfl, E1⟩
    go_wp2
    go_ret
    exact ⟨rfl, (by repeat (first | exact E1 | refine Ext.alloc ?_ _ | refine Ext.drew ?_ | refine Ext.drewN ?_ _ | (refine Ext.trans ?_ (plus_ext _ _)) | (refine Ext.setCell ?_ (by have := Ext.size E1; simp; omega) _)))⟩
theorem errC_isP {P : Wm.Pr} (h9 : P.p ≤ 997) {l : List Nat} (h : Wm.IsP P.p l) (h40 : l.length ≤ 40) : errC (P.p : Int) (l.map fun (x : Nat) => (x : Int)) = 0 := by
  unfold errC
  rw [if_neg (fun h => h ⟨P.p, rfl, P.hp, h9⟩), if_neg (by rw [List.length_map]; omega), if_neg, if_neg]
  · rintro ⟨h1, h2⟩
    have hl : l ≠ [] := fun e => h1 (by rw [e]; rfl)
    have h3 := h.2 hl
    rw [List.length_map, List.getD_eq_getElem?_getD, List.getElem?_map] at h2
    rw [List.getD_eq_getElem?_getD] at h3
    cases e : l[l.length - 1]? with
    | none => rw [e] at h3; exact h3 rfl
    | some x => rw [e] at h2 h3; simp at h2 h3; omega
  · rw [List.any_eq_true]
    rintro ⟨x, hx, ho⟩
    obtain ⟨y, hy, rfl⟩ := List.mem_map.1 hx
    have := h.1 y hy
    simp [outB] at ho
    omega
theorem errCC_isP {P : Wm.Pr} (h9 : P.p ≤ 997) {l m : List Nat} (h : Wm.IsP P.p l) (h40 : l.length ≤ 40) (h' : Wm.IsP P.p m) (h40' : m.length ≤ 40) : errCC (P.p : Int) (l.map fun (x : Nat) => (x : Int)) (m.map fun (x : Nat) => (x : Int)) = 0 := by
  unfold errCC
  rw [if_neg (fun e => e (errC_isP h9 h h40)), errC_isP h9 h' h40']
theorem checks_ok (P : Wm.Pr) (h9 : P.p ≤ 997) (A B : Option Addr) (n c m d : Nat) (f g : List Nat) (w : World) (R : Pv w A n c f) (S : Pv w B m d g) (hf : Wm.IsP P.p f) (hn : n ≤ 40) (hg : Wm.IsP P.p g) (hm : m ≤ 40) :
    Calls Try.prog 22 #[.int .i64 P.p, .slice A n c, .slice B m d] w fun e w' => e = .returned (.int .i64 0) ∧ Ext w w' := by
  have h1 := R.len
  have h2 := S.len
  have := checks_any P.p A B n c m d _ _ w (by rw [← nats_ints]; exact R.row) (by rw [← nats_ints]; exact S.row) (by omega) (by omega)
  rwa [errCC_isP h9 hf (by omega) hg (by omega)] at this
theorem Check_ok (P : Wm.Pr) (h9 : P.p ≤ 997) (A : Option Addr) (n c : Nat) (f : List Nat) (w : World) (R : Pv w A n c f) (hf : Wm.IsP P.p f) (hn : n ≤ 40) :
    Calls Try.prog 34 #[.int .i64 P.p, .slice A n c] w fun e w' => e = .returned (.int .i64 0) ∧ Ext w w' := by
  have h1 := R.len
  have := Check_any P.p A n c _ w (by rw [← nats_ints]; exact R.row) (by omega)
  rwa [errC_isP h9 hf (by omega)] at this


set_option maxRecDepth 100000 in
set_option maxHeartbeats 1000000 in
theorem clone_q (A : Option Addr) (n c : Nat) (xs : List Value) (w : World) (R : Row w A n 1 xs) (h1 : ∀ u ∈ xs, u.oneCell' = true) (hb : n * 8 ≤ 140737488355328) (hnil : A = none → n = 0 ∧ c = 0) :
    Calls Try.prog 36 #[.slice A n c] w fun e w' => (∃ v, e = .returned v ∧ w'.ownsRow w.heap.size 3 1 v n xs) ∧ Ext w w' := by
  have hi0 : (Try.prog.info? 3).map (fun i => (i.zero, i.size, i.bytes)) = some (some (.int .i64 0), 1, 8) := by kernel_rfl
  obtain ⟨i0, hi, hz0, hz1, hz2⟩ := info_parts hi0
  cases A with
  | none =>
    obtain ⟨rfl, rfl⟩ := hnil rfl
    obtain rfl := R.empty
    have heq := fun w : World => Lib.run_eql_slice_nil w 22 3 none 0 0 0 0 Try.underlying22
    go_enter Try.func36, Try.ntmps36
    go_wp2
    go_ret
    exact ⟨⟨_, rfl, World.ownsRow_nil _ _ _ _⟩, Ext.refl _⟩
  | some ad =>
    have heq := fun w : World => Lib.run_eql_slice_nil w 22 3 (some ad) n c 0 0 Try.underlying22
    have hr := R.2
    have hl := R.1
    have hown := World.ownsRow_lit (base := w.heap.size) (e := 3) (size := 1) w #[] 0 (Nat.le_refl _) (by unfold maxLen; omega) rfl
    have HR := hide hr
    have HL := hide hl
    clear R hnil hr hl
    go_enter Try.func36, Try.ntmps36
    go_wp2_with (at_builtin; refine wpList_append_own _ rfl _ _ 22 rfl w.heap.size 3 i0 (.int .i64 0) 1 8 Try.underlying22 hi hz0 hz1 hz2 rfl (by decide) _ _ _ rfl hown ad n c xs rfl (unhide HL) ?c1 h1 (by unfold maxLen; omega) (by omega) (by simp) ?_)
    case c1 =>
      intro j u hj
      have hjn : j < n * 1 := by
        have := (List.getElem?_eq_some_iff.1 hj).1
        have := unhide HL
        omega
      obtain ⟨b, o, e, hb, hc⟩ := unhide HR (by omega)
      injection e with e
      subst e
      have hj' := (hc j hjn).trans hj
      have : (⟨b, o, none⟩ : Addr).add j = ⟨b, o + j, none⟩ := by
        unfold Addr.add
        split
        · rename_i h0; simp [h0]
        · rfl
      rw [this]
      exact (World.cell?_alloc_lt _ _ _ hb).trans hj'
    intro v' w' hown' hgrow _
    have hown2 : w'.ownsRow w.heap.size 3 1 v' n xs := by simpa using hown'
    have E1 : Ext w w' := ((Ext.refl w).alloc _).grown hgrow (fun q hq => by simp [Value.ownBlock] at hq; omega)
    clear hgrow
    go_wp2
    go_ret
    exact ⟨⟨_, rfl, hown2⟩, E1⟩


set_option maxRecDepth 100000 in
set_option maxHeartbeats 1000000 in
theorem Trim_ok (A : Option Addr) (n c : Nat) (l : List Nat) (w : World) (R : Pv w A n c l) (hn : n ≤ 100000) :
    Calls Try.prog 35 #[.slice A n c] w fun e w' => (∃ v, e = .returned v ∧ Made w' w.heap.size 3 1 v (Wm.trimL l).length (nats .i64 (Wm.trimL l))) ∧ Ext w w' := by
  obtain ⟨F, hF⟩ : ∃ F, F = Wm.trimL l := ⟨_, rfl⟩
  rw [← hF]
  have HF := hide hF
  clear hF
  have hlen := R.len
  have HR := hide R
  have hc := R.cap
  have hnc := R.le
  clear R
  go_enter Try.func35, Try.ntmps35
  go_wp2
  go_loopw [0] (fun v wr => ∃ k : Nat, k ≤ n ∧ v = .slice A k c ∧ Hid (Wm.trimN l k = F) ∧ ∃ d, wr = w.drewN d) (fun v _ => match v with | .slice _ k _ => k | _ => 0)
  case atStart => exact ⟨n, Nat.le_refl _, rfl, hide (by rw [unhide HF]; unfold Wm.trimL; rw [hlen]), 0, rfl⟩
  case round =>
    obtain ⟨k, hk, rfl, ht, d, rfl⟩ := hrel
    by_cases h0 : k = 0
    · subst h0
      have hnil := hide (show F = [] from (unhide ht).symm)
      have CC := hide (fun (W : World) (E : Ext w W) => clone_q A 0 c [] W (by have := ((unhide HR).keep E).row.take (k := 0) (by omega); simpa using this) (by simp) (by omega) (fun hA => ⟨rfl, ((unhide HR).nil hA).2⟩))
      clear ht
      go_wp2_with fail
      refine (unhide CC _ (by repeat (first | exact Ext.refl w | refine Ext.alloc ?_ _ | refine Ext.drew ?_ | refine Ext.drewN ?_ _ | (refine Ext.trans ?_ (plus_ext _ _)) | (refine Ext.setCell ?_ (by have := Ext.size Ext.refl w; simp; omega) _)))).mono ?_
      rintro e w2 ⟨⟨v, rfl, hown⟩, E2⟩
      have HO := hide hown
      clear hown
      go_wp2
      go_ret
      exact ⟨⟨_, rfl, by rw [unhide hnil]; exact ((Made.of_own (unhide HO)).keep (by repeat (first | exact Ext.refl _ | refine Ext.alloc ?_ _ | refine Ext.drew ?_ | refine Ext.drewN ?_ _ | (refine Ext.trans ?_ (plus_ext _ _)) | (refine Ext.setCell ?_ (by have := Ext.size Ext.refl _; simp; omega) _)))).mono (Ext.size ((Ext.refl w).drewN _))⟩, Ext.trans ((Ext.refl w).drewN _) (by repeat (first | exact E2 | refine Ext.alloc ?_ _ | refine Ext.drew ?_ | refine Ext.drewN ?_ _ | (refine Ext.trans ?_ (plus_ext _ _)) | (refine Ext.setCell ?_ (by have := Ext.size E2; simp; omega) _)))⟩
    · obtain ⟨j, rfl⟩ : ∃ j, k = j + 1 := ⟨k - 1, by omega⟩
      obtain ⟨b, o, rfl, hb, hcell⟩ := (unhide HR).row.nat (k := j) (by omega)
      have hj1 : ((j + 1 : Nat) : Int) - 1 = (j : Int) := by omega
      have hj0 : (0 : Int) < ((j + 1 : Nat) : Int) := by omega
      by_cases hz : l.getD j 0 = 0
      · have ht2 : Hid (Wm.trimN l j = F) := hide (by rw [← unhide ht]; simp only [Wm.trimN]; rw [if_pos hz])
        rw [hz] at hcell
        clear ht hz
        go_wp2
        go_roundw
        case rel => exact ⟨j, by omega, by first | rfl | trivial, ht2, _, rfl⟩
        case measure => simp
      · have hz' : (((l.getD j 0 : Nat) : Int) == 0) = false := by rw [beq_eq_false_iff_ne]; omega
        have htk := hide (show F = l.take (j + 1) by rw [← unhide ht]; simp only [Wm.trimN]; rw [if_neg hz])
        have hlt := hide (show (l.take (j + 1)).length = j + 1 by rw [List.length_take]; omega)
        have CC := hide (fun (W : World) (E : Ext w W) => clone_q (some ⟨b, o, none⟩) (j + 1) c (nats .i64 (l.take (j + 1))) W (by have := ((unhide HR).keep E).row.take (k := j + 1) (by omega); rwa [nats_take, Nat.mul_one] at this) (nats_one _ _) (by omega) (fun hA => by cases hA))
        generalize l.getD j 0 = x at *
        clear ht hz
        go_wp2_with fail
        refine (unhide CC _ (by repeat (first | exact Ext.refl w | refine Ext.alloc ?_ _ | refine Ext.drew ?_ | refine Ext.drewN ?_ _ | (refine Ext.trans ?_ (plus_ext _ _)) | (refine Ext.setCell ?_ (by have := Ext.size Ext.refl w; simp; omega) _)))).mono ?_
        rintro e w2 ⟨⟨v, rfl, hown⟩, E2⟩
        have HO := hide hown
        clear hown
        go_wp2
        go_ret
        exact ⟨⟨_, rfl, by rw [unhide htk, unhide hlt]; exact ((Made.of_own (unhide HO)).keep (by repeat (first | exact Ext.refl _ | refine Ext.alloc ?_ _ | refine Ext.drew ?_ | refine Ext.drewN ?_ _ | (refine Ext.trans ?_ (plus_ext _ _)) | (refine Ext.setCell ?_ (by have := Ext.size Ext.refl _; simp; omega) _)))).mono (Ext.size ((Ext.refl w).drewN _))⟩, Ext.trans ((Ext.refl w).drewN _) (by repeat (first | exact E2 | refine Ext.alloc ?_ _ | refine Ext.drew ?_ | refine Ext.drewN ?_ _ | (refine Ext.trans ?_ (plus_ext _ _)) | (refine Ext.setCell ?_ (by have := Ext.size E2; simp; omega) _)))⟩
end Go.Proofs.Ytahchidghfeofaa
