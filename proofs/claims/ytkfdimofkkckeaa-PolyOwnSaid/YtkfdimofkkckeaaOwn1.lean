/-
  spoil over what a call made, and the functions of polynomials over whatever came in.
-/
import Derived.Test.YtkfdimofkkckeaaPoly7
set_option linter.unusedVariables false
set_option linter.unusedSimpArgs false
namespace Go.Proofs.Ytkfdimofkkckeaa
open Go.RowKit Go.BigFrame

set_option maxRecDepth 100000 in
theorem index_int (A : Option Addr) (n c : Nat) (l : List Int) (x : Int) (w : World) (R : Row w A n 1 (ints l)) (hn : n ≤ 1000) :
    Calls Try.prog 55 #[.slice A n c, .int .i64 x] w fun e w' => (∃ r : Int, e = .returned (.int .i64 r) ∧ decide (0 ≤ r) = decide (x ∈ l)) ∧ w' = w := by
  have hlen := R.num
  go_enter Try.func55, Try.ntmps55
  go_wp2
  go_loopw [8] (fun i wr => ∃ k : Nat, k ≤ n ∧ i = .int .i64 k ∧ Hid (∀ j, j < k → l.getD j 0 ≠ x) ∧ wr = w) (fun i _ => n - (intOf i).toNat)
  case atStart => exact ⟨0, Nat.zero_le _, rfl, hide (fun j h => by omega), rfl⟩
  case round =>
    obtain ⟨k, hk, rfl, hz, rfl⟩ := hrel
    by_cases hlt : k < n
    · obtain ⟨b, o, rfl, hb, hc⟩ := R.int hlt
      have hmem := getD_mem l 0 (show k < l.length by omega)
      by_cases he : l.getD k 0 = x
      · rw [he] at hc hmem
        have HM := hide hmem
        clear hmem he R hlen hz
        have hxx : (x == x) = true := by simp
        go_wp2
        go_ret
        exact ⟨⟨k, rfl, by rw [decide_eq_true (unhide HM)]; exact decide_eq_true (by omega)⟩, rfl⟩
      · have hz2 : ∀ j, j < k + 1 → l.getD j 0 ≠ x := fun j hj => by
          by_cases h : j < k
          · exact unhide hz j h
          · obtain rfl : j = k := by omega
            exact he
        have HZ := hide hz2
        have hxx : (x == l.getD k 0) = false := by rw [beq_eq_false_iff_ne]; exact fun e => he e.symm
        have hxx' : ¬ x = l.getD k 0 := fun e => he e.symm
        generalize l.getD k 0 = y at *
        clear R hlen hz hz2 hmem he
        go_wp2
        go_roundw
        case rel => exact ⟨k + 1, by omega, num_eqQ (by omega), HZ, by first | rfl | trivial⟩
        case measure => simp [intOf]; omega
    · obtain rfl : k = n := by omega
      have hno : x ∉ l := fun h => by
        obtain ⟨j, hj, e⟩ := List.getElem_of_mem h
        refine unhide hz j (by omega) ?_
        rw [List.getD_eq_getElem?_getD, List.getElem?_eq_getElem hj]
        exact e
      have HN := hide hno
      clear R hlen hz hno
      go_wp2
      go_ret
      exact ⟨⟨-1, rfl, by rw [decide_eq_false (unhide HN)]; rfl⟩, rfl⟩
theorem contains_int (A : Option Addr) (n c : Nat) (l : List Int) (x : Int) (w : World) (R : Row w A n 1 (ints l)) (hn : n ≤ 1000) :
    Calls Try.prog 27 #[.slice A n c, .int .i64 x] w fun e w' => e = .returned (.bool (decide (x ∈ l))) ∧ w' = w := by
  have C := hide (index_int A n c l x w R hn)
  clear R hn
  go_enter Try.func27, Try.ntmps27
  go_wp2_with fail
  refine (unhide C).mono ?_
  rintro e w' ⟨⟨r, rfl, hr⟩, rfl⟩
  have HR := hide hr
  clear hr
  go_wp2
  go_ret
  exact ⟨ret_boolv (unhide HR), rfl⟩



theorem Made.grown_ {w w' : World} {base e sz n : Nat} {v : Value} {xs : List Value} (h : Made w base e sz v n xs) {row : Option Nat} (hg : w.grownBy w' row) (hne : ∀ k, v.ownBlock = some k → row ≠ some k) : Made w' base e sz v n xs := by
  have hl := h.lt
  obtain ⟨h1, h2⟩ := h
  refine ⟨h1, ?_⟩
  rcases h2 with h2 | ⟨g, c, cur, rfl, hg1, hh, r⟩
  · exact .inl h2
  · exact .inr ⟨g, c, cur, rfl, hg1, (hg.block g (hl g rfl).2 (fun e => hne g rfl e.symm)).trans hh, r⟩
theorem grownBy_setCell {w w' : World} {g : Nat} (h : w.grownBy w' (some g)) (j : Nat) (u : Value) : w.grownBy (w'.setCell ⟨g, j, none⟩ u) (some g) :=
  ⟨h.os, h.tape, h.output, by simpa using h.size, fun k hk hne => by
    have hgk : g ≠ k := fun e => hne (by rw [e])
    rw [← h.block k hk hne]
    simp [World.setCell, Array.getElem?_modify, hgk]⟩

set_option maxRecDepth 100000 in
set_option maxHeartbeats 1000000 in
theorem spoil_any (base : Nat) (v : Value) (n : Nat) (xs : List Value) (x : Int) (w : World) (M : Made w base 3 1 v n xs) :
    Calls Try.prog 26 #[v, .int .i64 x] w fun e w' => (∃ r, e = .returned r) ∧ w.grownBy w' v.ownBlock := by
  rcases M.2 with ⟨rfl, rfl⟩ | ⟨g, c, cur, rfl, hg1, hh, hnc, hcm, hsz, -⟩
  · go_enter Try.func26, Try.ntmps26
    go_wp2
    go_loopw [11] (fun i wr => i = .int .i64 0 ∧ ∃ d, wr = w.drewN d) (fun _ _ => 0)
    case atStart => exact ⟨rfl, by first | exact ⟨_, rfl⟩ | exact ⟨0, rfl⟩⟩
    case round =>
      obtain ⟨rfl, d, rfl⟩ := hrel
      go_wp2
      go_end0
      exact ⟨⟨_, rfl⟩, ⟨rfl, rfl, rfl, Nat.le_refl _, fun _ _ _ => rfl⟩⟩
  · have hcI : (c : Int) ≤ 9223372036854775807 := by unfold maxLen at hcm; omega
    have HH := hide hh
    have HC := hide hsz
    rw [Nat.mul_one] at HC
    clear M hh hsz hcm
    go_enter Try.func26, Try.ntmps26
    go_wp2
    go_loopw [11] (fun i wr => ∃ k : Nat, k ≤ c ∧ i = .int .i64 k ∧ Hid (w.grownBy wr (some g)) ∧ Hid (∃ cur' : Array Value, c ≤ cur'.size ∧ wr.heap[g]? = some (.cells cur' 3 (0, 0)))) (fun i _ => c - (intOf i).toNat)
    case atStart => exact ⟨0, Nat.zero_le _, rfl, hide (World.grownBy.refl _ _), hide ⟨cur, unhide HC, unhide HH⟩⟩
    case round =>
      clear HH HC
      obtain ⟨k, hk, rfl, HG, HH⟩ := hrel
      by_cases hlt : k < c
      · obtain ⟨cur', hc1, hc2⟩ := unhide HH
        have hcell : wr.cell? ⟨g, k, none⟩ = some (cur'[k]'(by omega)) := by
          have : k < cur'.size := by omega
          simp [World.cell?, hc2, this]
        have hfr : wr.frozen? ⟨g, k, none⟩ = false := by simp [World.frozen?, hc2]
        have HG2 := hide (grownBy_setCell (unhide HG) k (.int .i64 x))
        have HH2 : Hid (∃ cur'' : Array Value, c ≤ cur''.size ∧ (wr.setCell ⟨g, k, none⟩ (.int .i64 x)).heap[g]? = some (.cells cur'' 3 (0, 0))) := hide ⟨cur'.setIfInBounds k (.int .i64 x), by simpa using hc1, by simp [World.setCell, Array.getElem?_modify, hc2]⟩
        generalize cur'[k]'(by omega) = old at hcell
        clear HH HG hc1 hc2
        go_wp2
        go_roundw
        case rel => exact ⟨k + 1, by omega, by go_num, HG2, HH2⟩
        case measure => simp [intOf]; omega
      · obtain rfl : c = k := by omega
        go_wp2
        go_end0
        exact ⟨⟨_, rfl⟩, unhide HG⟩

/-- What came in, if it is right, as naturals. -/
theorem ints_of_isP {P : Wm.Pr} {l : List Int} (h : errC (P.p : Int) l = 0) : ∃ f : List Nat, l = f.map (fun (x : Nat) => (x : Int)) ∧ Wm.IsP P.p f ∧ f.length ≤ 40 := by
  unfold errC at h
  by_cases hf : FieldB (P.p : Int)
  · rw [if_neg (fun h => h hf)] at h
    by_cases h40 : 40 < l.length
    · rw [if_pos h40] at h; omega
    · rw [if_neg h40] at h
      by_cases ho : l.any (outB (P.p : Int)) = true
      · rw [if_pos ho] at h; omega
      · rw [if_neg ho] at h
        have hall : ∀ x ∈ l, 0 ≤ x ∧ x < P.p := fun x hx => by
          have : ¬ outB (P.p : Int) x = true := fun e => ho (List.any_eq_true.2 ⟨x, hx, e⟩)
          simp [outB] at this
          omega
        have hm : l = (l.map Int.toNat).map (fun (x : Nat) => (x : Int)) := by
          rw [List.map_map]
          conv => lhs; rw [← List.map_id l]
          apply List.map_congr_left
          intro x hx
          have := hall x hx
          simp; omega
        refine ⟨l.map Int.toNat, hm, ⟨fun y hy => ?_, fun hne => ?_⟩, by rw [List.length_map]; omega⟩
        · obtain ⟨x, hx, rfl⟩ := List.mem_map.1 hy
          have := hall x hx; omega
        · have hne' : l ≠ [] := fun e => hne (by rw [e]; rfl)
          by_cases hz : l.getD (l.length - 1) 0 = 0
          · rw [if_pos ⟨hne', hz⟩] at h; omega
          · have hpos := List.length_pos_iff.2 hne'
            rw [List.length_map, List.getD_eq_getElem?_getD, List.getElem?_map]
            rw [List.getD_eq_getElem?_getD] at hz
            have hlt : l.length - 1 < l.length := by omega
            rw [List.getElem?_eq_getElem hlt] at hz ⊢
            have := hall _ (List.getElem_mem hlt)
            simp at hz ⊢; omega
  · rw [if_pos hf] at h; omega
theorem errCC_zero {p : Int} {l m : List Int} (h : errCC p l m = 0) : errC p l = 0 ∧ errC p m = 0 := by
  unfold errCC at h
  by_cases h1 : errC p l = 0
  · rw [if_neg (fun e => e h1)] at h
    exact ⟨h1, h⟩
  · rw [if_pos h1] at h
    exact absurd h h1
theorem errC_field {p : Int} {l : List Int} (h : errC p l = 0) : ∃ P : Wm.Pr, p = (P.p : Int) ∧ P.p ≤ 997 := by
  unfold errC at h
  by_cases hf : FieldB p
  · obtain ⟨q, rfl, hq, h9⟩ := hf
    exact ⟨⟨q, hq⟩, rfl, h9⟩
  · rw [if_pos hf] at h; omega

/-- A slice of whatever numbers. -/
structure Iv (w : World) (A : Option Addr) (n c : Nat) (l : List Int) : Prop where
  row : Row w A n 1 (ints l)
  le : n ≤ c
  cap : c ≤ 4611686018427387904
  nil : A = none → n = 0 ∧ c = 0
theorem Iv.keep {w w' : World} {A : Option Addr} {n c : Nat} {l : List Int} (h : Iv w A n c l) (E : Ext w w') : Iv w' A n c l := ⟨h.row.keep E, h.le, h.cap, h.nil⟩
theorem Iv.pv {w : World} {A : Option Addr} {n c : Nat} {f : List Nat} (h : Iv w A n c (f.map (fun (x : Nat) => (x : Int)))) : Pv w A n c f := ⟨by rw [nats_ints]; exact h.row, h.le, by have := h.cap; omega, h.nil⟩

def OneAny (w w' : World) (e : Ending) (Q : Int → Prop) : Prop := ∃ (l : List Nat) (v : Value) (r : Int), e = .returned (.tuple #[v, .int .i64 r]) ∧ Made w' w.heap.size 3 1 v l.length (nats .i64 l) ∧ l.length ≤ 100 ∧ Q r
theorem AddP_bad (p : Int) (A B : Option Addr) (n c m d : Nat) (f g : List Int) (w : World) (R : Iv w A n c f) (S : Iv w B m d g) (h : errCC p f g ≠ 0) :
    Calls Try.prog 18 #[.int .i64 p, .slice A n c, .slice B m d] w fun e w' => e = .returned (.tuple #[.slice none 0 0, .int .i64 (errCC p f g)]) ∧ Ext w w' := by
  have CK := hide (checks_any p A B n c m d f g w R.row S.row (by have := R.le; have := R.cap; omega) (by have := S.le; have := S.cap; omega))
  generalize errCC p f g = r at *
  have hrI : (r != 0) = true := by rw [bne_iff_ne]; exact h
  clear R S
  go_enter Try.func18, Try.ntmps18
  go_wp2_with fail
  refine (unhide CK).mono ?_
  rintro e w1 ⟨rfl, E1⟩
  go_wp2
  go_ret2
  exact ⟨rfl, (by repeat (first | exact E1 | refine Ext.alloc ?_ _ | refine Ext.drew ?_ | refine Ext.drewN ?_ _ | (refine Ext.trans ?_ (plus_ext _ _)) | (refine Ext.setCell ?_ (by have := Ext.size E1; simp; omega) _)))⟩

theorem MulP_bad (p : Int) (A B : Option Addr) (n c m d : Nat) (f g : List Int) (w : World) (R : Iv w A n c f) (S : Iv w B m d g) (h : errCC p f g ≠ 0) :
    Calls Try.prog 17 #[.int .i64 p, .slice A n c, .slice B m d] w fun e w' => e = .returned (.tuple #[.slice none 0 0, .int .i64 (errCC p f g)]) ∧ Ext w w' := by
  have CK := hide (checks_any p A B n c m d f g w R.row S.row (by have := R.le; have := R.cap; omega) (by have := S.le; have := S.cap; omega))
  generalize errCC p f g = r at *
  have hrI : (r != 0) = true := by rw [bne_iff_ne]; exact h
  clear R S
  go_enter Try.func17, Try.ntmps17
  go_wp2_with fail
  refine (unhide CK).mono ?_
  rintro e w1 ⟨rfl, E1⟩
  go_wp2
  go_ret2
  exact ⟨rfl, (by repeat (first | exact E1 | refine Ext.alloc ?_ _ | refine Ext.drew ?_ | refine Ext.drewN ?_ _ | (refine Ext.trans ?_ (plus_ext _ _)) | (refine Ext.setCell ?_ (by have := Ext.size E1; simp; omega) _)))⟩

theorem GcdP_bad (p : Int) (A B : Option Addr) (n c m d : Nat) (f g : List Int) (w : World) (R : Iv w A n c f) (S : Iv w B m d g) (h : errCC p f g ≠ 0) :
    Calls Try.prog 23 #[.int .i64 p, .slice A n c, .slice B m d] w fun e w' => e = .returned (.tuple #[.slice none 0 0, .int .i64 (errCC p f g)]) ∧ Ext w w' := by
  have CK := hide (checks_any p A B n c m d f g w R.row S.row (by have := R.le; have := R.cap; omega) (by have := S.le; have := S.cap; omega))
  generalize errCC p f g = r at *
  have hrI : (r != 0) = true := by rw [bne_iff_ne]; exact h
  clear R S
  go_enter Try.func23, Try.ntmps23
  go_wp2_with fail
  refine (unhide CK).mono ?_
  rintro e w1 ⟨rfl, E1⟩
  go_wp2
  go_ret2
  exact ⟨rfl, (by repeat (first | exact E1 | refine Ext.alloc ?_ _ | refine Ext.drew ?_ | refine Ext.drewN ?_ _ | (refine Ext.trans ?_ (plus_ext _ _)) | (refine Ext.setCell ?_ (by have := Ext.size E1; simp; omega) _)))⟩

theorem Div_bad (p : Int) (A B : Option Addr) (n c m d : Nat) (f g : List Int) (w : World) (R : Iv w A n c f) (S : Iv w B m d g) (h : errCC p f g ≠ 0) :
    Calls Try.prog 22 #[.int .i64 p, .slice A n c, .slice B m d] w fun e w' => e = .returned (.tuple #[.slice none 0 0, .slice none 0 0, .int .i64 (errCC p f g)]) ∧ Ext w w' := by
  have CK := hide (checks_any p A B n c m d f g w R.row S.row (by have := R.le; have := R.cap; omega) (by have := S.le; have := S.cap; omega))
  generalize errCC p f g = r at *
  have hrI : (r != 0) = true := by rw [bne_iff_ne]; exact h
  clear R S
  go_enter Try.func22, Try.ntmps22
  go_wp2_with fail
  refine (unhide CK).mono ?_
  rintro e w1 ⟨rfl, E1⟩
  go_wp2
  refine bodyPost_ret (results_tmp3 rfl _ _ _) rfl ?_
  exact ⟨rfl, (by repeat (first | exact E1 | refine Ext.alloc ?_ _ | refine Ext.drew ?_ | refine Ext.drewN ?_ _ | (refine Ext.trans ?_ (plus_ext _ _)) | (refine Ext.setCell ?_ (by have := Ext.size E1; simp; omega) _)))⟩

theorem Add_any (p : Int) (A B : Option Addr) (n c m d : Nat) (f g : List Int) (w : World) (R : Iv w A n c f) (S : Iv w B m d g) :
    Calls Try.prog 18 #[.int .i64 p, .slice A n c, .slice B m d] w fun e w' => OneAny w w' e (fun r => r = errCC p f g) ∧ Ext w w' := by
  by_cases h : errCC p f g = 0
  · obtain ⟨h1, h2⟩ := errCC_zero h
    obtain ⟨P, rfl, h9⟩ := errC_field h1
    obtain ⟨f', rfl, hf, lf⟩ := ints_of_isP h1
    obtain ⟨g', rfl, hg, lg⟩ := ints_of_isP h2
    have e1 := R.pv.len
    have e2 := S.pv.len
    refine (Add_ok P h9 A B n c m d f' g' w R.pv S.pv hf (by omega) hg (by omega)).mono ?_
    rintro e w' ⟨⟨v, rfl, M⟩, E⟩
    exact ⟨⟨_, v, 0, rfl, M, by have := Wm.addL_len P.p f' g'; omega, h.symm⟩, E⟩
  · refine (AddP_bad p A B n c m d f g w R S h).mono ?_
    rintro e w' ⟨rfl, E⟩
    exact ⟨⟨[], _, _, rfl, Made.nil, by simp, rfl⟩, E⟩
theorem Mul_any_ (p : Int) (A B : Option Addr) (n c m d : Nat) (f g : List Int) (w : World) (R : Iv w A n c f) (S : Iv w B m d g) :
    Calls Try.prog 17 #[.int .i64 p, .slice A n c, .slice B m d] w fun e w' => OneAny w w' e (fun r => True) ∧ Ext w w' := by
  by_cases h : errCC p f g = 0
  · obtain ⟨h1, h2⟩ := errCC_zero h
    obtain ⟨P, rfl, h9⟩ := errC_field h1
    obtain ⟨f', rfl, hf, lf⟩ := ints_of_isP h1
    obtain ⟨g', rfl, hg, lg⟩ := ints_of_isP h2
    have e1 := R.pv.len
    have e2 := S.pv.len
    by_cases hl : (Wm.mulL P.p f' g').length ≤ 40
    · refine (Mul_ok P h9 A B n c m d f' g' w R.pv S.pv hf (by omega) hg (by omega) hl).mono ?_
      rintro e w' ⟨⟨v, rfl, M⟩, E⟩
      exact ⟨⟨_, v, 0, rfl, M, by omega, trivial⟩, E⟩
    · refine (Mul_large P h9 A B n c m d f' g' w R.pv S.pv hf (by omega) hg (by omega) (by omega)).mono ?_
      rintro e w' ⟨rfl, E⟩
      exact ⟨⟨[], _, _, rfl, Made.nil, by simp, trivial⟩, E⟩
  · refine (MulP_bad p A B n c m d f g w R S h).mono ?_
    rintro e w' ⟨rfl, E⟩
    exact ⟨⟨[], _, _, rfl, Made.nil, by simp, trivial⟩, E⟩
theorem Gcd_any_ (p : Int) (A B : Option Addr) (n c m d : Nat) (f g : List Int) (w : World) (R : Iv w A n c f) (S : Iv w B m d g) :
    Calls Try.prog 23 #[.int .i64 p, .slice A n c, .slice B m d] w fun e w' => OneAny w w' e (fun r => True) ∧ Ext w w' := by
  by_cases h : errCC p f g = 0
  · obtain ⟨h1, h2⟩ := errCC_zero h
    obtain ⟨P, rfl, h9⟩ := errC_field h1
    obtain ⟨f', rfl, hf, lf⟩ := ints_of_isP h1
    obtain ⟨g', rfl, hg, lg⟩ := ints_of_isP h2
    have e1 := R.pv.len
    have e2 := S.pv.len
    refine (Gcd_poly P h9 A B n c m d f' g' w R.pv S.pv hf (by omega) hg (by omega)).mono ?_
    rintro e w' ⟨⟨dl, v, -, hdl, rfl, M⟩, E⟩
    exact ⟨⟨_, v, 0, rfl, M, by omega, trivial⟩, E⟩
  · refine (GcdP_bad p A B n c m d f g w R S h).mono ?_
    rintro e w' ⟨rfl, E⟩
    exact ⟨⟨[], _, _, rfl, Made.nil, by simp, trivial⟩, E⟩
def TwoAny (w w' : World) (e : Ending) : Prop := ∃ (q r : List Nat) (v u : Value) (s : Int), e = .returned (.tuple #[v, u, .int .i64 s]) ∧ Made w' w.heap.size 3 1 v q.length (nats .i64 q) ∧ Made w' w.heap.size 3 1 u r.length (nats .i64 r) ∧ (∀ k, v.ownBlock = some k → u.ownBlock ≠ some k) ∧ r.length ≤ 100
theorem Div_any_ (p : Int) (A B : Option Addr) (n c m d : Nat) (f g : List Int) (w : World) (R : Iv w A n c f) (S : Iv w B m d g) :
    Calls Try.prog 22 #[.int .i64 p, .slice A n c, .slice B m d] w fun e w' => TwoAny w w' e ∧ Ext w w' := by
  by_cases h : errCC p f g = 0
  · obtain ⟨h1, h2⟩ := errCC_zero h
    obtain ⟨P, rfl, h9⟩ := errC_field h1
    obtain ⟨f', rfl, hf, lf⟩ := ints_of_isP h1
    obtain ⟨g', rfl, hg, lg⟩ := ints_of_isP h2
    have e1 := R.pv.len
    have e2 := S.pv.len
    by_cases hm : m = 0
    · subst hm
      refine (Div_zero P h9 A B n c d f' g' w R.pv S.pv hf (by omega) hg).mono ?_
      rintro e w' ⟨rfl, E⟩
      exact ⟨⟨[], [], _, _, _, rfl, Made.nil, Made.nil, (fun k hk => by cases hk), by simp⟩, E⟩
    · refine (Div_ok P h9 A B n c m d f' g' w R.pv S.pv hf (by omega) hg (by omega) (by omega)).mono ?_
      rintro e w' ⟨⟨q, r, v, u, hD, rfl, M1, M2, hne⟩, E⟩
      exact ⟨⟨q, r, v, u, _, rfl, M1, M2, hne, by have := hD.lt; omega⟩, E⟩
  · refine (Div_bad p A B n c m d f g w R S h).mono ?_
    rintro e w' ⟨rfl, E⟩
    exact ⟨⟨[], [], _, _, _, rfl, Made.nil, Made.nil, (fun k hk => by cases hk), by simp⟩, E⟩
end Go.Proofs.Ytkfdimofkkckeaa
