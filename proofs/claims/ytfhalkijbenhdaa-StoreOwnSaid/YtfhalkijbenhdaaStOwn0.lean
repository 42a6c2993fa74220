/-
  Pieces kept, spoiled and compared; the quorum's own check.
-/
import Derived.Test.YtfhalkijbenhdaaSto24
set_option linter.unusedVariables false
set_option linter.unusedSimpArgs false
namespace Go.Proofs.Ytfhalkijbenhdaa
open Go.RowKit Go.BigFrame

theorem spoilk_nil (w : World) :
    Calls Try.prog 21 #[.slice none 0 0, .agg #[.int .i64 0, .int .i64 0, .string ⟨#[63]⟩]] w fun e w' => (∃ r, e = .returned r) ∧ Ext w w' := by
  go_enter Try.func21, Try.ntmps21
  go_wp2
  go_loopw [11] (fun i wr => i = .int .i64 0 ∧ Ext w wr) (fun _ _ => 0)
  case atStart => exact ⟨rfl, (Ext.refl w).alloc _⟩
  case round =>
    obtain ⟨rfl, E⟩ := hrel
    go_wp2
    go_end0
    exact ⟨⟨_, rfl⟩, E⟩
set_option maxRecDepth 100000 in
set_option maxHeartbeats 1000000 in
theorem spoilk_ok (base : Nat) (v : Value) (n : Nat) (xs : List Value) (w : World) (M : w.ownsRow base 58 3 v n xs) :
    Calls Try.prog 21 #[v, .agg #[.int .i64 0, .int .i64 0, .string ⟨#[63]⟩]] w fun e w' => (∃ r, e = .returned r) ∧ Only (fun q => v.ownBlock = some q) w w' := by
  have hlt := M.lt
  rcases M.2 with ⟨rfl, rfl⟩ | ⟨g, c, cur, rfl, hg1, hh, hnc, hcm, hsz, -⟩
  · refine (spoilk_nil w).mono ?_
    rintro e w' ⟨h, E⟩
    exact ⟨h, Only.of_ext E⟩
  · have hgl := (hlt g rfl).2
    have hcI : (c : Int) ≤ 9223372036854775807 := by unfold maxLen at hcm; omega
    obtain ⟨W0, hW0⟩ : ∃ W0, W0 = w.alloc (.cells #[.int .i64 0, .int .i64 0, .string ⟨#[63]⟩] 58) := ⟨_, rfl⟩
    have HW0 := hide hW0
    have E0 : Ext w W0 := by rw [hW0]; exact (Ext.refl w).alloc _
    have HE0 := hide E0
    have B0 := hide (show W0.cell? ⟨w.heap.size, 0, none⟩ = some (.int .i64 0) by rw [hW0, new_cell]; rfl)
    have B1 := hide (show W0.cell? ⟨w.heap.size, 1, none⟩ = some (.int .i64 0) by rw [hW0, new_cell]; rfl)
    have B2 := hide (show W0.cell? ⟨w.heap.size, 2, none⟩ = some (.string ⟨#[63]⟩) by rw [hW0, new_cell]; rfl)
    have HH := hide (show ∃ cur' : Array Value, c * 3 ≤ cur'.size ∧ W0.heap[g]? = some (.cells cur' 58 (0, 0)) from ⟨cur, Nat.le_of_eq hsz.symm, by rw [(Below.block E0 g hgl)]; exact hh⟩)
    have HGL := hide hgl
    clear M hh hsz hcm hlt hW0 E0
    go_enter Try.func21, Try.ntmps21
    go_wp2
    rw [← unhide HW0]
    go_loopw [11] (fun i wr => ∃ k : Nat, k ≤ c ∧ i = .int .i64 k ∧ Hid (Only (fun q => q = g) W0 wr) ∧ Hid (∃ cur' : Array Value, c * 3 ≤ cur'.size ∧ wr.heap[g]? = some (.cells cur' 58 (0, 0)))) (fun i _ => c - (intOf i).toNat)
    case atStart => exact ⟨0, Nat.zero_le _, rfl, hide Only.refl, HH⟩
    case round =>
      clear HH
      obtain ⟨k, hk, rfl, HG, HH⟩ := hrel
      by_cases hlt : k < c
      · have hbg : ¬ w.heap.size = g := by have := unhide HGL; omega
        have b0 := (unhide HG).keepc (unhide B0) hbg
        have b1 := (unhide HG).keepc (unhide B1) hbg
        have b2 := (unhide HG).keepc (unhide B2) hbg
        obtain ⟨cur', hc1, hc2⟩ := unhide HH
        have hcell : ∀ j, j < 3 → ∃ u, wr.cell? ⟨g, k * 3 + j, none⟩ = some u := fun j hj => by
          have : k * 3 + j < cur'.size := by omega
          exact ⟨cur'[k * 3 + j], by simp [World.cell?, hc2, this]⟩
        obtain ⟨o0, d0⟩ := hcell 0 (by omega)
        obtain ⟨o1, d1⟩ := hcell 1 (by omega)
        obtain ⟨o2, d2⟩ := hcell 2 (by omega)
        rw [Nat.add_zero] at d0
        have hfr : ∀ j, wr.frozen? ⟨g, j, none⟩ = false := fun j => by simp [World.frozen?, hc2]
        have HG2 := hide ((((unhide HG).set (a := ⟨g, k * 3, none⟩) (.inl rfl) (.int .i64 0)).set (a := ⟨g, k * 3 + 1, none⟩) (.inl rfl) (.int .i64 0)).set (a := ⟨g, k * 3 + 2, none⟩) (.inl rfl) (.string ⟨#[63]⟩))
        have HH2 : Hid (∃ cur'' : Array Value, c * 3 ≤ cur''.size ∧ (((wr.setCell ⟨g, k * 3, none⟩ (.int .i64 0)).setCell ⟨g, k * 3 + 1, none⟩ (.int .i64 0)).setCell ⟨g, k * 3 + 2, none⟩ (.string ⟨#[63]⟩)).heap[g]? = some (.cells cur'' 58 (0, 0))) :=
          hide ⟨((cur'.setIfInBounds (k * 3) (.int .i64 0)).setIfInBounds (k * 3 + 1) (.int .i64 0)).setIfInBounds (k * 3 + 2) (.string ⟨#[63]⟩), by simpa using hc1, by simp [World.setCell, Array.getElem?_modify, hc2]⟩
        have hkI : (k : Int) < (c : Int) := by omega
        clear HH HG hc1 hc2 hcell
        go_wp2
        go_roundw
        case rel => exact ⟨k + 1, by omega, by go_num, HG2, HH2⟩
        case measure => simp [intOf]; omega
      · obtain rfl : c = k := by omega
        go_wp2
        go_end0
        exact ⟨⟨_, rfl⟩, ((Only.of_ext (unhide HE0)).trans (unhide HG) (fun x hx => .inl (by rw [hx]; rfl)))⟩

theorem kept_neq (t : Nat) (s : ByteArray) (w : World) : (binOp .neq 58 (.agg #[.int .i64 (t : Int), .int .i64 0, .string s]) (.agg #[.int .i64 (t : Int), .int .i64 0, .string s])).run Try.prog w = .ok (.bool false) w := by
  have h1 := Try.underlying58
  have h2 := Try.underlying3
  have h3 := Try.underlying31
  have h4 := Try.underlying9
  rw [run_neq_struct]
  simp [go_sem, h1, h2, h3, h4]
set_option maxRecDepth 100000 in
set_option maxHeartbeats 1000000 in
theorem equalk_ok (A B : Option Addr) (n c d : Nat) (l : List (Nat × ByteArray)) (w : World) (R : Row w A n 3 (kps l)) (S : Row w B n 3 (kps l)) (hn : (n : Int) ≤ 9223372036854775807) :
    Calls Try.prog 22 #[.slice A n c, .slice B n d] w fun e w' => e = .returned (.bool true) ∧ Ext w w' := by
  have hne := kept_neq
  have HR := hide R
  have HS := hide S
  clear R S
  go_enter Try.func22, Try.ntmps22
  go_wp2
  go_loopw [13] (fun i wr => ∃ k : Nat, k ≤ n ∧ i = .int .i64 k ∧ ∃ q, wr = w.drewN q) (fun i _ => n - (intOf i).toNat)
  case atStart => exact ⟨0, by omega, rfl, 0, rfl⟩
  case round =>
    obtain ⟨k, hk, rfl, q, rfl⟩ := hrel
    by_cases hlt : k < n
    · obtain ⟨b, o, rfl, hb, c1, c2, c3⟩ := (unhide HR).kp hlt
      obtain ⟨b', o', rfl, hb', d1, d2, d3⟩ := (unhide HS).kp hlt
      have hk0 : (0 : Int) ≤ (k : Int) := by omega
      have hk1 : (k : Int) < (n : Int) := by omega
      generalize (kd l k).1 = x at *
      generalize (kd l k).2 = y at *
      go_wp2
      go_quiet (fail)
      go_wp2
      go_roundw
      case rel => exact ⟨k + 1, by omega, by go_num, _, rfl⟩
      case measure => simp [intOf]; omega
    · obtain rfl : k = n := by omega
      go_wp2
      go_ret
      exact ⟨rfl, (Ext.refl w).drewN _⟩

theorem own1_ok (t : Nat) (s : ByteArray) (hs : 5 ≤ s.size) (w : World) :
    Calls Try.prog 24 #[.agg #[.int .i64 (t : Int), .int .i64 0, .string s]] w fun e w' => e = .returned (.bool false) ∧ Ext w w' := by
  have hne : ¬ s = ⟨#[63]⟩ := fun h => by rw [h] at hs; exact absurd hs (by decide)
  have hs2 : (s.toList == [63]) = false := by
    have : (⟨#[63]⟩ : ByteArray).toList = [63] := by rw [ByteArray.toList_eq]
    rw [← this, beq_eq_false_iff_ne]
    exact fun h => hne (str_inj8 h)
  go_enter Try.func24, Try.ntmps24
  go_wp2
  go_ret
  exact ⟨rfl, (Ext.refl _).alloc _⟩

set_option maxRecDepth 100000 in
set_option maxHeartbeats 1000000 in
theorem own_index (A : Option Addr) (n c : Nat) (l : List (Nat × ByteArray)) (_u : Unit) (w : World) (R : Row w A n 3 (kps l)) (p : Nat × ByteArray → Bool)
    (hp : ∀ k, k < n → ∀ W, Ext w W → Calls Try.prog 24 (#[.agg #[.int .i64 ((kd l k).1 : Int), .int .i64 0, .string (kd l k).2]] ++ #[]) W fun e w' => e = .returned (.bool (p (kd l k))) ∧ Ext W w') (hm : n ≤ 4611686018427387904) :
    Calls Try.prog 40 #[.slice A n c, .func (.func 24) #[] #[]] w fun e w' => (∃ r : Int, e = .returned (.int .i64 r) ∧ ((r = -1 ∧ ∀ j, j < n → p (kd l j) = false) ∨ ∃ k, k < n ∧ r = (k : Int) ∧ p (kd l k) = true ∧ ∀ j, j < k → p (kd l j) = false)) ∧ Ext w w' := by
  have HP := hide hp
  have HR := hide R
  clear hp R
  go_enter Try.func40, Try.ntmps40
  go_wp2
  go_loopw [8] (fun i wr => ∃ k : Nat, k ≤ n ∧ i = .int .i64 k ∧ Hid (∀ j, j < k → p (kd l j) = false) ∧ Ext w wr) (fun i _ => n - (intOf i).toNat)
  case atStart => exact ⟨0, by omega, rfl, hide (fun j h => absurd h (by omega)), Ext.refl _⟩
  case round =>
    obtain ⟨k, hk, rfl, hz, hext⟩ := hrel
    by_cases hlt : k < n
    · obtain ⟨b, o, rfl, hb, c1, c2, c3⟩ := ((unhide HR).keep hext).kp hlt
      have hpk := unhide HP k hlt
      have hzk := hide (fun (h : p (kd l k) = false) j (hj : j < k + 1) => (show p (kd l j) = false from by
        by_cases h' : j < k
        · exact unhide hz j h'
        · obtain rfl : j = k := by omega
          exact h))
      have H1 := hide (rfl : p (kd l k) = p (kd l k))
      have H2 := hide (show p (kd l k) = true → p (kd l k) = true from id)
      generalize hq : p (kd l k) = q at hpk hzk
      have HQ := hide hpk
      have Hq := hide hq
      clear hpk H1 H2 hq
      generalize (kd l k).1 = x at *
      generalize (kd l k).2 = y at *
      cases q with
      | false =>
        have hz2 := hide (unhide hzk rfl)
        clear hzk
        go_wp2_with (go_at_call 24; refine (unhide HQ _ hext).mono ?_; rintro e w' ⟨rfl, E1⟩)
        go_roundw
        case rel => exact ⟨k + 1, by omega, by go_num, hz2, hext.trans E1⟩
        case measure => simp [intOf]; omega
      | true =>
        clear hzk
        go_wp2_with (go_at_call 24; refine (unhide HQ _ hext).mono ?_; rintro e w' ⟨rfl, E1⟩)
        go_ret
        exact ⟨⟨_, rfl, .inr ⟨k, hlt, rfl, unhide Hq, unhide hz⟩⟩, hext.trans E1⟩
    · obtain rfl : n = k := by omega
      go_wp2
      go_ret
      exact ⟨⟨_, rfl, .inl ⟨rfl, unhide hz⟩⟩, hext⟩


theorem qerr_ok (N K Wq Rq : Nat) (w : World) (h1 : 1 ≤ K ∧ K ≤ N) (h2 : N ≤ 10) (h3 : 1 ≤ Wq ∧ Wq ≤ N) (h4 : 1 ≤ Rq ∧ Rq ≤ N) (h5 : N + K ≤ Wq + Rq) :
    Calls Try.prog 25 #[.agg #[.int .i64 (N : Int), .int .i64 (K : Int), .int .i64 (Wq : Int), .int .i64 (Rq : Int)]] w fun e w' => e = .returned (.int .i64 0) ∧ Ext w w' := by
  have i1 : ¬ (N : Int) < 1 := by omega
  have i2 : ¬ 10 < (N : Int) := by omega
  have i3 : ¬ (K : Int) < 1 := by omega
  have i4 : ¬ (Wq : Int) < 1 := by omega
  have i5 : ¬ (Rq : Int) < 1 := by omega
  have j3 : (K : Int) ≤ (N : Int) := by omega
  have j4 : (Wq : Int) ≤ (N : Int) := by omega
  have j5 : (Rq : Int) ≤ (N : Int) := by omega
  have s1 : IntKind.i64.wrap ((N : Int) + (K : Int)) = (N : Int) + (K : Int) := IntWalk.i64_in _ (by omega)
  have s2 : IntKind.i64.wrap ((Wq : Int) + (Rq : Int)) = (Wq : Int) + (Rq : Int) := IntWalk.i64_in _ (by omega)
  have h6 : (N : Int) + (K : Int) ≤ (Wq : Int) + (Rq : Int) := by omega
  go_enter Try.func25, Try.ntmps25
  go_wp2
  all_goals
    go_ret
    exact ⟨rfl, (Ext.refl _).alloc _⟩
set_option maxRecDepth 100000 in
set_option maxHeartbeats 1000000 in
theorem conk_ok (A : Option Addr) (n c : Nat) (l : List (Nat × ByteArray)) (w : World) (R : Row w A n 3 (kps l)) (hm : n ≤ 4611686018427387904) (hl : ∀ e ∈ l, 5 ≤ e.2.size) :
    Calls Try.prog 23 #[.slice A n c, .func (.func 24) #[] #[]] w fun e w' => e = .returned (.bool false) ∧ Ext w w' := by
  have hL : l.length = n := by have := R.1; rw [kps_length] at this; omega
  have CI := hide (own_index A n c l () w R (fun _ => false) (fun k hk W E => own1_ok (kd l k).1 (kd l k).2 (hl _ (kd_mem (by omega))) W) hm)
  clear R
  go_enter Try.func23, Try.ntmps23
  go_wp2_with fail
  refine (unhide CI).mono ?_
  rintro e w' ⟨⟨r, rfl, hr⟩, E⟩
  rcases hr with ⟨rfl, -⟩ | ⟨k, -, -, h, -⟩
  · go_wp2
    go_ret
    exact ⟨rfl, E⟩
  · exact absurd h (by decide)
end Go.Proofs.Ytfhalkijbenhdaa
