/-
  The closures of the law LinearDuals: ContainsFunc of a closure that boxes its parameter.
-/
import Derived.Test.YtbejhfafipedmaaLin11
set_option linter.unusedVariables false
set_option linter.unusedSimpArgs false
namespace Wm
theorem bl_bl (l : List Nat) : bl (bl l) = bl l := bl_congr (bl_ws l)
theorem du_35 : du 3 [3, 5] = [0, 7] := by decide +kernel
theorem bs_07 : bs [0, 7] = [7] := by decide +kernel
theorem bl_07 : bl [0, 7] = [7] := by
  have h : (bs [0, 7]).mergeSort (fun a b => decide (a ≤ b)) = [7] := by
    have hp := srt_p (bs [0, 7])
    rw [bs_07] at hp ⊢
    exact List.perm_singleton.1 hp
  unfold bl
  rw [h]; rfl
theorem ones_div (v k : Nat) : (v : Int) / 2 ^ k = ((v / 2 ^ k : Nat) : Int) := by push_cast; rfl
end Wm
namespace Go.Proofs.Ytbejhfafipedmaa
open Go.RowKit Go.BigFrame Go.Sort

theorem dual_trial (W : World) (b : Nat) (R : Row W (some ⟨b, 0, none⟩) 2 1 (nats .u16 [3, 5])) :
    Calls Try.prog 15 #[.int .i64 3, .slice (some ⟨b, 0, none⟩) 2 2] W fun e w' => (∃ v, e = .returned (.tuple #[v, .int .i64 0]) ∧ Made w' W.heap.size 30 1 v 1 (nats .u16 [7])) ∧ Ext W w' :=
  (Dual_any 3 (some ⟨b, 0, none⟩) 2 2 [3, 5] W R (by omega) (by decide)).mono fun e w' h => by
    obtain ⟨h | ⟨-, ⟨h, -⟩ | ⟨-, v, rfl, M⟩⟩, E⟩ := h
    · exact absurd Wm.chk_35 h.1
    · have h2 : (Int.toNat 3) = 3 := rfl
      omega
    · rw [show Wm.bl (Wm.du (Int.toNat 3) [3, 5]) = [7] by rw [show Int.toNat 3 = 3 from rfl, Wm.du_35, Wm.bl_07]] at M
      exact ⟨⟨v, rfl, M⟩, E⟩

set_option maxRecDepth 100000 in
set_option maxHeartbeats 1000000 in
theorem Ones_ok (v : Nat) (hv : v < 65536) (w : World) :
    Calls Try.prog 19 #[.int .i64 v] w fun e w' => e = .returned (.int .i64 (Wm.ones v 16)) ∧ w' = w := by
  have HV := hide hv
  clear hv
  go_enter Try.func19, Try.ntmps19
  go_wp2
  go_loop [3, 5] (fun p q => ∃ k : Nat, k ≤ 16 ∧ p = .int .i64 (Wm.ones v k) ∧ q = .int .i64 k) (fun _ q => 20 - (intOf q).toNat)
  case atStart => exact ⟨0, by omega, rfl, rfl⟩
  case round =>
    obtain ⟨k, hk, rfl, rfl⟩ := hrel
    by_cases hlt : k < 16
    · have hv := unhide HV
      have hdv : v / 2 ^ k < 65536 := Nat.lt_of_le_of_lt (Nat.div_le_self _ _) hv
      have hand := i64_and_one (v / 2 ^ k) (by omega)
      rw [← Wm.ones_div] at hand
      have hle : Wm.ones v k ≤ k := Wm.ones_le v k
      have hst : Wm.ones v (k + 1) = Wm.ones v k + v / 2 ^ k % 2 := rfl
      have hm : v / 2 ^ k % 2 ≤ 1 := by omega
      have HS := hide hst
      clear hst hdv hv
      go_wp2
      go_round
      case rel => exact ⟨k + 1, by omega, by rw [unhide HS]; go_num, by go_num⟩
      case measure => simp [intOf]; omega
    · obtain rfl : k = 16 := by omega
      go_wp2
      go_ret
      exact ⟨rfl, rfl⟩

set_option maxRecDepth 100000 in
set_option maxHeartbeats 1000000 in
theorem du11_ok (b x y : Nat) (hy : y < 65536) (hx : x < 65536) (W : World) (hc : W.cell? ⟨b, 0, none⟩ = some (.int .u16 (x : Int))) :
    Calls Try.prog 18 #[.int .u16 (y : Int), .pointer (some ⟨b, 0, none⟩)] W fun e w' => e = .returned (.bool (decide (Wm.ones (x &&& y) 16 % 2 = 1))) ∧ ∃ q, w' = W.drewN q := by
  have hand := u16_and_nat x y hx hy
  have hz : x &&& y < 65536 := Nat.lt_of_le_of_lt Nat.and_le_left hx
  have CO := hide (fun w : World => Ones_ok (x &&& y) hz w)
  have hq := Wm.ones_le (x &&& y) 16
  generalize x &&& y = z at *
  generalize Wm.ones z 16 = q at *
  go_enter Try.func18, Try.ntmps18
  go_wp2_with fail
  refine (unhide CO _).mono ?_
  rintro e w3 ⟨rfl, rfl⟩
  go_wp2
  go_ret
  exact ⟨ret_boolv (by
    by_cases h : q % 2 = 1
    · simp [h]; omega
    · simp [h]; omega), 0, rfl⟩

set_option maxRecDepth 100000 in
set_option maxHeartbeats 1000000 in
theorem du1_ok (g : Nat) (A : Option Addr) (K c : Nat) (B : List Nat) (W : World) (hcell : W.cell? ⟨g, 0, none⟩ = some (.slice A K c)) (hg : g < W.heap.size) (R : Row W A K 1 (nats .u16 B)) (hK : K ≤ 64) (hB : ∀ y ∈ B, y < 65536) (x : Nat) (hx : x < 65536) (HE : ∀ y ∈ B, ¬ Wm.ones (x &&& y) 16 % 2 = 1) :
    Calls Try.prog 17 #[.int .u16 (x : Int), .pointer (some ⟨g, 0, none⟩)] W fun e w' => e = .returned (.bool false) ∧ Ext W w' := by
  have hlen := R.numN
  have C : Hid (∀ w', Ext (W.alloc (.cells #[.int .u16 (x : Int)] 30)) w' → Calls Try.prog 16 #[.slice A K c, .func (.func 18) #[] #[.pointer (some ⟨W.heap.size, 0, none⟩)]] w' fun e w'' => e = .returned (.bool false) ∧ ∃ q, w'' = w'.drewN q) := hide (fun w' E => by
    have E0 : Ext W (W.alloc (.cells #[.int .u16 (x : Int)] 30)) := (Ext.refl W).alloc _
    have hcx : (W.alloc (.cells #[.int .u16 (x : Int)] 30)).cell? ⟨W.heap.size, 0, none⟩ = some (.int .u16 (x : Int)) := by simp [go_sem]
    have hb : W.heap.size < (W.alloc (.cells #[.int .u16 (x : Int)] 30)).heap.size := by simp
    by_cases hm0 : K = 0
    · subst hm0
      refine (Try.slices_ContainsFunc_empty_f16 (α := Nat) A c _ w').mono ?_
      rintro e w'' ⟨rfl, rfl⟩
      exact ⟨rfl, 0, rfl⟩
    · obtain ⟨b2, o, rfl, hb2, hc⟩ := (R.keep (E0.trans E)).2 (by omega)
      have := Try.slices_ContainsFunc_f16 encW (fun y => decide (Wm.ones (x &&& y.val) 16 % 2 = 1)) 18 #[.pointer (some ⟨W.heap.size, 0, none⟩)] (enters_of Try.func18 (by kernel_rfl) rfl) b2 o K c (toW B) w' (fun W' y hW => by
        have h1 := (E.cell (p := ⟨W.heap.size, 0, none⟩) hb).trans hcx
        have h2 : W'.cell? ⟨W.heap.size, 0, none⟩ = some (.int .u16 (x : Int)) := (Below.cell hW (p := ⟨W.heap.size, 0, none⟩) (Nat.lt_of_lt_of_le hb E.size)).trans h1
        exact du11_ok W.heap.size x y.val y.isLt hx W' h2) (by rw [toW_len]; omega) (by omega) (toW_cell hB hlen hc)
      rw [List.take_of_length_le (by rw [toW_len]; omega), toW_any B hB (fun y => decide (Wm.ones (x &&& y) 16 % 2 = 1))] at this
      rw [List.any_eq_false.2 (fun y hy => by simpa using HE y hy)] at this
      exact this)
  have hcella : ∀ o, (W.alloc o).cell? ⟨g, 0, none⟩ = some (.slice A K c) := fun o => (World.cell?_alloc_lt W o ⟨g, 0, none⟩ hg).trans hcell
  clear HE R hB hlen
  go_enter Try.func17, Try.ntmps17
  go_wp2_with fail
  refine (unhide C _ (Ext.refl _)).mono ?_
  rintro e w3 ⟨rfl, q, rfl⟩
  go_wp2
  go_ret
  exact ⟨rfl, (by repeat (first | exact Ext.refl _ | refine Ext.alloc ?_ _ | refine Ext.drew ?_ | refine Ext.drewN ?_ _ | (refine Ext.trans ?_ (plus_ext _ _)) | (refine Ext.setCell ?_ (by have := Ext.size Ext.refl _; simp; omega) _)))⟩

set_option maxRecDepth 100000 in
set_option maxHeartbeats 1000000 in
theorem index_none (A : Option Addr) (m c g : Nat) (L : List Nat) (W : World) (R : Row W A m 1 (nats .u16 L)) (hm : m ≤ 64)
    (HC : ∀ (W' : World) (x : Nat), x ∈ L → Ext W W' → Calls Try.prog 17 #[.int .u16 (x : Int), .pointer (some ⟨g, 0, none⟩)] W' fun e w' => e = .returned (.bool false) ∧ Ext W' w') :
    Calls Try.prog 35 #[.slice A m c, .func (.func 17) #[] #[.pointer (some ⟨g, 0, none⟩)]] W fun e w' => e = .returned (.int .i64 (-1)) ∧ Ext W w' := by
  have hlen := R.numN
  have HR := hide R
  have HCC := hide HC
  have HM := hide (show ∀ k, k < m → L.getD k 0 ∈ L from fun k hk => getD_mem _ 0 (by omega))
  clear R HC hlen
  go_enter Try.func35, Try.ntmps35
  go_wp2
  go_loopw [8] (fun i wr => ∃ k : Nat, k ≤ m ∧ i = .int .i64 k ∧ Hid (Ext W wr)) (fun i _ => m - (intOf i).toNat)
  case atStart => exact ⟨0, Nat.zero_le _, rfl, hide (Ext.refl _)⟩
  case round =>
    obtain ⟨k, hk, rfl, HX⟩ := hrel
    by_cases hlt : k < m
    · obtain ⟨b, o, rfl, hb, hc⟩ := ((unhide HR).keep (unhide HX)).nat hlt
      have C1 := hide (unhide HCC wr _ (unhide HM k hlt) (unhide HX))
      generalize L.getD k 0 = x at *
      go_wp2_with fail
      refine (unhide C1).mono ?_
      rintro e w3 ⟨rfl, E3⟩
      have HX3 := hide ((unhide HX).trans E3)
      clear E3
      go_wp2
      go_roundw
      case rel => exact ⟨k + 1, by omega, by go_num, HX3⟩
      case measure => simp [intOf]; omega
    · obtain rfl : k = m := by omega
      have HX3 := HX
      go_wp2
      go_ret
      exact ⟨rfl, unhide HX3⟩

set_option maxRecDepth 100000 in
set_option maxHeartbeats 1000000 in
theorem contains_none (A : Option Addr) (m c g : Nat) (L : List Nat) (W : World) (R : Row W A m 1 (nats .u16 L)) (hm : m ≤ 64)
    (HC : ∀ (W' : World) (x : Nat), x ∈ L → Ext W W' → Calls Try.prog 17 #[.int .u16 (x : Int), .pointer (some ⟨g, 0, none⟩)] W' fun e w' => e = .returned (.bool false) ∧ Ext W' w') :
    Calls Try.prog 16 #[.slice A m c, .func (.func 17) #[] #[.pointer (some ⟨g, 0, none⟩)]] W fun e w' => e = .returned (.bool false) ∧ Ext W w' := by
  have CI := hide (index_none A m c g L W R hm HC)
  clear R HC
  go_enter Try.func16, Try.ntmps16
  go_wp2_with fail
  refine (unhide CI).mono ?_
  rintro e w3 ⟨rfl, E3⟩
  have HX3 := hide E3
  clear E3
  go_wp2
  go_ret
  exact ⟨ret_boolv (by simp), unhide HX3⟩
end Go.Proofs.Ytbejhfafipedmaa
