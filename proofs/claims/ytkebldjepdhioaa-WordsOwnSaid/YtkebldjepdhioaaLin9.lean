/-
  The contracts of linear.Far and Dual.
-/
import Derived.Test.YtkebldjepdhioaaLin8
set_option linter.unusedVariables false
set_option linter.unusedSimpArgs false
namespace Wm
theorem du_len_le {N : Nat} {l : List Nat} (hl : ∀ x ∈ l, x < 2 ^ N) (h : N ≤ (bl l).length + 6) : (du N l).length ≤ 64 := by
  have h1 := du_len (n := N) (bl_red l) (bl_lt hl)
  rw [du_congr (bl_ws l)] at h1
  have h2 : 2 ^ N ≤ 2 ^ ((bl l).length + 6) := Nat.pow_le_pow_right (by omega) h
  rw [Nat.pow_add] at h2
  have h3 : 0 < 2 ^ (bl l).length := Nat.two_pow_pos _
  have h4 : (du N l).length * 2 ^ (bl l).length ≤ 64 * 2 ^ (bl l).length := by rw [h1]; omega
  exact Nat.le_of_mul_le_mul_right h4 h3
theorem perp_any {N y : Nat} (hN : N ≤ 12) {l : List Nat} (hl : ∀ x ∈ l, x < 2 ^ N) : l.any (fun g => decide (ones (g &&& y) 16 % 2 = 1)) = !perp N l y := by
  rw [Bool.eq_iff_iff]
  unfold perp
  rw [Bool.not_eq_true', ← Bool.not_eq_true, List.all_eq_true, List.any_eq_true]
  constructor
  · rintro ⟨g, hg, h⟩ h2
    have h3 := h2 g hg
    rw [decide_eq_true_eq] at h h3
    rw [ones_16 (n := N) (by omega) (Nat.lt_of_le_of_lt Nat.and_le_left (hl g hg))] at h
    omega
  · intro h
    apply Classical.byContradiction
    intro h2
    apply h
    intro g hg
    rw [decide_eq_true_eq]
    apply Classical.byContradiction
    intro h3
    apply h2
    refine ⟨g, hg, ?_⟩
    rw [decide_eq_true_eq, ones_16 (n := N) (by omega) (Nat.lt_of_le_of_lt Nat.and_le_left (hl g hg))]
    omega
theorem du_step (N y : Nat) (l : List Nat) : (List.range (y + 1)).filter (perp N l) = (List.range y).filter (perp N l) ++ (if perp N l y = true then [y] else []) := by
  rw [List.range_succ, List.filter_append, List.filter_cons]
  by_cases h : perp N l y = true
  · rw [if_pos h, if_pos h]; rfl
  · rw [if_neg h, if_neg h]; rfl
end Wm
namespace Go.Proofs.Ytkebldjepdhioaa
open Go.RowKit Go.BigFrame Go.Sort

/-- What Far returns. -/
def FarPost (n : Int) (l : List Nat) (e : Ending) : Prop :=
  (Wm.chkL n l ≠ 0 ∧ e = .returned (.tuple #[.int .i64 0, .int .i64 (Wm.chkL n l)])) ∨
  (Wm.chkL n l = 0 ∧ ((∃ d : Nat, 1 ≤ d ∧ d ≤ n.toNat ∧ 0 < Wm.wcnt (Wm.wl l) d ∧ (∀ j, 1 ≤ j → j < d → Wm.wcnt (Wm.wl l) j = 0) ∧ e = .returned (.tuple #[.int .i64 (d : Int), .int .i64 0])) ∨
    ((∀ j, 1 ≤ j → j ≤ n.toNat → Wm.wcnt (Wm.wl l) j = 0) ∧ e = .returned (.tuple #[.int .i64 0, .int .i64 4]))))
set_option maxRecDepth 100000 in
set_option maxHeartbeats 1000000 in
theorem dual1_ok (b y x : Nat) (hy : y < 65536) (hx : x < 65536) (W : World) (hc : W.cell? ⟨b, 0, none⟩ = some (.int .u16 (y : Int))) :
    Calls Try.prog 32 #[.int .u16 (x : Int), .pointer (some ⟨b, 0, none⟩)] W fun e w' => e = .returned (.bool (decide (Wm.ones (x &&& y) 16 % 2 = 1))) ∧ ∃ q, w' = W.drewN q := by
  have hand := u16_and_nat x y hx hy
  have CO := hide (fun w : World => count16_any (x &&& y) (Nat.lt_of_le_of_lt Nat.and_le_left hx) w)
  have hq := Wm.ones_le (x &&& y) 16
  generalize x &&& y = z at *
  generalize Wm.ones z 16 = q at *
  go_enter Try.func32, Try.ntmps32
  go_wp2_with fail
  refine (unhide CO _).mono ?_
  rintro e w3 ⟨rfl, d, rfl⟩
  go_wp2
  go_ret
  exact ⟨ret_boolv (by
    by_cases h : q % 2 = 1
    · simp [h]; omega
    · simp [h]; omega), d, rfl⟩

def DuPost (n : Int) (l : List Nat) (w w' : World) (e : Ending) : Prop :=
  (Wm.chkL n l ≠ 0 ∧ e = .returned (.tuple #[.slice none 0 0, .int .i64 (Wm.chkL n l)])) ∨
  (Wm.chkL n l = 0 ∧ (((Wm.bl l).length + 6 < n.toNat ∧ e = .returned (.tuple #[.slice none 0 0, .int .i64 2])) ∨
    (n.toNat ≤ (Wm.bl l).length + 6 ∧ ∃ v, e = .returned (.tuple #[v, .int .i64 0]) ∧ Made w' w.heap.size 26 1 v (Wm.bl (Wm.du n.toNat l)).length (nats .u16 (Wm.bl (Wm.du n.toNat l))))))
set_option maxRecDepth 100000 in
set_option maxHeartbeats 4000000 in
theorem Dual_any (n : Int) (A : Option Addr) (m c : Nat) (l : List Nat) (w : World) (R : Row w A m 1 (nats .u16 l)) (hm : m ≤ 9223372036854775807) (hl : ∀ x ∈ l, x < 65536) :
    Calls Try.prog 12 #[.int .i64 n, .slice A m c] w fun e w' => DuPost n l w w' e ∧ Ext w w' := by
  have CK := hide (check_any n A m c l w R hm hl)
  by_cases hk : Wm.chkL n l = 0
  · obtain ⟨N, rfl, h1, h12, h6, hlt⟩ := Wm.chk_ok hk
    have hlen := R.numN
    have CB := hide (fun (W : World) (E : Ext w W) => base_ok A m c l W (R.keep E) (by omega) (Wm.lt12 h12 hlt))
    have HK := hide hk
    have HT := hide (Int.toNat_natCast N)
    have hb6 := Nat.le_trans (Wm.bl_len_le l) h6
    rw [hk] at CK
    by_cases hbig : (Wm.bl l).length + 6 < N
    · have HBIG := hide hbig
      have hbI : (6 : Int) < (N : Int) - ((Wm.bl l).length : Int) := by omega
      clear R hl hlt hk
      generalize hKK : (Wm.bl l).length = K at *
      have HKK := hide hKK
      clear hKK
      go_enter Try.func12, Try.ntmps12
      go_wp2_with fail
      refine (unhide CK).mono ?_
      rintro e w1 ⟨rfl, E1⟩
      go_wp2_with fail
      refine (unhide CB _ E1).mono ?_
      rintro e w2 ⟨⟨v, rfl, M⟩, E2⟩
      obtain ⟨A2, c2, rfl, -, -, -, -⟩ := M.open_
      have HE := hide (E1.trans E2)
      clear M E1 E2
      go_wp2
      go_ret2
      exact ⟨.inr ⟨unhide HK, .inl ⟨by rw [unhide HT, unhide HKK]; exact unhide HBIG, rfl⟩⟩, unhide HE⟩
    · have hbI : ¬ (6 : Int) < (N : Int) - ((Wm.bl l).length : Int) := by omega
      have hsm : N ≤ (Wm.bl l).length + 6 := by omega
      have HDL := hide (Wm.du_len_le hlt hsm)
      have HD12 := hide (show ∀ x ∈ Wm.du N l, x < 2 ^ 12 from fun x hx => Nat.lt_of_lt_of_le (Wm.du_mem.1 hx).1 (Nat.pow_le_pow_right (by omega) h12))
      have hP : 2 ^ N ≤ 4096 := Nat.pow_le_pow_right (n := 2) (by omega) h12
      have hP1 : 1 ≤ 2 ^ N := Nat.one_le_two_pow
      have hPw : IntKind.u16.wrap ((2 : Int) ^ N) = ((2 ^ N : Nat) : Int) := by
        rw [IntKind.wrap_u16, show ((2 : Int) ^ N) = ((2 ^ N : Nat) : Int) by push_cast; rfl]; omega
      have HDU := hide (show (List.range (2 ^ N)).filter (Wm.perp N l) = Wm.du N l from rfl)
      have HST := hide (fun y => Wm.du_step N y l)
      have HLF := hide (fun y => show ((List.range y).filter (Wm.perp N l)).length ≤ y from Nat.le_trans (List.length_filter_le _ _) (by simp))
      have C : Hid (∀ (y : Nat) (W : World) (b : Nat) (w' : World), y < 65536 → Ext w W → W.cell? ⟨b, 0, none⟩ = some (.int .u16 (y : Int)) → b < W.heap.size → Ext W w' → Calls Try.prog 31 #[.slice A m c, .func (.func 32) #[] #[.pointer (some ⟨b, 0, none⟩)]] w' fun e w'' => e = .returned (.bool (!Wm.perp N l y)) ∧ ∃ q, w'' = w'.drewN q) := hide (fun y W b w' hy E0 hcell hb E => by
          rw [← Wm.perp_any h12 hlt]
          by_cases hm0 : m = 0
          · subst hm0
            obtain rfl := List.eq_nil_of_length_eq_zero hlen
            refine (Try.slices_ContainsFunc_empty_f31 (α := Nat) A c _ w').mono ?_
            rintro e w'' ⟨rfl, rfl⟩
            exact ⟨rfl, 0, rfl⟩
          · obtain ⟨b2, o, rfl, hb2, hc⟩ := (R.keep (E0.trans E)).2 (by omega)
            have := Try.slices_ContainsFunc_f31 encW (fun x => decide (Wm.ones (x.val &&& y) 16 % 2 = 1)) 32 #[.pointer (some ⟨b, 0, none⟩)] (enters_of Try.func32 (by kernel_rfl) rfl) b2 o m c (toW l) w' (fun W' x hW => by
              have h1 := (E.cell (p := ⟨b, 0, none⟩) hb).trans hcell
              have h2 : W'.cell? ⟨b, 0, none⟩ = some (.int .u16 (y : Int)) := (Below.cell hW (p := ⟨b, 0, none⟩) (Nat.lt_of_lt_of_le hb E.size)).trans h1
              exact dual1_ok b y x.val hy x.isLt W' h2) (by rw [toW_len]; omega) hm (toW_cell hl hlen hc)
            rw [List.take_of_length_le (by rw [toW_len]; omega), toW_any l hl (fun x => decide (Wm.ones (x &&& y) 16 % 2 = 1))] at this
            exact this)
      clear R hl hlt hk
      have HKL := hide hsm
      generalize hKK : (Wm.bl l).length = K at *
      have HKK := hide hKK
      generalize hPP : 2 ^ N = P at *
      clear hKK hPP hbig hsm
      go_enter Try.func12, Try.ntmps12
      go_wp2_with fail
      refine (unhide CK).mono ?_
      rintro e w1 ⟨rfl, E1⟩
      go_wp2_with fail
      refine (unhide CB _ E1).mono ?_
      rintro e w2 ⟨⟨v, rfl, M⟩, E2⟩
      obtain ⟨A2, c2, rfl, -, -, -, -⟩ := M.open_
      have hE := And.intro (E1.trans E2) trivial
      clear M E1 E2 CK CB
      go_wp2
      go_loopw [7, 23] (fun v i wr => ∃ y : Nat, y ≤ P ∧ i = .int .u16 y ∧ Hid (wr.ownsRow w.heap.size 26 1 v ((List.range y).filter (Wm.perp N l)).length (nats .u16 ((List.range y).filter (Wm.perp N l)))) ∧ (Ext w wr ∧ True)) (fun _ i _ => P - (intOf i).toNat)
      case atStart => exact ⟨0, Nat.zero_le _, rfl, hide (World.ownsRow_nil _ _ _ _), hE.1, trivial⟩
      case round =>
        clear hE
        obtain ⟨y, hy, rfl, HO, hE⟩ := hrel
        by_cases hyP : y < P
        · have CY := hide (fun w' (E : Ext (wr.alloc (.cells #[.int .u16 (y : Int)] 26)) w') => unhide C y (wr.alloc (.cells #[.int .u16 (y : Int)] 26)) wr.heap.size w' (by omega) (hE.1.alloc _) (by simp [go_sem]) (by simp) E)
          have HS := hide (unhide HST y)
          have hlf := unhide HLF y
          have hcell : ∀ o d, (((wr.alloc (.cells #[.int .u16 (y : Int)] 26)).drewN d).alloc o).cell? ⟨wr.heap.size, 0, none⟩ = some (.int .u16 (y : Int)) := fun o d => by
            rw [World.cell?_alloc_lt _ _ _ (by simp)]
            simp [go_sem]
          by_cases hp : Wm.perp N l y = true
          · rw [hp] at CY
            rw [if_pos hp] at HS
            have hext := fun d => (hE.1.alloc (.cells #[.int .u16 (y : Int)] 26)).drewN d
            have HOW := hide (fun d => (row_ext (unhide HO) (((Ext.refl wr).alloc (.cells #[.int .u16 (y : Int)] 26)).drewN d)))
            generalize (List.range y).filter (Wm.perp N l) = O at *
            have hbd : (O.length + 1) * 2 ≤ 140737488355328 ∧ O.length + 1 ≤ 9223372036854775807 := by omega
            clear hp HO hE
            go_wp2_with fail
            refine (unhide CY _ (by repeat (first | exact Ext.refl _ | refine Ext.alloc ?_ _ | refine Ext.drew ?_ | refine Ext.drewN ?_ _ | (refine Ext.trans ?_ (plus_ext _ _)) | (refine Ext.setCell ?_ (by have := Ext.size Ext.refl _; simp; omega) _)))).mono ?_
            rintro e w3 ⟨rfl, d, rfl⟩
            have hext4 := hext d
            have HOW4 := hide (unhide HOW d)
            have hcell4 : ((wr.alloc (.cells #[.int .u16 (y : Int)] 26)).drewN d).cell? ⟨wr.heap.size, 0, none⟩ = some (.int .u16 (y : Int)) := by simp [go_sem]
            clear hext HOW hcell CY
            generalize (wr.alloc (.cells #[.int .u16 (y : Int)] 26)).drewN d = w4 at *
            go_wp2_with (at_builtin; refine wpList_app rfl _ _ 22 (by rfl) 26 u16Q hext4 _ _ _ _ (by rfl) (unhide HOW4) 1 1 (by rfl) rfl rfl hbd ?_)
            intro v' w' hown' hext' _
            have HO2 := hide (show w'.ownsRow w.heap.size 26 1 v' ((List.range (y + 1)).filter (Wm.perp N l)).length (nats .u16 ((List.range (y + 1)).filter (Wm.perp N l))) by
              rw [unhide HS, List.length_append, ← nats_append]
              exact hown')
            have hE2 := And.intro hext' trivial
            clear hown' hext' hext4 HOW4 hbd
            go_wp2
            go_roundw
            case rel => exact ⟨y + 1, by omega, by go_num, HO2, hE2⟩
            case measure => simp [intOf]; omega
          · rw [Bool.not_eq_true] at hp
            rw [hp] at CY
            rw [if_neg (by rw [hp]; decide), List.append_nil] at HS
            have HO2 := hide (fun d => show ((wr.alloc (.cells #[.int .u16 (y : Int)] 26)).drewN d).ownsRow w.heap.size 26 1 _ ((List.range (y + 1)).filter (Wm.perp N l)).length (nats .u16 ((List.range (y + 1)).filter (Wm.perp N l))) by
              rw [unhide HS]
              exact row_ext (unhide HO) (((Ext.refl wr).alloc (.cells #[.int .u16 (y : Int)] 26)).drewN d))
            clear hp HO
            go_wp2_with fail
            refine (unhide CY _ (by repeat (first | exact Ext.refl _ | refine Ext.alloc ?_ _ | refine Ext.drew ?_ | refine Ext.drewN ?_ _ | (refine Ext.trans ?_ (plus_ext _ _)) | (refine Ext.setCell ?_ (by have := Ext.size Ext.refl _; simp; omega) _)))).mono ?_
            rintro e w3 ⟨rfl, d, rfl⟩
            go_wp2
            go_roundw
            case rel => exact ⟨y + 1, by omega, by go_num, hide (unhide HO2 d), (hE.1.alloc _).drewN d, trivial⟩
            case measure => simp [intOf]; omega
        · obtain rfl : y = P := by omega
          rw [unhide HDU] at HO
          obtain ⟨A3, c3, rfl, R3, -, -, -⟩ := (Made.of_own (unhide HO)).open_
          have CB2 := hide (base_ok A3 (Wm.du N l).length c3 (Wm.du N l) wr R3 (unhide HDL) (unhide HD12))
          have HE := hide hE.1
          clear R3 HO hE
          go_wp2_with fail
          refine (unhide CB2).mono ?_
          rintro e w4 ⟨⟨v, rfl, M⟩, E4⟩
          have HM := hide (M.mono (Ext.size (unhide HE)))
          have HE4 := hide ((unhide HE).trans E4)
          clear M E4
          go_wp2
          go_ret2
          exact ⟨.inr ⟨unhide HK, .inr ⟨by rw [unhide HT, unhide HKK]; exact unhide HKL, v, rfl, by rw [unhide HT]; exact unhide HM⟩⟩, unhide HE4⟩
  · have HK := hide hk
    obtain ⟨k, hkk⟩ : ∃ k, k = Wm.chkL n l := ⟨_, rfl⟩
    rw [← hkk] at CK hk
    have HKK := hide hkk
    have hkB : (k != 0) = true := by simpa using hk
    clear hkk R hl
    go_enter Try.func12, Try.ntmps12
    go_wp2_with fail
    refine (unhide CK).mono ?_
    rintro e w1 ⟨rfl, E1⟩
    go_wp2
    go_ret2
    exact ⟨.inl ⟨unhide HK, by rw [unhide HKK]; rfl⟩, E1⟩
end Go.Proofs.Ytkebldjepdhioaa
