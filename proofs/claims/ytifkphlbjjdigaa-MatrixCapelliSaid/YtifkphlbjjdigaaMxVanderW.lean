/-
  The walk of the law GridVander.
-/
import Derived.Test.YtifkphlbjjdigaaMx9
import Derived.Test.YtifkphlbjjdigaaMxBinetW
import Derived.Test.YtifkphlbjjdigaaMat7
set_option linter.unusedVariables false
set_option linter.unusedSimpArgs false
namespace Wm
/-- Each two together, multiplied: the inner and the outer loop. -/
def vin (l : List Nat) (i w : Nat) : Nat → Nat
  | 0 => w
  | j + 1 => fmul (vin l i w j) (l.getD i 0 ^^^ l.getD j 0)
def vout (l : List Nat) : Nat → Nat
  | 0 => 1
  | i + 1 => vin l i (vout l i) i
theorem vin_lt {l : List Nat} (hl : ∀ i, l.getD i 0 < 256) {w : Nat} (hw : w < 256) (i : Nat) : ∀ j, vin l i w j < 256
  | 0 => hw
  | j + 1 => fmul_lt (vin_lt hl hw i j) (xor_lt (hl i) (hl j))
theorem vout_lt {l : List Nat} (hl : ∀ i, l.getD i 0 < 256) : ∀ i, vout l i < 256
  | 0 => by show 1 < 256; omega
  | i + 1 => vin_lt hl (vout_lt hl i) i i
theorem vin_pm {l : List Nat} (hl : ∀ i, l.getD i 0 < 256) {w : Nat} (hw : w < 256) (i : Nat) : ∀ j, m8 (vin l i w j) = Fld.ml (m8 w) (Fld.pm (fun j => Fld.ad (m8 (l.getD i 0)) (m8 (l.getD j 0))) j)
  | 0 => (Fld.ml_o _).symm
  | j + 1 => by
    show m8 (fmul (vin l i w j) (l.getD i 0 ^^^ l.getD j 0)) = Fld.ml (m8 w) (Fld.ml (Fld.pm _ j) _)
    rw [m8_ml (vin_lt hl hw i j) (xor_lt (hl i) (hl j)), m8_ad (hl i) (hl j), vin_pm hl hw i j, Fld.ml_assoc]
theorem vout_vp {l : List Nat} (hl : ∀ i, l.getD i 0 < 256) : ∀ i, m8 (vout l i) = Fld.vp (fun i => m8 (l.getD i 0)) i
  | 0 => rfl
  | i + 1 => by
    show m8 (vin l i (vout l i) i) = Fld.ml (Fld.vp _ i) _
    rw [vin_pm hl (vout_lt hl i) i i, vout_vp hl i]
theorem m8_pw {x : Nat} (hx : x < 256) : ∀ k, m8 (fpow x k) = Fld.pw (m8 x) k
  | 0 => rfl
  | k + 1 => by
    show m8 (fmul (fpow x k) x) = Fld.ml (Fld.pw (m8 x) k) (m8 x)
    rw [m8_ml (fpow_lt hx k) hx, m8_pw hx k]
end Wm
namespace Go.Proofs.Ytifkphlbjjdigaa
open Go.RowKit Go.BigFrame Wm.Fld

theorem Tab.relen {w : World} {A : Option Addr} {n : Nat} {ra : Nat → Option Addr} {ln ln' cp : Nat → Nat} {M : Nat → Nat → Nat} (T : Tab w A n ra ln cp M) (h : ∀ i, i < n → ln i = ln' i) : Tab w A n ra ln' cp M where
  hd h0 := by
    obtain ⟨b, o, hA, hb, hc⟩ := T.hd h0
    exact ⟨b, o, hA, hb, fun i hi => by rw [hc i hi, h i hi]⟩
  row i hi h0 := by
    obtain ⟨b, o, hA, hb, hc⟩ := T.row i hi (by rw [h i hi]; exact h0)
    exact ⟨b, o, hA, hb, fun j hj => hc j (by rw [h i hi]; exact hj)⟩
  cap i hi := by rw [← h i hi]; exact T.cap i hi
  lt := T.lt
theorem powM_vnd {l : List Nat} (hl : ∀ i, l.getD i 0 < 256) : Wm.m8m (powM l) = vnd (fun i => Wm.m8 (l.getD i 0)) := by
  funext i j
  exact Wm.m8_pw (hl i) j
theorem getD_lt8 {l : List Nat} (h : ∀ x ∈ l, x < 256) (i : Nat) : l.getD i 0 < 256 := by
  rw [List.getD_eq_getElem?_getD]
  cases e : l[i]? with
  | none => show 0 < 256; omega
  | some x => exact h x (List.mem_of_getElem? e)
/-- The example of Powers. -/
theorem pow_ex (i j : Nat) (hi : i < 2) (hj : j < 2) : powM [2, 3] i j = litM [[1, 2], [1, 3]] i j := by
  have : (List.range 2).all (fun i => (List.range 2).all fun j => decide (powM [2, 3] i j = litM [[1, 2], [1, 3]] i j)) = true := by decide +kernel
  exact of_decide_eq_true (List.all_eq_true.1 (List.all_eq_true.1 this i (List.mem_range.2 hi)) j (List.mem_range.2 hj))

set_option maxRecDepth 100000 in
set_option maxHeartbeats 4000000 in
theorem vander_law (A : Option Addr) (n c : Nat) (l : List Nat) (w : World) (S : SliceIn w A n c 1 1 (nats .u8 l)) (h8 : ∀ x ∈ l, x < 256) :
    Calls Try.prog 9 #[.slice A n c] w fun e w' => e = .returned (.bool true) ∧ Ext w w' := by
  obtain ⟨R, hnc, hrb, hc63, hnil⟩ := S
  have HR := hide R
  have HL := hide R.numN
  have HL8 := hide (getD_lt8 h8)
  have H8 := hide h8
  have CM := hide Mul_any
  have hncI : (n : Int) ≤ (c : Int) := by omega
  clear R h8 hnil hrb
  go_enter Try.func9, Try.ntmps9
  go_wp2_with fail
  refine (Powers_ok _ 2 2 2 [2, 3] (w.alloc (.cells #[.int .u8 2, .int .u8 3] 5)) (row_new w #[.int .u8 2, .int .u8 3] 5 2 1 rfl) (by omega) (by omega) (by decide) (by decide) (by omega) (by omega)).mono ?_
  rintro e w1 ⟨⟨g1, bl1, cp1, rfl, T1⟩, E1⟩
  have HE1 := hide (((Ext.refl w).alloc _).trans E1)
  have HT1 := hide T1
  clear T1 E1
  have HS1 := hide (same_yes (some ⟨g1, 0, none⟩) _ 2 2 2 _ _ (fun _ => 2) cp1 _ _ _ _ ((unhide HT1).keep ((((Ext.refl w1).alloc (.cells (nats .u8 [1, 2]).toArray 5)).alloc (.cells (nats .u8 [1, 3]).toArray 5)).alloc (.cells #[.slice (some ⟨w1.heap.size, 0, none⟩) 2 2, .slice (some ⟨w1.heap.size + 1, 0, none⟩) 2 2] 26))).tab
    ((tabL2 w1 [1, 2] [1, 3] (by decide) (by decide) (by decide) (by decide)).relen (ln' := fun _ => 2) (fun i hi => by
      match i, hi with
      | 0, _ => rfl
      | 1, _ => rfl)) (by omega) (fun _ _ => by omega) (fun i j hi hj => pow_ex i j hi hj))
  go_wp2_with fail
  refine (unhide HS1).mono ?_
  rintro e w2 ⟨rfl, E2⟩
  have HE2 := hide ((unhide HE1).trans (((((Ext.refl w1).alloc _).alloc _).alloc _).trans E2))
  clear HS1 E2 HT1
  go_wp2_with fail
  refine (tables_any w2).mono ?_
  rintro e w3 ⟨rfl, E3⟩
  have HE3 := hide ((unhide HE2).trans E3)
  have CP := hide (Powers_any A n c (n : Int) l w3 ((unhide HR).keep (unhide HE3)) hnc hc63 (unhide H8))
  clear E3
  go_wp2_with fail
  refine (unhide CP).mono ?_
  rintro e w4 ⟨ho, E4⟩
  have HE4 := hide ((unhide HE3).trans E4)
  clear CP E4
  rcases ho with ⟨hne, rfl⟩ | ⟨-, hgr, m, hm, hm1, hm2, g, bl, cp, rfl, T⟩
  · have hB : (powErr l (n : Int) != 0) = true := by rw [bne_iff_ne]; exact hne
    generalize powErr l (n : Int) = r at *
    go_wp2
    go_ret
    exact ⟨rfl, unhide HE4⟩
  · obtain rfl : m = n := by omega
    have CD := hide (Det_any _ m m _ _ _ _ w4 T.tab (by omega))
    clear T hm
    go_wp2_with fail
    refine (unhide CD).mono ?_
    rintro e w5 ⟨ho, E5⟩
    have HE5 := hide ((unhide HE4).trans E5)
    clear CD E5
    rcases ho with ⟨hne, -⟩ | ⟨-, -, -, d, hd, rfl, hdone, -⟩
    · exact absurd (detErr_const hm1 hm2) hne
    rw [powM_vnd (unhide HL8)] at hdone
    have hdv := hdone.vnd Wm.b8_two
    obtain ⟨-, -, hdist⟩ := gridErr_ok hgr
    have hvne := vp_ne (x := fun i => Wm.m8 (l.getD i 0)) Wm.b8_two m (fun i j hj hi e => by
      have := hdist i j (by rw [unhide HL]; omega) (by rw [unhide HL]; omega) (Wm.m8_inj (unhide HL8 i) (unhide HL8 j) e)
      omega)
    have hd0 : d ≠ 0 := fun e => hvne (by rw [← hdv, e]; rfl)
    have HDV := hide (show d = Wm.vout l m from by
      rw [← Wm.vout_vp (unhide HL8)] at hdv
      exact Wm.m8_inj hd (Wm.vout_lt (unhide HL8) m) hdv)
    have hd0B : ((d : Int) != 0) = true := by rw [bne_iff_ne]; omega
    clear hdone hdv hdist hvne hgr hd0
    go_wp2
    go_loopw [9, 52] (fun q i wr => ∃ x : Nat, x ≤ m ∧ i = .int .i64 x ∧ (∃ W : Nat, Hid (W = Wm.vout l x) ∧ q = .int .u8 (W : Int)) ∧ wr = w5) (fun _ i _ => m - (intOf i).toNat)
    case atStart => exact ⟨0, Nat.zero_le _, rfl, ⟨1, hide rfl, rfl⟩, rfl⟩
    case round =>
      obtain ⟨x, hx, rfl, ⟨W, HW, rfl⟩, rfl⟩ := hrel
      by_cases hlt : x < m
      · obtain ⟨b, o, rfl, hb, hc⟩ := ((unhide HR).keep (unhide HE5)).nat hlt
        obtain ⟨w6, hw6⟩ : ∃ w6, w6 = wr := ⟨_, rfl⟩
        subst hw6
        have HC := hide (show ∀ j, j < m → w6.cell? ⟨b, o + j, none⟩ = some (.int .u8 ((l.getD j 0 : Nat) : Int)) from fun j hj => by
          obtain ⟨b', o', hbo, -, hcc⟩ := ((unhide HR).keep (unhide HE5)).nat hj
          injection hbo with hbo
          injection hbo with h1 h2
          subst h1; subst h2
          exact hcc)
        obtain ⟨X, hX⟩ : ∃ X, X = l.getD x 0 := ⟨_, rfl⟩
        have hXl : X < 256 := by rw [hX]; exact unhide HL8 x
        rw [← hX] at hc
        have HX := hide hX
        have hxc : (x : Int) ≤ (c : Int) := by omega
        clear hX
        go_wp2
        go_loopw [9, 61] (fun q i wr => ∃ j : Nat, j ≤ x ∧ i = .int .i64 j ∧ (∃ V : Nat, Hid (V = Wm.vin l x W j) ∧ q = .int .u8 (V : Int)) ∧ wr = w6) (fun _ i _ => x - (intOf i).toNat)
        case atStart => exact ⟨0, Nat.zero_le _, rfl, ⟨W, hide rfl, rfl⟩, rfl⟩
        case round =>
          obtain ⟨j, hj, rfl, ⟨V, HV, rfl⟩, rfl⟩ := hrel
          by_cases hjx : j < x
          · have hcj := unhide HC j (by omega)
            obtain ⟨Y, hY⟩ : ∃ Y, Y = l.getD j 0 := ⟨_, rfl⟩
            have hYl : Y < 256 := by rw [hY]; exact unhide HL8 j
            rw [← hY] at hcj
            have hWl : W < 256 := by rw [unhide HW]; exact Wm.vout_lt (unhide HL8) x
            have hVl : V < 256 := by rw [unhide HV]; exact Wm.vin_lt (unhide HL8) hWl x j
            have hxo := u8_xor_nat X Y hXl hYl
            have C := hide (unhide CM V (X ^^^ Y) hVl (Wm.xor_lt hXl hYl) wr)
            have HN := hide (show Wm.fmul V (X ^^^ Y) = Wm.vin l x W (j + 1) from by rw [unhide HV, unhide HX, hY]; rfl)
            clear hY
            generalize X ^^^ Y = U at *
            generalize Wm.fmul V U = F at *
            go_wp2_with fail
            refine (unhide C).mono ?_
            rintro e w7 ⟨rfl, rfl⟩
            go_wp2
            go_roundw
            case rel => exact ⟨j + 1, by omega, by go_num, ⟨F, HN, rfl⟩, by first | rfl | trivial⟩
            case measure => simp [intOf]; omega
          · obtain rfl : x = j := by omega
            have HN := hide (show V = Wm.vout l (x + 1) from by rw [unhide HV, unhide HW]; rfl)
            go_wp2
            go_roundw
            case rel => exact ⟨x + 1, by omega, by go_num, ⟨V, HN, rfl⟩, by first | rfl | trivial⟩
            case measure => simp [intOf]; omega
      · obtain rfl : m = x := by omega
        obtain rfl : W = d := by rw [unhide HW, unhide HDV]
        go_wp2
        go_ret
        exact ⟨rfl, unhide HE5⟩
end Go.Proofs.Ytifkphlbjjdigaa
