/-
  The contract of grid.Crossed.
-/
import Derived.Test.YtepkiicekcglhaaMx9
set_option linter.unusedVariables false
set_option linter.unusedSimpArgs false
namespace Go.Proofs.Ytepkiicekcglhaa
open Go.RowKit Go.BigFrame Wm.Fld


set_option maxRecDepth 100000 in
set_option maxHeartbeats 1000000 in
theorem crs_index (A : Option Addr) (n c : Nat) (l : List Nat) (q : Addr) (w : World) (R : Row w A n 1 (nats .u8 l)) (p : Nat → Bool)
    (hp : ∀ k, k < n → ∀ W, Ext w W → Calls Try.prog 33 (#[.int .u8 ((l.getD k 0 : Nat) : Int)] ++ #[.pointer (some q)]) W fun e w' => e = .returned (.bool (p (l.getD k 0))) ∧ Ext W w') (hm : n ≤ 4611686018427387904) :
    Calls Try.prog 48 #[.slice A n c, .func (.func 33) #[] #[.pointer (some q)]] w fun e w' => (∃ r : Int, e = .returned (.int .i64 r) ∧ decide (0 ≤ r) = l.any p) ∧ Ext w w' := by
  have HP := hide hp
  have HL := hide R.numN
  have HR := hide R
  clear hp R
  go_enter Try.func48, Try.ntmps48
  go_wp2
  go_loopw [8] (fun i wr => ∃ k : Nat, k ≤ n ∧ i = .int .i64 k ∧ Hid (∀ j, j < k → p (l.getD j 0) = false) ∧ Ext w wr) (fun i _ => n - (intOf i).toNat)
  case atStart => exact ⟨0, by omega, rfl, hide (fun j h => absurd h (by omega)), Ext.refl _⟩
  case round =>
    obtain ⟨k, hk, rfl, hz, hext⟩ := hrel
    by_cases hlt : k < n
    · obtain ⟨b, o, rfl, hb, c1⟩ := ((unhide HR).keep hext).nat hlt
      have hpk := unhide HP k hlt
      have hmem := getD_mem l 0 (k := k) (by rw [unhide HL]; exact hlt)
      have hzk := hide (fun (h : p (l.getD k 0) = false) j (hj : j < k + 1) => (show p (l.getD j 0) = false from by
        by_cases h' : j < k
        · exact unhide hz j h'
        · obtain rfl : j = k := by omega
          exact h))
      have hfin := hide (fun (h : p (l.getD k 0) = true) => (List.any_eq_true.2 ⟨_, hmem, h⟩ : l.any p = true))
      clear hmem
      generalize hq : p (l.getD k 0) = q at *
      clear hq
      generalize l.getD k 0 = x at *
      have HQ := hide hpk
      clear hpk
      cases q with
      | false =>
        have hz2 := hide (unhide hzk rfl)
        clear hzk hfin
        go_wp2_with (go_at_call 33; refine (unhide HQ _ hext).mono ?_; rintro e w' ⟨rfl, E1⟩)
        go_roundw
        case rel => exact ⟨k + 1, by omega, by go_num, hz2, hext.trans E1⟩
        case measure => simp [intOf]; omega
      | true =>
        have hf2 := hide (unhide hfin rfl)
        clear hzk hfin
        go_wp2_with (go_at_call 33; refine (unhide HQ _ hext).mono ?_; rintro e w' ⟨rfl, E1⟩)
        go_ret
        exact ⟨⟨_, rfl, by rw [unhide hf2]; simp⟩, hext.trans E1⟩
    · have hfin := hide (show l.any p = false by
        rw [List.any_eq_false]
        intro x hx
        obtain ⟨j, hj, rfl⟩ := List.getElem_of_mem hx
        have := unhide hz j (by have := unhide HL; omega)
        rw [List.getD_eq_getElem?_getD, List.getElem?_eq_getElem hj] at this
        simpa using this)
      go_wp2
      go_ret
      exact ⟨⟨_, rfl, by rw [unhide hfin]; simp⟩, hext⟩

theorem crs_contains (A : Option Addr) (n c : Nat) (l : List Nat) (q : Addr) (w : World) (R : Row w A n 1 (nats .u8 l)) (p : Nat → Bool)
    (hp : ∀ k, k < n → ∀ W, Ext w W → Calls Try.prog 33 (#[.int .u8 ((l.getD k 0 : Nat) : Int)] ++ #[.pointer (some q)]) W fun e w' => e = .returned (.bool (p (l.getD k 0))) ∧ Ext W w') (hm : n ≤ 4611686018427387904) :
    Calls Try.prog 32 #[.slice A n c, .func (.func 33) #[] #[.pointer (some q)]] w fun e w' => e = .returned (.bool (l.any p)) ∧ Ext w w' := by
  have H := hide (crs_index A n c l q w R p hp hm)
  clear R hp
  generalize l.any p = v at *
  go_enter Try.func32, Try.ntmps32
  go_wp2_with fail
  refine (unhide H).mono ?_
  rintro e w' ⟨⟨n, rfl, hn⟩, E1⟩
  go_wp2
  go_ret
  exact ⟨rfl, E1⟩


def crsM (la lb : List Nat) : Nat → Nat → Nat := fun i j => Wm.fpow (la.getD i 0 ^^^ lb.getD j 0) 254
/-- Something in common. -/
def gmix (la lb : List Nat) : Bool := la.any fun x => decide (x ∈ lb)
theorem gmix_no {la lb : List Nat} (h : gmix la lb = false) {i j : Nat} (hi : i < la.length) (hj : j < lb.length) : la.getD i 0 ≠ lb.getD j 0 := fun e => by
  unfold gmix at h
  rw [List.any_eq_false] at h
  have := h _ (getD_mem la 0 hi)
  apply this
  rw [e]
  exact decide_eq_true (getD_mem lb 0 hj)

set_option maxRecDepth 100000 in
theorem closure_crs (W : World) (B : Option Addr) (m c bx : Nat) (lb : List Nat) (x : Nat) (hb : W.cell? ⟨bx, 0, none⟩ = some (.slice B m c)) (R : Row W B m 1 (nats .u8 lb)) (hm : m ≤ 1000) :
    Calls Try.prog 33 #[.int .u8 (x : Int), .pointer (some ⟨bx, 0, none⟩)] W fun e w' => e = .returned (.bool (decide (x ∈ lb))) ∧ Ext W w' := by
  have C := hide (contains_u8 B m c lb x W R hm)
  clear R
  generalize decide (x ∈ lb) = q at *
  go_enter Try.func33, Try.ntmps33
  go_wp2_with fail
  refine (unhide C).mono ?_
  rintro e w' ⟨rfl, rfl⟩
  go_wp2
  go_ret
  exact ⟨rfl, Ext.refl _⟩

/-- Why nothing is crossed. -/
def crsErr (la lb : List Nat) : Int := if gridErr la ≠ 0 then gridErr la else if gridErr lb ≠ 0 then gridErr lb else if gmix la lb = true then 6 else 0
def CrsOut (w w' : World) (la lb : List Nat) (n m : Nat) (e : Ending) : Prop :=
  (crsErr la lb ≠ 0 ∧ e = .returned (.tuple #[.slice none 0 0, .int .i64 (crsErr la lb)])) ∨
  (crsErr la lb = 0 ∧ gridErr la = 0 ∧ gridErr lb = 0 ∧ gmix la lb = false ∧ ∃ g bl cp, e = .returned (.tuple #[.slice (some ⟨g, 0, none⟩) n n, .int .i64 0]) ∧ Tb w' w.heap.size g n bl cp m (crsM la lb))

set_option maxRecDepth 100000 in
set_option maxHeartbeats 4000000 in
theorem Crossed_any (A : Option Addr) (n c : Nat) (la : List Nat) (B : Option Addr) (m c2 : Nat) (lb : List Nat) (w : World) (R : Row w A n 1 (nats .u8 la)) (hnc : n ≤ c) (hc63 : c ≤ 9223372036854775807) (hl8 : ∀ x ∈ la, x < 256)
    (S : Row w B m 1 (nats .u8 lb)) (hnc2 : m ≤ c2) (hc632 : c2 ≤ 9223372036854775807) (hl82 : ∀ x ∈ lb, x < 256) :
    Calls Try.prog 15 #[.slice A n c, .slice B m c2] w fun e w' => CrsOut w w' la lb n m e ∧ Ext w w' := by
  have hlen := R.numN
  have hlen2 := S.numN
  obtain ⟨wx, hwx⟩ : ∃ wx, wx = w.alloc (.cells #[.slice B m c2] 23) := ⟨_, rfl⟩
  have EX : Ext w wx := by rw [hwx]; exact (Ext.refl w).alloc _
  have hbx : wx.cell? ⟨w.heap.size, 0, none⟩ = some (.slice B m c2) := by rw [hwx]; simp
  have CA := hide (gcheck_any A n c la wx (R.keep EX) hnc hc63)
  have CB := hide (gcheck_any B m c2 lb wx (S.keep EX) hnc2 hc632)
  have HEX := hide EX
  by_cases h1 : gridErr la = 0
  · by_cases h2 : gridErr lb = 0
    · obtain ⟨a1, a2, -⟩ := gridErr_ok h1
      obtain ⟨b1, b2, -⟩ := gridErr_ok h2
      rw [hlen] at a1 a2
      rw [hlen2] at b1 b2
      have CC := hide (crs_contains A n c la ⟨w.heap.size, 0, none⟩ wx (R.keep EX) (fun x => decide (x ∈ lb)) (fun k hk W EW => closure_crs W B m c2 w.heap.size lb (la.getD k 0) (EW.keep hbx) ((S.keep EX).keep EW) (by omega)) (by omega))
      rw [h1] at CA
      rw [h2] at CB
      have HE0 := hide (show crsErr la lb = if gmix la lb = true then 6 else 0 from by unfold crsErr; rw [if_neg (by rw [h1]; decide), if_neg (by rw [h2]; decide)])
      have H1 := hide h1
      have H2 := hide h2
      have hgm : la.any (fun x => decide (x ∈ lb)) = gmix la lb := rfl
      rw [hgm] at CC
      have HR := hide (R.keep EX)
      have HS := hide (S.keep EX)
      have HL := hide hlen
      have HL2 := hide hlen2
      have HL8 := hide (show ∀ i, la.getD i 0 < 256 from fun i => by
        rw [List.getD_eq_getElem?_getD]
        cases e : la[i]? with
        | none => show 0 < 256; omega
        | some x => exact hl8 x (List.mem_of_getElem? e))
      have HL82 := hide (show ∀ i, lb.getD i 0 < 256 from fun i => by
        rw [List.getD_eq_getElem?_getD]
        cases e : lb[i]? with
        | none => show 0 < 256; omega
        | some x => exact hl82 x (List.mem_of_getElem? e))
      have HBX := hide hbx
      have CI := hide Inv_ok
      have hmk : ∀ w : World, (Instr.makeSlice 22 (.int .i64 (n : Int)) (.int .i64 (n : Int))).run Try.prog w = .ok (.slice (some ⟨w.heap.size, 0, none⟩) n n) (w.alloc (.cells (madeCells #[.slice none 0 0] n) 23)) := fun w => by
        have := make_run rowM n n (Nat.le_refl _) (by omega) (by omega) w
        rw [Nat.mul_one] at this
        exact this
      obtain ⟨gm, hgmm⟩ : ∃ gm, gm = gmix la lb := ⟨_, rfl⟩
      rw [← hgmm] at CC HE0
      have HGM := hide hgmm
      rw [hwx] at CA CB CC HR HS HEX HBX
      clear R S EX hbx hl8 hl82 h1 h2 hgm hgmm hlen hlen2 hwx
      cases gm with
      | true =>
        have HO := hide (fun (W : World) => show CrsOut w W la lb n m (.returned (.tuple #[.slice none 0 0, .int .i64 6])) from .inl ⟨by rw [unhide HE0]; decide, by rw [unhide HE0]; rfl⟩)
        go_enter Try.func15, Try.ntmps15
        go_wp2_with fail
        refine (unhide CA).mono ?_
        rintro e w1 ⟨rfl, hw1⟩
        subst hw1
        go_wp2_with fail
        refine (unhide CB).mono ?_
        rintro e w1 ⟨rfl, hw1⟩
        subst hw1
        go_wp2_with fail
        refine (unhide CC).mono ?_
        rintro e w2 ⟨rfl, E2⟩
        have HE2 := hide ((unhide HEX).trans E2)
        clear E2
        go_wp2
        go_ret2
        exact ⟨unhide HO _, unhide HE2⟩
      | false =>
        go_enter Try.func15, Try.ntmps15
        go_wp2_with fail
        refine (unhide CA).mono ?_
        rintro e w1 ⟨rfl, hw1⟩
        subst hw1
        go_wp2_with fail
        refine (unhide CB).mono ?_
        rintro e w1 ⟨rfl, hw1⟩
        subst hw1
        go_wp2_with fail
        refine (unhide CC).mono ?_
        rintro e w2 ⟨rfl, E2⟩
        have HE2 := hide ((unhide HEX).trans E2)
        have HR2 := hide ((unhide HR).keep E2)
        have HS2 := hide ((unhide HS).keep E2)
        have HBX2 := hide (E2.keep (unhide HBX))
        have HG0 := hide (Gr.start 5 23 w2 n m (fun _ => 0) (fun _ => 0) (crsM la lb) (by omega))
        clear E2 CA CB CC HR HS HBX
        go_wp2
        go_loopw [33] (fun i wr => ∃ x : Nat, x ≤ n ∧ i = .int .i64 x ∧ ∃ bl cq : Nat → Nat, Hid (Gr 5 w2 wr w2.heap.size n x m bl cq (crsM la lb) (.slice none 0 0) 0 [])) (fun i _ => n - (intOf i).toNat)
        case atStart => exact ⟨0, Nat.zero_le _, rfl, _, _, HG0⟩
        case round =>
          obtain ⟨x, hx, rfl, bl, cq, HG⟩ := hrel
          by_cases hlt : x < n
          · obtain ⟨b, o, rfl, hb, hc⟩ := ((unhide HR2).keep (unhide HG).ext).nat hlt
            obtain ⟨X, hX⟩ : ∃ X, X = la.getD x 0 := ⟨_, rfl⟩
            have hXl : X < 256 := by rw [hX]; exact unhide HL8 x
            rw [← hX] at hc
            have HX := hide hX
            have hbxx := (unhide HG).ext.keep (unhide HBX2)
            clear hX
            go_wp2
            go_loopw [40] (fun i wz => ∃ j : Nat, j ≤ m ∧ i = .int .i64 j ∧ ∃ v : Value, Hid (Gr 5 w2 wz w2.heap.size n x m bl cq (crsM la lb) v j ((List.range j).map fun t => Wm.fpow (X ^^^ lb.getD t 0) 254))) (fun i _ => m - (intOf i).toNat)
            case atStart => exact ⟨0, Nat.zero_le _, rfl, _, HG⟩
            case round =>
              obtain ⟨j, hj, rfl, v, HJ⟩ := hrel
              by_cases hjN : j < m
              · obtain ⟨b2, o2, rfl, hb2, hc2⟩ := ((unhide HS2).keep (unhide HJ).ext).nat hjN
                obtain ⟨Z, hZ⟩ : ∃ Z, Z = lb.getD j 0 := ⟨_, rfl⟩
                have hZl : Z < 256 := by rw [hZ]; exact unhide HL82 j
                rw [← hZ] at hc2
                have hne : X ≠ Z := by
                  rw [hZ, unhide HX]
                  exact gmix_no (unhide HGM).symm (by rw [unhide HL]; exact hlt) (by rw [unhide HL2]; exact hjN)
                have hxo := u8_xor_nat X Z hXl hZl
                have hU0 : X ^^^ Z ≠ 0 := fun e => hne (by
                  have := congrArg (· ^^^ Z) e
                  simpa [Nat.xor_assoc] using this)
                have hUl : X ^^^ Z < 256 := Wm.xor_lt hXl hZl
                have C := hide (unhide CI (X ^^^ Z) hU0 hUl wr)
                have HXS := hide (show nats .u8 ((List.range (j + 1)).map fun t => Wm.fpow (X ^^^ lb.getD t 0) 254) = nats .u8 ((List.range j).map fun t => Wm.fpow (X ^^^ lb.getD t 0) 254) ++ [.int .u8 ((Wm.fpow (X ^^^ Z) 254 : Nat) : Int)] from by rw [List.range_succ, List.map_append, ← nats_append, hZ]; rfl)
                clear hZ hne
                generalize X ^^^ Z = U at *
                obtain ⟨Y, hYY⟩ : ∃ Y, Y = Wm.fpow U 254 := ⟨_, rfl⟩
                rw [← hYY] at C HXS
                clear hYY
                go_wp2_with fail
                refine (unhide C).mono ?_
                rintro e wb ⟨rfl, rfl⟩
                have TA := hide ((unhide HJ).keep ((Ext.refl wb).alloc (.cells #[.int .u8 (Y : Int)] 5)))
                have hcur := (unhide HJ).cur hlt
                have HOW := hide (unhide TA).own
                have HBD := hide (show (j + 1) * 1 ≤ 140737488355328 ∧ j + 1 ≤ 9223372036854775807 by omega)
                have HBS := hide (unhide TA).ext.size
                have HRN := hide (row_new wb #[.int .u8 (Y : Int)] 5 1 1 rfl)
                go_wp2_with (at_builtin; refine stop ?_)
                unfold Stop
                refine wpList_app_any rfl _ _ 23 (by rfl) 5 byteM w2.heap.size _ j _ (by rfl) (unhide HOW) (some ⟨wb.heap.size, 0, none⟩) 1 1 [.int .u8 (Y : Int)] (by rfl) (unhide HRN) rfl (unhide HBD) (unhide HBS) ?_
                intro v' w6 hown6 hg6 hat6
                obtain ⟨g6, c6, hv6, -⟩ := row_open hown6 (by omega)
                subst hv6
                obtain ⟨hp1, hp2⟩ := (unhide TA).place hlt hg6
                have TT := hide ((unhide TA).grow hlt (m' := j + 1) (ys := (List.range (j + 1)).map fun t => Wm.fpow (X ^^^ lb.getD t 0) 254) (by rw [unhide HXS]; exact hown6) hg6 (by
                  rcases hat6 with h | h
                  · exact .inl h
                  · exact .inr ⟨_, h, Nat.le_refl _⟩))
                clear hown6 hg6 hat6
                go_wp2
                go_roundw
                case rel => exact ⟨j + 1, by omega, by go_num, _, TT⟩
                case measure => simp [intOf]; omega
              · obtain rfl : m = j := by omega
                obtain ⟨g1, c1, hv1, -, -, hc1, hc2, -⟩ := row_open (unhide HJ).own (by omega)
                subst hv1
                have CL := hide (clip_bytes (some ⟨g1, 0, none⟩) m c1 wr hc1 (by unfold maxLen at hc2; omega) (fun h => by cases h))
                obtain ⟨b2, hb2, TC⟩ := (unhide HJ).close hlt (by omega) rfl (f := crsM la lb x) (fun t ht => by
                  unfold crsM
                  rw [← unhide HX, List.getD_eq_getElem?_getD, List.getElem?_map, List.getElem?_range ht]; rfl)
                have HTC := hide (TC.congr (M' := crsM la lb) fun i t _ _ => by
                  by_cases c : i = x
                  · subst c; rw [upf_same]
                  · rw [upf_ne _ _ c])
                have hcur := (unhide HJ).cur hlt
                have hfr := (unhide HJ).hd_f x hlt
                clear TC hb2 hc2
                go_wp2_with fail
                refine (unhide CL).mono ?_
                rintro e w5 ⟨rfl, rfl⟩
                go_wp2
                go_roundw
                case rel => exact ⟨x + 1, by omega, by go_num, _, _, HTC⟩
                case measure => simp [intOf]; omega
          · obtain rfl : n = x := by omega
            have TD := hide ((unhide HG).done fun i j => Wm.fpow_lt (Wm.xor_lt (unhide HL8 i) (unhide HL82 j)) 254)
            have HE := hide ((unhide HE2).trans (unhide HG).ext)
            have HSZ := hide (unhide HE2).size
            go_wp2
            go_ret2
            exact ⟨.inr ⟨by rw [unhide HE0]; rfl, unhide H1, unhide H2, (unhide HGM).symm, _, bl, cq, rfl, (unhide TD).mono (unhide HSZ)⟩, unhide HE⟩
    · have hp : crsErr la lb = gridErr lb := by unfold crsErr; rw [if_neg (by rw [h1]; decide), if_pos h2]
      have HO := hide (fun (W : World) => show CrsOut w W la lb n m (.returned (.tuple #[.slice none 0 0, .int .i64 (gridErr lb)])) from .inl ⟨by rw [hp]; exact h2, by rw [hp]⟩)
      have hB : (gridErr lb != 0) = true := by rw [bne_iff_ne]; exact h2
      rw [h1] at CA
      rw [hwx] at CA CB HEX
      generalize gridErr lb = r at *
      clear R S EX hbx hl8 hl82 h1 h2 hp hlen hlen2 hwx
      go_enter Try.func15, Try.ntmps15
      go_wp2_with fail
      refine (unhide CA).mono ?_
      rintro e w1 ⟨rfl, hw1⟩
      subst hw1
      go_wp2_with fail
      refine (unhide CB).mono ?_
      rintro e w1 ⟨rfl, hw1⟩
      subst hw1
      go_wp2
      go_ret2
      exact ⟨unhide HO _, unhide HEX⟩
  · have hp : crsErr la lb = gridErr la := by unfold crsErr; rw [if_pos h1]
    have HO := hide (fun (W : World) => show CrsOut w W la lb n m (.returned (.tuple #[.slice none 0 0, .int .i64 (gridErr la)])) from .inl ⟨by rw [hp]; exact h1, by rw [hp]⟩)
    have hB : (gridErr la != 0) = true := by rw [bne_iff_ne]; exact h1
    rw [hwx] at CA HEX
    generalize gridErr la = r at *
    clear R S EX hbx hl8 hl82 h1 hp hlen hlen2 hwx CB
    go_enter Try.func15, Try.ntmps15
    go_wp2_with fail
    refine (unhide CA).mono ?_
    rintro e w1 ⟨rfl, hw1⟩
    subst hw1
    go_wp2
    go_ret2
    exact ⟨unhide HO _, unhide HEX⟩
end Go.Proofs.Ytepkiicekcglhaa
