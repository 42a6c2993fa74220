/-
  The walk of the law TopBytes.
-/
import Derived.Test.YtepkiicekcglhaaMxB
import Derived.Test.YtepkiicekcglhaaMxA
import Derived.Test.YtepkiicekcglhaaMat7
import Derived.Test.YtepkiicekcglhaaWorks
import Derived.Test.YtepkiicekcglhaaMin
import Derived.Test.YtepkiicekcglhaaContains1
import Derived.Laws.BytesArg
set_option linter.unusedVariables false
set_option linter.unusedSimpArgs false
namespace Go.Proofs.Ytepkiicekcglhaa
open Go.RowKit Go.BigFrame Wm.Fld

theorem Calls.some {P : Program} {f : FuncId} {args : Array Value} {w : World} {R : Ending → World → Prop} (h : Calls P f args w R) : ∃ e w', R e w' := by
  obtain ⟨e, w', -, h, -⟩ := h []
  exact ⟨e, w', h⟩

theorem ex_all : (List.range 255).all (fun k => decide (Wm.fpow 2 k = Wm.ex k)) = true := by decide +kernel
theorem fpow_two_lg {x : Nat} (h0 : x ≠ 0) (h : x < 256) : Wm.fpow 2 (Wm.lg x) = x ∧ Wm.lg x < 255 := by
  obtain ⟨h1, h2⟩ := Wm.lg_spec h0 h
  exact ⟨(of_decide_eq_true (List.all_eq_true.1 ex_all _ (List.mem_range.2 h2))).trans h1, h2⟩

theorem getD_lt8 {l : List Nat} (h : ∀ x ∈ l, x < 256) (i : Nat) : l.getD i 0 < 256 := by
  rw [List.getD_eq_getElem?_getD]
  cases e : l[i]? with
  | none => show 0 < 256; omega
  | some x => exact h x (List.mem_of_getElem? e)
/-- A Cauchy matrix has no null vector. -/
theorem crs_null0 {la lb : List Nat} (h8 : ∀ i, la.getD i 0 < 256) (h82 : ∀ i, lb.getD i 0 < 256) (hga : gridErr la = 0) (hgb : gridErr lb = 0) (hmx : gmix la lb = false) {n : Nat}
    (hr : n ≤ la.length) (hc : n ≤ lb.length) {v : Nat → Wm.B8}
    (h : ∀ j, j < n → sm (fun i => ml (v i) (Wm.m8m (crsM la lb) i j)) n = z) : ∀ i, i < n → v i = z := by
  have ga := (gridErr_ok hga).2.2
  have gb := (gridErr_ok hgb).2.2
  refine cauchy_null Wm.b8_two (x := fun i => Wm.m8 (la.getD i 0)) (y := fun j => Wm.m8 (lb.getD j 0)) ?_ ?_ ?_ ?_
  · intro i j hi hj e
    exact ga _ _ (by omega) (by omega) (Wm.m8_inj (h8 _) (h8 _) e)
  · intro i j hi hj e
    exact gb _ _ (by omega) (by omega) (Wm.m8_inj (h82 _) (h82 _) e)
  · intro i j hi hj e
    exact gmix_no hmx (by omega) (by omega) (Wm.m8_inj (h8 _) (h82 _) e)
  · intro j hj
    rw [← h j hj]
    refine sm_congr n fun i hi => ?_
    show _ = ml (v i) (Wm.m8 (Wm.fpow _ 254))
    rw [Wm.m8_iv (Wm.xor_lt (h8 _) (h82 _)), Wm.m8_ad (h8 _) (h82 _)]
/-- So its determinant is not nothing. -/
theorem crs_done {la lb : List Nat} (h8 : ∀ i, la.getD i 0 < 256) (h82 : ∀ i, lb.getD i 0 < 256) (hga : gridErr la = 0) (hgb : gridErr lb = 0) (hmx : gmix la lb = false) {n : Nat}
    (hr : n ≤ la.length) (hc : n ≤ lb.length) (A : Option Addr) (c : Nat) (ra : Nat → Option Addr) (cp : Nat → Nat) (w : World) (T : Tab w A n ra (fun _ => n) cp (crsM la lb)) (hn : 1 ≤ n) (hn2 : n ≤ 12) : ¬ Done n (Wm.m8m (crsM la lb)) z := fun hz => by
  obtain ⟨e, w', ho, -⟩ := Calls.some (Det_any A n c ra (fun _ => n) cp (crsM la lb) w T (by omega))
  have h0 : detErr n (fun _ => n) = 0 := by
    unfold detErr
    rw [if_neg (by rw [chkM_const hn hn2 hn hn2]; decide), if_neg (by simp)]
  rcases ho with ⟨hne, -⟩ | ⟨-, -, -, d, hd8, -, hdone, hnull⟩
  · exact hne h0
  · obtain rfl : d = 0 := Wm.m8_inj hd8 (show (0 : Nat) < 256 by omega) (by
      rw [hdone.dt Wm.b8_two, ← hz.dt Wm.b8_two]; rfl)
    obtain ⟨v, ⟨i, hi, hv⟩, hs⟩ := hnull rfl
    exact hv (crs_null0 h8 h82 hga hgb hmx hr hc hs i hi)
theorem back_cell {n : Nat} {M R N : Nat → Nat → Nat} (hM : ∀ i j, M i j < 256) (hR : ∀ i j, R i j < 256) (hN : ∀ i j, N i j < 256) (h : Inv n (Wm.m8m M) (Wm.m8m R)) {i : Nat} (hi : i < n) : Wm.mulT n R (Wm.mulT n M N) i 0 = N i 0 := by
  refine Wm.m8m_inj (M := Wm.mulT n R (Wm.mulT n M N)) (fun i j => Wm.mulS_lt hR (fun i j => Wm.mulS_lt hM hN i j n) i j n) hN ?_
  rw [Wm.mulT_mm (N := Wm.mulT n M N) hR (fun i j => Wm.mulS_lt hM hN i j n), Wm.mulT_mm hM hN, ← mm_assoc]
  show sm (fun k => ml (mm n (Wm.m8m R) (Wm.m8m M) i k) (Wm.m8m N k 0)) n = _
  rw [sm_congr n (fun k hk => by rw [h.2 i k hi hk])]
  exact id_mm (m := n) (n := 1) (Wm.m8m N) i 0 hi (by omega)

theorem shareQ {A G : Value → Int → World → Prop} {q : Prop} (h1 : (∀ v i w', A v i w' → G v i w') → q) (h2 : ∀ v i w', A v i w' → G v i w') : q := h1 h2
theorem CrsOut.halves {w w' : World} {la lb : List Nat} {n m : Nat} {e : Ending} (h : CrsOut w w' la lb n m e) : ∃ v q, e = .returned (.tuple #[v, .int .i64 q]) ∧ ((q ≠ 0 ∧ v = .slice none 0 0) ∨
    (q = 0 ∧ gridErr la = 0 ∧ gridErr lb = 0 ∧ gmix la lb = false ∧ ∃ g bl cp, v = .slice (some ⟨g, 0, none⟩) n n ∧ Tb w' w.heap.size g n bl cp m (crsM la lb))) := by
  rcases h with ⟨hne, rfl⟩ | ⟨-, h1, h2, h3, g, bl, cp, rfl, T⟩
  · exact ⟨_, _, rfl, .inl ⟨hne, rfl⟩⟩
  · exact ⟨_, _, rfl, .inr ⟨rfl, h1, h2, h3, g, bl, cp, rfl, T⟩⟩
--{
set_option maxRecDepth 100000 in
set_option maxHeartbeats 4000000 in
theorem tbytes_law (A : Option Addr) (na ca : Nat) (la : List Nat) (B : Option Addr) (nb cb : Nat) (lb : List Nat) (V : Option Addr) (nv cv : Nat) (lv : List Nat) (w : World) (S : SliceIn w A na ca 1 1 (nats .u8 la)) (h8 : ∀ x ∈ la, x < 256)
    (S2 : SliceIn w B nb cb 1 1 (nats .u8 lb)) (h82 : ∀ x ∈ lb, x < 256) (S3 : SliceIn w V nv cv 1 1 (nats .u8 lv)) (h83 : ∀ x ∈ lv, x < 256) :
    Calls Try.prog 4 #[.slice A na ca, .slice B nb cb, .slice V nv cv] w fun e w' => e = .returned (.bool true) ∧ Ext w w' := by
  obtain ⟨Ra, hac, hab, ha63, hanil⟩ := S
  obtain ⟨Rb, hbc, hbb, hb63, hbnil⟩ := S2
  obtain ⟨Rv, hvc, hvb, hv63, hvnil⟩ := S3
  obtain ⟨n, hn⟩ : ∃ n, n = min (min na nb) nv := ⟨_, rfl⟩
  have n1 : n ≤ na := by omega
  have n2 : n ≤ nb := by omega
  have n3 : n ≤ nv := by omega
  have HN := hide (show (n : Int) = min (min (na : Int) (nb : Int)) (nv : Int) by omega)
  have La := hide Ra.numN
  have Lb := hide Rb.numN
  have Lv := hide Rv.numN
  have HA := hide Ra
  have HB0 := hide Rb
  have HV := hide Rv
  have QA : Row w A n 1 (nats .u8 (la.take n)) := by have := Ra.take n1; rw [Nat.mul_one, nats_take] at this; exact this
  have QB : Row w B n 1 (nats .u8 (lb.take n)) := by have := Rb.take n2; rw [Nat.mul_one, nats_take] at this; exact this
  have CC := hide (fun w1 (E : Ext w w1) => Crossed_any A n ca (la.take n) B n cb (lb.take n) w1 (QA.keep E) (by omega) (by omega) (fun x hx => h8 x (List.mem_of_mem_take hx)) (QB.keep E) (by omega) (by omega) (fun x hx => h82 x (List.mem_of_mem_take hx)))
  have HL8 := hide (getD_lt8 (l := la.take n) (fun x hx => h8 x (List.mem_of_mem_take hx)))
  have HL82 := hide (getD_lt8 (l := lb.take n) (fun x hx => h82 x (List.mem_of_mem_take hx)))
  have HL83 := hide (getD_lt8 h83)
  have HLA := hide (show (la.take n).length = n by rw [List.length_take, unhide La]; omega)
  have HLB := hide (show (lb.take n).length = n by rw [List.length_take, unhide Lb]; omega)
  have CW := hide (fun w : World => works_any w)
  clear Ra Rb Rv QA QB hanil hbnil hvnil hab hbb hvb hn h8 h82 h83
  go_enter Try.func4, Try.ntmps4
  go_wp2_with fail
  refine (unhide CW _).mono ?_
  rintro e w1 ⟨rfl, E1⟩
  have HE1 := hide E1.drew
  have CC1 := hide (unhide CC w1.drew E1.drew)
  clear E1 CC CW
  go_wp2_with (refine wpList_min3 (o := ⟨some 32, _, _, _, _, _⟩) rfl _ _ _ _ (by rfl) _ _ _ (by rfl) (by rfl) (by rfl) (n : Int) (unhide HN) ?_)
  have hnca : n ≤ ca := by omega
  have hncb : n ≤ cb := by omega
  have hncv : n ≤ cv := by omega
  go_wp2
  apply shareQ (A := fun v2 q2 w2 => Hid (((q2 ≠ 0 ∧ v2 = .slice none 0 0) ∨ (q2 = 0 ∧ gridErr (la.take n) = 0 ∧ gridErr (lb.take n) = 0 ∧ gmix (la.take n) (lb.take n) = false ∧ ∃ g bl cp, v2 = .slice (some ⟨g, 0, none⟩) n n ∧ Tb w2 w1.drew.heap.size g n bl cp n (crsM (la.take n) (lb.take n))))) ∧ Hid (Ext w w2))
  · intro H
    go_region_with (go_at_call 15; refine (unhide CC1).mono ?_; rintro e w2 ⟨ho, E2⟩; obtain ⟨v2, q2, rfl, hh⟩ := ho.halves; have HO := hide hh; have HE2 := hide ((unhide HE1).trans E2); clear ho hh E2)
    all_goals exact H _ _ _ ⟨HO, HE2⟩
  rintro v2 q2 w2 ⟨HO, HE2⟩
  clear CC1 HE1
  rcases unhide HO with ⟨hne, rfl⟩ | ⟨rfl, hga, hgb, hmx, g, bl, cp, rfl, T⟩
  · have hB : (q2 != 0) = true := by rw [bne_iff_ne]; exact hne
    clear HO hne
    go_wp2
    go_ret
    exact ⟨rfl, unhide HE2⟩
  · clear HO
    obtain ⟨a1, a2, -⟩ := gridErr_ok hga
    rw [unhide HLA] at a1 a2
    have HGA := hide hga
    have HGB := hide hgb
    have HMX := hide hmx
    have HT := hide T
    clear T hga hgb hmx
    go_wp2
    go_loopw [10, 52] (fun v i wr => ∃ x : Nat, x ≤ n ∧ i = .int .i64 x ∧ ∃ bl cq : Nat → Nat, Hid (Bld 23 w2 wr v x bl cq 1 (fun i _ => lv.getD i 0))) (fun _ i _ => n - (intOf i).toNat)
    case atStart => exact ⟨0, Nat.zero_le _, rfl, _, _, hide (Bld.nil _ _ (fun _ => 0) (fun _ => 0) _ _)⟩
    case round =>
      obtain ⟨x, hx, rfl, bx, cq, HB⟩ := hrel
      by_cases hlt : x < n
      · have EE := (unhide HE2).trans (unhide HB).ext
        obtain ⟨b, o, rfl, hb, hc⟩ := ((unhide HV).keep EE).nat (k := x) (by omega)
        obtain ⟨Y, hY⟩ : ∃ Y, Y = lv.getD x 0 := ⟨_, rfl⟩
        rw [← hY] at hc
        have HY := hide hY
        have hY8 : Y < 256 := by rw [hY]; exact unhide HL83 x
        obtain ⟨wb, hwb⟩ : ∃ wb, wb = wr := ⟨_, rfl⟩
        subst hwb
        have E1 := (Ext.refl wb).alloc (.cells #[.int .u8 (Y : Int)] 5)
        have EN := E1.alloc (.cells #[.slice (some ⟨wb.heap.size, 0, none⟩) 1 1] 23)
        have HEN := hide EN
        have HRX := hide (show ∀ j, j < 1 → ((wb.alloc (.cells #[.int .u8 (Y : Int)] 5)).alloc (.cells #[.slice (some ⟨wb.heap.size, 0, none⟩) 1 1] 23)).cell? ⟨wb.heap.size, j, none⟩ = some (.int .u8 (Y : Int)) ∧ ((wb.alloc (.cells #[.int .u8 (Y : Int)] 5)).alloc (.cells #[.slice (some ⟨wb.heap.size, 0, none⟩) 1 1] 23)).frozen? ⟨wb.heap.size, j, none⟩ = false from fun j hj => by
          obtain rfl : j = 0 := by omega
          have E2 := (Ext.refl (wb.alloc (.cells #[.int .u8 (Y : Int)] 5))).alloc (.cells #[.slice (some ⟨wb.heap.size, 0, none⟩) 1 1] 23)
          have M1 := World.ownsRow_lit (base := wb.heap.size) (e := 5) (size := 1) wb #[.int .u8 (Y : Int)] 1 (Nat.le_refl _) (by unfold maxLen; omega) rfl
          refine ⟨(E2.cell (p := ⟨wb.heap.size, 0, none⟩) (by simp)).trans (by simp), (E2.frozen (p := ⟨wb.heap.size, 0, none⟩) (by simp)).trans ((Made.of_own M1).frozen 0)⟩)
        have HRM := hide ((Roomy.own (World.ownsRow_lit (base := wb.heap.size) (e := 5) (size := 1) wb #[.int .u8 (Y : Int)] 1 (Nat.le_refl _) (by unfold maxLen; omega) rfl)).keep ((Ext.refl _).alloc (.cells #[.slice (some ⟨wb.heap.size, 0, none⟩) 1 1] 23)))
        have HG2 := hide (show wb.heap.size < ((wb.alloc (.cells #[.int .u8 (Y : Int)] 5)).alloc (.cells #[.slice (some ⟨wb.heap.size, 0, none⟩) 1 1] 23)).heap.size from by simp; omega)
        have HOB := hide ((unhide HB).keep EN).own
        have HBD := hide (show (x + 1) * 24 ≤ 140737488355328 ∧ x + 1 ≤ 9223372036854775807 by omega)
        have HBS := hide (show w2.heap.size ≤ ((wb.alloc (.cells #[.int .u8 (Y : Int)] 5)).alloc (.cells #[.slice (some ⟨wb.heap.size, 0, none⟩) 1 1] 23)).heap.size from ((unhide HB).ext.trans EN).size)
        have HONE := hide (show ([.slice (some ⟨wb.heap.size, 0, none⟩) 1 1] : List Value).all (fun u => u.oneCell') = true from by simp [Value.oneCell'])
        have HRN := hide (row_new (wb.alloc (.cells #[.int .u8 (Y : Int)] 5)) #[.slice (some ⟨wb.heap.size, 0, none⟩) 1 1] 23 1 1 rfl)
        clear EE hY E1 EN
        go_wp2_with (at_builtin; refine stop ?_)
        unfold Stop
        refine wpList_app_any rfl _ _ 22 (by rfl) 23 rowM w2.heap.size _ x _ (by rfl) (unhide HOB) (some ⟨wb.heap.size + 1, 0, none⟩) 1 1 [.slice (some ⟨wb.heap.size, 0, none⟩) 1 1] (by rfl) (by have := unhide HRN; simpa using this) (unhide HONE) (unhide HBD) (unhide HBS) ?_
        intro v' w6 hown6 hg6 hat6
        have HBN := hide ((unhide HB).add (unhide HEN) (b := wb.heap.size) (c := 1) (f := fun _ => Y) (Nat.le_refl _) (unhide HG2) ⟨Nat.le_refl _, by omega⟩ (unhide HRX) (unhide HRM) hown6 hg6 (by
          rcases hat6 with h | h
          · exact .inl h
          · exact .inr ⟨_, h, Nat.le_refl _⟩))
        have HBN2 := hide ((unhide HBN).congr (M' := fun i _ => lv.getD i 0) fun i j hi hj => by
          by_cases c : i = x
          · subst c; rw [upf_same, unhide HY]
          · rw [upf_ne _ _ c])
        clear hown6 hg6 hat6 HBN
        by_cases hy0 : Y = 0
        · subst hy0
          have CP0 := hide (fun w : World => by have := fpow_any 2 0 (by omega) (by omega) w; simpa using this)
          go_wp2_with fail
          refine (Log_zero _).mono ?_
          rintro e w7 ⟨rfl, rfl⟩
          go_wp2_with fail
          refine (unhide CP0 _).mono ?_
          rintro e w8 ⟨rfl, rfl⟩
          generalize Wm.fpow 2 0 = P0 at *
          go_wp2
          go_roundw
          case rel => exact ⟨x + 1, by omega, by go_num, _, _, HBN2⟩
          case measure => simp [intOf]; omega
        · obtain ⟨hp, hlg⟩ := fpow_two_lg hy0 hY8
          have CL := hide (fun w : World => Log_ok Y hy0 hY8 w)
          have CP := hide (fun w : World => fpow_any 2 (Wm.lg Y) (by omega) (by omega) w)
          rw [hp] at CP
          have yB : ((Y : Int) == 0) = false := by rw [beq_eq_false_iff_ne]; omega
          have yC : ((Y : Int) != 0) = true := by rw [bne_iff_ne]; omega
          clear hp
          generalize Wm.lg Y = L at *
          go_wp2_with fail
          refine (unhide CL _).mono ?_
          rintro e w7 ⟨rfl, rfl⟩
          go_wp2_with fail
          refine (unhide CP _).mono ?_
          rintro e w8 ⟨rfl, rfl⟩
          go_wp2_with (go_at_call 18; refine (tgood_made' [0, 0] _ _ _ _ _ rfl rfl (by decide) (by simp)).mono ?_; rintro e wg ⟨rfl, rfl⟩)
          go_roundw
          case rel => exact ⟨x + 1, by omega, by go_num, _, _, hide ((unhide HBN2).keep ((Ext.refl _).alloc _))⟩
          case measure => simp [intOf]; omega
      · obtain rfl : n = x := by omega
        obtain ⟨gc, cc, rfl, hcc, TC⟩ := (unhide HB).done (by omega) (fun i j => unhide HL83 i)
        have HEF := hide ((unhide HE2).trans (unhide HB).ext)
        have HT3 := hide ((unhide HT).keep (unhide HB).ext)
        have HTC := hide TC
        have hne0 := crs_done (unhide HL8) (unhide HL82) (unhide HGA) (unhide HGB) (unhide HMX) (n := n) (by rw [unhide HLA]; omega) (by rw [unhide HLB]; omega) _ n _ _ wr (unhide HT3).tab a1 a2
        have HND := hide hne0
        have CI := hide (Inverse_any _ n n _ _ _ _ wr (unhide HT3).tab (by omega))
        have x0 : detErr n (fun _ => n) = 0 := by
          unfold detErr
          rw [if_neg (by rw [chkM_const a1 a2 a1 a2]; decide), if_neg (by simp)]
        have x1 : mulErr n (fun _ => n) n (fun _ => 1) = 0 := by
          unfold mulErr
          rw [if_neg (by rw [chkM_const a1 a2 a1 a2]; decide), if_neg (by rw [chkM_const a1 a2 (Nat.le_refl _) (by omega)]; decide), if_neg (by simp)]
        have HX0 := hide x0
        have HX1 := hide x1
        clear TC HB x0 x1 hne0 HT
        go_wp2_with fail
        refine (unhide CI).mono ?_
        rintro e w3 ⟨ho, E3⟩
        have HE3 := hide ((unhide HEF).trans E3)
        have HT4 := hide ((unhide HT3).keep E3)
        have HTC4 := hide ((unhide HTC).keep E3)
        clear CI E3 HT3 HTC
        rcases ho with ⟨hne, -⟩ | ⟨-, -, -, ⟨-, hz⟩ | ⟨d, -, -, gu, blu, cpu, R, rfl, TU, hinv⟩⟩
        · exact absurd (unhide HX0) hne
        · exact absurd hz (unhide HND)
        have HTU := hide TU
        have HINV := hide hinv
        clear TU hinv
        have CM1 := hide (MMul_any _ n n _ _ _ _ _ n cc _ _ _ _ w3 (unhide HT4).tab (unhide HTC4).tab (by omega) (by omega))
        go_wp2_with fail
        refine (unhide CM1).mono ?_
        rintro e w4 ⟨ho, E4⟩
        have HE4 := hide ((unhide HE3).trans E4)
        have HTU4 := hide ((unhide HTU).keep E4)
        clear CM1 E4
        rcases ho with ⟨hne, -⟩ | ⟨-, -, -, -, gw, blw, cpw, rfl, TW⟩
        · exact absurd (unhide HX1) hne
        have CM2 := hide (MMul_any _ n n _ _ _ _ _ n n _ _ _ _ w4 (unhide HTU4).tab TW.tab (by omega) (by omega))
        clear TW
        go_wp2_with fail
        refine (unhide CM2).mono ?_
        rintro e w5 ⟨ho, E5⟩
        have HE5 := hide ((unhide HE4).trans E5)
        clear CM2 E5
        rcases ho with ⟨hne, -⟩ | ⟨-, -, -, -, gz, blz, cpz, rfl, TZ⟩
        · exact absurd (unhide HX1) hne
        have HBC := hide (fun (i : Nat) (hi : i < n) => back_cell (N := fun i _ => lv.getD i 0) (unhide HT4).lt (unhide HTU4).lt (fun i _ => unhide HL83 i) (unhide HINV) hi)
        have HTZ := hide (TZ.keep ((Ext.refl w5).alloc (.cells #[.int .i64 0, .int .i64 0, .int .i64 0] 27)))
        have HE6 := hide ((unhide HE5).alloc (.cells #[.int .i64 0, .int .i64 0, .int .i64 0] 27))
        clear TZ
        go_wp2_with (go_at_call 18; refine (tgood_made' [0, 0, 0] _ _ _ _ w5 rfl rfl (by decide) (by simp)).mono ?_; rintro e wg ⟨rfl, rfl⟩)
        generalize w5.alloc (.cells #[.int .i64 0, .int .i64 0, .int .i64 0] 27) = w6 at *
        clear HT4 HTU4 HINV HTC4 HTU HX0 HX1 HND
        go_wp2
        go_loopw [125] (fun i wz => ∃ x : Nat, x ≤ n ∧ i = .int .i64 x ∧ Hid (Ext w6 wz)) (fun i _ => n - (intOf i).toNat)
        case atStart => exact ⟨0, Nat.zero_le _, rfl, hide (Ext.refl _)⟩
        case round =>
          obtain ⟨x, hx, rfl, HEZ⟩ := hrel
          obtain ⟨wz, hwz⟩ : ∃ wz, wz = wr := ⟨_, rfl⟩
          subst hwz
          by_cases hlt : x < n
          · obtain ⟨b, o, rfl, hb, hc⟩ := ((unhide HV).keep ((unhide HE6).trans (unhide HEZ))).nat (k := x) (by omega)
            have hh := ((unhide HTZ).keep (unhide HEZ)).hd x hlt
            have hcz := ((unhide HTZ).keep (unhide HEZ)).cell x 0 hlt (by omega)
            rw [unhide HBC x hlt] at hcz
            generalize lv.getD x 0 = Y at *
            generalize blz x = bz at *
            generalize cpz x = cz at *
            go_wp2
            go_quiet (fail)
            go_wp2
            go_roundw
            case rel => exact ⟨x + 1, by omega, by go_num, hide ((unhide HEZ).drewN _)⟩
            case measure => simp [intOf]; omega
          · obtain rfl : n = x := by omega
            have HEW := hide ((unhide HE6).trans (unhide HEZ))
            obtain ⟨ba, oa, rfl, hba, -⟩ := ((unhide HA).keep (unhide HEW)).nat (k := 0) (by omega)
            obtain ⟨bb, ob, rfl, hbb, -⟩ := ((unhide HB0).keep (unhide HEW)).nat (k := 0) (by omega)
            have hcvA := fun k : Nat => run_convert_bytes_arg (P := Try.prog) (w := wz.drewN k) 23 5 Try.underlying23 Try.underlying5 ba oa n ca ((la.take n).map fun (y : Nat) => (y : Int)) (by rw [List.length_map]; exact unhide HLA) (fun i hi => by
              obtain ⟨b', o', hq, hb', hc'⟩ := ((unhide HA).keep ((unhide HEW).drewN k)).nat (k := i) (by omega)
              injection hq with hq; injection hq with hq1 hq2 _
              subst hq1; subst hq2
              rw [hc', List.getD_eq_getElem?_getD, List.getD_eq_getElem?_getD, List.getElem?_map, List.getElem?_take_of_lt hi, List.getElem?_eq_getElem (by rw [unhide La]; omega)]; rfl) 9 Try.underlying9
            have hcvB := fun k : Nat => run_convert_bytes_arg (P := Try.prog) (w := wz.drewN k) 23 5 Try.underlying23 Try.underlying5 bb ob 1 cb [((lb.getD 0 0 : Nat) : Int)] rfl (fun i hi => by
              obtain rfl : i = 0 := by omega
              obtain ⟨b', o', hq, hb', hc'⟩ := ((unhide HB0).keep ((unhide HEW).drewN k)).nat (k := 0) (by omega)
              injection hq with hq; injection hq with hq1 hq2 _
              subst hq1; subst hq2
              rw [hc']; rfl) 9 Try.underlying9
            have hone : strOfNums [((lb.getD 0 0 : Nat) : Int)] = ⟨#[UInt8.ofNat (lb.getD 0 0)]⟩ := rfl
            rw [hone] at hcvB
            have CX := hide (contains_no (strOfNums ((la.take n).map fun (y : Nat) => (y : Int))) (UInt8.ofNat (lb.getD 0 0)) (by
              rw [strOfNums_data, List.map_map]
              intro hm
              obtain ⟨y, hy, he⟩ := List.mem_map.1 hm
              obtain ⟨i, hi, hie⟩ := List.getElem_of_mem hy
              have hya : (la.take n).getD i 0 = y := by rw [List.getD_eq_getElem?_getD, List.getElem?_eq_getElem hi, hie]; rfl
              have hy8 : y < 256 := by rw [← hya]; exact unhide HL8 i
              have hb8 : (lb.take n).getD 0 0 < 256 := unhide HL82 0
              have hb0 : (lb.take n).getD 0 0 = lb.getD 0 0 := by rw [List.getD_eq_getElem?_getD, List.getElem?_take_of_lt (by omega), ← List.getD_eq_getElem?_getD]
              have he' : (UInt8.ofNat ((y : Int)).toNat).toNat = (UInt8.ofNat (lb.getD 0 0)).toNat := congrArg UInt8.toNat he
              rw [UInt8.toNat_ofNat', UInt8.toNat_ofNat', Int.toNat_natCast, Nat.mod_eq_of_lt (by simpa using hy8), Nat.mod_eq_of_lt (by rw [← hb0]; simpa using hb8)] at he'
              exact gmix_no (unhide HMX) (i := i) (j := 0) hi (by rw [unhide HLB]; omega) (by rw [hya, hb0]; exact he')))
            generalize strOfNums ((la.take n).map fun (y : Nat) => (y : Int)) = SA at *
            generalize UInt8.ofNat (lb.getD 0 0) = cB at *
            clear HBC
            go_wp2
            go_quiet ((first | (go_at_call 19; exact quiet_in (fun W => (unhide CX W).mono fun e w' h => ⟨h.1, 0, h.2⟩)) | (go_at_call 19; exact quiet_in_add (fun W => (unhide CX W).mono fun e w' h => ⟨h.1, 0, h.2⟩))))
            go_wp2
            go_ret
            exact ⟨rfl, (unhide HEW).drewN _⟩
--}
end Go.Proofs.Ytepkiicekcglhaa
