/-
  The contract of matrix.reduced.
-/
import Derived.Test.YtepkiicekcglhaaMx3
set_option linter.unusedVariables false
set_option linter.unusedSimpArgs false
namespace Go.Proofs.Ytepkiicekcglhaa
open Go.RowKit Go.BigFrame

/-- What reduced answers. -/
def RedOut (w w' : World) (n l cols : Nat) (M : Nat → Nat → Nat) (e : Ending) : Prop :=
  ∃ (g cg : Nat) (bl cp : Nat → Nat) (v : Value) (pv : List Nat) (d : Nat) (R : Nat → Nat → Nat), e = .returned (.tuple #[.slice (some ⟨g, 0, none⟩) n cg, v, .int .u8 (d : Int)]) ∧ n ≤ cg ∧ cg ≤ 9223372036854775807 ∧ d < 256 ∧
    Tb w' w.heap.size g n bl cp l R ∧ w'.ownsRow w.heap.size 3 1 v pv.length (nats .i64 pv) ∧ Wm.Fld.Ech n l (Wm.m8m M) (Wm.m8m R) pv cols (Wm.m8 d)

set_option maxRecDepth 100000 in
set_option maxHeartbeats 16000000 in
theorem reduced_ok (A : Option Addr) (n c cols l : Nat) (ra : Nat → Option Addr) (ln cp0 : Nat → Nat) (M : Nat → Nat → Nat) (w : World) (T : Tab w A n ra ln cp0 M) (h1 : 1 ≤ n) (hn : n ≤ 30) (hl1 : 1 ≤ l) (hl : l ≤ 60) (hln : ∀ i, i < n → ln i = l) (hcl : cols ≤ l) :
    Calls Try.prog 28 #[.slice A n c, .int .i64 (cols : Int)] w fun e w' => RedOut w w' n l cols M e ∧ Ext w w' := by
  obtain ⟨ba, oa, rfl, hba, hca⟩ := T.hd (by omega)
  have HCA := hide (show ∀ i, i < n → w.cell? ⟨ba, oa + i, none⟩ = some (.slice (ra i) l (cp0 i)) from fun i hi => by rw [hca i hi, hln i hi])
  have HT := hide T
  have HLN := hide hln
  have CM := hide Mul_any
  have CI := hide Inv_ok
  clear hca T hln
  go_enter Try.func28, Try.ntmps28
  go_wp2
  go_loopw [7, 26] (fun v i wr => ∃ x : Nat, x ≤ n ∧ i = .int .i64 x ∧ ∃ bl cq : Nat → Nat, Hid (Bld 23 w wr v x bl cq l M)) (fun _ i _ => n - (intOf i).toNat)
  case atStart => exact ⟨0, Nat.zero_le _, rfl, _, _, hide (Bld.nil 23 w (fun _ => 0) (fun _ => 0) l M)⟩
  case round =>
    obtain ⟨x, hx, rfl, bl, cq, HB⟩ := hrel
    by_cases hlt : x < n
    ·
      --{
      obtain ⟨wa, hwa⟩ : ∃ wa, wa = wr := ⟨_, rfl⟩
      subst hwa
      have HEA := hide (unhide HB).ext
      have hcx := (unhide HEA).keep (unhide HCA x hlt)
      have RX := ((unhide HT).keep (unhide HEA)).rowN hlt
      obtain ⟨bx, ox, hrx, -, -⟩ := (unhide HT).row x hlt (by rw [unhide HLN x hlt]; omega)
      rw [unhide HLN x hlt, hrx] at RX
      rw [hrx] at hcx
      have CC := hide (clone_row (some ⟨bx, ox, none⟩) l (cp0 x) _ wa RX (fun u hu => by
        simp only [nats, List.mem_map] at hu
        obtain ⟨y, -, rfl⟩ := hu
        rfl) (by omega) (fun h => by cases h))
      clear RX hrx
      generalize cp0 x = cx at *
      go_wp2_with fail
      refine (unhide CC).mono ?_
      rintro e wb ⟨⟨u, rfl, own⟩, E2⟩
      obtain ⟨gx, cap, hu, hgx1, hgx2, hlc, hcm, hcell⟩ := row_open own (by omega)
      subst hu
      have hfz : ∀ j, wb.frozen? ⟨gx, j, none⟩ = false := fun j => by
        rcases own.2 with ⟨h, -⟩ | ⟨q, cp, cur, h, -, hh, -⟩
        · cases h
        · injection h with h
          simp only [Option.some.injEq, Addr.mk.injEq, and_true] at h
          subst h
          simp [World.frozen?, hh]
      have hrow : ∀ j, j < l → wb.cell? ⟨gx, j, none⟩ = some (.int .u8 (M x j : Int)) ∧ wb.frozen? ⟨gx, j, none⟩ = false := fun j hj => by
        refine ⟨?_, hfz j⟩
        rw [hcell j (by omega), nats_get _ _ _ (by simpa using hj)]
        simp [hj]
      have EN := E2.alloc (.cells #[.slice (some ⟨gx, 0, none⟩) l cap] 23)
      have HEN := hide EN
      have hrow2 : ∀ j, j < l → (wb.alloc (.cells #[.slice (some ⟨gx, 0, none⟩) l cap] 23)).cell? ⟨gx, j, none⟩ = some (.int .u8 (M x j : Int)) ∧ (wb.alloc (.cells #[.slice (some ⟨gx, 0, none⟩) l cap] 23)).frozen? ⟨gx, j, none⟩ = false := fun j hj => by
        have EE := (Ext.refl wb).alloc (.cells #[.slice (some ⟨gx, 0, none⟩) l cap] 23)
        exact ⟨(EE.cell (p := ⟨gx, j, none⟩) hgx2).trans (hrow j hj).1, (EE.frozen (p := ⟨gx, j, none⟩) hgx2).trans (hrow j hj).2⟩
      have HRW := hide hrow2
      have HRM := hide ((Roomy.own own).keep ((Ext.refl wb).alloc (.cells #[.slice (some ⟨gx, 0, none⟩) l cap] 23)))
      have HG2 := hide (show gx < (wb.alloc (.cells #[.slice (some ⟨gx, 0, none⟩) l cap] 23)).heap.size from by simp; omega)
      have HOW := hide ((unhide HB).keep EN).own
      have HBD := hide (show (x + 1) * 24 ≤ 140737488355328 ∧ x + 1 ≤ 9223372036854775807 by omega)
      have HBS := hide (show w.heap.size ≤ (wb.alloc (.cells #[.slice (some ⟨gx, 0, none⟩) l cap] 23)).heap.size from ((unhide HB).ext.trans EN).size)
      have HONE := hide (show ([.slice (some ⟨gx, 0, none⟩) l cap] : List Value).all (fun u => u.oneCell') = true from by simp [Value.oneCell'])
      have HRN := hide (row_new wb #[.slice (some ⟨gx, 0, none⟩) l cap] 23 1 1 rfl)
      have HCAP := hide (show l ≤ cap ∧ cap ≤ 9223372036854775807 from ⟨hlc, by unfold maxLen at hcm; exact hcm⟩)
      clear own hcell hfz hrow hrow2 EN E2 hcm hlc hgx2
      go_wp2_with (at_builtin; refine stop ?_)
      unfold Stop
      refine wpList_app_any rfl _ _ 22 (by rfl) 23 rowM w.heap.size _ x _ (by rfl) (unhide HOW) (some ⟨wb.heap.size, 0, none⟩) 1 1 [.slice (some ⟨gx, 0, none⟩) l cap] (by rfl) (unhide HRN) (unhide HONE) (unhide HBD) (unhide HBS) ?_
      intro v' w6 hown6 hg6 hat6
      have HBN := hide ((unhide HB).add (unhide HEN) (b := gx) (c := cap) (f := M x) hgx1 (unhide HG2) (unhide HCAP) (unhide HRW) (unhide HRM) hown6 hg6 (by
        rcases hat6 with h | h
        · exact .inl h
        · exact .inr ⟨_, h, Nat.le_refl _⟩))
      have HBN2 := hide ((unhide HBN).congr (M' := M) fun i j hi hj => by
        by_cases c : i = x
        · subst c; rw [upf_same]
        · rw [upf_ne _ _ c])
      clear hown6 hg6 hat6 HBN
      go_wp2
      go_roundw
      case rel => exact ⟨x + 1, by omega, by go_num, _, _, HBN2⟩
      case measure => simp [intOf]; omega
      --}
    · obtain rfl : n = x := by omega
      obtain ⟨g, cg, rfl, hcg, TB⟩ := (unhide HB).done (by omega) (unhide HT).lt
      have hcg2 : cg ≤ 9223372036854775807 := by
        rcases (unhide HB).own.2 with ⟨h, -⟩ | ⟨_, _, _, h, -, -, -, h5, -⟩
        · cases h
        · injection h with h1 h2 h3
          subst h3
          unfold maxLen at h5
          exact h5
      have R0 : RS w wr g n l bl cq M (.slice none 0 0) [] := ⟨(unhide HB).ext, TB, World.ownsRow_nil _ _ _ _, (fun h => by cases h), (fun i _ h => by cases h)⟩
      have HR0 := hide R0
      have HE0 := hide (Wm.Fld.Ech.start n l (Wm.m8m M))
      clear TB R0 HB
      go_wp2
      go_loopw [10, 11, 37] (fun pv d i wz => ∃ x : Nat, x ≤ cols ∧ i = .int .i64 x ∧ ∃ (bl cq : Nat → Nat) (R : Nat → Nat → Nat) (ps : List Nat) (dd : Nat), d = .int .u8 dd ∧ dd < 256 ∧ ps.length < n ∧ Hid (RS w wz g n l bl cq R pv ps) ∧ Hid (Wm.Fld.Ech n l (Wm.m8m M) (Wm.m8m R) ps x (Wm.m8 dd))) (fun _ _ i _ => cols - (intOf i).toNat)
      case atStart => exact ⟨0, Nat.zero_le _, rfl, bl, cq, M, [], 1, rfl, by omega, by show 0 < n; omega, HR0, HE0⟩
      case round =>
        obtain ⟨x, hx, rfl, bl, cq, R, ps, d, rfl, hd, hps, HR, HE⟩ := hrel
        by_cases hlt : x < cols
        · obtain ⟨wa, hwa⟩ : ∃ wa, wa = wr := ⟨_, rfl⟩
          subst hwa
          obtain ⟨PB, pc, hv, -, hpc, hpm, -⟩ := row_of_own (unhide HR).piv
          subst hv
          obtain ⟨r, hr⟩ : ∃ r, r = ps.length := ⟨_, rfl⟩
          rw [← hr] at hps
          have HRL := hide hr
          have hrn : r ≤ cg := by omega
          have hrnI : (r : Int) ≤ (cg : Int) := by omega
          have hrnI2 : (r : Int) ≤ (n : Int) := by omega
          rw [← hr] at HR ⊢
          clear hr hpc hpm
          have EX : Ext wa (wa.alloc (.cells #[.int .i64 (x : Int)] 3)) := (Ext.refl wa).alloc _
          obtain ⟨wx, hwx⟩ : ∃ wx, wx = wa.alloc (.cells #[.int .i64 (x : Int)] 3) := ⟨_, rfl⟩
          have hcx : wx.cell? ⟨wa.heap.size, 0, none⟩ = some (.int .i64 (x : Int)) := by rw [hwx]; simp
          rw [← hwx] at EX
          have HRX := hide ((unhide HR).keep EX)
          have TX := (unhide HRX).tb.from_ r
          have HIX := hide (red_index (some ⟨g, r, none⟩) (n - r) (cg - r) _ _ _ _ wa.heap.size wx TX (fun i => decide (R (r + i) x ≠ 0)) (fun k hk W EW => by
            refine closure_red W (bl (r + k)) 0 l (cq (r + k)) wa.heap.size x (R (r + k) x) (EW.keep hcx) ?_ (by omega)
            rw [Nat.zero_add]
            exact EW.keep ((unhide HRX).tb.cell (r + k) x (by omega) (by omega))) (by omega))
          have hbg : wa.heap.size ≠ g := by have := (unhide HR).tb.g_hi; omega
          have hbb := hide (show ∀ i, i < n → wa.heap.size ≠ bl i from fun i hi => by have := (unhide HR).tb.b_hi i hi; omega)
          have hbv := hide (show ∀ i, i < n → bl i < wa.heap.size from fun i hi => (unhide HR).tb.b_hi i hi)
          have HCX := hide hcx
          rw [hwx] at HIX
          have HWX := hide hwx
          clear TX hcx hwx EX
          go_wp2_with fail
          refine (unhide HIX).mono ?_
          rintro e w2 ⟨⟨rr, rfl, hrr⟩, E2⟩
          rw [← unhide HWX] at E2
          have HR2 := hide ((unhide HRX).keep E2)
          have hc2 := E2.keep (unhide HCX)
          clear E2 HIX
          rcases hrr with ⟨rfl, hno⟩ | ⟨k, hk, rfl, hyes, -⟩
          · have HEN := hide ((unhide HE).skip fun i hi hin => by
              have := of_decide_eq_false (hno (i - r) (by rw [← unhide HRL] at hi; omega))
              rw [← unhide HRL] at hi
              rw [show r + (i - r) = i by omega] at this
              exact (Wm.m8_z ((unhide HR).tb.lt i x)).2 (Classical.byContradiction fun h => this h))
            clear hno
            go_wp2
            go_roundw
            case rel => exact ⟨x + 1, by omega, by go_num, bl, cq, R, ps, d, rfl, hd, by rw [← unhide HRL]; exact hps, HR2, HEN⟩
            case measure => simp [intOf]; omega
          · have hne := of_decide_eq_true hyes
            clear hyes
            obtain ⟨q, hq⟩ : ∃ q, q = r + k := ⟨_, rfl⟩
            rw [← hq] at hne
            have hqn : q < n := by omega
            have hqI : (r : Int) + (k : Int) = (q : Int) := by omega
            have hqnI : (q : Int) < (n : Int) := by omega
            have hqw : IntKind.i64.wrap (q : Int) = (q : Int) := IntWalk.i64_in _ (by omega)
            have hq0I : (0 : Int) ≤ (q : Int) := by omega
            have hr0I : (0 : Int) ≤ (r : Int) := by omega
            have hrnI3 : (r : Int) < (n : Int) := by omega
            have hkI : ¬ (k : Int) < 0 := by omega
            have T2 := (unhide HR2).tb
            have hq1 := T2.hd q hqn
            have hq2 := T2.hd_f q hqn
            have hr1 := T2.hd r (by omega)
            have hr2 := T2.hd_f r (by omega)
            have HSW := hide ((unhide HR2).swap (p := r) (q := q) (by omega) hqn)
            have hs1 : (w2.setCell ⟨g, r, none⟩ (.slice (some ⟨bl q, 0, none⟩) l (cq q))).cell? ⟨g, q, none⟩ = some (.slice (some ⟨bl q, 0, none⟩) l (cq q)) := by
              by_cases e : r = q
              · subst e; exact World.cell?_setCell_same' _ _ _ (by rw [hr1]; rfl)
              · rw [World.cell?_setCell_other _ _ _ _ (by intro h; injection h with _ h; exact e h)]; exact hq1
            have hs2 : (w2.setCell ⟨g, q, none⟩ (.slice (some ⟨bl r, 0, none⟩) l (cq r))).cell? ⟨g, r, none⟩ = some (.slice (some ⟨bl r, 0, none⟩) l (cq r)) := by
              by_cases e : r = q
              · subst e; exact World.cell?_setCell_same' _ _ _ (by rw [hr1]; rfl)
              · rw [World.cell?_setCell_other _ _ _ _ (by intro h; injection h with _ h; exact e h.symm)]; exact hr1
            clear T2
            have HBQ := hide hne
            clear hne hq
            go_wp2
            apply share
            · intro H
              go_region_law (fail)
              all_goals exact H
            · have hR1 : Wm.swN R r q r x = R q x := by unfold Wm.swN Wm.Fld.swp; rw [if_pos rfl]
              have hlt1 : ∀ i j, Wm.swN R r q i j < 256 := fun i j => (unhide HR).tb.lt _ j
              have HEC := hide ((unhide HE).step Wm.b8_two (k := q) (by rw [← unhide HRL]; omega) hqn (fun h => unhide HBQ ((Wm.m8_z ((unhide HR).tb.lt q x)).1 h)))
              rw [← unhide HRL, ← Wm.stepF (unhide HR).tb.lt r q x n] at HEC
              have HB1 := hide (show ∀ i, i < n → wa.heap.size ≠ bl (sw2 r q i) from fun i hi => unhide hbb _ (sw2_lt (by omega) hqn hi))
              have HR3 := hide ((unhide HSW).keep (Ext.refl _).drew)
              have hc3 : ((w2.setCell ⟨g, r, none⟩ (.slice (some ⟨bl q, 0, none⟩) l (cq q))).setCell ⟨g, q, none⟩ (.slice (some ⟨bl r, 0, none⟩) l (cq r))).drew.cell? ⟨wa.heap.size, 0, none⟩ = some (.int .i64 (x : Int)) := by
                refine ((Ext.refl _).drew.keep ?_)
                rw [World.cell?_setCell_other _ _ _ _ (by intro e; injection e with e; exact hbg e.symm), World.cell?_setCell_other _ _ _ _ (by intro e; injection e with e; exact hbg e.symm)]
                exact hc2
              clear hq1 hq2 hr1 hr2 hs1 hs2 HSW hc2 HR2 HRX HWX HCX
              obtain ⟨bl1, hbl1⟩ : ∃ bl1, bl1 = fun i => bl (sw2 r q i) := ⟨_, rfl⟩
              obtain ⟨cq1, hcq1⟩ : ∃ cq1, cq1 = fun i => cq (sw2 r q i) := ⟨_, rfl⟩
              obtain ⟨R1, hRR1⟩ : ∃ R1, R1 = Wm.swN R r q := ⟨_, rfl⟩
              have hRR2 : (fun i => R (sw2 r q i)) = R1 := by rw [hRR1]; rfl
              rw [← hbl1, ← hcq1, hRR2] at HR3
              have HB1 : Hid (∀ i, i < n → wa.heap.size ≠ bl1 i) := by rw [hbl1]; exact HB1
              rw [← hRR1] at HEC hR1 hlt1
              obtain ⟨X, hX⟩ : ∃ X, X = R q x := ⟨_, rfl⟩
              rw [← hX] at HEC hR1 HBQ
              have hXl : X < 256 := by rw [hX]; exact (unhide HR).tb.lt q x
              clear hbl1 hcq1 hRR1 hRR2
              generalize ((w2.setCell ⟨g, r, none⟩ (.slice (some ⟨bl q, 0, none⟩) l (cq q))).setCell ⟨g, q, none⟩ (.slice (some ⟨bl r, 0, none⟩) l (cq r))).drew = w3 at *
              have hr1 := (unhide HR3).tb.hd r (by omega)
              have hx1 := (unhide HR3).tb.cell r x (by omega) (by omega)
              rw [hR1] at hx1
              have hxI : (x : Int) < (l : Int) := by omega
              have hx0I : (0 : Int) ≤ (x : Int) := by omega
              have C1 := hide (fun w => unhide CM d X hd hXl w)
              have C2 := hide (fun w => unhide CI X (unhide HBQ) hXl w)
              have hd' : Wm.fmul d X < 256 := Wm.fmul_lt hd hXl
              have HM8 := hide (Wm.m8_ml hd hXl)
              rw [show Wm.m8m R q x = Wm.m8 X from by rw [hX]; rfl] at HEC
              rw [← unhide HM8] at HEC
              obtain ⟨d', hdd⟩ : ∃ d', d' = Wm.fmul d X := ⟨_, rfl⟩
              rw [← hdd] at C1 hd' HEC
              obtain ⟨v, hv⟩ : ∃ v, v = Wm.fpow X 254 := ⟨_, rfl⟩
              have hvl : v < 256 := by rw [hv]; exact Wm.fpow_lt hXl _
              rw [← hv] at C2 HEC
              clear hdd hv HM8 CI hX
              go_upto_region 16 with fail
              go_quiet ((go_at_call 25; with_reducible exact Calls.quiet_of (drew_of_same (unhide C1 _))))
              have HR4 := hide ((unhide HR3).keep ((Ext.refl w3).drewN nq))
              have hc4 := ((Ext.refl w3).drewN nq).keep hc3
              have hr4 := ((Ext.refl w3).drewN nq).keep hr1
              have hx4 := ((Ext.refl w3).drewN nq).keep hx1
              clear HR3 hc3 hr1 hx1
              generalize w3.drewN nq = w4 at *
              go_upto_region 17 with fail
              go_quiet ((go_at_call 35; with_reducible exact Calls.quiet_of (drew_of_same (unhide C2 _))))
              have HR5 := hide ((unhide HR4).keep ((Ext.refl w4).drewN nq))
              have hc5 := ((Ext.refl w4).drewN nq).keep hc4
              have hr5 := ((Ext.refl w4).drewN nq).keep hr4
              clear HR4 hc4 hr4 hx4
              generalize w4.drewN nq = w5 at *
              have HSL := hide (fun i j => Wm.scF_lt hlt1 hvl r i j)
              have HR5 : Hid (RS w w5 g n l bl1 cq1 (Wm.scN R1 r v 0) (.slice PB r pc) ps) := by rw [Wm.scN_zero]; exact HR5
              have HL1 := hide hlt1
              clear hlt1
              go_wp2
              go_loopw [92] (fun i wz => ∃ j : Nat, j ≤ l ∧ i = .int .i64 j ∧ Hid (RS w wz g n l bl1 cq1 (Wm.scN R1 r v j) (.slice PB r pc) ps) ∧ wz.cell? ⟨wa.heap.size, 0, none⟩ = some (.int .i64 (x : Int))) (fun i _ => l - (intOf i).toNat)
              case atStart => exact ⟨0, Nat.zero_le _, rfl, HR5, hc5⟩
              case round =>
                obtain ⟨j, hj, rfl, HRJ, hcj⟩ := hrel
                by_cases hjl : j < l
                ·
                  --{
                  have hh := (unhide HRJ).tb.hd r (by omega)
                  have hy := (unhide HRJ).tb.cell r j (by omega) hjl
                  have hf := (unhide HRJ).tb.cell_f r j (by omega) hjl
                  rw [Wm.scN_cur] at hy
                  obtain ⟨Y, hY⟩ : ∃ Y, Y = R1 r j := ⟨_, rfl⟩
                  have hYl : Y < 256 := by rw [hY]; exact unhide HL1 r j
                  rw [← hY] at hy
                  have C := hide (fun w => unhide CM Y v hYl hvl w)
                  obtain ⟨F, hF⟩ : ∃ F, F = Wm.fmul Y v := ⟨_, rfl⟩
                  have hFl : F < 256 := by rw [hF]; exact Wm.fmul_lt hYl hvl
                  rw [← hF] at C
                  have HS := hide ((((unhide HRJ).set (i := r) (j := j) (x := F) (by omega) hjl hFl).keep (Ext.refl _).drew).congr (M' := Wm.scN R1 r v (j + 1)) (fun a b _ _ => by
                    rw [← Wm.scN_next R1 r v j a b, hF, hY]; rfl) (fun a b => Wm.scN_lt (unhide HL1) hvl r (j + 1) a b))
                  have hcn : ((wr.setCell ⟨bl1 r, j, none⟩ (.int .u8 (F : Int))).drew).cell? ⟨wa.heap.size, 0, none⟩ = some (.int .i64 (x : Int)) := by
                    refine (Ext.refl _).drew.keep ?_
                    rw [World.cell?_setCell_other _ _ _ _ (by intro e; injection e with e; exact unhide HB1 r (by omega) e.symm)]
                    exact hcj
                  clear hY hF
                  generalize bl1 r = br at *
                  generalize cq1 r = cr at *
                  go_wp2
                  apply share
                  · intro H
                    go_region_with (go_at_call 25; refine (unhide C _).mono ?_; rintro e wc ⟨rfl, rfl⟩)
                    all_goals exact H
                  · go_wp2
                    go_roundw
                    case rel => exact ⟨j + 1, by omega, by go_num, HS, hcn⟩
                    case measure => simp [intOf]; omega
                  --}
                · obtain rfl : l = j := by omega
                  obtain ⟨S, hS⟩ : ∃ S, S = Wm.scF R1 r v := ⟨_, rfl⟩
                  rw [← hS] at HEC HSL
                  have HR6 := hide ((unhide HRJ).congr (M' := Wm.elN S r x 0 0) (fun a b _ hb => by rw [Wm.elN_zero, hS]; exact Wm.scN_full R1 r v a b hb) (fun a b => Wm.elN_lt (unhide HSL) r x 0 0 a b))
                  clear hS HRJ
                  go_wp2
                  go_loopw [109] (fun i wz => ∃ t : Nat, t ≤ n ∧ i = .int .i64 t ∧ Hid (RS w wz g n l bl1 cq1 (Wm.elN S r x t 0) (.slice PB r pc) ps) ∧ wz.cell? ⟨wa.heap.size, 0, none⟩ = some (.int .i64 (x : Int))) (fun i _ => n - (intOf i).toNat)
                  case atStart => exact ⟨0, Nat.zero_le _, rfl, HR6, hcj⟩
                  case round =>
                    obtain ⟨t, ht, rfl, HRT, hct⟩ := hrel
                    by_cases htn : t < n
                    ·
                      --{
                      have hh := (unhide HRT).tb.hd t htn
                      have hhr := (unhide HRT).tb.hd r (by omega)
                      have hy := (unhide HRT).tb.cell t x htn (by omega)
                      rw [Wm.elN_row] at hy
                      obtain ⟨Y, hY⟩ : ∃ Y, Y = S t x := ⟨_, rfl⟩
                      have hYl : Y < 256 := by rw [hY]; exact unhide HSL t x
                      rw [← hY] at hy
                      have HY := hide hY
                      clear hY
                      by_cases hskip : t = r ∨ Y = 0
                      · have HN := hide ((unhide HRT).congr (M' := Wm.elN S r x (t + 1) 0) (fun a b _ _ => Wm.elN_skip S (unhide HSL) (by rw [← unhide HY]; exact hskip) a b) (fun a b => Wm.elN_lt (unhide HSL) r x (t + 1) 0 a b))
                        by_cases htr : t = r
                        · subst htr
                          have htB : ((t : Int) != (t : Int)) = false := by simp
                          clear hskip
                          go_wp2
                          go_roundw
                          case rel => exact ⟨t + 1, by omega, by go_num, HN, hct⟩
                          case measure => simp [intOf]; omega
                        · obtain rfl : Y = 0 := by rcases hskip with h | h; exact absurd h htr; exact h
                          have htB : ((t : Int) != (r : Int)) = true := by rw [bne_iff_ne]; omega
                          clear hskip
                          go_wp2
                          go_roundw
                          case rel => exact ⟨t + 1, by omega, by go_num, HN, hct⟩
                          case measure => simp [intOf]; omega
                      · have htr : t ≠ r := fun h => hskip (.inl h)
                        have hY0 : Y ≠ 0 := fun h => hskip (.inr h)
                        have htB : ((t : Int) != (r : Int)) = true := by rw [bne_iff_ne]; omega
                        have hYB : ((Y : Int) != 0) = true := by rw [bne_iff_ne]; omega
                        clear hskip
                        go_wp2
                        go_loopw [130] (fun i wz => ∃ j : Nat, j ≤ l ∧ i = .int .i64 j ∧ Hid (RS w wz g n l bl1 cq1 (Wm.elN S r x t j) (.slice PB r pc) ps) ∧ wz.cell? ⟨wa.heap.size, 0, none⟩ = some (.int .i64 (x : Int))) (fun i _ => l - (intOf i).toNat)
                        case atStart => exact ⟨0, Nat.zero_le _, rfl, HRT, hct⟩
                        case round =>
                          obtain ⟨j, hj, rfl, HRJ, hcj⟩ := hrel
                          by_cases hjl : j < l
                          · have hx2 := (unhide HRJ).tb.cell r j (by omega) hjl
                            have hz := (unhide HRJ).tb.cell t j htn hjl
                            have hf := (unhide HRJ).tb.cell_f t j htn hjl
                            rw [Wm.elN_at] at hx2
                            rw [Wm.elN_cur] at hz
                            obtain ⟨X2, hX2⟩ : ∃ X2, X2 = S r j := ⟨_, rfl⟩
                            obtain ⟨Z, hZ⟩ : ∃ Z, Z = S t j := ⟨_, rfl⟩
                            have hX2l : X2 < 256 := by rw [hX2]; exact unhide HSL r j
                            have hZl : Z < 256 := by rw [hZ]; exact unhide HSL t j
                            rw [← hX2] at hx2
                            rw [← hZ] at hz
                            have C := hide (fun w => unhide CM X2 Y hX2l hYl w)
                            obtain ⟨F, hF⟩ : ∃ F, F = Wm.fmul X2 Y := ⟨_, rfl⟩
                            have hFl : F < 256 := by rw [hF]; exact Wm.fmul_lt hX2l hYl
                            rw [← hF] at C
                            have hxo := u8_xor_nat Z F hZl hFl
                            obtain ⟨U, hU⟩ : ∃ U, U = Z ^^^ F := ⟨_, rfl⟩
                            have hUl : U < 256 := by rw [hU]; exact Wm.xor_lt hZl hFl
                            rw [← hU] at hxo
                            have HS := hide ((((unhide HRJ).set (i := t) (j := j) (x := U) htn hjl hUl).keep (Ext.refl _).drew).congr (M' := Wm.elN S r x t (j + 1)) (fun a b _ _ => by
                              rw [← Wm.elN_next S htr a b, hU, hZ, hF, hX2, unhide HY]; rfl) (fun a b => Wm.elN_lt (unhide HSL) r x t (j + 1) a b))
                            have hcn : ((wr.setCell ⟨bl1 t, j, none⟩ (.int .u8 (U : Int))).drew).cell? ⟨wa.heap.size, 0, none⟩ = some (.int .i64 (x : Int)) := by
                              refine (Ext.refl _).drew.keep ?_
                              rw [World.cell?_setCell_other _ _ _ _ (by intro e; injection e with e; exact unhide HB1 t htn e.symm)]
                              exact hcj
                            clear hX2 hZ hF hU
                            generalize bl1 r = br at *
                            generalize bl1 t = bt at *
                            generalize cq1 r = cr at *
                            generalize cq1 t = ct at *
                            go_wp2
                            apply share
                            · intro H
                              go_region_with (go_at_call 25; refine (unhide C _).mono ?_; rintro e wc ⟨rfl, rfl⟩)
                              all_goals exact H
                            · go_wp2
                              go_roundw
                              case rel => exact ⟨j + 1, by omega, by go_num, HS, hcn⟩
                              case measure => simp [intOf]; omega
                          · obtain rfl : l = j := by omega
                            have HN := hide ((unhide HRJ).congr (M' := Wm.elN S r x (t + 1) 0) (fun a b _ hb => Wm.elN_done S a b hb) (fun a b => Wm.elN_lt (unhide HSL) r x (t + 1) 0 a b))
                            go_wp2
                            go_roundw
                            case rel => exact ⟨t + 1, by omega, by go_num, HN, hcj⟩
                            case measure => simp [intOf]; omega
                      --}
                    · obtain rfl : n = t := by omega
                      have HRA := hide ((unhide HRT).keep ((Ext.refl wr).alloc (.cells #[.int .i64 (x : Int)] 3)))
                      have HOW := hide (unhide HRA).piv
                      have hpl : ps.length = r := (unhide HRL).symm
                      rw [hpl] at HOW
                      have HBD := hide (show (r + 1) * 8 ≤ 140737488355328 ∧ r + 1 ≤ 9223372036854775807 by omega)
                      have HBS := hide (unhide HRA).ext.size
                      have HRN := hide (row_new wr #[.int .i64 (x : Int)] 3 1 1 rfl)
                      have HPL := hide hpl
                      clear hpl
                      go_wp2_with (at_builtin; refine stop ?_)
                      unfold Stop
                      refine wpList_app_any rfl _ _ 52 (by rfl) 3 intM w.heap.size _ r _ (by rfl) (unhide HOW) (some ⟨wr.heap.size, 0, none⟩) 1 1 [.int .i64 (x : Int)] (by rfl) (unhide HRN) rfl (unhide HBD) (unhide HBS) ?_
                      intro v' w6 hown6 hg6 hat6
                      obtain ⟨g6, c6, hv6, -⟩ := row_open hown6 (by omega)
                      subst hv6
                      have HN := hide ((unhide HRA).more (c := x) (by rw [unhide HPL]; exact hown6) hg6 (by
                        rcases hat6 with h | h
                        · exact .inl h
                        · exact .inr ⟨_, h, Nat.le_refl _⟩))
                      clear hown6 hg6 hat6
                      by_cases hrn1 : r + 1 = n
                      · have hrB : (((r + 1 : Nat) : Int) == (n : Int)) = true := by rw [beq_iff_eq]; omega
                        have hrB2 : ((r : Int) + 1 == (n : Int)) = true := by rw [beq_iff_eq]; omega
                        have hlen : (ps ++ [x]).length = n := by rw [List.length_append, unhide HPL]; exact hrn1
                        have HF := hide ((unhide HEC).full hlen (c' := cols) (by omega))
                        have HLEN := hide hlen
                        have hpv := (unhide HN).piv
                        rw [hrn1] at hpv
                        have HPV := hide hpv
                        clear hlen hpv
                        go_wp2
                        go_ret3
                        refine ⟨⟨g, cg, bl1, cq1, _, ps ++ [x], d', _, rfl, hcg, hcg2, hd', (unhide HN).tb, unhide HPV, unhide HF⟩, (unhide HN).ext⟩
                      · have hrB : (((r + 1 : Nat) : Int) == (n : Int)) = false := by rw [beq_eq_false_iff_ne]; omega
                        have hrB2 : ((r : Int) + 1 == (n : Int)) = false := by rw [beq_eq_false_iff_ne]; omega
                        go_wp2
                        go_roundw
                        case rel => exact ⟨x + 1, by omega, by go_num, bl1, cq1, _, ps ++ [x], d', rfl, hd', by rw [List.length_append, unhide HPL]; show r + 1 < n; omega, HN, HEC⟩
                        case measure => simp [intOf]; omega
        · obtain rfl : cols = x := by omega
          obtain ⟨PB, pc, hv, -, -, -, -⟩ := row_of_own (unhide HR).piv
          subst hv
          go_wp2
          go_ret3
          exact ⟨⟨g, cg, bl, cq, _, ps, d, R, rfl, hcg, hcg2, hd, (unhide HR).tb, (unhide HR).piv, unhide HE⟩, (unhide HR).ext⟩
end Go.Proofs.Ytepkiicekcglhaa
