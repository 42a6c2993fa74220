/-
  The walk of the law StoreGrows.
-/
import Derived.Test.YtfhalkijbenhdaaSto21
set_option linter.unusedVariables false
set_option linter.unusedSimpArgs false
namespace Go.Proofs.Ytfhalkijbenhdaa
open Go.RowKit Go.BigFrame

namespace Sto
/-- What StoreGrows carries along. -/
structure Least (σ : Sto) (H : Nat → Nat × ByteArray) (ls : Nat → Nat) : Prop where
  ok : Ok σ H
  st : ∀ k, k < 3 → ls k = 0 ∨ ∃ T, ls k ≤ T ∧ Stands σ H k T
theorem Least.step {σ : Sto} {H : Nat → Nat × ByteArray} {ls : Nat → Nat} (L : Least σ H ls) (kind key n : Int) (s : ByteArray) (h6 : kind ≠ 6) (h7 : kind ≠ 7) : Least (σ.doS kind key n s).2 (hist σ H kind key n s) ls := by
  refine ⟨L.ok.do_ kind key n s, fun k hk => ?_⟩
  rcases L.st k hk with h | ⟨T, h1, h2⟩
  · exact .inl h
  · obtain ⟨T', h3, h4, -⟩ := h2.step L.ok hk kind key n s h6 h7
    exact .inr ⟨T', Nat.le_trans h1 h3, h4⟩
def upl (ls : Nat → Nat) (k x : Nat) : Nat → Nat := fun j => if j = k then x else ls j
theorem Least.told {σ : Sto} {H : Nat → Nat × ByteArray} {ls : Nat → Nat} (L : Least σ H ls) (kind key n : Int) (s : ByteArray) (h : kind = 1 ∨ kind = 3) (he : (σ.doS kind key n s).1.err = 0) :
    isKey key ∧ ls key.toNat ≤ (σ.doS kind key n s).1.at_ ∧ Least (σ.doS kind key n s).2 (hist σ H kind key n s) (upl ls key.toNat (σ.doS kind key n s).1.at_) := by
  obtain ⟨hk, hs⟩ := stands_told L.ok kind key n s h he
  have L2 := L.step kind key n s (by omega) (by omega)
  refine ⟨hk, ?_, L2.ok, fun k hk3 => ?_⟩
  · rcases L.st _ (isKey_lt hk) with h0 | ⟨T, h1, h2⟩
    · omega
    · rcases h with rfl | rfl
      · have := (put_told (σ := σ) 1 key n s (.inl rfl) he).1
        have := h2.2.1
        omega
      · obtain ⟨T', -, -, h3⟩ := h2.step L.ok (isKey_lt hk) 3 key n s (by decide) (by decide)
        exact Nat.le_trans h1 (h3 rfl rfl he)
  · unfold upl
    by_cases e : k = key.toNat
    · rw [if_pos e, e]; exact .inr ⟨_, Nat.le_refl _, hs⟩
    · rw [if_neg e]; exact L2.st k hk3
end Sto
structure LeastAt (wr : World) (bL : Nat) (ls : Nat → Nat) : Prop where
  hi : bL < wr.heap.size
  c0 : ∀ k, k < 3 → wr.cell? ⟨bL, k * 2, none⟩ = some (.int .i64 (ls k : Int))
  c1 : ∀ k, k < 3 → wr.cell? ⟨bL, k * 2 + 1, none⟩ = some (.int .i64 0)
  fr : ∀ j, wr.frozen? ⟨bL, j, none⟩ = false
theorem LeastAt.keep {wr w' : World} {bL : Nat} {ls : Nat → Nat} (L : LeastAt wr bL ls) (E : Ext wr w') : LeastAt w' bL ls :=
  ⟨Nat.lt_of_lt_of_le L.hi E.size, fun k hk => E.keep (L.c0 k hk), fun k hk => E.keep (L.c1 k hk), fun j => (E.frozen (p := ⟨bL, j, none⟩) L.hi).trans (L.fr j)⟩
theorem LeastAt.only {wr w' : World} {bL : Nat} {ls : Nat → Nat} {F : Nat → Prop} (L : LeastAt wr bL ls) (O : Only F wr w') (hF : ¬ F bL) : LeastAt w' bL ls :=
  ⟨Nat.lt_of_lt_of_le L.hi O.size, fun k hk => O.keepc (L.c0 k hk) hF, fun k hk => O.keepc (L.c1 k hk) hF, fun j => (World.frozen?_of_block (a := ⟨bL, j, none⟩) (O.block _ L.hi hF)).trans (L.fr j)⟩
theorem LeastAt.set {wr : World} {bL : Nat} {ls : Nat → Nat} (L : LeastAt wr bL ls) {k : Nat} (hk : k < 3) (x : Nat) : LeastAt ((wr.setCell ⟨bL, k * 2, none⟩ (.int .i64 (x : Int))).setCell ⟨bL, k * 2 + 1, none⟩ (.int .i64 0)) bL (Sto.upl ls k x) :=
  ⟨by simpa using L.hi, fun j hj => by
      rw [set_cell_g _ (by omega)]
      unfold Sto.upl
      by_cases e : j = k
      · subst e
        rw [if_pos rfl]
        exact World.cell?_setCell_same' _ _ _ (by rw [L.c0 j hj]; rfl)
      · rw [if_neg e, set_cell_g _ (by omega)]
        exact L.c0 j hj,
    fun j hj => by
      by_cases e : j = k
      · subst e
        exact World.cell?_setCell_same' _ _ _ (by rw [set_cell_g _ (by omega), L.c1 j hj]; rfl)
      · rw [set_cell_g _ (by omega), set_cell_g _ (by omega)]
        exact L.c1 j hj,
    fun j => by rw [World.frozen?_setCell, World.frozen?_setCell]; exact L.fr j⟩

set_option maxRecDepth 100000 in
set_option maxHeartbeats 8000000 in
theorem grows_law (n0 k0 x0 y0 : Int) (B : Option Addr) (m2 c2 : Nat) (l2 : List Dd) (w : World)
    (S2 : SliceIn w B m2 c2 4 40 (dds l2)) (h2 : ∀ d ∈ l2, (d.s.size : Int) ≤ 9223372036854775807) :
    Calls Try.prog 4 #[.agg #[.int .i64 n0, .int .i64 k0, .int .i64 x0, .int .i64 y0], .slice B m2 c2] w fun e w' => e = .returned (.bool true) ∧ Ext w w' := by
  obtain ⟨R2, hnc2, hrb2, -, -⟩ := S2
  have HR2 := hide R2
  have HH2 := hide h2
  have hm2 : m2 ≤ 4611686018427387904 := by omega
  clear R2 h2 hrb2 hnc2
  obtain ⟨W0, hW0⟩ : ∃ W0, W0 = w.alloc (.cells #[.int .i64 n0, .int .i64 k0, .int .i64 x0, .int .i64 y0] 23) := ⟨_, rfl⟩
  have HW0 := hide hW0
  have HE0 := hide (show Ext w W0 by rw [hW0]; exact (Ext.refl w).alloc _)
  have Q0 := hide (show W0.cell? ⟨w.heap.size, 0, none⟩ = some (.int .i64 n0) by rw [hW0, new_cell]; rfl)
  have Q1 := hide (show W0.cell? ⟨w.heap.size, 1, none⟩ = some (.int .i64 k0) by rw [hW0, new_cell]; rfl)
  have Q2 := hide (show W0.cell? ⟨w.heap.size, 2, none⟩ = some (.int .i64 x0) by rw [hW0, new_cell]; rfl)
  have Q3 := hide (show W0.cell? ⟨w.heap.size, 3, none⟩ = some (.int .i64 y0) by rw [hW0, new_cell]; rfl)
  clear hW0
  go_enter Try.func4, Try.ntmps4
  go_wp2_with fail
  rw [← unhide HW0]
  refine (kept_ok _).mono ?_
  rintro e w1 ⟨rfl, E1⟩
  have q0 := E1.keep (unhide Q0)
  have q1 := E1.keep (unhide Q1)
  have q2 := E1.keep (unhide Q2)
  have q3 := E1.keep (unhide Q3)
  have HE1 := hide ((unhide HE0).trans E1)
  clear E1
  by_cases hq : qErr n0 k0 x0 y0 = 0
  · obtain ⟨N, K, Wq, Rq, rfl, rfl, rfl, rfl, hq', a1, a2, a3, a4, a5⟩ := qErr_nat hq
    have O := okNew a1 a2 a3 a4 a5
    have CW := hide (fun (W : World) => worked_ok hq' O none 0 0 [] W Row.none_ (by omega) (fun d h => by simp at h))
    have HQL := hide (show Sto.Least (Sto.new N K Wq Rq) (fun _ => (0, ByteArray.empty)) (fun _ => 0) from ⟨O, fun _ _ => .inl rfl⟩)
    obtain ⟨σ, hσ⟩ : ∃ σ, σ = Sto.new N K Wq Rq := ⟨_, rfl⟩
    rw [show (Sto.new N K Wq Rq).run [] = σ from hσ.symm] at CW
    rw [← hσ] at HQL
    clear hσ hq hq' a1 a2 a3 a4 a5 O
    go_wp2_with fail
    refine (unhide CW _).mono ?_
    rintro e w2 ⟨⟨p, g, v, rfl, S2⟩, E2⟩
    have HE2 := hide ((unhide HE1).trans E2)
    obtain ⟨wL, hwL⟩ : ∃ wL, wL = w2.alloc (.cells #[.int .i64 0, .int .i64 0, .int .i64 0, .int .i64 0, .int .i64 0, .int .i64 0] 41) := ⟨_, rfl⟩
    have HWL := hide hwL
    have EL : Ext w2 wL := by rw [hwL]; exact (Ext.refl w2).alloc _
    have HL0 := hide (show LeastAt wL w2.heap.size (fun _ => 0) from ⟨by rw [hwL]; simp, fun k hk => by
        rw [hwL, new_cell]
        rcases (show k = 0 ∨ k = 1 ∨ k = 2 by omega) with rfl | rfl | rfl <;> rfl, fun k hk => by
        rw [hwL, new_cell]
        rcases (show k = 0 ∨ k = 1 ∨ k = 2 by omega) with rfl | rfl | rfl <;> rfl, fun j => by rw [hwL]; exact new_frozen _ _ _ _⟩)
    have HN0 := hide (show ¬ foot p g v σ.N w2.heap.size from fun h => by have := S2.foot_hi h; omega)
    have HSL := hide ((S2.mono (unhide HE1).size).keep EL)
    have HEL := hide ((unhide HE2).trans EL)
    have hwb : w.heap.size ≤ w2.heap.size := (unhide HE2).size
    obtain ⟨bL, hbL⟩ : ∃ bL, bL = w2.heap.size := ⟨_, rfl⟩
    rw [← hbL] at HL0 HN0 hwb
    clear S2 E2 EL CW q0 q1 q2 q3 hwL
    have HBL := hide hbL
    clear hbL
    go_wp2
    rw [← unhide HWL, ← unhide HBL]
    go_loopw [22] (fun i wr => ∃ x : Nat, x ≤ m2 ∧ i = .int .i64 x ∧ ∃ v' σ' H' ls, Hid (St w.heap.size wr p g v' σ') ∧ Hid (¬ foot p g v' σ'.N bL) ∧ Hid (Sto.Least σ' H' ls) ∧ Hid (LeastAt wr bL ls) ∧ Hid (Ext w wr)) (fun i _ => m2 - (intOf i).toNat)
    case atStart => exact ⟨0, Nat.zero_le _, rfl, v, σ, _, _, HSL, HN0, HQL, HL0, HEL⟩
    case round =>
      obtain ⟨x, hx, rfl, v', σ', H', ls, HS, HNF, HQ, HLS, HE⟩ := hrel
      by_cases hlt : x < m2
      · obtain ⟨b, o, rfl, hb, c1, c2, c3, c4⟩ := ((unhide HR2).keep (unhide HE)).dd hlt
        have hxl : x < l2.length := by rw [(unhide HR2).ddn]; exact hlt
        have hsz := unhide HH2 _ (dg_mem hxl)
        have hxI : (x : Int) < (m2 : Int) := by omega
        generalize (dg l2 x).kind = d1 at *
        generalize (dg l2 x).key = d2 at *
        generalize (dg l2 x).n = d3 at *
        generalize (dg l2 x).s = d4 at *
        have CC := hide (fun W => calm_ok d1 d2 d3 d4 W)
        have CD := hide (fun (W : World) (S : St w.heap.size W p g v' σ') => do_ok S (unhide HQ).ok.fine d1 d2 d3 d4 hsz)
        obtain ⟨wb, hwb⟩ : ∃ wb, wb = wr.alloc (.cells #[.int .i64 d1, .int .i64 d2, .int .i64 d3, .string d4] 37) := ⟨_, rfl⟩
        have HWB := hide hwb
        have HEb := hide (show Ext wr wb by rw [hwb]; exact (Ext.refl wr).alloc _)
        have B0 := hide (show wb.cell? ⟨wr.heap.size, 0, none⟩ = some (.int .i64 d1) by rw [hwb, new_cell]; rfl)
        have B1 := hide (show wb.cell? ⟨wr.heap.size, 1, none⟩ = some (.int .i64 d2) by rw [hwb, new_cell]; rfl)
        have B2 := hide (show wb.cell? ⟨wr.heap.size, 2, none⟩ = some (.int .i64 d3) by rw [hwb, new_cell]; rfl)
        have B3 := hide (show wb.cell? ⟨wr.heap.size, 3, none⟩ = some (.string d4) by rw [hwb, new_cell]; rfl)
        have HNB := hide (show ¬ foot p g v' σ'.N wr.heap.size from fun h => by have := (unhide HS).foot_hi h; omega)
        obtain ⟨q, hq⟩ : ∃ q, q = calmB d1 := ⟨_, rfl⟩
        rw [← hq] at CC
        have HQQ := hide hq
        clear hxl hsz hwb hq
        go_wp2_with fail
        rw [← unhide HWB]
        refine (unhide CC _).mono ?_
        rintro e w5 ⟨rfl, E5⟩
        have HE5 := hide ((unhide HEb).trans E5)
        have b0 := E5.keep (unhide B0)
        have b1 := E5.keep (unhide B1)
        have b2 := E5.keep (unhide B2)
        have b3 := E5.keep (unhide B3)
        have HS5 := hide ((unhide HS).keep (unhide HE5))
        have HL5 := hide ((unhide HLS).keep (unhide HE5))
        have HEE := hide ((unhide HE).trans (unhide HE5))
        clear E5 CC B0 B1 B2 B3
        cases q with
        | false =>
          clear CD
          go_wp2
          go_roundw
          case rel => exact ⟨x + 1, by omega, by go_num, v', σ', H', ls, HS5, HNF, HQ, HL5, HEE⟩
          case measure => simp [intOf]; omega
        | true =>
          have hcm := of_decide_eq_true (unhide HQQ).symm
          have HQ2 := hide ((unhide HQ).step d1 d2 d3 d4 hcm.1 hcm.2)
          have HTO := hide ((unhide HQ).told d1 d2 d3 d4)
          have HN2 := hide (Sto.doS_N σ' d1 d2 d3 d4)
          clear hcm
          go_wp2_with fail
          refine (unhide CD _ (unhide HS5)).mono ?_
          rintro e w6 ⟨rfl, v6, S6, O6, F6⟩
          have HE6 := hide (O6.ext (unhide HEE) fun q hq => (unhide HS5).foot_lo hq)
          have hb5 : bL < w5.heap.size := (unhide HL5).hi
          have HL6 := hide ((unhide HL5).only O6 (unhide HNF))
          have HNF6 := hide (show ¬ foot p g v6 (σ'.doS d1 d2 d3 d4).2.N bL from fun h => by
            rw [unhide HN2] at h
            rcases F6 _ h with h | h
            · exact unhide HNF h
            · omega)
          have b0 := O6.keepc b0 (unhide HNB)
          have b1 := O6.keepc b1 (unhide HNB)
          have HS6 := hide S6
          obtain ⟨σ6, hσ6⟩ : ∃ σ6, σ6 = (σ'.doS d1 d2 d3 d4).2 := ⟨_, rfl⟩
          obtain ⟨H6, hH6⟩ : ∃ H6, H6 = Sto.hist σ' H' d1 d2 d3 d4 := ⟨_, rfl⟩
          obtain ⟨an, han⟩ : ∃ an, an = (σ'.doS d1 d2 d3 d4).1 := ⟨_, rfl⟩
          rw [← han] at HTO ⊢
          rw [← hσ6] at HS6 HNF6 HQ2 HTO
          rw [← hH6] at HQ2 HTO
          clear S6 O6 F6 CD b2 b3 han hσ6 hH6 hb5
          obtain ⟨tx, at_, mn, er⟩ := an
          rw [show tellV ⟨tx, at_, mn, er⟩ = .tuple #[.agg #[.string tx, .int .i64 (at_ : Int), .int .i64 0, .int .i64 (mn : Int)], .int .i64 er] from rfl]
          obtain ⟨wc, hwc⟩ : ∃ wc, wc = w6.alloc (.cells #[.string tx, .int .i64 (at_ : Int), .int .i64 0, .int .i64 (mn : Int)] 33) := ⟨_, rfl⟩
          have HWC := hide hwc
          have Ec : Ext w6 wc := by rw [hwc]; exact (Ext.refl w6).alloc _
          have X1 : wc.cell? ⟨w6.heap.size, 1, none⟩ = some (.int .i64 (at_ : Int)) := by rw [hwc, new_cell]; rfl
          have X2 : wc.cell? ⟨w6.heap.size, 2, none⟩ = some (.int .i64 0) := by rw [hwc, new_cell]; rfl
          have HLc := hide ((unhide HL6).keep Ec)
          have HSc := hide ((unhide HS6).keep Ec)
          have HEc := hide ((unhide HE6).trans Ec)
          have y0 := Ec.keep b0
          have y1 := Ec.keep b1
          have y0A := fun o => ((Ext.refl w6).alloc o).keep b0
          clear hwc
          by_cases her : er = 0
          · subst her
            by_cases h13 : d1 = 1 ∨ d1 = 3
            · obtain ⟨hik, hle, HL'⟩ := unhide HTO h13 rfl
              obtain ⟨k, rfl⟩ : ∃ k : Nat, d2 = (k : Int) := ⟨d2.toNat, by unfold Sto.isKey at hik; omega⟩
              have hk3 : k < 3 := by unfold Sto.isKey at hik; omega
              rw [Int.toNat_natCast] at hle HL'
              have hle : ls k ≤ at_ := hle
              have HLL := hide HL'
              have hkI : (k : Int) < 3 := by omega
              have hk0 : decide ((k : Int) < 0) = false := decide_eq_false (by omega)
              have hk1 : decide (3 ≤ (k : Int)) = false := decide_eq_false (by omega)
              have l0 := (unhide HLc).c0 k hk3
              have l1 := (unhide HLc).c1 k hk3
              have CNW := hide (fun W => newr_ok (ls k) at_ W)
              rw [show decide (at_ < ls k) = false from decide_eq_false (by omega)] at CNW
              have HSET := hide (fun (W : World) (L : LeastAt W bL ls) => L.set hk3 at_)
              have HUP := hide (show Sto.Least σ6 H6 (Sto.upl ls k at_) from HL')
              have HK := hide (fun W (E : Ext wc W) => show W.cell? ⟨wr.heap.size, 1, none⟩ = some (.int .i64 (k : Int)) ∧ W.cell? ⟨bL, k * 2, none⟩ = some (.int .i64 (ls k : Int)) ∧ W.cell? ⟨bL, k * 2 + 1, none⟩ = some (.int .i64 0) ∧ W.cell? ⟨w6.heap.size, 1, none⟩ = some (.int .i64 (at_ : Int)) ∧ W.cell? ⟨w6.heap.size, 2, none⟩ = some (.int .i64 0) from ⟨E.keep y1, E.keep l0, E.keep l1, E.keep X1, E.keep X2⟩)
              have HFr := hide (fun W (E : Ext wc W) => (unhide HLc).keep E)
              have hwb' := hwb
              clear hik hle HL' HTO HQ2 X1 X2 l0 l1 y1 HL6 HLc
              rcases h13 with rfl | rfl
              all_goals
                go_upto_region 13 with fail
                rw [← unhide HWC]
                go_region_held3 (fun W => W.cell? ⟨wr.heap.size, 1, none⟩ = some (.int .i64 (k : Int)) ∧ W.cell? ⟨bL, k * 2, none⟩ = some (.int .i64 (ls k : Int)) ∧ W.cell? ⟨bL, k * 2 + 1, none⟩ = some (.int .i64 0) ∧ W.cell? ⟨w6.heap.size, 1, none⟩ = some (.int .i64 (at_ : Int)) ∧ W.cell? ⟨w6.heap.size, 2, none⟩ = some (.int .i64 0)) (first | exact unhide HK _ (Ext.refl _).drew | exact unhide HK _ E6) (first
                  | (go_at_call 16; refine (unhide CNW _).mono ?_; rintro e w7 ⟨rfl, E6'⟩; have E6 : Ext wc w7 := Ext.trans (Ext.refl wc).drew E6'))
                have L7 := unhide HFr w7 E6
                have HL7 := hide L7
                have HE7 := hide E6
                have x7 := unhide HK w7 E6
                obtain ⟨z1, -, -, z4, z5⟩ := x7
                have f0 := L7.fr (k * 2)
                have f1 := L7.fr (k * 2 + 1)
                have t0 := L7.c0 k hk3
                have t1 := L7.c1 k hk3
                clear L7 E6 E6' HK HFr CNW
                go_wp2
                have O7 := ((Only.of_ext (F := fun q => q = bL) (unhide HE7)).set (a := ⟨bL, k * 2, none⟩) (.inl rfl) (.int .i64 (at_ : Int))).set (a := ⟨bL, k * 2 + 1, none⟩) (.inl rfl) (.int .i64 0)
                have HS8 := hide ((unhide HSc).other O7 fun q hq e => unhide HNF6 (e ▸ hq))
                have HE8 := hide (O7.ext (unhide HEc) fun q hq => by rw [hq]; exact hwb')
                have HL8 := hide (unhide HSET _ (unhide HL7))
                clear O7
                go_roundw
                case rel => exact ⟨x + 1, by omega, by go_num, v6, σ6, H6, _, HS8, HNF6, HUP, HL8, HE8⟩
                case measure => simp [intOf]; omega
            · have e1 : (d1 != 1) = true := by rw [bne_iff_ne]; exact fun h => h13 (.inl h)
              have e3 : (d1 != 3) = true := by rw [bne_iff_ne]; exact fun h => h13 (.inr h)
              clear h13 HTO HL6
              go_wp2
              rw [← unhide HWC]
              go_roundw
              case rel => exact ⟨x + 1, by omega, by go_num, v6, σ6, H6, ls, HSc, HNF6, HQ2, HLc, HEc⟩
              case measure => simp [intOf]; omega
          · have e0 : (er != 0) = true := by rw [bne_iff_ne]; exact her
            clear her HTO HL6
            go_wp2
            rw [← unhide HWC]
            go_roundw
            case rel => exact ⟨x + 1, by omega, by go_num, v6, σ6, H6, ls, HSc, HNF6, HQ2, HLc, HEc⟩
            case measure => simp [intOf]; omega
      · obtain rfl : m2 = x := by omega
        go_wp2
        go_ret
        exact ⟨rfl, unhide HE⟩
  · have CW := hide (fun (W : World) => worked_bad n0 k0 x0 y0 none 0 0 W hq)
    have CQ := hide (fun (W : World) => qchk_ok n0 k0 x0 y0 W)
    have hB : (qErr n0 k0 x0 y0 != 0) = true := by rw [bne_iff_ne]; exact hq
    generalize qErr n0 k0 x0 y0 = r at *
    clear hq
    go_wp2_with fail
    refine (unhide CW _).mono ?_
    rintro e w2 ⟨rfl, E2⟩
    have q0 := E2.keep q0
    have q1 := E2.keep q1
    have q2 := E2.keep q2
    have q3 := E2.keep q3
    have HE2 := hide ((unhide HE1).trans E2)
    clear E2 CW
    go_wp2_with fail
    refine (unhide CQ _).mono ?_
    rintro e w3 ⟨rfl, E3⟩
    go_wp2
    go_ret
    exact ⟨rfl, (unhide HE2).trans E3⟩
end Go.Proofs.Ytfhalkijbenhdaa
