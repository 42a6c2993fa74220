/-
  The walk of the law ReedSums.
-/
import Derived.Test.YtkkohaojbijklaaReed6
import Derived.Test.YtkkohaojbijklaaBits1
import Derived.Test.YtkkohaojbijklaaDuo
import Derived.Deep.RegionHeld3
import Derived.BigRegion
import Derived.Deep.Cut
import Derived.BigQuiet
set_option linter.unusedVariables false
set_option linter.unusedSimpArgs false
namespace Wm
/-- The sums, the multiples of the first x bytes. -/
def sumL (a b : List Nat) (x : Nat) : List Nat := (List.range x).map fun i => a.getD i 0 ^^^ b.getD i 0
def byL (y : Nat) (a : List Nat) (x : Nat) : List Nat := (List.range x).map fun i => fmul y (a.getD i 0)
theorem sumL_length (a b : List Nat) (x : Nat) : (sumL a b x).length = x := by simp [sumL]
theorem byL_length (y : Nat) (a : List Nat) (x : Nat) : (byL y a x).length = x := by simp [byL]
theorem sumL_succ (a b : List Nat) (x : Nat) : sumL a b (x + 1) = sumL a b x ++ [a.getD x 0 ^^^ b.getD x 0] := by simp [sumL, List.range_succ]
theorem byL_succ (y : Nat) (a : List Nat) (x : Nat) : byL y a (x + 1) = byL y a x ++ [fmul y (a.getD x 0)] := by simp [byL, List.range_succ]
theorem sumL_get (a b : List Nat) {x i : Nat} (h : i < x) : (sumL a b x).getD i 0 = a.getD i 0 ^^^ b.getD i 0 := by
  unfold sumL; rw [getD_map_ 0 (by simpa using h), getD_range h]
theorem byL_get (y : Nat) (a : List Nat) {x i : Nat} (h : i < x) : (byL y a x).getD i 0 = fmul y (a.getD i 0) := by
  unfold byL; rw [getD_map_ 0 (by simpa using h), getD_range h]
theorem sumL_lt {a b : List Nat} (ha : B256 a) (hb : B256 b) (x : Nat) : B256 (sumL a b x) := B256.of fun y hy => by
  obtain ⟨i, -, rfl⟩ := List.mem_map.1 hy
  exact Nat.xor_lt_two_pow (n := 8) (ha i) (hb i)
theorem byL_lt {y : Nat} {a : List Nat} (hy : y < 256) (ha : B256 a) (x : Nat) : B256 (byL y a x) := B256.of fun z hz => by
  obtain ⟨i, -, rfl⟩ := List.mem_map.1 hz
  exact fmul_lt hy (ha i)
theorem take_lt {a : List Nat} (ha : B256 a) (k : Nat) : B256 (a.take k) := B256.of fun y hy => ha.mem y (List.mem_of_mem_take hy)
theorem take_get {a : List Nat} {k i : Nat} (h : i < k) : (a.take k).getD i 0 = a.getD i 0 := by
  rw [List.getD_eq_getElem?_getD, List.getD_eq_getElem?_getD, List.getElem?_take_of_lt h]
theorem put_sum {a b : List Nat} {k m x : Nat} (ha : B256 a) (hb : B256 b) (hka : k ≤ a.length) (hkb : k ≤ b.length) (hm : m ≤ 256) (hx : x < m) (hk : k ≤ 256) :
    (putL (sumL a b k) m).getD x 0 = (putL (a.take k) m).getD x 0 ^^^ (putL (b.take k) m).getD x 0 := by
  rw [putL_get hx, putL_get hx, putL_get hx, sumL_length, List.length_take, List.length_take, Nat.min_eq_left hka, Nat.min_eq_left hkb,
    ← rby_xor (p := fun i => (List.range k).getD i 0) (B256.range hk) (take_lt ha k) (take_lt hb k) (by omega)]
  refine rby_congr (fun _ _ => rfl) fun i hi => ?_
  show (sumL a b k).getD i 0 = (a.take k).getD i 0 ^^^ (b.take k).getD i 0
  rw [sumL_get _ _ hi, take_get hi, take_get hi]
theorem put_by {y : Nat} {a : List Nat} {k m x : Nat} (hy : y < 256) (ha : B256 a) (hka : k ≤ a.length) (hm : m ≤ 256) (hx : x < m) (hk : k ≤ 256) :
    (putL (byL y a k) m).getD x 0 = fmul y ((putL (a.take k) m).getD x 0) := by
  rw [putL_get hx, putL_get hx, byL_length, List.length_take, Nat.min_eq_left hka,
    ← rby_mul (p := fun i => (List.range k).getD i 0) (B256.range hk) (take_lt ha k) hy (by omega)]
  refine rby_congr (fun _ _ => rfl) fun i hi => ?_
  show (byL y a k).getD i 0 = fmul y ((a.take k).getD i 0)
  rw [byL_get _ _ hi, take_get hi]
end Wm
namespace Go.Proofs.Ytkkohaojbijklaa
open Go.RowKit Go.BigFrame

set_option maxRecDepth 100000 in
set_option maxHeartbeats 8000000 in
theorem sums_law (A : Option Addr) (n c : Nat) (a : List Nat) (B : Option Addr) (k d : Nat) (b : List Nat) (N : Int) (y : Nat) (hy : y < 256) (w : World) (SA : SliceIn w A n c 1 1 (nats .u8 a)) (ha : ∀ x ∈ a, x < 256)
    (SB : SliceIn w B k d 1 1 (nats .u8 b)) (hb : ∀ x ∈ b, x < 256) :
    Calls Try.prog 4 #[.slice A n c, .slice B k d, .int .i64 N, .int .u8 y] w fun e w' => e = .returned (.bool true) ∧ Ext w w' := by
  have hBa := Wm.B256.of ha
  have hBb := Wm.B256.of hb
  have HA := hide SA.1
  have HB := hide SB.1
  have hla := SA.1.numN
  have hlb := SB.1.numN
  have hnc : n ≤ c := SA.2.1
  have hkd : k ≤ d := SB.2.1
  have hcm : (c : Int) ≤ 140737488355328 := by have := SA.2.2.1; omega
  have hdm : (d : Int) ≤ 140737488355328 := by have := SB.2.2.1; omega
  clear SA SB ha hb
  have HLA := hide hla
  have HLB := hide hlb
  have HBA := hide hBa
  have HBB := hide hBb
  clear hla hlb hBa hBb
  rcases Nat.lt_or_ge k n with hnk | hnk
  · have hm1 : (k : Int) < (n : Int) := by omega
    have hm2 : (k : Int) ≤ (n : Int) := by omega
    have hm3 : ¬ (n : Int) ≤ (k : Int) := by omega
    have hm4 : ¬ (n : Int) < (k : Int) := by omega
    go_enter Try.func4, Try.ntmps4
    go_wp2_with fail
    refine (rows_any w).mono ?_
    rintro e w1 ⟨rfl, E1⟩
    go_wp2
    go_loopw [10, 11, 12, 30] (fun v1 v2 u i wr => ∃ x : Nat, x ≤ k ∧ i = .int .i64 x ∧ Hid (Duo w1 wr 5 v1 x (nats .u8 (Wm.sumL a b x)) 5 v2 x (nats .u8 (Wm.byL y a x)))) (fun _ _ _ i _ => k - (intOf i).toNat)
    case atStart => exact ⟨0, Nat.zero_le _, rfl, hide (by simpa [Wm.sumL, Wm.byL, nats] using Duo.nil (Ext.refl w1))⟩
    case round =>
      obtain ⟨x, hx, rfl, HD⟩ := hrel
      obtain ⟨A1, cap1, rfl, R1, -, -, -⟩ := row_of_own (unhide HD).a
      obtain ⟨A2, cap2, rfl, R2, -, -, -⟩ := row_of_own (unhide HD).b
      have HR1 := hide R1
      have HR2 := hide R2
      clear R1 R2
      by_cases hlt : x < k
      · obtain ⟨ba, oa, rfl, hbla, hca⟩ := ((unhide HA).keep E1).nat (show x < n by omega)
        obtain ⟨bb, ob, rfl, hblb, hcb⟩ := ((unhide HB).keep E1).nat (show x < k by omega)
        have hca := ((unhide HD).ext.cell (p := ⟨ba, oa + x, none⟩) hbla).trans hca
        have hcb := ((unhide HD).ext.cell (p := ⟨bb, ob + x, none⟩) hblb).trans hcb
        have h8a := (unhide HBA) x
        have h8b := (unhide HBB) x
        have HT1 := hide (Wm.sumL_succ a b x)
        have HT2 := hide (Wm.byL_succ y a x)
        have hxr := u8_xor_nat (a.getD x 0) (b.getD x 0) h8a h8b
        have CM := hide (fun (wz : World) => Mul_any y (a.getD x 0) hy h8a wz)
        generalize a.getD x 0 = p at *
        generalize b.getD x 0 = q at *
        generalize p ^^^ q = pq at *
        generalize Wm.fmul y p = yp at *
        have hb1 : (x + 1) * 1 ≤ 140737488355328 ∧ x + 1 ≤ 9223372036854775807 := by omega
        have hna : ∀ k, (Value.slice A1 x cap1).ownBlock = some k → k ≠ ba := fun k hk => by have := ((unhide HD).a.lt k hk).1; omega
        have hnb : ∀ k, (Value.slice A1 x cap1).ownBlock = some k → k ≠ bb := fun k hk => by have := ((unhide HD).a.lt k hk).1; omega
        have hma : ∀ k, (Value.slice A2 x cap2).ownBlock = some k → k ≠ ba := fun k hk => by have := ((unhide HD).b.lt k hk).1; omega
        have hmb : ∀ k, (Value.slice A2 x cap2).ownBlock = some k → k ≠ bb := fun k hk => by have := ((unhide HD).b.lt k hk).1; omega
        have hl1 : ∀ k, (Value.slice A1 x cap1).ownBlock = some k → k < wr.heap.size := fun k hk => ((unhide HD).a.lt k hk).2
        have hlA : ba < wr.heap.size := Nat.lt_of_lt_of_le hbla (unhide HD).ext.size
        have hlB : bb < wr.heap.size := Nat.lt_of_lt_of_le hblb (unhide HD).ext.size
        have hi0 : (0 : Int) ≤ (x : Int) := by omega
        have hi1 : (x : Int) < (n : Int) := by omega
        have hi2 : (x : Int) < (k : Int) := by omega
        have hi3 : x < n := by omega
        have hi4 : x < k := by omega
        clear hbla hblb HR1 HR2 h8a h8b
        go_upto_region 8 with fail
        go_region_held3 (fun w' => w'.cell? ⟨ba, oa + x, none⟩ = some (.int .u8 (p : Int)) ∧ w'.cell? ⟨bb, ob + x, none⟩ = some (.int .u8 (q : Int))) (go_keep)
          (first
            | (with_reducible refine Calls.mono (unhide CM _) ?_
               rintro e wz ⟨rfl, rfl⟩)
            | (refine step_duoA (u := .int .u8 (pq : Int)) (W0 := w1) (e1 := 5) (v1 := .slice A1 x cap1) (n1 := x) (xs1 := nats .u8 (Wm.sumL a b x)) (e2 := 5) (v2 := .slice A2 x cap2) (n2 := x) (xs2 := nats .u8 (Wm.byL y a x)) rfl (.tmp 33) (.tmp 43) 22 rfl byteR ?d rfl rfl ?hc rfl hb1 ?_
               case d => repeat (first | exact unhide HD | refine Duo.alloc ?_ _ | refine Duo.drew ?_)
               case hc => simp
               intro v' w' D' hgA
               have kc1 := hgA.cell (a := ⟨ba, oa + x, none⟩) (v := .int .u8 (p : Int)) (by simp [*]) (fun e => by exact hna _ e.symm rfl)
               have kc2 := hgA.cell (a := ⟨bb, ob + x, none⟩) (v := .int .u8 (q : Int)) (by simp [*]) (fun e => by exact hnb _ e.symm rfl))
            | (refine step_duoB (u := .int .u8 (yp : Int)) (W0 := w1) (e1 := 5) (v1 := v') (n1 := x + 1) (xs1 := nats .u8 (Wm.sumL a b x) ++ [.int .u8 (pq : Int)]) (e2 := 5) (v2 := .slice A2 x cap2) (n2 := x) (xs2 := nats .u8 (Wm.byL y a x)) rfl (.tmp 45) (.tmp 52) 22 rfl byteR ?d rfl rfl ?hc rfl hb1 ?_
               case d => repeat (first | exact D' | refine Duo.alloc ?_ _ | refine Duo.drew ?_)
               case hc => first
                 | simp
                 | (refine hgA.cell (by simp) (fun e => absurd (hl1 _ e.symm) (by first | (simp; done) | (simp; omega))))
               intro v'' w'' D'' hgB
               have kc3 := hgB.cell (a := ⟨ba, oa + x, none⟩) (v := .int .u8 (p : Int)) (by simp [*]) (fun e => by exact hma _ e.symm rfl)
               have kc4 := hgB.cell (a := ⟨bb, ob + x, none⟩) (v := .int .u8 (q : Int)) (by simp [*]) (fun e => by exact hmb _ e.symm rfl)))
        all_goals
          go_wp2
          go_roundw
          case rel =>
            refine ⟨x + 1, by omega, num_eqR (by omega), ?_⟩
            rw [unhide HT1, unhide HT2, ← nats_append, ← nats_append]
            exact hide D''
          case measure => simp [intOf]; omega
      · obtain rfl : k = x := by omega
        have hKn : k ≤ n := by omega
        have hKk : k ≤ k := by omega
        have hKc : (k : Int) ≤ (c : Int) := by omega
        have hKd : (k : Int) ≤ (d : Int) := by omega
        have hK0 : (0 : Int) ≤ (k : Int) := by omega
        have RA : Row wr A k 1 (nats .u8 (a.take k)) := by
          have := ((unhide HA).keep (E1.trans (unhide HD).ext)).take hKn
          rwa [Nat.mul_one, nats_take] at this
        have RB : Row wr B k 1 (nats .u8 (b.take k)) := by
          have := ((unhide HB).keep (E1.trans (unhide HD).ext)).take hKk
          rwa [Nat.mul_one, nats_take] at this
        have hPS := hide (fun (m x : Nat) (hm : m ≤ 256) (hx : x < m) (h : k ≤ 256) => Wm.put_sum (unhide HBA) (unhide HBB) (by rw [unhide HLA]; exact hKn) (by rw [unhide HLB]; exact hKk) hm hx h)
        have hPB := hide (fun (m x : Nat) (hm : m ≤ 256) (hx : x < m) (h : k ≤ 256) => Wm.put_by hy (unhide HBA) (by rw [unhide HLA]; exact hKn) hm hx h)
        have h8s := Wm.sumL_lt (unhide HBA) (unhide HBB) k
        have h8b := Wm.byL_lt hy (unhide HBA) k
        have h8x := Wm.take_lt (unhide HBA) k
        have h8y := Wm.take_lt (unhide HBB) k
        have C1 := hide (fun (wz : World) (E : Ext wr wz) => Put_any A k c N _ wz (RA.keep E) h8x)
        have C2 := hide (fun (wz : World) (E : Ext wr wz) => Put_any B k d N _ wz (RB.keep E) h8y)
        have C3 := hide (fun (wz : World) (E : Ext wr wz) => Put_any A1 k cap1 N _ wz ((unhide HR1).keep E) h8s)
        have C4 := hide (fun (wz : World) (E : Ext wr wz) => Put_any A2 k cap2 N _ wz ((unhide HR2).keep E) h8b)
        have HL8x := hide (fun (m : Nat) (hm : m ≤ 256) (h : k ≤ m) => Wm.putL_lt h8x (n := m) (by rw [List.length_take]; omega) hm)
        have HL8y := hide (fun (m : Nat) (hm : m ≤ 256) (h : k ≤ m) => Wm.putL_lt h8y (n := m) (by rw [List.length_take]; omega) hm)
        have HE0 := hide (E1.trans (unhide HD).ext)
        generalize a.take k = ta at *
        generalize b.take k = tb at *
        generalize Wm.sumL a b k = ts at *
        generalize Wm.byL y a k = ty at *
        clear RA RB HR1 HR2 HD h8s h8b h8x h8y HLA HLB HBA HBB HA HB E1
        go_wp2_with fail
        refine (unhide C1 _ (Ext.refl _)).mono ?_
        rintro e w3 ⟨ho, F3⟩
        obtain ⟨v1, q1, rfl, hq1, -, ho1⟩ := ho.halves
        have HO1 := hide ho1
        have HQ := hide hq1
        clear ho ho1 hq1
        go_wp2_with fail
        refine (unhide C2 _ F3).mono ?_
        rintro e w4 ⟨ho, G4⟩
        obtain ⟨v2, q2, rfl, hq2, -, ho2⟩ := ho.halves
        obtain rfl : q2 = q1 := hq2.trans (unhide HQ).symm
        have HO2 := hide ho2
        have F4 := F3.trans G4
        clear ho ho2 hq2
        go_wp2_with fail
        refine (unhide C3 _ F4).mono ?_
        rintro e w5 ⟨ho, G5⟩
        obtain ⟨v3, q3, rfl, hq3, -, ho3⟩ := ho.halves
        obtain rfl : q3 = q2 := hq3.trans (unhide HQ).symm
        have HO3 := hide ho3
        have F5 := F4.trans G5
        clear ho ho3 hq3
        go_wp2_with fail
        refine (unhide C4 _ F5).mono ?_
        rintro e w6 ⟨ho, G6⟩
        obtain ⟨v4, q4, rfl, hq4, -, ho4⟩ := ho.halves
        obtain rfl : q4 = q3 := hq4.trans (unhide HQ).symm
        have HO4 := hide ho4
        have HG5 := hide (G5.trans G6)
        have HG4 := hide (G4.trans (G5.trans G6))
        have HG6 := hide G6
        have HE6 := hide ((unhide HE0).trans (F5.trans G6))
        clear ho ho4 hq4 HQ F3 F4 F5 G4 G5 G6 HE0 C1 C2 C3 C4
        by_cases hq : q4 = 0
        · subst hq
          obtain ⟨m, rfl, hk1, hkm, hm, M1⟩ := unhide HO1 rfl
          obtain ⟨m2, hm2, -, -, -, M2⟩ := unhide HO2 rfl
          obtain rfl : m = m2 := by omega
          obtain ⟨m3, hm3, -, -, -, M3⟩ := unhide HO3 rfl
          obtain rfl : m = m3 := by omega
          obtain ⟨m4, hm4, -, -, -, M4⟩ := unhide HO4 rfl
          obtain rfl : m = m4 := by omega
          obtain ⟨X1, c1, rfl, R1, -, -, -⟩ := M1.open_
          obtain ⟨X2, c2, rfl, R2, -, -, -⟩ := M2.open_
          obtain ⟨X3, c3, rfl, R3, -, -, -⟩ := M3.open_
          obtain ⟨X4, c4, rfl, R4, -, -, -⟩ := M4.open_
          have HR1 := hide (R1.keep (unhide HG4))
          have HR2 := hide (R2.keep (unhide HG5))
          have HR3 := hide (R3.keep (unhide HG6))
          have HR4 := hide R4
          have h8x := unhide HL8x m (by omega) hkm
          have h8y := unhide HL8y m (by omega) hkm
          have HXX := hide h8x
          have HYY := hide h8y
          have hnn : ((m : Int) == (m : Int)) = true := by simp
          clear M1 M2 M3 M4 R1 R2 R3 R4 HO1 HO2 HO3 HO4 HG4 HG5 HG6 h8x h8y HL8x HL8y hm2 hm3 hm4
          go_wp2
          go_loopw [21, 100] (fun u i wz => ∃ t : Nat, t ≤ m ∧ i = .int .i64 t ∧ Ext w6 wz) (fun _ i _ => m - (intOf i).toNat)
          case atStart => exact ⟨0, Nat.zero_le _, rfl, Ext.refl w6⟩
          case round =>
            obtain ⟨t, ht, rfl, hext⟩ := hrel
            by_cases hlt : t < m
            · obtain ⟨b1, o1, rfl, hbl1, hc1⟩ := ((unhide HR1).keep hext).nat hlt
              obtain ⟨b2, o2, rfl, hbl2, hc2⟩ := ((unhide HR2).keep hext).nat hlt
              obtain ⟨b3, o3, rfl, hbl3, hc3⟩ := ((unhide HR3).keep hext).nat hlt
              obtain ⟨b4, o4, rfl, hbl4, hc4⟩ := ((unhide HR4).keep hext).nat hlt
              have HX := hide hext
              have h8x := unhide HXX t
              have h8y := unhide HYY t
              have hxr := u8_xor_nat _ _ h8x h8y
              rw [unhide hPS m t (by omega) hlt (by omega)] at hc3
              rw [unhide hPB m t (by omega) hlt (by omega)] at hc4
              have CM := hide (fun (wz : World) => Mul_any y _ hy h8x wz)
              generalize (Wm.putL ta m).getD t 0 = p at *
              generalize (Wm.putL tb m).getD t 0 = q at *
              generalize p ^^^ q = pq at *
              generalize Wm.fmul y p = yp at *
              have hi0 : (0 : Int) ≤ (t : Int) := by omega
              have hi1 : (t : Int) < (m : Int) := by omega
              have hi2 : ¬ (m : Int) ≤ (t : Int) := by omega
              have hi3 : decide ((m : Int) ≤ (t : Int)) = false := decide_eq_false hi2
              have hi4 : decide (m ≤ t) = false := decide_eq_false (by omega)
              clear hext h8x h8y
              go_upto_region 19 with fail
              go_quiet ((go_at_call 15; with_reducible exact Calls.quiet_of (drew_of_same (unhide CM _))))
              go_wp2
              go_roundw
              case rel =>
                have HX2 := unhide HX
                exact ⟨t + 1, by omega, num_eqR (by omega), (by repeat (first | exact HX2 | refine Ext.alloc ?_ _ | refine Ext.drew ?_ | refine Ext.drewN ?_ _ | (refine Ext.trans ?_ (plus_ext _ _)) | (refine Ext.setCell ?_ (by have := Ext.size HX2; simp; omega) _)))⟩
              case measure => simp [intOf]; omega
            · obtain rfl : t = m := by omega
              have HES := hide ((unhide HE6).trans hext)
              clear hPS hPB
              go_wp2_with (go_at_call 16; refine (good_made' [0, 0, 0] _ _ _ _ _ rfl rfl (by decide) (by simp)).mono ?_; rintro e wg ⟨rfl, rfl⟩)
              go_ret
              have HX2 := unhide HES
              exact ⟨rfl, (by repeat (first | exact HX2 | refine Ext.alloc ?_ _ | refine Ext.drew ?_ | refine Ext.drewN ?_ _ | (refine Ext.trans ?_ (plus_ext _ _)) | (refine Ext.setCell ?_ (by have := Ext.size HX2; simp; omega) _)))⟩
        · have hne : (q4 != 0) = true := by rw [bne_iff_ne]; exact hq
          clear HO1 HO2 HO3 HO4 hPS hPB
          go_wp2
          go_ret
          exact ⟨rfl, unhide HE6⟩

  · have hm1 : (n : Int) ≤ (k : Int) := by omega
    have hm2 : ¬ (k : Int) < (n : Int) := by omega
    go_enter Try.func4, Try.ntmps4
    go_wp2_with fail
    refine (rows_any w).mono ?_
    rintro e w1 ⟨rfl, E1⟩
    go_wp2
    go_loopw [10, 11, 12, 30] (fun v1 v2 u i wr => ∃ x : Nat, x ≤ n ∧ i = .int .i64 x ∧ Hid (Duo w1 wr 5 v1 x (nats .u8 (Wm.sumL a b x)) 5 v2 x (nats .u8 (Wm.byL y a x)))) (fun _ _ _ i _ => n - (intOf i).toNat)
    case atStart => exact ⟨0, Nat.zero_le _, rfl, hide (by simpa [Wm.sumL, Wm.byL, nats] using Duo.nil (Ext.refl w1))⟩
    case round =>
      obtain ⟨x, hx, rfl, HD⟩ := hrel
      obtain ⟨A1, cap1, rfl, R1, -, -, -⟩ := row_of_own (unhide HD).a
      obtain ⟨A2, cap2, rfl, R2, -, -, -⟩ := row_of_own (unhide HD).b
      have HR1 := hide R1
      have HR2 := hide R2
      clear R1 R2
      by_cases hlt : x < n
      · obtain ⟨ba, oa, rfl, hbla, hca⟩ := ((unhide HA).keep E1).nat (show x < n by omega)
        obtain ⟨bb, ob, rfl, hblb, hcb⟩ := ((unhide HB).keep E1).nat (show x < k by omega)
        have hca := ((unhide HD).ext.cell (p := ⟨ba, oa + x, none⟩) hbla).trans hca
        have hcb := ((unhide HD).ext.cell (p := ⟨bb, ob + x, none⟩) hblb).trans hcb
        have h8a := (unhide HBA) x
        have h8b := (unhide HBB) x
        have HT1 := hide (Wm.sumL_succ a b x)
        have HT2 := hide (Wm.byL_succ y a x)
        have hxr := u8_xor_nat (a.getD x 0) (b.getD x 0) h8a h8b
        have CM := hide (fun (wz : World) => Mul_any y (a.getD x 0) hy h8a wz)
        generalize a.getD x 0 = p at *
        generalize b.getD x 0 = q at *
        generalize p ^^^ q = pq at *
        generalize Wm.fmul y p = yp at *
        have hb1 : (x + 1) * 1 ≤ 140737488355328 ∧ x + 1 ≤ 9223372036854775807 := by omega
        have hna : ∀ k, (Value.slice A1 x cap1).ownBlock = some k → k ≠ ba := fun k hk => by have := ((unhide HD).a.lt k hk).1; omega
        have hnb : ∀ k, (Value.slice A1 x cap1).ownBlock = some k → k ≠ bb := fun k hk => by have := ((unhide HD).a.lt k hk).1; omega
        have hma : ∀ k, (Value.slice A2 x cap2).ownBlock = some k → k ≠ ba := fun k hk => by have := ((unhide HD).b.lt k hk).1; omega
        have hmb : ∀ k, (Value.slice A2 x cap2).ownBlock = some k → k ≠ bb := fun k hk => by have := ((unhide HD).b.lt k hk).1; omega
        have hl1 : ∀ k, (Value.slice A1 x cap1).ownBlock = some k → k < wr.heap.size := fun k hk => ((unhide HD).a.lt k hk).2
        have hlA : ba < wr.heap.size := Nat.lt_of_lt_of_le hbla (unhide HD).ext.size
        have hlB : bb < wr.heap.size := Nat.lt_of_lt_of_le hblb (unhide HD).ext.size
        have hi0 : (0 : Int) ≤ (x : Int) := by omega
        have hi1 : (x : Int) < (n : Int) := by omega
        have hi2 : (x : Int) < (k : Int) := by omega
        have hi3 : x < n := by omega
        have hi4 : x < k := by omega
        clear hbla hblb HR1 HR2 h8a h8b
        go_upto_region 8 with fail
        go_region_held3 (fun w' => w'.cell? ⟨ba, oa + x, none⟩ = some (.int .u8 (p : Int)) ∧ w'.cell? ⟨bb, ob + x, none⟩ = some (.int .u8 (q : Int))) (go_keep)
          (first
            | (with_reducible refine Calls.mono (unhide CM _) ?_
               rintro e wz ⟨rfl, rfl⟩)
            | (refine step_duoA (u := .int .u8 (pq : Int)) (W0 := w1) (e1 := 5) (v1 := .slice A1 x cap1) (n1 := x) (xs1 := nats .u8 (Wm.sumL a b x)) (e2 := 5) (v2 := .slice A2 x cap2) (n2 := x) (xs2 := nats .u8 (Wm.byL y a x)) rfl (.tmp 33) (.tmp 43) 22 rfl byteR ?d rfl rfl ?hc rfl hb1 ?_
               case d => repeat (first | exact unhide HD | refine Duo.alloc ?_ _ | refine Duo.drew ?_)
               case hc => simp
               intro v' w' D' hgA
               have kc1 := hgA.cell (a := ⟨ba, oa + x, none⟩) (v := .int .u8 (p : Int)) (by simp [*]) (fun e => by exact hna _ e.symm rfl)
               have kc2 := hgA.cell (a := ⟨bb, ob + x, none⟩) (v := .int .u8 (q : Int)) (by simp [*]) (fun e => by exact hnb _ e.symm rfl))
            | (refine step_duoB (u := .int .u8 (yp : Int)) (W0 := w1) (e1 := 5) (v1 := v') (n1 := x + 1) (xs1 := nats .u8 (Wm.sumL a b x) ++ [.int .u8 (pq : Int)]) (e2 := 5) (v2 := .slice A2 x cap2) (n2 := x) (xs2 := nats .u8 (Wm.byL y a x)) rfl (.tmp 45) (.tmp 52) 22 rfl byteR ?d rfl rfl ?hc rfl hb1 ?_
               case d => repeat (first | exact D' | refine Duo.alloc ?_ _ | refine Duo.drew ?_)
               case hc => first
                 | simp
                 | (refine hgA.cell (by simp) (fun e => absurd (hl1 _ e.symm) (by first | (simp; done) | (simp; omega))))
               intro v'' w'' D'' hgB
               have kc3 := hgB.cell (a := ⟨ba, oa + x, none⟩) (v := .int .u8 (p : Int)) (by simp [*]) (fun e => by exact hma _ e.symm rfl)
               have kc4 := hgB.cell (a := ⟨bb, ob + x, none⟩) (v := .int .u8 (q : Int)) (by simp [*]) (fun e => by exact hmb _ e.symm rfl)))
        all_goals
          go_wp2
          go_roundw
          case rel =>
            refine ⟨x + 1, by omega, num_eqR (by omega), ?_⟩
            rw [unhide HT1, unhide HT2, ← nats_append, ← nats_append]
            exact hide D''
          case measure => simp [intOf]; omega
      · obtain rfl : n = x := by omega
        have hKn : n ≤ n := by omega
        have hKk : n ≤ k := by omega
        have hKc : (n : Int) ≤ (c : Int) := by omega
        have hKd : (n : Int) ≤ (d : Int) := by omega
        have hK0 : (0 : Int) ≤ (n : Int) := by omega
        have RA : Row wr A n 1 (nats .u8 (a.take n)) := by
          have := ((unhide HA).keep (E1.trans (unhide HD).ext)).take hKn
          rwa [Nat.mul_one, nats_take] at this
        have RB : Row wr B n 1 (nats .u8 (b.take n)) := by
          have := ((unhide HB).keep (E1.trans (unhide HD).ext)).take hKk
          rwa [Nat.mul_one, nats_take] at this
        have hPS := hide (fun (m x : Nat) (hm : m ≤ 256) (hx : x < m) (h : n ≤ 256) => Wm.put_sum (unhide HBA) (unhide HBB) (by rw [unhide HLA]; exact hKn) (by rw [unhide HLB]; exact hKk) hm hx h)
        have hPB := hide (fun (m x : Nat) (hm : m ≤ 256) (hx : x < m) (h : n ≤ 256) => Wm.put_by hy (unhide HBA) (by rw [unhide HLA]; exact hKn) hm hx h)
        have h8s := Wm.sumL_lt (unhide HBA) (unhide HBB) n
        have h8b := Wm.byL_lt hy (unhide HBA) n
        have h8x := Wm.take_lt (unhide HBA) n
        have h8y := Wm.take_lt (unhide HBB) n
        have C1 := hide (fun (wz : World) (E : Ext wr wz) => Put_any A n c N _ wz (RA.keep E) h8x)
        have C2 := hide (fun (wz : World) (E : Ext wr wz) => Put_any B n d N _ wz (RB.keep E) h8y)
        have C3 := hide (fun (wz : World) (E : Ext wr wz) => Put_any A1 n cap1 N _ wz ((unhide HR1).keep E) h8s)
        have C4 := hide (fun (wz : World) (E : Ext wr wz) => Put_any A2 n cap2 N _ wz ((unhide HR2).keep E) h8b)
        have HL8x := hide (fun (m : Nat) (hm : m ≤ 256) (h : n ≤ m) => Wm.putL_lt h8x (n := m) (by rw [List.length_take]; omega) hm)
        have HL8y := hide (fun (m : Nat) (hm : m ≤ 256) (h : n ≤ m) => Wm.putL_lt h8y (n := m) (by rw [List.length_take]; omega) hm)
        have HE0 := hide (E1.trans (unhide HD).ext)
        generalize a.take n = ta at *
        generalize b.take n = tb at *
        generalize Wm.sumL a b n = ts at *
        generalize Wm.byL y a n = ty at *
        clear RA RB HR1 HR2 HD h8s h8b h8x h8y HLA HLB HBA HBB HA HB E1
        go_wp2_with fail
        refine (unhide C1 _ (Ext.refl _)).mono ?_
        rintro e w3 ⟨ho, F3⟩
        obtain ⟨v1, q1, rfl, hq1, -, ho1⟩ := ho.halves
        have HO1 := hide ho1
        have HQ := hide hq1
        clear ho ho1 hq1
        go_wp2_with fail
        refine (unhide C2 _ F3).mono ?_
        rintro e w4 ⟨ho, G4⟩
        obtain ⟨v2, q2, rfl, hq2, -, ho2⟩ := ho.halves
        obtain rfl : q2 = q1 := hq2.trans (unhide HQ).symm
        have HO2 := hide ho2
        have F4 := F3.trans G4
        clear ho ho2 hq2
        go_wp2_with fail
        refine (unhide C3 _ F4).mono ?_
        rintro e w5 ⟨ho, G5⟩
        obtain ⟨v3, q3, rfl, hq3, -, ho3⟩ := ho.halves
        obtain rfl : q3 = q2 := hq3.trans (unhide HQ).symm
        have HO3 := hide ho3
        have F5 := F4.trans G5
        clear ho ho3 hq3
        go_wp2_with fail
        refine (unhide C4 _ F5).mono ?_
        rintro e w6 ⟨ho, G6⟩
        obtain ⟨v4, q4, rfl, hq4, -, ho4⟩ := ho.halves
        obtain rfl : q4 = q3 := hq4.trans (unhide HQ).symm
        have HO4 := hide ho4
        have HG5 := hide (G5.trans G6)
        have HG4 := hide (G4.trans (G5.trans G6))
        have HG6 := hide G6
        have HE6 := hide ((unhide HE0).trans (F5.trans G6))
        clear ho ho4 hq4 HQ F3 F4 F5 G4 G5 G6 HE0 C1 C2 C3 C4
        by_cases hq : q4 = 0
        · subst hq
          obtain ⟨m, rfl, hk1, hkm, hm, M1⟩ := unhide HO1 rfl
          obtain ⟨m2, hm2, -, -, -, M2⟩ := unhide HO2 rfl
          obtain rfl : m = m2 := by omega
          obtain ⟨m3, hm3, -, -, -, M3⟩ := unhide HO3 rfl
          obtain rfl : m = m3 := by omega
          obtain ⟨m4, hm4, -, -, -, M4⟩ := unhide HO4 rfl
          obtain rfl : m = m4 := by omega
          obtain ⟨X1, c1, rfl, R1, -, -, -⟩ := M1.open_
          obtain ⟨X2, c2, rfl, R2, -, -, -⟩ := M2.open_
          obtain ⟨X3, c3, rfl, R3, -, -, -⟩ := M3.open_
          obtain ⟨X4, c4, rfl, R4, -, -, -⟩ := M4.open_
          have HR1 := hide (R1.keep (unhide HG4))
          have HR2 := hide (R2.keep (unhide HG5))
          have HR3 := hide (R3.keep (unhide HG6))
          have HR4 := hide R4
          have h8x := unhide HL8x m (by omega) hkm
          have h8y := unhide HL8y m (by omega) hkm
          have HXX := hide h8x
          have HYY := hide h8y
          have hnn : ((m : Int) == (m : Int)) = true := by simp
          clear M1 M2 M3 M4 R1 R2 R3 R4 HO1 HO2 HO3 HO4 HG4 HG5 HG6 h8x h8y HL8x HL8y hm2 hm3 hm4
          go_wp2
          go_loopw [21, 100] (fun u i wz => ∃ t : Nat, t ≤ m ∧ i = .int .i64 t ∧ Ext w6 wz) (fun _ i _ => m - (intOf i).toNat)
          case atStart => exact ⟨0, Nat.zero_le _, rfl, Ext.refl w6⟩
          case round =>
            obtain ⟨t, ht, rfl, hext⟩ := hrel
            by_cases hlt : t < m
            · obtain ⟨b1, o1, rfl, hbl1, hc1⟩ := ((unhide HR1).keep hext).nat hlt
              obtain ⟨b2, o2, rfl, hbl2, hc2⟩ := ((unhide HR2).keep hext).nat hlt
              obtain ⟨b3, o3, rfl, hbl3, hc3⟩ := ((unhide HR3).keep hext).nat hlt
              obtain ⟨b4, o4, rfl, hbl4, hc4⟩ := ((unhide HR4).keep hext).nat hlt
              have HX := hide hext
              have h8x := unhide HXX t
              have h8y := unhide HYY t
              have hxr := u8_xor_nat _ _ h8x h8y
              rw [unhide hPS m t (by omega) hlt (by omega)] at hc3
              rw [unhide hPB m t (by omega) hlt (by omega)] at hc4
              have CM := hide (fun (wz : World) => Mul_any y _ hy h8x wz)
              generalize (Wm.putL ta m).getD t 0 = p at *
              generalize (Wm.putL tb m).getD t 0 = q at *
              generalize p ^^^ q = pq at *
              generalize Wm.fmul y p = yp at *
              have hi0 : (0 : Int) ≤ (t : Int) := by omega
              have hi1 : (t : Int) < (m : Int) := by omega
              have hi2 : ¬ (m : Int) ≤ (t : Int) := by omega
              have hi3 : decide ((m : Int) ≤ (t : Int)) = false := decide_eq_false hi2
              have hi4 : decide (m ≤ t) = false := decide_eq_false (by omega)
              clear hext h8x h8y
              go_upto_region 19 with fail
              go_quiet ((go_at_call 15; with_reducible exact Calls.quiet_of (drew_of_same (unhide CM _))))
              go_wp2
              go_roundw
              case rel =>
                have HX2 := unhide HX
                exact ⟨t + 1, by omega, num_eqR (by omega), (by repeat (first | exact HX2 | refine Ext.alloc ?_ _ | refine Ext.drew ?_ | refine Ext.drewN ?_ _ | (refine Ext.trans ?_ (plus_ext _ _)) | (refine Ext.setCell ?_ (by have := Ext.size HX2; simp; omega) _)))⟩
              case measure => simp [intOf]; omega
            · obtain rfl : t = m := by omega
              have HES := hide ((unhide HE6).trans hext)
              clear hPS hPB
              go_wp2_with (go_at_call 16; refine (good_made' [0, 0, 0] _ _ _ _ _ rfl rfl (by decide) (by simp)).mono ?_; rintro e wg ⟨rfl, rfl⟩)
              go_ret
              have HX2 := unhide HES
              exact ⟨rfl, (by repeat (first | exact HX2 | refine Ext.alloc ?_ _ | refine Ext.drew ?_ | refine Ext.drewN ?_ _ | (refine Ext.trans ?_ (plus_ext _ _)) | (refine Ext.setCell ?_ (by have := Ext.size HX2; simp; omega) _)))⟩
        · have hne : (q4 != 0) = true := by rw [bne_iff_ne]; exact hq
          clear HO1 HO2 HO3 HO4 hPS hPB
          go_wp2
          go_ret
          exact ⟨rfl, unhide HE6⟩

end Go.Proofs.Ytkkohaojbijklaa
