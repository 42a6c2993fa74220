import Derived.Test.YtfhalkijbenhdaaSto17
import Derived.Test.YtfhalkijbenhdaaArith1
/-
  Deeds one after the other (plain); the laws' own example.
-/
set_option linter.unusedVariables false
set_option linter.unusedSimpArgs false
namespace Go.Proofs.Ytfhalkijbenhdaa
open Go.RowKit Go.BigFrame

namespace Sto
theorem Ok.fine {σ : Sto} {H : Nat → Nat × ByteArray} (O : Ok σ H) : Fine σ where
  k1 := O.k1
  kn := O.kn
  n10 := O.n10
  few := O.few
  len i k hi hk := Nat.le_trans (O.len hi hk) O.few
  sz i k e hi hk he := O.size hi hk he
def ddo (σ : Sto) (d : Dd) : Ans × Sto := σ.doS d.kind d.key d.n d.s
def run (σ : Sto) (l : List Dd) : Sto := l.foldl (fun σ d => (σ.ddo d).2) σ
theorem run_nil (σ : Sto) : σ.run [] = σ := rfl
theorem run_snoc (σ : Sto) (l : List Dd) (d : Dd) : σ.run (l ++ [d]) = ((σ.run l).ddo d).2 := by simp [run]
theorem run_take (σ : Sto) (l : List Dd) {x : Nat} (h : x < l.length) : σ.run (l.take (x + 1)) = ((σ.run (l.take x)).ddo (dg l x)).2 := by
  rw [take_snoc l Dd.no h, run_snoc]; rfl
theorem doS_N (σ : Sto) (kind key n : Int) (s : ByteArray) : (σ.doS kind key n s).2.N = σ.N := by
  refine doS_cases σ kind key n s (P := fun r => r.2.N = σ.N) (fun _ => rfl) (fun _ _ => putS_N _ _ _) (fun _ _ => tornS_N _ _ _ _) (fun _ _ => ?_) (fun _ _ => ?_) (fun _ => atS_N _ _ _ _)
  · rw [getS_read]; exact readTo_N _ _
  · rw [scrubS_read]; exact readTo_N _ _
theorem Ok.runs {σ : Sto} {H : Nat → Nat × ByteArray} (O : Ok σ H) (l : List Dd) : ∃ H', Ok (σ.run l) H' := by
  refine rev_induct (P := fun l => ∃ H', Ok (σ.run l) H') ⟨H, O⟩ (fun l d ⟨H', h⟩ => ?_) l
  rw [run_snoc]
  exact ⟨_, h.do_ d.kind d.key d.n d.s⟩
theorem run_N (σ : Sto) (l : List Dd) : (σ.run l).N = σ.N := by
  refine rev_induct (P := fun l => (σ.run l).N = σ.N) rfl (fun l d h => ?_) l
  rw [run_snoc]
  exact (doS_N _ _ _ _ _).trans h
end Sto
/-- The numbers of a quorum that is right. -/
theorem qErr_nat {n k x y : Int} (h : qErr n k x y = 0) : ∃ N K W R : Nat, n = N ∧ k = K ∧ x = W ∧ y = R ∧ qErr N K W R = 0 ∧ (1 ≤ K ∧ K ≤ N) ∧ N ≤ 10 ∧ (1 ≤ W ∧ W ≤ N) ∧ (1 ≤ R ∧ R ≤ N) ∧ N + K ≤ W + R := by
  have h0 := h
  unfold qErr at h
  by_cases c : (1 ≤ n ∧ n ≤ 10) ∧ (1 ≤ k ∧ k ≤ n) ∧ (1 ≤ x ∧ x ≤ n) ∧ (1 ≤ y ∧ y ≤ n)
  · rw [if_pos c] at h
    obtain ⟨N, rfl⟩ : ∃ N : Nat, n = N := ⟨n.toNat, by omega⟩
    obtain ⟨K, rfl⟩ : ∃ K : Nat, k = K := ⟨k.toNat, by omega⟩
    obtain ⟨W, rfl⟩ : ∃ W : Nat, x = W := ⟨x.toNat, by omega⟩
    obtain ⟨R, rfl⟩ : ∃ R : Nat, y = R := ⟨y.toNat, by omega⟩
    by_cases d : (W : Int) + R < N + K
    · rw [if_pos d] at h; exact absurd h (by decide)
    · exact ⟨N, K, W, R, rfl, rfl, rfl, rfl, h0, by omega, by omega, by omega, by omega, by omega⟩
  · rw [if_neg c] at h; exact absurd h (by decide)
theorem okNew {N K W R : Nat} (h1 : 1 ≤ K ∧ K ≤ N) (h2 : N ≤ 10) (h3 : 1 ≤ W ∧ W ≤ N) (h4 : 1 ≤ R ∧ R ≤ N) (h5 : N + K ≤ W + R) : Sto.Ok (Sto.new N K W R) (fun _ => (0, ByteArray.empty)) := Sto.Ok.start h1 h2 h3 h4 h5 _

/-! ### The example -/
def abc : ByteArray := ⟨#[97, 98, 99]⟩
def kσ : Sto := Sto.new 4 2 3 3
def kσ1 : Sto := (kσ.doS 1 1 0 abc).2
def kσ2 : Sto := (kσ1.doS 4 0 0 ⟨#[]⟩).2
theorem kept_plain : (kσ.doS 1 1 0 abc).1 = ⟨⟨#[]⟩, 1, 0, 0⟩ ∧ (kσ1.doS 4 0 0 ⟨#[]⟩).1 = ⟨⟨#[]⟩, 0, 0, 0⟩ ∧ (kσ2.doS 3 1 0 ⟨#[]⟩).1 = ⟨abc, 1, 0, 0⟩ ∧ Fine kσ ∧ Fine kσ1 ∧ Fine kσ2 := by
  have O0 : Sto.Ok kσ (fun _ => (0, ByteArray.empty)) := okNew (by omega) (by omega) (by omega) (by omega) (by omega)
  have hk : Sto.isKey 1 := by unfold Sto.isKey; omega
  have hs : kσ.splitE abc = 0 := by decide +kernel
  have ha : kσ.doS 1 1 0 abc = (⟨ByteArray.empty, 1, 0, 0⟩, { kσ with wr := 1, kept := kσ.putK 1 abc kσ.ups }) := by
    rw [doS_ok (by rintro (h | h | h); · omega
                   · omega
                   · exact h.2 hk), if_pos rfl]
    unfold Sto.putS
    rw [show (1 : Int).toNat = 1 from rfl, hs, if_neg (by decide)]
    rfl
  have O1 := O0.do_ 1 1 0 abc
  have S1 := (Sto.stands_told O0 1 1 0 abc (.inl rfl) (by rw [ha])).2
  have hw1 : kσ1.wr = 1 := by unfold kσ1; rw [ha]
  have hN1 : kσ1.N = 4 := by unfold kσ1; rw [ha]; rfl
  have hd1 : kσ1.down = fun _ => false := by unfold kσ1; rw [ha]; rfl
  have hH1 : Sto.hist kσ (fun _ => (0, ByteArray.empty)) 1 1 0 abc 1 = (1, abc) := by
    unfold Sto.hist
    rw [ha, if_neg (by show ¬ (1 : Nat) = 0; omega)]
    exact Sto.ext_same _ _ _ _
  have hb : kσ1.doS 4 0 0 ⟨#[]⟩ = (Ans.no 0, { kσ1 with down := fun i => if i = (0 : Int).toNat then true else kσ1.down i }) := by
    rw [doS_ok (by rintro (h | h | h)
                   · omega
                   · omega
                   · have := h.1; unfold Sto.keyed at this; omega), if_neg (by decide), if_neg (by decide), if_neg (by decide), if_neg (by decide)]
    unfold Sto.atS
    rw [if_neg (by unfold Sto.isNode; rw [hN1]; omega), if_pos rfl]
  have O2 := O1.do_ 4 0 0 ⟨#[]⟩
  obtain ⟨T', hT, S2, -⟩ := S1.step O1 (by show 1 < 3; omega) 4 0 0 ⟨#[]⟩ (by decide) (by decide)
  have hw2 : kσ2.wr = 1 := by unfold kσ2; rw [hb]; exact hw1
  have hu : kσ2.ups.length = 3 := by
    have h1 : kσ2.N = 4 := by unfold kσ2; rw [hb]; exact hN1
    have h2 : kσ2.down = fun i => if i = 0 then true else false := by unfold kσ2; rw [hb]; show (fun i => if i = (0 : Int).toNat then true else kσ1.down i) = _; rw [hd1]; rfl
    unfold Sto.ups
    rw [h1, h2]
    decide
  have hR2 : kσ2.R = 3 := by unfold kσ2; rw [hb]; show kσ1.R = 3; unfold kσ1; rw [ha]; rfl
  have hW2 : kσ2.W = 3 := by unfold kσ2; rw [hb]; show kσ1.W = 3; unfold kσ1; rw [ha]; rfl
  have hH2 : Sto.hist kσ1 (Sto.hist kσ (fun _ => (0, ByteArray.empty)) 1 1 0 abc) 4 0 0 ⟨#[]⟩ 1 = (1, abc) := by
    rw [Sto.hist_old _ _ _ _ (by rw [hw1]; exact Nat.le_refl _)]; exact hH1
  have hre : kσ2.readE 1 = 0 := by
    rcases Sto.Stands.read S2 O2 (by show 1 < 3; omega) with h | h
    · exfalso
      have h : kσ2.readE 1 = 9 := h
      unfold Sto.readE at h
      rw [if_neg (by rw [hu, hR2, hW2]; omega)] at h
      by_cases c : (kσ2.newest 1).isNone = true
      · rw [if_pos c] at h; exact absurd h (by decide)
      · rw [if_neg c] at h; exact absurd h (by decide)
    · exact h.1
  have hc : (kσ2.doS 3 1 0 ⟨#[]⟩).1 = ⟨kσ2.readText 1, kσ2.readAt 1, 0, 0⟩ := by
    rw [doS_ok (by rintro (h | h | h); · omega
                   · omega
                   · exact h.2 hk), if_neg (by decide), if_neg (by decide), if_pos rfl]
    unfold Sto.getS
    rw [show (1 : Int).toNat = 1 from rfl, hre, if_neg (by decide)]
  obtain ⟨t, h1, h2, h3, h4, h5, -⟩ := Sto.Ok.readText_small O2 (show 1 < 3 by omega) hre
  have h5 : t ≤ kσ2.wr := h5
  rw [hw2] at h5
  obtain rfl : t = 1 := by omega
  refine ⟨by rw [ha]; rfl, by rw [hb]; rfl, ?_, O0.fine, O1.fine, O2.fine⟩
  rw [hc]
  have h2 : kσ2.readAt 1 = 1 := h2
  have h3 : kσ2.readText 1 = abc := h3.trans (congrArg Prod.snd hH2)
  rw [h2, h3]
end Go.Proofs.Ytfhalkijbenhdaa

/-
  The walks of wholekeep.kept and wholekeep.worked.
-/
set_option linter.unusedVariables false
set_option linter.unusedSimpArgs false
namespace Go.Proofs.Ytfhalkijbenhdaa
open Go.RowKit Go.BigFrame

set_option maxRecDepth 100000 in
set_option maxHeartbeats 4000000 in
theorem kept_ok (w : World) : Calls Try.prog 11 #[] w fun e w' => e = .returned (.bool true) ∧ Ext w w' := by
  obtain ⟨k1, k2, k3, f1, f2, f3⟩ := kept_plain
  have CN := hide (New_ok 4 2 3 3 w (by decide))
  have CD1 := hide (fun (b0 p g : Nat) (W : World) (v : Nat → Nat → Value) (S : St b0 W p g v kσ) => do_ok S f1 1 1 0 abc (by decide))
  have CD2 := hide (fun (b0 p g : Nat) (W : World) (v : Nat → Nat → Value) (S : St b0 W p g v kσ1) => do_ok S f2 4 0 0 ⟨#[]⟩ (by decide))
  have CD3 := hide (fun (b0 p g : Nat) (W : World) (v : Nat → Nat → Value) (S : St b0 W p g v kσ2) => do_ok S f3 3 1 0 ⟨#[]⟩ (by decide))
  have K1 := hide k1
  have K2 := hide k2
  have K3 := hide k3
  clear k1 k2 k3 f1 f2 f3
  go_enter Try.func11, Try.ntmps11
  go_wp2_with fail
  refine (unhide CN).mono ?_
  rintro e w1 ⟨⟨p, g, v, rfl, S1⟩, E1⟩
  have HS1 := hide S1
  have HE1 := hide E1
  clear S1 E1
  go_wp2_with fail
  refine (unhide CD1 _ _ _ _ _ (unhide HS1)).mono ?_
  rintro e w2 ⟨rfl, v2, S2, O2, F2⟩
  rw [unhide K1, show tellV ⟨⟨#[]⟩, 1, 0, 0⟩ = .tuple #[.agg #[.string ⟨#[]⟩, .int .i64 1, .int .i64 0, .int .i64 0], .int .i64 0] from rfl]
  have HE2 := hide (O2.ext (unhide HE1) fun x hx => (unhide HS1).foot_lo hx)
  obtain ⟨wa, hwa⟩ : ∃ wa, wa = w2.alloc (.cells #[.string ⟨#[]⟩, .int .i64 1, .int .i64 0, .int .i64 0] 33) := ⟨_, rfl⟩
  have HWA := hide hwa
  have Ea : Ext w2 wa := by rw [hwa]; exact (Ext.refl w2).alloc _
  have a1 : wa.cell? ⟨w2.heap.size, 1, none⟩ = some (.int .i64 1) := by rw [hwa, new_cell]; rfl
  have a2 : wa.cell? ⟨w2.heap.size, 2, none⟩ = some (.int .i64 0) := by rw [hwa, new_cell]; rfl
  have hsa : w2.heap.size < wa.heap.size := cell_lt a1
  have HF2 := hide (show ∀ x, foot p g v2 4 x → x < w2.heap.size from fun x hx => S2.foot_hi hx)
  have HSa := hide (S2.keep Ea)
  have HA1 := hide a1
  have HA2 := hide a2
  have HEa := hide ((unhide HE2).trans Ea)
  have hrunI : (w2.heap.size : Nat) = w2.heap.size := rfl
  clear S2 O2 F2 hwa Ea a1 a2 CN CD1 hrunI
  go_wp2_with fail
  rw [← unhide HWA]
  refine (unhide CD2 _ _ _ _ _ (unhide HSa)).mono ?_
  rintro e w3 ⟨rfl, v3, S3, O3, F3⟩
  rw [unhide K2, show tellV ⟨⟨#[]⟩, 0, 0, 0⟩ = .tuple #[.agg #[.string ⟨#[]⟩, .int .i64 0, .int .i64 0, .int .i64 0], .int .i64 0] from rfl]
  have HE3 := hide (O3.ext (unhide HEa) fun x hx => (unhide HSa).foot_lo hx)
  have hn2 : ¬ foot p g v2 4 w2.heap.size := fun h => by have := unhide HF2 _ h; omega
  have hn3 : ¬ foot p g v3 4 w2.heap.size := fun h => by
    rcases F3 _ h with h | h
    · exact hn2 h
    · omega
  have b1 := O3.keepc (unhide HA1) hn2
  have b2 := O3.keepc (unhide HA2) hn2
  obtain ⟨wb, hwb⟩ : ∃ wb, wb = w3.alloc (.cells #[.string ⟨#[]⟩, .int .i64 0, .int .i64 0, .int .i64 0] 33) := ⟨_, rfl⟩
  have HWB := hide hwb
  have Eb : Ext w3 wb := by rw [hwb]; exact (Ext.refl w3).alloc _
  have HB1 := hide (Eb.keep b1)
  have HB2 := hide (Eb.keep b2)
  have HSb := hide (S3.keep Eb)
  have HEb := hide ((unhide HE3).trans Eb)
  have HN3 := hide hn3
  clear S3 O3 F3 hwb Eb b1 b2 CD2 hn2 hn3
  go_wp2_with fail
  rw [← unhide HWB]
  refine (unhide CD3 _ _ _ _ _ (unhide HSb)).mono ?_
  rintro e w4 ⟨rfl, v4, S4, O4, F4⟩
  rw [unhide K3, show tellV ⟨abc, 1, 0, 0⟩ = .tuple #[.agg #[.string ⟨#[97, 98, 99]⟩, .int .i64 1, .int .i64 0, .int .i64 0], .int .i64 0] from rfl]
  have HE4 := hide (O4.ext (unhide HEb) fun x hx => (unhide HSb).foot_lo hx)
  have c1 := O4.keepc (unhide HB1) (unhide HN3)
  have c2 := O4.keepc (unhide HB2) (unhide HN3)
  have E5 := (Ext.refl w4).alloc (.cells #[.string ⟨#[97, 98, 99]⟩, .int .i64 1, .int .i64 0, .int .i64 0] 33)
  obtain ⟨w5, hw5⟩ : ∃ w5, w5 = w4.alloc (.cells #[.string ⟨#[97, 98, 99]⟩, .int .i64 1, .int .i64 0, .int .i64 0] 33) := ⟨_, rfl⟩
  rw [← hw5] at E5
  have t0 : w5.cell? ⟨w4.heap.size, 0, none⟩ = some (.string ⟨#[97, 98, 99]⟩) := by rw [hw5, new_cell]; rfl
  have t1 : w5.cell? ⟨w4.heap.size, 1, none⟩ = some (.int .i64 1) := by rw [hw5, new_cell]; rfl
  have t2 : w5.cell? ⟨w4.heap.size, 2, none⟩ = some (.int .i64 0) := by rw [hw5, new_cell]; rfl
  have HW5 := hide hw5
  have x1 := fun o => ((Ext.refl w5).alloc o).keep (E5.keep c1)
  have x2 := fun o => ((Ext.refl w5).alloc o).keep (E5.keep c2)
  have y0 := fun o => ((Ext.refl w5).alloc o).keep t0
  have y1 := fun o => ((Ext.refl w5).alloc o).keep t1
  have y2 := fun o => ((Ext.refl w5).alloc o).keep t2
  have HE5 := hide ((unhide HE4).trans E5)
  clear S4 O4 F4 E5 hw5 t0 t1 t2 c1 c2 CD3
  go_upto_region 7 with fail
  rw [← unhide HW5]
  go_wp2_with (go_at_call 18; refine (good_made' [0, 0, 0] _ _ _ _ w5 rfl rfl (by decide) rfl).mono ?_; rintro e wg ⟨rfl, rfl⟩)
  go_ret
  exact ⟨rfl, (unhide HE5).alloc _⟩
end Go.Proofs.Ytfhalkijbenhdaa

/-
  The walk of wholekeep.worked.
-/
set_option linter.unusedVariables false
set_option linter.unusedSimpArgs false
namespace Go.Proofs.Ytfhalkijbenhdaa
open Go.RowKit Go.BigFrame

set_option maxRecDepth 100000 in
set_option maxHeartbeats 2000000 in
theorem worked_bad (n k x y : Int) (A : Option Addr) (m c : Nat) (w : World) (h : qErr n k x y ≠ 0) : Calls Try.prog 12 #[.agg #[.int .i64 n, .int .i64 k, .int .i64 x, .int .i64 y], .slice A m c] w fun e w' => e = .returned (.pointer none) ∧ Ext w w' := by
  have CN := hide (fun W => New_bad n k x y W h)
  have hB : (qErr n k x y != 0) = true := by rw [bne_iff_ne]; exact h
  clear h
  generalize qErr n k x y = r at *
  go_enter Try.func12, Try.ntmps12
  go_wp2_with fail
  refine (unhide CN _).mono ?_
  rintro e w1 ⟨rfl, E1⟩
  go_wp2
  go_ret
  exact ⟨rfl, ((Ext.refl w).alloc _).trans E1⟩
set_option maxRecDepth 100000 in
set_option maxHeartbeats 4000000 in
theorem worked_ok {N K W R : Nat} (hq : qErr N K W R = 0) {H : Nat → Nat × ByteArray} (O : Sto.Ok (Sto.new N K W R) H) (A : Option Addr) (m c : Nat) (l : List Dd) (w : World) (Rw : Row w A m 4 (dds l)) (hm : m ≤ 4611686018427387904) (hss : ∀ d ∈ l, (d.s.size : Int) ≤ 9223372036854775807) :
    Calls Try.prog 12 #[.agg #[.int .i64 (N : Int), .int .i64 (K : Int), .int .i64 (W : Int), .int .i64 (R : Int)], .slice A m c] w fun e w' =>
      (∃ p g v, e = .returned (.pointer (some ⟨p, 0, none⟩)) ∧ St w.heap.size w' p g v ((Sto.new N K W R).run l)) ∧ Ext w w' := by
  have CN := hide (fun W0 => New_ok N K W R W0 hq)
  have HR := hide Rw
  have HSS := hide hss
  have HO := hide O
  clear hq Rw hss O
  go_enter Try.func12, Try.ntmps12
  go_wp2_with fail
  refine (unhide CN _).mono ?_
  rintro e w1 ⟨⟨p, g, v, rfl, S1⟩, E1⟩
  have E01 : Ext w w1 := ((Ext.refl w).alloc _).trans E1
  have HS1 := hide (S1.mono (b1 := w.heap.size) (by simp))
  have HE1 := hide E01
  clear S1 E1 E01 CN
  go_wp2
  go_loopw [22] (fun i wr => ∃ x : Nat, x ≤ m ∧ i = .int .i64 x ∧ ∃ v', Hid (St w.heap.size wr p g v' ((Sto.new N K W R).run (l.take x))) ∧ Hid (Ext w wr)) (fun i _ => m - (intOf i).toNat)
  case atStart => exact ⟨0, Nat.zero_le _, rfl, v, HS1, HE1⟩
  case round =>
    obtain ⟨x, hx, rfl, v', HS, HE⟩ := hrel
    by_cases hlt : x < m
    · obtain ⟨b, o, rfl, hb, c1, c2, c3, c4⟩ := ((unhide HR).keep (unhide HE)).dd hlt
      have hxl : x < l.length := by rw [(unhide HR).ddn]; exact hlt
      obtain ⟨H', OX⟩ := Sto.Ok.runs (unhide HO) (l.take x)
      have hsz := unhide HSS _ (dg_mem hxl)
      have CD := hide (fun (W0 : World) (S : St w.heap.size W0 p g v' ((Sto.new N K W R).run (l.take x))) => do_ok S OX.fine (dg l x).kind (dg l x).key (dg l x).n (dg l x).s hsz)
      have HRT := hide (Sto.run_take (Sto.new N K W R) l hxl)
      have hxI : (x : Int) < (m : Int) := by omega
      unfold Sto.ddo at HRT
      generalize (dg l x).kind = d1 at *
      generalize (dg l x).key = d2 at *
      generalize (dg l x).n = d3 at *
      generalize (dg l x).s = d4 at *
      have Ea := (Ext.refl wr).alloc (.cells #[.int .i64 d1, .int .i64 d2, .int .i64 d3, .string d4] 37)
      have HSa := hide ((unhide HS).keep Ea)
      have HEa := hide ((unhide HE).trans Ea)
      clear OX hsz Ea hxl
      go_wp2_with fail
      refine (unhide CD _ (unhide HSa)).mono ?_
      rintro e w3 ⟨rfl, v3, S3, O3, F3⟩
      have HS3 := hide (show St w.heap.size w3 p g v3 ((Sto.new N K W R).run (l.take (x + 1))) from by rw [unhide HRT]; exact S3)
      have HE3 := hide (O3.ext (unhide HEa) fun q hq => (unhide HSa).foot_lo hq)
      clear S3 O3 F3 CD HRT
      go_wp2
      go_roundw
      case rel => exact ⟨x + 1, by omega, by go_num, v3, HS3, HE3⟩
      case measure => simp [intOf]; omega
    · obtain rfl : m = x := by omega
      have HF := hide (show St w.heap.size wr p g v' ((Sto.new N K W R).run l) from by
        have h := unhide HS
        rw [List.take_of_length_le (by rw [(unhide HR).ddn]; exact Nat.le_refl _)] at h
        exact h)
      go_wp2
      go_ret
      exact ⟨⟨p, g, v', rfl, unhide HF⟩, unhide HE⟩
end Go.Proofs.Ytfhalkijbenhdaa

/-
  Plain: what the laws of the store ask. The comparison of what is told; calm deeds.
-/
set_option linter.unusedVariables false
set_option linter.unusedSimpArgs false
namespace Go.Proofs.Ytfhalkijbenhdaa
open Go.RowKit Go.BigFrame

def toldV (s : ByteArray) (a m : Nat) : Value := .agg #[.string s, .int .i64 (a : Int), .int .i64 0, .int .i64 (m : Int)]
theorem told_raw (s r : ByteArray) (a b m n : Nat) (w : World) : (Op.equalIn 10000 33 (.agg #[.string s, .int .i64 (a : Int), .int .i64 0, .int .i64 (m : Int)]) (.agg #[.string r, .int .i64 (b : Int), .int .i64 0, .int .i64 (n : Int)])).run Try.prog w = .ok (decide (s = r ∧ a = b ∧ m = n)) w := by
  have h1 := Try.underlying33
  have h2 := Try.underlying3
  have h3 := Try.underlying31
  have h4 := Try.underlying9
  by_cases e2 : s = r
  · subst e2
    by_cases e : a = b
    · subst e
      by_cases e3 : m = n
      · subst e3
        rw [decide_eq_true ⟨rfl, rfl, rfl⟩]
        simp [go_sem, h1, h2, h3, h4]
      · have hI : ¬ (m : Int) = (n : Int) := by omega
        rw [decide_eq_false (fun h => e3 h.2.2)]
        simp [go_sem, h1, h2, h3, h4]
        omega
    · have hI : ¬ (a : Int) = (b : Int) := by omega
      rw [decide_eq_false (fun h => e h.2.1)]
      simp [go_sem, h1, h2, h3, h4]
      omega
  · have hs : (s.toList == r.toList) = false := by rw [beq_eq_false_iff_ne]; exact fun h => e2 (str_inj8 h)
    rw [decide_eq_false (fun h => e2 h.1)]
    simp [go_sem, h1, h2, h3, h4, hs, e2]
theorem told_eql (s r : ByteArray) (a b m n : Nat) (w : World) : (binOp .eql 33 (.agg #[.string s, .int .i64 (a : Int), .int .i64 0, .int .i64 (m : Int)]) (.agg #[.string r, .int .i64 (b : Int), .int .i64 0, .int .i64 (n : Int)])).run Try.prog w = .ok (.bool (decide (s = r ∧ a = b ∧ m = n))) w := by
  rw [run_eql_struct, told_raw]; rfl
theorem told_neq (s r : ByteArray) (a b m n : Nat) (w : World) : (binOp .neq 33 (.agg #[.string s, .int .i64 (a : Int), .int .i64 0, .int .i64 (m : Int)]) (.agg #[.string r, .int .i64 (b : Int), .int .i64 0, .int .i64 (n : Int)])).run Try.prog w = .ok (.bool (!decide (s = r ∧ a = b ∧ m = n))) w := by
  rw [run_neq_struct, told_raw]; rfl
def calmB (kind : Int) : Bool := decide (kind ≠ 6 ∧ kind ≠ 7)
set_option maxRecDepth 100000 in
theorem calm_ok (kind key n : Int) (s : ByteArray) (w : World) : Calls Try.prog 15 #[.agg #[.int .i64 kind, .int .i64 key, .int .i64 n, .string s]] w fun e w' => e = .returned (.bool (calmB kind)) ∧ Ext w w' := by
  unfold calmB
  by_cases h6 : kind = 6
  · subst h6
    go_enter Try.func15, Try.ntmps15
    go_wp2
    go_ret
    exact ⟨rfl, (Ext.refl _).alloc _⟩
  · have b6 : (kind != 6) = true := by rw [bne_iff_ne]; exact h6
    by_cases h7 : kind = 7
    · subst h7
      go_enter Try.func15, Try.ntmps15
      go_wp2
      go_ret
      exact ⟨rfl, (Ext.refl _).alloc _⟩
    · have b7 : (kind != 7) = true := by rw [bne_iff_ne]; exact h7
      rw [decide_eq_true ⟨h6, h7⟩]
      clear h6 h7
      go_enter Try.func15, Try.ntmps15
      go_wp2
      go_ret
      exact ⟨rfl, (Ext.refl _).alloc _⟩

namespace Sto
theorem doS_err (σ : Sto) (kind key n : Int) (s : ByteArray) (h : (σ.doS kind key n s).1.err ≠ 0) : (σ.doS kind key n s).1 = Ans.no (σ.doS kind key n s).1.err := by
  refine doS_cases σ kind key n s (P := fun r => r.1.err ≠ 0 → r.1 = Ans.no r.1.err) (fun _ _ => rfl) ?_ ?_ ?_ ?_ (fun _ _ => atS_no _ _ _ _) h
  · intro _ _; unfold putS; split
    · exact fun _ => rfl
    · exact fun h => absurd rfl h
  · intro _ _; unfold tornS; split
    · exact fun _ => rfl
    · exact fun h => absurd rfl h
  · intro _ _; unfold getS; split
    · exact fun _ => rfl
    · exact fun h => absurd rfl h
  · intro _ _; unfold scrubS; split
    · exact fun _ => rfl
    · exact fun h => absurd rfl h
/-- What StoreReads carries along: by the key, what was written then stands, or what is newer. -/
structure Since (σ : Sto) (H : Nat → Nat × ByteArray) (key S : Nat) (text : ByteArray) : Prop where
  ok : Ok σ H
  stands : ∃ T, S ≤ T ∧ Stands σ H key T
  was : H S = (key, text)
theorem Since.step {σ : Sto} {H : Nat → Nat × ByteArray} {key S : Nat} {text : ByteArray} (Q : Since σ H key S text) (hk : key < 3) (kind k n : Int) (s : ByteArray) (h6 : kind ≠ 6) (h7 : kind ≠ 7) : Since (σ.doS kind k n s).2 (hist σ H kind k n s) key S text := by
  obtain ⟨T, hT, hS⟩ := Q.stands
  obtain ⟨T', hT', hS', -⟩ := hS.step Q.ok hk kind k n s h6 h7
  exact ⟨Q.ok.do_ kind k n s, ⟨T', Nat.le_trans hT hT', hS'⟩, by rw [hist_old _ _ _ _ (Nat.le_trans hT hS.2.1)]; exact Q.was⟩
theorem Since.put {σ : Sto} {H : Nat → Nat × ByteArray} (O : Ok σ H) (key n : Int) (text : ByteArray) (he : (σ.doS 1 key n text).1.err = 0) : isKey key ∧ Since (σ.doS 1 key n text).2 (hist σ H 1 key n text) key.toNat (σ.doS 1 key n text).1.at_ text := by
  obtain ⟨h1, h2⟩ := stands_told O 1 key n text (.inl rfl) he
  obtain ⟨a1, a2, -⟩ := put_told (σ := σ) 1 key n text (.inl rfl) he
  refine ⟨h1, O.do_ 1 key n text, ⟨_, Nat.le_refl _, h2⟩, ?_⟩
  unfold hist
  rw [if_neg (by rw [a2]; omega), a1]
  exact ext_same _ _ _ _
theorem Since.get {σ : Sto} {H : Nat → Nat × ByteArray} {S : Nat} {text : ByteArray} {key : Int} (hk : isKey key) (Q : Since σ H key.toNat S text) (n : Int) (s : ByteArray) :
    (σ.doS 3 key n s).1 = Ans.no 9 ∨ ((σ.doS 3 key n s).1.err = 0 ∧ (σ.doS 3 key n s).1.many = 0 ∧ S ≤ (σ.doS 3 key n s).1.at_ ∧ ((σ.doS 3 key n s).1.at_ = S → (σ.doS 3 key n s).1.text = text)) := by
  obtain ⟨T, hT, hS⟩ := Q.stands
  by_cases he : (σ.doS 3 key n s).1.err = 0
  · obtain ⟨-, h2, h3, h4, h5⟩ := get_told Q.ok key n s he
    obtain ⟨-, -, -, hge⟩ := hS.step Q.ok (isKey_lt hk) 3 key n s (by decide) (by decide)
    refine .inr ⟨he, h5, Nat.le_trans hT (hge rfl rfl he), fun e => ?_⟩
    rw [e, Q.was] at h4
    exact (congrArg Prod.snd h4).symm
  · refine .inl ?_
    have h0 := doS_err σ 3 key n s he
    have : (σ.doS 3 key n s).1.err = 9 := by
      rw [doS_ok (by rintro (h | h | h)
                     · omega
                     · omega
                     · exact h.2 hk), if_neg (by decide), if_neg (by decide), if_pos rfl] at he ⊢
      unfold getS at he ⊢
      rcases hS.read Q.ok (isKey_lt hk) with h | h
      · rw [h, if_pos (by decide)]; rfl
      · rw [h.1, if_neg (by decide)] at he; exact absurd rfl he
    rw [h0, this]
end Sto
end Go.Proofs.Ytfhalkijbenhdaa
