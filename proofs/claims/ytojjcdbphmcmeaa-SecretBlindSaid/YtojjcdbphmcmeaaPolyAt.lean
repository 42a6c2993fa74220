/-
  The contract of poly.At.
-/
import Derived.Test.YtojjcdbphmcmeaaBackIt
import Derived.Test.YtojjcdbphmcmeaaPoly4
import Derived.Test.YtojjcdbphmcmeaaRest1
import Derived.RangeFuncBox
set_option linter.unusedVariables false
set_option linter.unusedSimpArgs false
namespace Go.Proofs.Ytojjcdbphmcmeaa
open Go.RowKit Go.Shelf
attribute [local go_sem] Oper.semAt_some

/-- The value, after some coefficients. -/
def foldE (p x : Int) (pre : List (Int × Int)) : Int := pre.foldl (fun s c => (wrap64 (wrap64 (s * x) + c.2)).tmod p) 0
theorem foldE_snoc (p x : Int) (pre : List (Int × Int)) (c : Int × Int) : foldE p x (pre ++ [c]) = (wrap64 (wrap64 (foldE p x pre * x) + c.2)).tmod p := by
  unfold foldE
  rw [List.foldl_append]
  rfl
theorem foldE_val (p x : Nat) (h9 : p ≤ 997) (h0 : 0 < p) (hx : x < p) (l : List Nat) (hl : ∀ y ∈ l, y < p) :
    ∀ k, k ≤ l.length → foldE p x (uptoF (downF (l.map fun (x : Nat) => (x : Int)) l.length) k) = ((Wm.evN p (l.drop (l.length - k)) x : Nat) : Int) := fun k => by
  induction k with
  | zero =>
    intro _
    rw [Nat.sub_zero, List.drop_length]
    rfl
  | succ k ih =>
    intro hk
    have ih := ih (by omega)
    rw [uptoF_succ, foldE_snoc, ih]
    have hlt : l.length - (k + 1) < l.length := by omega
    have hd : l.drop (l.length - (k + 1)) = l[l.length - (k + 1)] :: l.drop (l.length - k) := by
      rw [List.drop_eq_getElem_cons hlt]
      congr 2
      omega
    have hx2 : (downF (l.map fun (x : Nat) => (x : Int)) l.length k).2 = (l[l.length - (k + 1)] : Int) := by
      unfold downF
      rw [show l.length - 1 - k = l.length - (k + 1) by omega]
      simp [hlt]
    have ha := hl _ (List.getElem_mem hlt)
    have hv := Wm.evN_lt h0 (l.drop (l.length - k)) x
    rw [hx2, hd]
    show _ = (((Wm.evN p (l.drop (l.length - k)) x * x + l[l.length - (k + 1)]) % p : Nat) : Int)
    generalize l[l.length - (k + 1)] = a at *
    generalize Wm.evN p (l.drop (l.length - k)) x = v at *
    have hm : v * x ≤ 997 * 997 := Nat.mul_le_mul (by omega) (by omega)
    have h1 : ((v * x : Nat) : Int) = (v : Int) * (x : Int) := Int.natCast_mul _ _
    rw [← h1]
    generalize v * x = y at *
    have b1 : (y : Int) ≤ 994009 := by omega
    have b2 : (a : Int) ≤ 997 := by omega
    clear hm ih hx2 hd h1 hv ha hl hx
    have h2 : wrap64 ((y : Nat) : Int) = (y : Int) := IntWalk.wrap64_in _ (by omega)
    have h3 : wrap64 ((y : Int) + (a : Int)) = (y : Int) + (a : Int) := IntWalk.wrap64_in _ (by omega)
    rw [h2, h3, show (y : Int) + (a : Int) = ((y + a : Nat) : Int) from (Int.natCast_add _ _).symm]
    exact tmod_nat _ _

def CFq (W : World) (a : Addr) (v : Value) : Prop := W.cell? a = some v ∧ W.frozen? a = false

set_option maxRecDepth 100000 in
set_option maxHeartbeats 2000000 in
theorem At_in (P : Wm.Pr) (h9 : P.p ≤ 997) (A : Option Addr) (n c : Nat) (l : List Nat) (x0v : Int) (w : World) (R : Pv w A n c l) (hb : Blk w A) (hl : Wm.IsP P.p l) (hn : n ≤ 40) (xr : Nat) (hxr : x0v % (P.p : Int) = (xr : Int)) :
    CallsIn Fence.wide 5 Try.prog 47 #[.int .i64 P.p, .slice A n c, .int .i64 x0v] w fun e w' => e = .returned (.tuple #[.int .i64 ((Wm.evN P.p l xr : Nat) : Int), .int .i64 0]) ∧ Ext w w' := by
  have hlen := R.len
  have CK := hide (fun (W : World) (E : Ext w W) => (callsIn_wide (n := 4)).2 (Check_ok P h9 A n c l W (R.keep E) hl hn))
  have hp := P.two
  have CO := hide (fun (W : World) => (callsIn_wide (n := 4)).2 (of_ok x0v P.p W (by omega) (by omega)))
  rw [hxr] at CO
  have hxl : xr < P.p := by have := Wm.emod_bound x0v (show (0 : Int) < (P.p : Int) by omega); omega
  refine callsIn_of_wp_marks Try.func47 rfl trivial ?_ rfl
  simp only [Try.ntmps47, List.size_toArray, List.length_cons, List.length_nil, Nat.reduceAdd, Nat.reduceSub, Array.replicate_succ, Array.replicate_zero, List.push_toArray, List.append_toArray, List.nil_append, List.cons_append]
  gi_wp2
  refine ⟨trivial, ?_⟩
  refine (unhide CK _ (by repeat (first | exact Ext.refl w | refine Ext.alloc ?_ _ | refine Ext.drew ?_ | refine Ext.drewN ?_ _ | (refine Ext.trans ?_ (plus_ext _ _)) | (refine Ext.setCell ?_ (by have := Ext.size Ext.refl w; simp; omega) _)))).mono ?_
  rintro e w1 ⟨rfl, E1⟩
  have p0 := E1.keep (a := ⟨w.heap.size, 0, none⟩) (v := .int .i64 P.p) (by simp [go_sem])
  have x0 := E1.keep (a := ⟨w.heap.size + 1, 0, none⟩) (v := .int .i64 x0v) (by simp [go_sem])
  have pf : w1.frozen? ⟨w.heap.size, 0, none⟩ = false := (E1.frozen (p := ⟨w.heap.size, 0, none⟩) (by simp; omega)).trans (by simp [go_sem])
  have xf : w1.frozen? ⟨w.heap.size + 1, 0, none⟩ = false := (E1.frozen (p := ⟨w.heap.size + 1, 0, none⟩) (by simp)).trans (by simp [go_sem])
  have S1 : w.heap.size + 2 ≤ w1.heap.size := by have := E1.size; simpa using this
  have F1 : Ext w w1 := Ext.trans (by repeat (first | exact Ext.refl w | refine Ext.alloc ?_ _ | refine Ext.drew ?_ | refine Ext.drewN ?_ _ | (refine Ext.trans ?_ (plus_ext _ _)) | (refine Ext.setCell ?_ (by have := Ext.size Ext.refl w; simp; omega) _))) E1
  have HXR := hide hxr
  have HL := hide hl
  have HR := hide R
  have HLEN := hide hlen
  clear E1 hxr hl R hlen
  gi_wp2
  refine ⟨trivial, ?_⟩
  refine (unhide CO _).mono ?_
  rintro e w1' ⟨rfl, rfl⟩
  gi_wp2
  refine ⟨trivial, ?_⟩
  refine (back_in Fence.wide _ trivial rfl _ _ _ _).mono ?_
  rintro e w' ⟨rfl, rfl⟩
  gi_wp2
  have hzl : (l.map fun (x : Nat) => (x : Int)).length = n := by rw [List.length_map, unhide HLEN]
  obtain ⟨W0, hW0⟩ : ∃ W0, W0 = ((w1'.setCell ⟨w.heap.size + 1, 0, none⟩ (.int .i64 (xr : Int))).alloc (.cells #[.int .i64 0] 3)).alloc (.cells #[.slice A n c] 29) := ⟨_, rfl⟩
  have hB0 : Ext w W0 := by
    rw [hW0]
    exact ((F1.setCell (p := ⟨w.heap.size + 1, 0, none⟩) (by simp) _).alloc _).alloc _
  have hS0 : W0.heap.size = w1'.heap.size + 2 := by rw [hW0]; simp
  have c1 : CFq W0 ⟨w.heap.size, 0, none⟩ (.int .i64 P.p) := by
    rw [hW0]
    refine ⟨?_, ?_⟩
    · rw [World.cell?_alloc_lt _ _ _ (by simp; omega), World.cell?_alloc_lt _ _ _ (by simp; omega), World.cell?_setCell_other _ _ _ _ (by simp)]
      exact p0
    · rw [frozen?_alloc_cells, frozen?_alloc_cells, World.frozen?_setCell]
      exact pf
  have c2 : CFq W0 ⟨w.heap.size + 1, 0, none⟩ (.int .i64 (xr : Int)) := by
    rw [hW0]
    refine ⟨?_, ?_⟩
    · rw [World.cell?_alloc_lt _ _ _ (by simp; omega), World.cell?_alloc_lt _ _ _ (by simp; omega)]
      exact World.cell?_setCell_same' _ _ _ (by rw [x0]; rfl)
    · rw [frozen?_alloc_cells, frozen?_alloc_cells, World.frozen?_setCell]
      exact xf
  have c3 : CFq W0 ⟨w1'.heap.size, 0, none⟩ (.int .i64 0) := by
    rw [hW0]
    refine ⟨?_, ?_⟩
    · rw [World.cell?_alloc_lt _ _ _ (by simp)]
      have h0 : (w1'.setCell ⟨w.heap.size + 1, 0, none⟩ (.int .i64 (xr : Int))).heap.size = w1'.heap.size := by simp
      rw [← h0]
      simp [go_sem]
    · rw [frozen?_alloc_cells, frozen?_alloc_cells, World.frozen?_setCell]
      simp [World.frozen?]
  have hBs : W0.cell? ⟨w1'.heap.size + 1, 0, none⟩ = some (.slice A n c) := by
    rw [hW0]
    have h0 : ((w1'.setCell ⟨w.heap.size + 1, 0, none⟩ (.int .i64 (xr : Int))).alloc (.cells #[.int .i64 0] 3)).heap.size = w1'.heap.size + 1 := by simp
    rw [← h0]
    simp [go_sem]
  obtain ⟨b, hbs, hne, hI⟩ : ∃ b, b < W0.heap.size ∧ b ≠ w1'.heap.size ∧ ((Value.slice A n c = .slice none 0 0 ∧ (l.map fun (x : Nat) => (x : Int)) = []) ∨ ∃ off cap, Value.slice A n c = .slice (some ⟨b, off, none⟩) (l.map fun (x : Nat) => (x : Int)).length cap ∧ b < W0.heap.size ∧ ∀ j, j < (l.map fun (x : Nat) => (x : Int)).length → W0.cell? ⟨b, off + j, none⟩ = some (.int .i64 ((l.map fun (x : Nat) => (x : Int))[j]?.getD 0))) := by
    rcases hb with hA | ⟨g, o, hA, hg⟩
    · obtain ⟨h1, h2⟩ := (unhide HR).nil hA
      have hl0 : l = [] := List.eq_nil_of_length_eq_zero (by rw [unhide HLEN, h1])
      refine ⟨w.heap.size, by omega, by omega, .inl ⟨by rw [hA, h1, h2], by rw [hl0]; rfl⟩⟩
    · refine ⟨g, by omega, by omega, .inr ⟨o, c, by rw [hA, hzl], by omega, fun j hj => ?_⟩⟩
      rw [hzl] at hj
      obtain ⟨b', o', e', hb', hc'⟩ := (unhide HR).row.nat hj
      rw [hA] at e'
      injection e' with e'
      injection e' with e1 e2
      subst e1; subst e2
      rw [(hB0.cell (p := ⟨g, o + j, none⟩) hb').trans hc']
      have hlen := unhide HLEN
      rw [List.getElem?_map, List.getD_eq_getElem?_getD, List.getElem?_eq_getElem (by omega)]; rfl
  rw [← hW0]
  have HW0 := hide hW0
  clear hW0 p0 x0 pf xf
  obtain ⟨B9, hB9⟩ : ∃ B9, B9 = w1'.heap.size := ⟨_, rfl⟩
  rw [← hB9] at c3 hBs hne hS0 S1 ⊢
  have HB9 := hide hB9
  clear hB9
  refine wpIn_rangeFunc_ownG rfl (by omega) (gf := 71) (lb := #[.pointer (some ⟨B9 + 1, 0, none⟩)]) rfl trivial (enters_of Try.func71 (by kernel_rfl) rfl)
    (back_stops Fence.wide (5 - 1) trivial rfl (by omega) (B9 + 1) b (.slice A n c) (l.map fun (x : Nat) => (x : Int)) (by rw [hzl]; omega) _ (by omega) hBs hI) KeepAt.trans (KeepAt.put (by omega) hbs) (Below.refl _ _) (fun _ => rfl)
    (fun pre W => (CFq W ⟨w.heap.size, 0, none⟩ (.int .i64 P.p) ∧ CFq W ⟨w.heap.size + 1, 0, none⟩ (.int .i64 (xr : Int)) ∧ CFq W ⟨B9, 0, none⟩ (.int .i64 (foldE P.p xr pre))) ∧ Below w.heap.size w W)
    (fun _ pre _ => False)
    (OwnFrom.and (Own.from (fun s A B row hs hg hr => ⟨⟨cell_kept hs.1.1 hg hr, (frozen_kept hs.1.1 hg hr).trans hs.1.2⟩, ⟨cell_kept hs.2.1.1 hg hr, (frozen_kept hs.2.1.1 hg hr).trans hs.2.1.2⟩, ⟨cell_kept hs.2.2.1 hg hr, (frozen_kept hs.2.2.1 hg hr).trans hs.2.2.2⟩⟩) _) (ownFrom_below (Nat.le_refl _) (by omega)))
    (fun _ _ _ _ _ hs _ _ => hs)
    ⟨⟨c1, c2, c3⟩, hB0⟩
    (fun x => { tmps := #[.int .i64 P.p, .slice A n c, .int .i64 x0v, .pointer (some ⟨w.heap.size, 0, none⟩), undef, .pointer (some ⟨w.heap.size + 1, 0, none⟩), .int .i64 0, .int .i64 0, .int .i64 0, .pointer (some ⟨B9, 0, none⟩), undef, .int .i64 x.2, .int .i64 P.p, .slice A n c, .int .i64 0, .int .i64 0, .bool false, undef, .tuple #[.int .i64 (xr : Int), .int .i64 0], .int .i64 x0v, .int .i64 P.p, .tuple #[.int .i64 (xr : Int), .int .i64 0], .int .i64 (xr : Int), .int .i64 0, .slice A n c, .func (.func 71) #[] #[.pointer (some ⟨B9 + 1, 0, none⟩)], .int .i64 x.1, .int .i64 x.2, undef, undef, undef, undef, undef, undef, undef, undef], defers := [] }) ?assign ?body ?done ?stop
  case assign =>
    intro l x W K hK
    gi_wp2
    exact hK
  case body =>
    rintro l0 pre x W ⟨⟨⟨c0, f0⟩, ⟨c1, f1⟩, ⟨r0, g0⟩⟩, hB⟩ _
    have hsn := foldE_snoc (P.p : Int) (xr : Int) pre x
    have HSN := hide hsn
    generalize foldE (P.p : Int) (xr : Int) pre = s at *
    have hpI : ¬ (P.p : Int) = 0 := by omega
    have hpI2 : ¬ P.p = 0 := by omega
    clear hsn
    gi_wp2
    refine ⟨(KeepsOthers.setCell _ _ _).from _, (KeepAt.refl _ _ _).setCell (p := ⟨B9, 0, none⟩) (by simp) (fun e => hne e.symm) _, ?_, hB.setCell (p := ⟨B9, 0, none⟩) (by show w.heap.size ≤ B9; omega) _⟩
    rw [unhide HSN]
    refine ⟨⟨(World.cell?_setCell_other _ _ _ _ (by simp only [ne_eq, Addr.mk.injEq, not_and]; omega)).trans c0, by rw [World.frozen?_setCell]; exact f0⟩, ⟨(World.cell?_setCell_other _ _ _ _ (by simp only [ne_eq, Addr.mk.injEq, not_and]; omega)).trans c1, by rw [World.frozen?_setCell]; exact f1⟩,
      ⟨World.cell?_setCell_same' _ _ _ (by rw [r0]; rfl), by rw [World.frozen?_setCell]; exact g0⟩⟩
  case done =>
    rintro D ys W hD rfl ⟨⟨⟨c0, f0⟩, ⟨c1, f1⟩, ⟨r0, g0⟩⟩, hB⟩ hK
    have hlen := unhide HLEN
    have hv := foldE_val P.p xr h9 P.pos hxl l (unhide HL).1 l.length (Nat.le_refl _)
    rw [Nat.sub_self, List.drop_zero] at hv
    rw [hzl, ← hlen, hv] at r0
    obtain ⟨v, hve⟩ : ∃ v, v = Wm.evN P.p l xr := ⟨_, rfl⟩
    rw [← hve] at r0
    have HV := hide hve
    clear hve hv hI c1 c2 c3 hBs
    have hg := grownBy_putObj' W D (.deferred none)
    have hr : ∀ r, some D = some r → ∃ o : Obj, W.heap[r]? = some o ∧ o.isCells = false := fun r e => by cases e; exact ⟨_, hK, rfl⟩
    have y0 := cell_kept r0 hg hr
    have v0 := (frozen_kept r0 hg hr).trans g0
    gi_wp2
    refine ⟨by simp, .inl ⟨_, _, rfl, run_takeDeferred hK, ?_⟩⟩
    refine ⟨.tuple #[.int .i64 v, .int .i64 0], by simp [results, Try.results47, go_sem], by rw [unhide HV], hB.trans (belowK_b (w := w) (Nat.le_refl _) _ D _ _ (by have := hB0.size; omega) hK rfl rfl)⟩
  case stop =>
    rintro D c pre W _ _ h _
    exact h.elim

theorem At_ok (P : Wm.Pr) (h9 : P.p ≤ 997) (A : Option Addr) (n c : Nat) (l : List Nat) (x0v : Int) (w : World) (R : Pv w A n c l) (hb : Blk w A) (hl : Wm.IsP P.p l) (hn : n ≤ 40) (xr : Nat) (hxr : x0v % (P.p : Int) = (xr : Int)) :
    Calls Try.prog 47 #[.int .i64 P.p, .slice A n c, .int .i64 x0v] w fun e w' => e = .returned (.tuple #[.int .i64 ((Wm.evN P.p l xr : Nat) : Int), .int .i64 0]) ∧ Ext w w' :=
  callsIn_wide.1 (At_in P h9 A n c l x0v w R hb hl hn xr hxr)
end Go.Proofs.Ytojjcdbphmcmeaa
