/-
  The contract of frac.Value.
-/
import Derived.Test.YtbnmdkboidpmaaaBackIt
import Derived.Test.YtbnmdkboidpmaaaFrac0
import Derived.Test.YtbnmdkboidpmaaaMem
import Derived.RangeFuncBox
set_option linter.unusedVariables false
set_option linter.unusedSimpArgs false
namespace Go.Proofs.Ytbnmdkboidpmaaa
open Go.RowKit Go.Shelf
attribute [local go_sem] Oper.semAt_some

theorem num_eqI {K : IntKind} {a b : Int} (h : a = b) : Value.int K a = Value.int K b := by rw [h]
def foldV (pre : List (Int × Int)) : Int × Int := pre.foldl (fun s x => (wrap64 (wrap64 (x.2 * s.1) + s.2), s.1)) (1, 0)
theorem foldV_snoc (pre : List (Int × Int)) (x : Int × Int) : foldV (pre ++ [x]) = (wrap64 (wrap64 (x.2 * (foldV pre).1) + (foldV pre).2), (foldV pre).1) := by simp [foldV]
theorem foldV_val (l : List Nat) (h6 : ∀ x ∈ l, x ≤ 1000000) (hv : ∀ k, k ≤ l.length → (Wm.val (l.drop k)).1 ≤ 1000000 ∧ (Wm.val (l.drop k)).2 ≤ 1000000) :
    ∀ k, k ≤ l.length → foldV (uptoF (downF (l.map fun (x : Nat) => (x : Int)) l.length) k) = (((Wm.val (l.drop (l.length - k))).1 : Int), ((Wm.val (l.drop (l.length - k))).2 : Int))
  | 0, _ => by simp [uptoF, foldV, Wm.val]
  | k + 1, hk => by
    have ih := foldV_val l h6 hv k (by omega)
    rw [uptoF_succ, foldV_snoc, ih]
    have hlt : l.length - (k + 1) < l.length := by omega
    have hd : l.drop (l.length - (k + 1)) = l[l.length - (k + 1)] :: l.drop (l.length - k) := by
      rw [List.drop_eq_getElem_cons hlt]
      congr 2
      omega
    have hx : (downF (l.map fun (x : Nat) => (x : Int)) l.length k).2 = (l[l.length - (k + 1)] : Int) := by
      unfold downF
      rw [show l.length - 1 - k = l.length - (k + 1) by omega]
      simp [hlt]
    have hb := h6 _ (List.getElem_mem hlt)
    have hv1 := hv (l.length - (k + 1)) (by omega)
    have hv2 := hv (l.length - k) (by omega)
    rw [hx]
    rw [hd] at hv1 ⊢
    simp only [Wm.val] at hv1 ⊢
    generalize l[l.length - (k + 1)] = a at *
    generalize (Wm.val (l.drop (l.length - k))).1 = p at *
    generalize (Wm.val (l.drop (l.length - k))).2 = q at *
    have h2 : ((a * p : Nat) : Int) = (a : Int) * (p : Int) := Int.natCast_mul _ _
    have hz := hv1.1
    clear hv1 hv2 hb
    generalize a * p = z at *
    have h3 : wrap64 ((a : Int) * (p : Int)) = (z : Int) := by rw [← h2]; exact IntWalk.wrap64_in _ (by omega)
    have h4 : wrap64 ((z : Int) + (q : Int)) = ((z + q : Nat) : Int) := (IntWalk.wrap64_in _ (by omega)).trans (by omega)
    rw [h3, h4]

def CF (W : World) (a : Addr) (v : Value) : Prop := W.cell? a = some v ∧ W.frozen? a = false
def BigV (pre : List (Int × Int)) : Prop := 1000000 < (foldV pre).1 ∨ 1000000 < (foldV pre).2

set_option maxRecDepth 100000 in
set_option maxHeartbeats 2000000 in
theorem Value_in (b o n c : Nat) (l : List Nat) (w : World) (hl : Row w (some ⟨b, o, none⟩) n 1 (nats .i64 l)) (h1 : 1 ≤ n) (hn : n ≤ 1000000) (h6 : ∀ x ∈ l, x ≤ 1000000) (hp : ∀ k, 0 < k → k < n → 1 ≤ l.getD k 0) (hv : ∀ k, k ≤ n → (Wm.val (l.drop k)).1 ≤ 1000000 ∧ (Wm.val (l.drop k)).2 ≤ 1000000) :
    CallsIn Fence.wide 5 Try.prog 32 #[.slice (some ⟨b, o, none⟩) n c] w fun e w' => e = .returned (.tuple #[.agg #[.int .i64 ((Wm.val l).1 : Int), .int .i64 ((Wm.val l).2 : Int)], .int .i64 0]) ∧ Ext w w' := by
  have hlen := hl.numN
  refine callsIn_of_wp_marks Try.func32 rfl trivial ?_ rfl
  simp only [Try.ntmps32, List.size_toArray, List.length_cons, List.length_nil, Nat.reduceAdd, Nat.reduceSub, Array.replicate_succ, Array.replicate_zero, List.push_toArray, List.append_toArray, List.nil_append, List.cons_append]
  have n0 : ((n : Int) == 0) = false := by rw [beq_eq_false_iff_ne]; omega
  have n0' : ¬ (n : Int) = 0 := by omega
  gi_wp2
  gi_loopw [15] (fun i wr => ∃ k : Nat, k ≤ n ∧ i = .int .i64 k ∧ wr = (w.alloc (.cells #[.int .i64 0, .int .i64 0] 38)).alloc (.cells #[.int .i64 0] 22)) (fun i _ => n - (intOf i).toNat)
  case atStart => exact ⟨0, Nat.zero_le _, rfl, rfl⟩
  case round =>
    obtain ⟨k, hk, rfl, rfl⟩ := hrel
    have E2 : Ext w ((w.alloc (.cells #[.int .i64 0, .int .i64 0] 38)).alloc (.cells #[.int .i64 0] 22)) := ((Ext.refl w).alloc _).alloc _
    by_cases hlt : k < n
    · obtain ⟨b', o', e', hb', hc'⟩ := (hl.keep E2).nat hlt
      injection e' with e'
      injection e' with e1 e2
      subst e1; subst e2
      have h6' := h6 _ (getD_mem l 0 (show k < l.length by omega))
      have hp' := hp k
      generalize l.getD k 0 = x at *
      have x6 : ¬ (1000000 : Int) < (x : Int) := by omega
      by_cases hk0 : k = 0
      · have hk0I : ¬ (0 : Int) < (k : Int) := by omega
        have hk0N : ¬ 0 < k := by omega
        clear hk0
        by_cases hx0 : x = 0
        · have hx0 : ((x : Int) == 0) = true := by rw [beq_iff_eq]; omega
          gi_wp2
          go_roundw
          case rel => exact ⟨k + 1, by omega, num_eqI (by omega), by first | rfl | trivial⟩
          case measure => simp [intOf]; omega
        · have hx0 : ((x : Int) == 0) = false := by rw [beq_eq_false_iff_ne]; omega
          gi_wp2
          go_roundw
          case rel => exact ⟨k + 1, by omega, num_eqI (by omega), by first | rfl | trivial⟩
          case measure => simp [intOf]; omega
      · have hx0 : ((x : Int) == 0) = false := by rw [beq_eq_false_iff_ne]; have := hp' (by omega) hlt; omega
        gi_wp2
        go_roundw
        case rel => exact ⟨k + 1, by omega, num_eqI (by omega), by first | rfl | trivial⟩
        case measure => simp [intOf]; omega
    · obtain rfl : k = n := by omega
      gi_wp2
      refine ⟨trivial, ?_⟩
      refine (back_in Fence.wide _ trivial rfl _ _ _ _).mono ?_
      rintro e w' ⟨rfl, rfl⟩
      gi_wp2
      have hzl : (l.map fun (x : Nat) => (x : Int)).length = k := by rw [List.length_map, hlen]
      have hbs : b < w.heap.size ∧ ∀ j, j < k → w.cell? ⟨b, o + j, none⟩ = some (.int .i64 ((l.getD j 0 : Nat) : Int)) := by
        obtain ⟨b', o', e', hb', hc'⟩ := hl.2 (by omega)
        injection e' with e'
        injection e' with e1 e2
        subst e1; subst e2
        exact ⟨hb', fun j hj => (hc' j (by omega)).trans (nats_get .i64 l j (by omega))⟩
      obtain ⟨hb, hcs⟩ := hbs
      have hB0 : Below w.heap.size w ((((w.alloc (.cells #[.int .i64 0, .int .i64 0] 38)).alloc (.cells #[.int .i64 0] 22)).alloc (.cells #[.int .i64 1, .int .i64 0] 38)).alloc (.cells #[.slice (some ⟨b, o, none⟩) k c] 39)) := (((((Ext.refl w).alloc _).alloc _).alloc _).alloc _)
      refine wpIn_rangeFunc_ownG rfl (by omega) (gf := 62) (lb := #[.pointer (some ⟨w.heap.size + 1 + 1 + 1, 0, none⟩)]) rfl trivial (enters_of Try.func62 (by kernel_rfl) rfl)
        (back_stops Fence.wide (5 - 1) trivial rfl (by omega) (w.heap.size + 1 + 1 + 1) b (.slice (some ⟨b, o, none⟩) k c) (l.map fun (x : Nat) => (x : Int)) (by rw [hzl]; omega) _ (by simp) (by simp [go_sem]) (.inr ⟨o, c, by rw [hzl], by simp; omega, fun j hj => ?cells⟩)) KeepAt.trans (KeepAt.put (by simp) (by simp; omega)) (Below.refl _ _) (fun _ => rfl)
        (fun pre W => (CF W ⟨w.heap.size + 1 + 1, 0, none⟩ (.int .i64 (foldV pre).1) ∧ CF W ⟨w.heap.size + 1 + 1, 1, none⟩ (.int .i64 (foldV pre).2) ∧ CF W ⟨w.heap.size, 0, none⟩ (.int .i64 0) ∧ CF W ⟨w.heap.size, 1, none⟩ (.int .i64 0) ∧ CF W ⟨w.heap.size + 1, 0, none⟩ (.int .i64 0)) ∧ Below w.heap.size w W)
        (fun _ pre _ => BigV pre)
        (OwnFrom.and (Own.from (fun s A B row hs hg hr => ⟨⟨cell_kept hs.1.1 hg hr, (frozen_kept hs.1.1 hg hr).trans hs.1.2⟩, ⟨cell_kept hs.2.1.1 hg hr, (frozen_kept hs.2.1.1 hg hr).trans hs.2.1.2⟩, ⟨cell_kept hs.2.2.1.1 hg hr, (frozen_kept hs.2.2.1.1 hg hr).trans hs.2.2.1.2⟩, ⟨cell_kept hs.2.2.2.1.1 hg hr, (frozen_kept hs.2.2.2.1.1 hg hr).trans hs.2.2.2.1.2⟩, ⟨cell_kept hs.2.2.2.2.1 hg hr, (frozen_kept hs.2.2.2.2.1 hg hr).trans hs.2.2.2.2.2⟩⟩) _) (ownFrom_below (Nat.le_refl _) (by simp; omega)))
        (fun _ _ _ _ _ hs _ _ => hs)
        ⟨⟨⟨by simp [go_sem, foldV], by simp [go_sem]⟩, ⟨by simp [go_sem, foldV], by simp [go_sem]⟩, ⟨by simp [go_sem], by simp [go_sem]⟩, ⟨by simp [go_sem], by simp [go_sem]⟩, ⟨by simp [go_sem], by simp [go_sem]⟩⟩, hB0⟩
        (fun x => { tmps := #[.slice (some ⟨b, o, none⟩) k c, undef, .pointer (some ⟨w.heap.size, 0, none⟩), .pointer (some ⟨w.heap.size + 1, 0, none⟩), u4, u5, .pointer (some ⟨w.heap.size + 1 + 1, 0, none⟩), undef, .int .i64 x.2, .slice (some ⟨b, o, none⟩) k c, .int .i64 k, .bool false, undef, .slice (some ⟨b, o, none⟩) k c, .int .i64 k, .int .i64 k, .bool false, u17, u18, u19, u20, u21, u22, u23, u24, u25, u26, u27, u28, u29, u30, u31, u32, u33, u34, u35, .agg #[.int .i64 1, .int .i64 0], .slice (some ⟨b, o, none⟩) k c, .func (.func 62) #[] #[.pointer (some ⟨w.heap.size + 1 + 1 + 1, 0, none⟩)], .int .i64 x.1, .int .i64 x.2, undef, undef, undef, undef, undef, undef, undef, undef, undef, undef, undef, undef, undef, undef, undef, undef, undef, undef, undef, undef], defers := [] }) ?assign ?body ?done ?stop
      case cells =>
        have hj' : j < k := by rw [hzl] at hj; exact hj
        have hg : (l.map fun (x : Nat) => (x : Int))[j]?.getD 0 = ((l.getD j 0 : Nat) : Int) := by
          rw [List.getElem?_map, List.getD_eq_getElem?_getD, List.getElem?_eq_getElem (by omega)]; rfl
        rw [hg]
        exact (hB0.cell (p := ⟨b, o + j, none⟩) hb).trans (hcs j hj')
      case assign =>
        intro l x W K hK
        gi_wp2
        exact hK
      case body =>
        rintro l0 pre x W ⟨⟨⟨c0, f0⟩, ⟨c1, f1⟩, ⟨r0, g0⟩, ⟨r1, g1⟩, ⟨e0, k0⟩⟩, hB⟩ _
        have hsn := foldV_snoc pre x
        generalize (foldV pre).1 = p at *
        generalize (foldV pre).2 = q at *
        obtain ⟨P', hP'⟩ : ∃ P', P' = wrap64 (wrap64 (x.2 * p) + q) := ⟨_, rfl⟩
        rw [← hP'] at hsn
        have HS := hide hsn
        clear hsn hl h6 hp hv hcs
        by_cases t1 : 1000000 < P'
        · have t1' : decide ((1000000 : Int) < wrap64 (wrap64 (x.2 * p) + q)) = true := by rw [← hP']; exact decide_eq_true t1
          have HB : Hid (BigV (pre ++ [x])) := hide (by unfold BigV; rw [unhide HS]; exact .inl t1)
          rw [hP'] at t1
          clear hP'
          gi_wp2
          refine ⟨KeepsOthers.from ?_ _, unhide HB⟩
          repeat (first | exact KeepsOthers.refl _ | refine KeepsOthers.trans ?_ (KeepsOthers.setCell _ _ _))
        · by_cases t2 : 1000000 < p
          · have HB : Hid (BigV (pre ++ [x])) := hide (by unfold BigV; rw [unhide HS]; exact .inr t2)
            rw [hP'] at t1
            clear hP'
            gi_wp2
            refine ⟨KeepsOthers.from ?_ _, unhide HB⟩
            repeat (first | exact KeepsOthers.refl _ | refine KeepsOthers.trans ?_ (KeepsOthers.setCell _ _ _))
          · rw [hP'] at t1
            rw [hP'] at HS
            clear hP'
            gi_wp2
            refine ⟨((KeepsOthers.setCell _ _ _).trans (KeepsOthers.setCell _ _ _)).from _, ((KeepAt.refl _ _ _).setCell (p := ⟨w.heap.size + 1 + 1, 0, none⟩) (by simp) (by simp; omega) _).setCell (p := ⟨w.heap.size + 1 + 1, 1, none⟩) (by simp) (by simp; omega) _, ?_, (hB.setCell (p := ⟨w.heap.size + 1 + 1, 0, none⟩) (by simp; omega) _).setCell (p := ⟨w.heap.size + 1 + 1, 1, none⟩) (by simp; omega) _⟩
            rw [unhide HS]
            refine ⟨⟨(World.cell?_setCell_other _ _ _ _ (by simp)).trans (World.cell?_setCell_same' _ _ _ (by rw [c0]; rfl)), by rw [World.frozen?_setCell, World.frozen?_setCell]; exact f0⟩,
              ⟨World.cell?_setCell_same' _ _ _ (by rw [World.cell?_setCell_other _ _ _ _ (by simp), c1]; rfl), by rw [World.frozen?_setCell, World.frozen?_setCell]; exact f1⟩,
              ⟨(World.cell?_setCell_other _ _ _ _ (by simp)).trans ((World.cell?_setCell_other _ _ _ _ (by simp)).trans r0), by rw [World.frozen?_setCell, World.frozen?_setCell]; exact g0⟩,
              ⟨(World.cell?_setCell_other _ _ _ _ (by simp)).trans ((World.cell?_setCell_other _ _ _ _ (by simp)).trans r1), by rw [World.frozen?_setCell, World.frozen?_setCell]; exact g1⟩,
              ⟨(World.cell?_setCell_other _ _ _ _ (by simp)).trans ((World.cell?_setCell_other _ _ _ _ (by simp)).trans e0), by rw [World.frozen?_setCell, World.frozen?_setCell]; exact k0⟩⟩
      case done =>
        rintro D ys W hD rfl ⟨⟨⟨c0, f0⟩, ⟨c1, f1⟩, ⟨r0, g0⟩, ⟨r1, g1⟩, ⟨e0, k0⟩⟩, hB⟩ hK
        rw [hzl, ← hlen, foldV_val l h6 (by rw [hlen]; exact hv) l.length (Nat.le_refl _), Nat.sub_self, List.drop_zero] at c0 c1
        simp only at c0 c1
        clear hl h6 hp hv hcs
        obtain ⟨p, hpe⟩ : ∃ p, p = (Wm.val l).1 := ⟨_, rfl⟩
        obtain ⟨q, hqe⟩ : ∃ q, q = (Wm.val l).2 := ⟨_, rfl⟩
        rw [← hpe] at c0
        rw [← hqe] at c1
        have HP := hide hpe
        have HQ := hide hqe
        clear hpe hqe
        gi_wp2
        have hKO : KeepsOthers W (((W.setCell ⟨w.heap.size, 0, none⟩ (.int .i64 p)).setCell ⟨w.heap.size, 1, none⟩ (.int .i64 q)).setCell ⟨w.heap.size + 1, 0, none⟩ (.int .i64 0)) := by
          repeat (first | exact KeepsOthers.refl _ | refine KeepsOthers.trans ?_ (KeepsOthers.setCell _ _ _))
        have q0 : (((W.setCell ⟨w.heap.size, 0, none⟩ (.int .i64 p)).setCell ⟨w.heap.size, 1, none⟩ (.int .i64 q)).setCell ⟨w.heap.size + 1, 0, none⟩ (.int .i64 0)).cell? ⟨w.heap.size, 0, none⟩ = some (.int .i64 p) :=
          (World.cell?_setCell_other _ _ _ _ (by simp)).trans ((World.cell?_setCell_other _ _ _ _ (by simp)).trans (World.cell?_setCell_same' _ _ _ (by rw [r0]; rfl)))
        have q1 : (((W.setCell ⟨w.heap.size, 0, none⟩ (.int .i64 p)).setCell ⟨w.heap.size, 1, none⟩ (.int .i64 q)).setCell ⟨w.heap.size + 1, 0, none⟩ (.int .i64 0)).cell? ⟨w.heap.size, 1, none⟩ = some (.int .i64 q) :=
          (World.cell?_setCell_other _ _ _ _ (by simp)).trans (World.cell?_setCell_same' _ _ _ (by rw [World.cell?_setCell_other _ _ _ _ (by simp), r1]; rfl))
        have q2 : (((W.setCell ⟨w.heap.size, 0, none⟩ (.int .i64 p)).setCell ⟨w.heap.size, 1, none⟩ (.int .i64 q)).setCell ⟨w.heap.size + 1, 0, none⟩ (.int .i64 0)).cell? ⟨w.heap.size + 1, 0, none⟩ = some (.int .i64 0) :=
          World.cell?_setCell_same' _ _ _ (by rw [World.cell?_setCell_other _ _ _ _ (by simp), World.cell?_setCell_other _ _ _ _ (by simp), e0]; rfl)
        have hBB : Below w.heap.size w (((W.setCell ⟨w.heap.size, 0, none⟩ (.int .i64 p)).setCell ⟨w.heap.size, 1, none⟩ (.int .i64 q)).setCell ⟨w.heap.size + 1, 0, none⟩ (.int .i64 0)) :=
          ((hB.setCell (p := ⟨w.heap.size, 0, none⟩) (Nat.le_refl _) _).setCell (p := ⟨w.heap.size, 1, none⟩) (Nat.le_refl _) _).setCell (p := ⟨w.heap.size + 1, 0, none⟩) (by simp) _
        have z0 : (((W.setCell ⟨w.heap.size, 0, none⟩ (.int .i64 p)).setCell ⟨w.heap.size, 1, none⟩ (.int .i64 q)).setCell ⟨w.heap.size + 1, 0, none⟩ (.int .i64 0)).frozen? ⟨w.heap.size, 0, none⟩ = false := by rw [World.frozen?_setCell, World.frozen?_setCell, World.frozen?_setCell]; exact g0
        have z1 : (((W.setCell ⟨w.heap.size, 0, none⟩ (.int .i64 p)).setCell ⟨w.heap.size, 1, none⟩ (.int .i64 q)).setCell ⟨w.heap.size + 1, 0, none⟩ (.int .i64 0)).frozen? ⟨w.heap.size, 1, none⟩ = false := by rw [World.frozen?_setCell, World.frozen?_setCell, World.frozen?_setCell]; exact g1
        have z2 : (((W.setCell ⟨w.heap.size, 0, none⟩ (.int .i64 p)).setCell ⟨w.heap.size, 1, none⟩ (.int .i64 q)).setCell ⟨w.heap.size + 1, 0, none⟩ (.int .i64 0)).frozen? ⟨w.heap.size + 1, 0, none⟩ = false := by rw [World.frozen?_setCell, World.frozen?_setCell, World.frozen?_setCell]; exact k0
        have hK' := hKO.same D _ hK rfl
        generalize ((W.setCell ⟨w.heap.size, 0, none⟩ (.int .i64 p)).setCell ⟨w.heap.size, 1, none⟩ (.int .i64 q)).setCell ⟨w.heap.size + 1, 0, none⟩ (.int .i64 0) = W3 at *
        have hg := grownBy_putObj' W3 D (.deferred none)
        have hr : ∀ r, some D = some r → ∃ o : Obj, W3.heap[r]? = some o ∧ o.isCells = false := fun r e => by cases e; exact ⟨_, hK', rfl⟩
        have y0 := cell_kept q0 hg hr
        have y1 := cell_kept q1 hg hr
        have y2 := cell_kept q2 hg hr
        have v0 := (frozen_kept q0 hg hr).trans z0
        have v1 := (frozen_kept q1 hg hr).trans z1
        have v2 := (frozen_kept q2 hg hr).trans z2
        refine ⟨by simp, .inl ⟨_, _, rfl, run_takeDeferred hK', ?_⟩⟩
        refine ⟨.tuple #[.agg #[.int .i64 p, .int .i64 q], .int .i64 0], by simp [results, Try.results32, go_sem, y0, y1, y2, v0, v1, v2], by rw [unhide HP, unhide HQ], hBB.trans (belowK_b (w := w) (Nat.le_refl _) _ D _ _ (by simp at hD; omega) hK' rfl rfl)⟩
      case stop =>
        rintro D c pre W _ ⟨j, hj, rfl⟩ hbig _
        exfalso
        rw [hzl] at hj
        have hv' := hv (k - j) (by omega)
        unfold BigV at hbig
        rw [hzl, ← hlen, foldV_val l h6 (by rw [hlen]; exact hv) j (by omega), hlen] at hbig
        simp only at hbig
        omega

theorem Value_ok (b o n c : Nat) (l : List Nat) (w : World) (hl : Row w (some ⟨b, o, none⟩) n 1 (nats .i64 l)) (h1 : 1 ≤ n) (hn : n ≤ 1000000) (h6 : ∀ x ∈ l, x ≤ 1000000) (hp : ∀ k, 0 < k → k < n → 1 ≤ l.getD k 0) (hv : ∀ k, k ≤ n → (Wm.val (l.drop k)).1 ≤ 1000000 ∧ (Wm.val (l.drop k)).2 ≤ 1000000) :
    Calls Try.prog 32 #[.slice (some ⟨b, o, none⟩) n c] w fun e w' => e = .returned (.tuple #[.agg #[.int .i64 ((Wm.val l).1 : Int), .int .i64 ((Wm.val l).2 : Int)], .int .i64 0]) ∧ Ext w w' :=
  callsIn_wide.1 (Value_in b o n c l w hl h1 hn h6 hp hv)
end Go.Proofs.Ytbnmdkboidpmaaa
