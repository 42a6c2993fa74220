/-
  The walk of the law FracSides.
-/
import Derived.Test.YtbnmdkboidpmaaaSides2
import Derived.Test.YtbnmdkboidpmaaaArith1
set_option linter.unusedVariables false
set_option linter.unusedSimpArgs false
namespace Wm

theorem low_unique {p Q m s t s' t' : Nat} (h : Low p Q m s t) (h' : Low p Q m s' t') : s' = s ∧ t' = t := by
  have a := h.2.2.2.2 s' t' h'.1 h'.2.1 h'.2.2.2.1
  have b := h'.2.2.2.2 s t h.1 h.2.1 h.2.2.2.1
  exact cross_lowest h'.2.2.1 h.2.2.1 h'.1 h.1 (by omega)
theorem high_unique {p Q m s t s' t' : Nat} (h : High p Q m s t) (h' : High p Q m s' t') : s' = s ∧ t' = t := by
  have a := h.2.2.2.2 s' t' h'.1 h'.2.1 h'.2.2.2.1
  have b := h'.2.2.2.2 s t h.1 h.2.1 h.2.2.2.1
  exact cross_lowest h'.2.2.1 h.2.2.1 h'.1 h.1 (by omega)
theorem low_30 : Low 30 13 5 9 4 := ⟨by omega, by omega, by decide, by omega, fun y q h1 h2 h => by
  have : q = 1 ∨ q = 2 ∨ q = 3 ∨ q = 4 ∨ q = 5 := by omega
  rcases this with rfl | rfl | rfl | rfl | rfl <;> omega⟩
theorem high_30 : High 30 13 5 7 3 := ⟨by omega, by omega, by decide, by omega, fun y q h1 h2 h => by
  have : q = 1 ∨ q = 2 ∨ q = 3 ∨ q = 4 ∨ q = 5 := by omega
  rcases this with rfl | rfl | rfl | rfl | rfl <;> omega⟩
theorem sides_facts {p Q m s t u v : Nat} (hQ : 1 ≤ Q) (hQ6 : Q ≤ 1000000) (hp : p ≤ 1000000) (hm : m ≤ 1000000) (hl : Low p Q m s t) (hh : High p Q m u v) :
    (1 ≤ t ∧ t ≤ m ∧ 1 ≤ v ∧ v ≤ m ∧ s * Q ≤ p * t ∧ p * v ≤ u * Q ∧ s ≤ 1000000000000 ∧ u ≤ 1000000000000) ∧ ((s = u ∧ t = v ∧ s * Q = p * t) ∨ (¬ (s = u ∧ t = v) ∧ u * t = s * v + 1)) ∧
      ∀ y q, 1 ≤ q → q ≤ m → y * t ≤ s * q ∨ u * q ≤ y * v := by
  refine ⟨⟨hl.1, hl.2.1, hh.1, hh.2.1, hl.2.2.2.1, hh.2.2.2.1, ?_, ?_⟩, ?_, fun y q h1 h2 => ?_⟩
  · have h1 : s * 1 ≤ s * Q := Nat.mul_le_mul_left s hQ
    have h2 : p * t ≤ 1000000 * 1000000 := Nat.mul_le_mul hp (by have := hl.2.1; omega)
    have := hl.2.2.2.1
    omega
  · have h1 := hh.2.2.2.2 p 1 (by omega) (by have := hl.1; have := hl.2.1; omega) (Nat.mul_le_mul_left p hQ)
    have h2 : p * v ≤ 1000000 * 1000000 := Nat.mul_le_mul hp (by have := hh.2.1; omega)
    omega
  · by_cases h : s = u ∧ t = v
    · obtain ⟨rfl, rfl⟩ := h
      have := hl.2.2.2.1
      have := hh.2.2.2.1
      exact .inl ⟨rfl, rfl, by omega⟩
    · exact .inr ⟨h, sides_det hQ hl hh h⟩
  · rcases Nat.le_total (y * Q) (p * q) with h | h
    · exact .inl (hl.2.2.2.2 y q h1 h2 h)
    · exact .inr (hh.2.2.2.2 y q h1 h2 h)
end Wm
namespace Go.Proofs.Ytbnmdkboidpmaaa
open Go.RowKit Go.BigFrame
attribute [local go_sem] Nat.lt_add_right

theorem near_30 (w : World) : Calls Try.prog 33 #[.agg #[.int .i64 30, .int .i64 13], .int .i64 5] w fun e w' =>
    e = .returned (.tuple #[.agg #[.int .i64 9, .int .i64 4], .agg #[.int .i64 7, .int .i64 3], .int .i64 0]) ∧ Ext w w' :=
  (Near_ok 30 13 5 w (by omega) (by omega) (by omega) (by omega) (by omega)).mono fun e w' ⟨⟨s, t, u, v, hl, hh, he⟩, hx⟩ => ⟨by
    obtain ⟨rfl, rfl⟩ := Wm.low_unique Wm.low_30 hl
    obtain ⟨rfl, rfl⟩ := Wm.high_unique Wm.high_30 hh
    exact he, hx⟩

set_option maxRecDepth 100000 in
set_option maxHeartbeats 2000000 in
theorem Near_bad (a b most : Int) (w : World) (h : ¬ (rightB a b = true ∧ 1 ≤ most ∧ most ≤ 1000000)) :
    Calls Try.prog 33 #[.agg #[.int .i64 a, .int .i64 b], .int .i64 most] w fun e w' =>
      e = .returned (.tuple #[.agg #[.int .i64 0, .int .i64 0], .agg #[.int .i64 0, .int .i64 0], .int .i64 1]) ∧ Ext w w' := by
  have cr : Hid (∀ w : World, Calls Try.prog 51 #[.agg #[.int .i64 a, .int .i64 b]] w fun e w' => e = .returned (.bool (rightB a b)) ∧ Ext w w') := hide (right_any a b)
  generalize rightB a b = r at *
  have hcase : r = false ∨ (r = true ∧ most < 1) ∨ (r = true ∧ ¬ most < 1 ∧ 1000000 < most) := by
    cases r
    · exact .inl rfl
    · by_cases h1 : most < 1
      · exact .inr (.inl ⟨rfl, h1⟩)
      · exact .inr (.inr ⟨rfl, h1, Classical.byContradiction fun h2 => h ⟨rfl, by omega, by omega⟩⟩)
  clear h
  have fin : ∀ w1 : World, Hid (Ext ((((w.alloc (.cells #[.int .i64 a, .int .i64 b] 38)).alloc (.cells #[.int .i64 0, .int .i64 0] 38)).alloc (.cells #[.int .i64 0, .int .i64 0] 38))) w1 →
      (w1.cell? ⟨w.heap.size + 1, 0, none⟩ = some (.int .i64 0) ∧ w1.cell? ⟨w.heap.size + 1, 1, none⟩ = some (.int .i64 0) ∧ w1.cell? ⟨w.heap.size + 2, 0, none⟩ = some (.int .i64 0) ∧ w1.cell? ⟨w.heap.size + 2, 1, none⟩ = some (.int .i64 0)) ∧
      (w1.frozen? ⟨w.heap.size + 1, 0, none⟩ = false ∧ w1.frozen? ⟨w.heap.size + 1, 1, none⟩ = false ∧ w1.frozen? ⟨w.heap.size + 2, 0, none⟩ = false ∧ w1.frozen? ⟨w.heap.size + 2, 1, none⟩ = false) ∧ Ext w w1) := fun w1 => hide fun E1 =>
    ⟨⟨E1.keep (by simp [go_sem]), E1.keep (by simp [go_sem]), E1.keep (by simp [go_sem]), E1.keep (by simp [go_sem])⟩,
     ⟨(E1.frozen (p := ⟨w.heap.size + 1, 0, none⟩) (by simp)).trans (by simp [go_sem]), (E1.frozen (p := ⟨w.heap.size + 1, 1, none⟩) (by simp)).trans (by simp [go_sem]), (E1.frozen (p := ⟨w.heap.size + 2, 0, none⟩) (by simp)).trans (by simp [go_sem]), (E1.frozen (p := ⟨w.heap.size + 2, 1, none⟩) (by simp)).trans (by simp [go_sem])⟩,
     ((((Ext.refl w).alloc _).alloc _).alloc _).trans E1⟩
  rcases hcase with rfl | ⟨rfl, h1⟩ | ⟨rfl, h1, h2⟩
  · go_enter Try.func33, Try.ntmps33
    go_wp2_with fail
    refine (unhide cr _).mono ?_
    rintro e w1 ⟨rfl, E1⟩
    obtain ⟨⟨r0, r1, r2, r3⟩, ⟨k0, k1, k2, k3⟩, F1⟩ := unhide (fin w1) E1
    clear fin E1
    go_wp2
    refine bodyPost_ret (v := .tuple #[.agg #[.int .i64 0, .int .i64 0], .agg #[.int .i64 0, .int .i64 0], .int .i64 1]) (by simp [results, Try.results33, go_sem, r0, r1, r2, r3, k0, k1, k2, k3]) rfl ⟨rfl, ?_⟩
    exact (((F1.setCell (p := ⟨w.heap.size + 1, 0, none⟩) (by simp) _).setCell (p := ⟨w.heap.size + 1, 1, none⟩) (by simp) _).setCell (p := ⟨w.heap.size + 1 + 1, 0, none⟩) (by simp; omega) _).setCell (p := ⟨w.heap.size + 1 + 1, 1, none⟩) (by simp; omega) _
  · have d1 : decide (most < 1) = true := decide_eq_true h1
    go_enter Try.func33, Try.ntmps33
    go_wp2_with fail
    refine (unhide cr _).mono ?_
    rintro e w1 ⟨rfl, E1⟩
    obtain ⟨⟨r0, r1, r2, r3⟩, ⟨k0, k1, k2, k3⟩, F1⟩ := unhide (fin w1) E1
    clear fin E1
    go_wp2
    refine bodyPost_ret (v := .tuple #[.agg #[.int .i64 0, .int .i64 0], .agg #[.int .i64 0, .int .i64 0], .int .i64 1]) (by simp [results, Try.results33, go_sem, r0, r1, r2, r3, k0, k1, k2, k3]) rfl ⟨rfl, ?_⟩
    exact (((F1.setCell (p := ⟨w.heap.size + 1, 0, none⟩) (by simp) _).setCell (p := ⟨w.heap.size + 1, 1, none⟩) (by simp) _).setCell (p := ⟨w.heap.size + 1 + 1, 0, none⟩) (by simp; omega) _).setCell (p := ⟨w.heap.size + 1 + 1, 1, none⟩) (by simp; omega) _
  · have d1 : decide (most < 1) = false := decide_eq_false h1
    have d2 : decide (1000000 < most) = true := decide_eq_true h2
    clear h1 h2
    go_enter Try.func33, Try.ntmps33
    go_wp2_with fail
    refine (unhide cr _).mono ?_
    rintro e w1 ⟨rfl, E1⟩
    obtain ⟨⟨r0, r1, r2, r3⟩, ⟨k0, k1, k2, k3⟩, F1⟩ := unhide (fin w1) E1
    clear fin E1
    go_wp2
    refine bodyPost_ret (v := .tuple #[.agg #[.int .i64 0, .int .i64 0], .agg #[.int .i64 0, .int .i64 0], .int .i64 1]) (by simp [results, Try.results33, go_sem, r0, r1, r2, r3, k0, k1, k2, k3]) rfl ⟨rfl, ?_⟩
    exact (((F1.setCell (p := ⟨w.heap.size + 1, 0, none⟩) (by simp) _).setCell (p := ⟨w.heap.size + 1, 1, none⟩) (by simp) _).setCell (p := ⟨w.heap.size + 1 + 1, 0, none⟩) (by simp; omega) _).setCell (p := ⟨w.heap.size + 1 + 1, 1, none⟩) (by simp; omega) _

set_option maxRecDepth 100000 in
set_option maxHeartbeats 4000000 in
theorem fsides_any (xp xq yp yq most : Int) (w : World) :
    Calls Try.prog 13 #[.agg #[.int .i64 xp, .int .i64 xq], .agg #[.int .i64 yp, .int .i64 yq], .int .i64 most] w fun e w' => e = .returned (.bool true) ∧ Ext w w' := by
  by_cases hgood : rightB xp xq = true ∧ 1 ≤ most ∧ most ≤ 1000000
  · obtain ⟨hr, hm1, hm6⟩ := hgood
    have hr' : 1 ≤ xq ∧ xq ≤ 1000000 ∧ 0 ≤ xp ∧ xp ≤ 1000000 := by
      unfold rightB at hr
      split at hr
      · assumption
      · cases hr
    obtain ⟨p, rfl⟩ := Int.eq_ofNat_of_zero_le hr'.2.2.1
    obtain ⟨Q, rfl⟩ := Int.eq_ofNat_of_zero_le (show 0 ≤ xq by omega)
    obtain ⟨m, rfl⟩ := Int.eq_ofNat_of_zero_le (show 0 ≤ most by omega)
    have C := hide (fun w : World => Near_ok p Q m w (by omega) (by omega) (by omega) (by omega) (by omega))
    have hQ1 : 1 ≤ Q := by omega
    have hQ6 : Q ≤ 1000000 := by omega
    have hp6 : p ≤ 1000000 := by omega
    have hmN : m ≤ 1000000 := by omega
    clear hr hr' hm1 hm6
    go_enter Try.func13, Try.ntmps13
    go_wp2_with fail
    refine (near_30 _).mono ?_
    rintro e w1 ⟨rfl, E1⟩
    have x0 := E1.keep (a := ⟨w.heap.size, 0, none⟩) (v := .int .i64 p) (by simp [go_sem])
    have x1 := E1.keep (a := ⟨w.heap.size, 1, none⟩) (v := .int .i64 Q) (by simp [go_sem])
    have y0 := E1.keep (a := ⟨w.heap.size + 1, 0, none⟩) (v := .int .i64 yp) (by simp [go_sem])
    have y1 := E1.keep (a := ⟨w.heap.size + 1, 1, none⟩) (v := .int .i64 yq) (by simp [go_sem])
    have F1 : Ext w w1 := Ext.trans (by repeat (first | exact Ext.refl w | refine Ext.alloc ?_ _ | refine Ext.drew ?_ | refine Ext.drewN ?_ _ | (refine Ext.trans ?_ (plus_ext _ _)) | (refine Ext.setCell ?_ (by have := Ext.size Ext.refl w; simp; omega) _))) E1
    have S1 : w.heap.size + 2 ≤ w1.heap.size := by have := E1.size; simpa using this
    clear E1
    go_upto_region 4 with fail
    have EX : Ext w1 ((w1.alloc (.cells #[.int .i64 9, .int .i64 4] 38)).alloc (.cells #[.int .i64 7, .int .i64 3] 38)) := ((Ext.refl w1).alloc _).alloc _
    have x0 := EX.keep x0
    have x1 := EX.keep x1
    have y0 := EX.keep y0
    have y1 := EX.keep y1
    have F2 := F1.trans EX
    have S2 := Nat.le_trans S1 EX.size
    clear F1 S1 EX
    generalize (w1.alloc (.cells #[.int .i64 9, .int .i64 4] 38)).alloc (.cells #[.int .i64 7, .int .i64 3] 38) = wx at *
    go_wp2_with fail
    refine (unhide C _).mono ?_
    rintro e w2 ⟨⟨s, t, u, v, hlow, hhigh, rfl⟩, E2⟩
    have x0 := E2.keep x0
    have x1 := E2.keep x1
    have y0 := E2.keep y0
    have y1 := E2.keep y1
    have F3 := F2.trans E2
    have S3 := Nat.le_trans S2 E2.size
    clear F2 S2 E2 C
    have HL := hide hlow
    have HH := hide hhigh
    clear hlow hhigh
    go_upto_region 5 with fail
    have EX : Ext w2 ((w2.alloc (.cells #[.int .i64 s, .int .i64 t] 38)).alloc (.cells #[.int .i64 u, .int .i64 v] 38)) := ((Ext.refl w2).alloc _).alloc _
    have x0 := EX.keep x0
    have x1 := EX.keep x1
    have y0 := EX.keep y0
    have y1 := EX.keep y1
    have F4 := F3.trans EX
    have a0 : ((w2.alloc (.cells #[.int .i64 s, .int .i64 t] 38)).alloc (.cells #[.int .i64 u, .int .i64 v] 38)).cell? ⟨w2.heap.size, 0, none⟩ = some (.int .i64 s) := by simp [go_sem]
    have a1 : ((w2.alloc (.cells #[.int .i64 s, .int .i64 t] 38)).alloc (.cells #[.int .i64 u, .int .i64 v] 38)).cell? ⟨w2.heap.size, 1, none⟩ = some (.int .i64 t) := by simp [go_sem]
    have b0 : ((w2.alloc (.cells #[.int .i64 s, .int .i64 t] 38)).alloc (.cells #[.int .i64 u, .int .i64 v] 38)).cell? ⟨w2.heap.size + 1, 0, none⟩ = some (.int .i64 u) := by simp [go_sem]
    have b1 : ((w2.alloc (.cells #[.int .i64 s, .int .i64 t] 38)).alloc (.cells #[.int .i64 u, .int .i64 v] 38)).cell? ⟨w2.heap.size + 1, 1, none⟩ = some (.int .i64 v) := by simp [go_sem]
    clear F3 S3 EX
    generalize (w2.alloc (.cells #[.int .i64 s, .int .i64 t] 38)).alloc (.cells #[.int .i64 u, .int .i64 v] 38) = w3 at *
    obtain ⟨⟨t1, tm, v1, vm, hA, hB, sb, ub⟩, hcase, hy⟩ := Wm.sides_facts hQ1 hQ6 hp6 hmN (unhide HL) (unhide HH)
    have q1 : s * Q ≤ 1000000000000 * 1000000 := Nat.mul_le_mul sb hQ6
    have q2 : p * t ≤ 1000000 * 1000000 := Nat.mul_le_mul hp6 (by omega)
    have q3 : u * Q ≤ 1000000000000 * 1000000 := Nat.mul_le_mul ub hQ6
    have q4 : p * v ≤ 1000000 * 1000000 := Nat.mul_le_mul hp6 (by omega)
    have q5 : u * t ≤ 1000000000000 * 1000000 := Nat.mul_le_mul ub (by omega)
    have q6 : s * v ≤ 1000000000000 * 1000000 := Nat.mul_le_mul sb (by omega)
    have c1 : ((s * Q : Nat) : Int) = (s : Int) * (Q : Int) := Int.natCast_mul _ _
    have c2 : ((p * t : Nat) : Int) = (p : Int) * (t : Int) := Int.natCast_mul _ _
    have c3 : ((u * Q : Nat) : Int) = (u : Int) * (Q : Int) := Int.natCast_mul _ _
    have c4 : ((p * v : Nat) : Int) = (p : Int) * (v : Int) := Int.natCast_mul _ _
    have c5 : ((u * t : Nat) : Int) = (u : Int) * (t : Int) := Int.natCast_mul _ _
    have c6 : ((s * v : Nat) : Int) = (s : Int) * (v : Int) := Int.natCast_mul _ _
    have d1 : decide ((t : Int) < 1) = false := decide_eq_false (by omega)
    have d2 : decide ((v : Int) < 1) = false := decide_eq_false (by omega)
    have d3 : decide ((m : Int) < (t : Int)) = false := decide_eq_false (by omega)
    have d4 : decide ((m : Int) < (v : Int)) = false := decide_eq_false (by omega)
    have d5 : decide ((p : Int) * (t : Int) < (s : Int) * (Q : Int)) = false := decide_eq_false (by omega)
    have d6 : decide ((u : Int) * (Q : Int) < (p : Int) * (v : Int)) = false := decide_eq_false (by omega)
    have e1 : IntKind.i64.wrap ((s : Int) * (Q : Int)) = (s : Int) * (Q : Int) := IntWalk.i64_in _ (by omega)
    have e2 : IntKind.i64.wrap ((p : Int) * (t : Int)) = (p : Int) * (t : Int) := IntWalk.i64_in _ (by omega)
    have e3 : IntKind.i64.wrap ((u : Int) * (Q : Int)) = (u : Int) * (Q : Int) := IntWalk.i64_in _ (by omega)
    have e4 : IntKind.i64.wrap ((p : Int) * (v : Int)) = (p : Int) * (v : Int) := IntWalk.i64_in _ (by omega)
    have e5 : IntKind.i64.wrap ((u : Int) * (t : Int)) = (u : Int) * (t : Int) := IntWalk.i64_in _ (by omega)
    have e6 : IntKind.i64.wrap ((s : Int) * (v : Int)) = (s : Int) * (v : Int) := IntWalk.i64_in _ (by omega)
    rcases hcase with ⟨rfl, rfl, heq⟩ | ⟨hne, hdet⟩
    · have b : ((s : Int) * (Q : Int) == (p : Int) * (t : Int)) = true := by rw [beq_iff_eq]; omega
      clear q1 q2 q3 q4 q5 q6 c1 c2 c3 c4 c5 c6 hA hB sb ub hy heq t1 tm v1 vm HL HH hQ1 hQ6 hp6 hmN
      generalize (s : Int) = S at *
      generalize (t : Int) = T at *
      generalize (p : Int) = P at *
      generalize (Q : Int) = Q' at *
      generalize (m : Int) = M at *
      go_wp2
      go_ret
      exact ⟨rfl, F4⟩
    · have hdI : (u : Int) * (t : Int) - (s : Int) * (v : Int) = 1 := by omega
      have b : (((u : Int) * (t : Int) - (s : Int) * (v : Int)) != 1) = false := by rw [hdI]; rfl
      have e7 : IntKind.i64.wrap ((u : Int) * (t : Int) - (s : Int) * (v : Int)) = (u : Int) * (t : Int) - (s : Int) * (v : Int) := IntWalk.i64_in _ (by omega)
      have hne' : ¬ ((s : Int) = (u : Int) ∧ (t : Int) = (v : Int)) := fun h => hne ⟨by omega, by omega⟩
      have hY : ¬ yq < 1 → ¬ (m : Int) < yq → ¬ yp < 0 → ¬ 1000000 < yp →
          (decide (yp * (t : Int) ≤ (s : Int) * yq) = true ∨ (decide (yp * (t : Int) ≤ (s : Int) * yq) = false ∧ decide ((u : Int) * yq ≤ yp * (v : Int)) = true)) ∧
          IntKind.i64.wrap (yp * (t : Int)) = yp * (t : Int) ∧ IntKind.i64.wrap ((s : Int) * yq) = (s : Int) * yq ∧ IntKind.i64.wrap (yp * (v : Int)) = yp * (v : Int) ∧ IntKind.i64.wrap ((u : Int) * yq) = (u : Int) * yq := fun h1 h2 h3 h4 => by
        obtain ⟨y, rfl⟩ := Int.eq_ofNat_of_zero_le (show 0 ≤ yp by omega)
        obtain ⟨q, rfl⟩ := Int.eq_ofNat_of_zero_le (show 0 ≤ yq by omega)
        have g1 : y * t ≤ 1000000 * 1000000 := Nat.mul_le_mul (by omega) (by omega)
        have g2 : s * q ≤ 1000000000000 * 1000000 := Nat.mul_le_mul sb (by omega)
        have g3 : y * v ≤ 1000000 * 1000000 := Nat.mul_le_mul (by omega) (by omega)
        have g4 : u * q ≤ 1000000000000 * 1000000 := Nat.mul_le_mul ub (by omega)
        have f1 : ((y * t : Nat) : Int) = (y : Int) * (t : Int) := Int.natCast_mul _ _
        have f2 : ((s * q : Nat) : Int) = (s : Int) * (q : Int) := Int.natCast_mul _ _
        have f3 : ((y * v : Nat) : Int) = (y : Int) * (v : Int) := Int.natCast_mul _ _
        have f4 : ((u * q : Nat) : Int) = (u : Int) * (q : Int) := Int.natCast_mul _ _
        refine ⟨?_, IntWalk.i64_in _ (by omega), IntWalk.i64_in _ (by omega), IntWalk.i64_in _ (by omega), IntWalk.i64_in _ (by omega)⟩
        by_cases hle : (y : Int) * (t : Int) ≤ (s : Int) * (q : Int)
        · exact .inl (decide_eq_true hle)
        · refine .inr ⟨decide_eq_false hle, decide_eq_true ?_⟩
          rcases hy y q (by omega) (by omega) with h | h <;> omega
      clear q1 q2 q3 q4 q5 q6 c1 c2 c3 c4 c5 c6 hA hB sb ub hy hdet t1 tm v1 vm HL HH hQ1 hQ6 hp6 hmN hne hdI
      generalize (s : Int) = S at *
      generalize (t : Int) = T at *
      generalize (u : Int) = U at *
      generalize (v : Int) = V at *
      generalize (p : Int) = P at *
      generalize (Q : Int) = Q' at *
      generalize (m : Int) = M at *
      have hcases : yq < 1 ∨ (¬ yq < 1 ∧ M < yq) ∨ (¬ yq < 1 ∧ ¬ M < yq ∧ yp < 0) ∨ (¬ yq < 1 ∧ ¬ M < yq ∧ ¬ yp < 0 ∧ 1000000 < yp) ∨ (¬ yq < 1 ∧ ¬ M < yq ∧ ¬ yp < 0 ∧ ¬ 1000000 < yp) := by omega
      have hST : (S ≠ U) ∨ (S = U ∧ T ≠ V) := by omega
      have HY := hide hY
      clear hY hne'
      have bST : (S == U) = false ∨ (S == U) = true ∧ (T == V) = false := by
        rcases hST with hST | ⟨hSU, hST⟩
        · exact .inl (by rw [beq_eq_false_iff_ne]; exact hST)
        · exact .inr ⟨by rw [hSU]; simp, by rw [beq_eq_false_iff_ne]; exact hST⟩
      have hSTx := hST
      clear hST
      have HC := hide hcases
      have HN : Hid (¬ (S = U ∧ T = V)) := hide (fun ⟨a, b⟩ => hSTx.elim (fun h => h a) (fun h => h.2 b))
      clear hSTx
      clear hcases
      go_upto_region 9 with fail
      go_upto_region 11 with fail
      all_goals try (exfalso; have hN := unhide HN; simp at hN; done)
      all_goals try (exfalso; have hN := unhide HN; exact hN ⟨by assumption, by assumption⟩)
      all_goals
        clear bST
        try (rename_i hA hB K1 a1 K2 a2; have hA' : S = U := hA; clear hA' hA hB)
        rcases unhide HC with hc | ⟨h1, hc⟩ | ⟨h1, h2, hc⟩ | ⟨h1, h2, h3, hc⟩ | ⟨h1, h2, h3, h4⟩
        · have t1 : decide (yq < 1) = true := decide_eq_true (by omega)
          clear hc
          go_wp2
          go_ret
          exact ⟨rfl, F4⟩
        · have t1 : decide (yq < 1) = false := decide_eq_false (by omega)
          have t2 : decide (M < yq) = true := decide_eq_true (by omega)
          clear hc h1
          go_wp2
          go_ret
          exact ⟨rfl, F4⟩
        · have t1 : decide (yq < 1) = false := decide_eq_false (by omega)
          have t2 : decide (M < yq) = false := decide_eq_false (by omega)
          have t3 : decide (yp < 0) = true := decide_eq_true (by omega)
          clear hc h1 h2
          go_wp2
          go_ret
          exact ⟨rfl, F4⟩
        · have t1 : decide (yq < 1) = false := decide_eq_false (by omega)
          have t2 : decide (M < yq) = false := decide_eq_false (by omega)
          have t3 : decide (yp < 0) = false := decide_eq_false (by omega)
          have t4 : decide (1000000 < yp) = true := decide_eq_true (by omega)
          clear hc h1 h2 h3
          go_wp2
          go_ret
          exact ⟨rfl, F4⟩
        · obtain ⟨hor, m1, m2, m3, m4⟩ := unhide HY (by omega) (by omega) (by omega) (by omega)
          have t1 : decide (yq < 1) = false := decide_eq_false (by omega)
          have t2 : decide (M < yq) = false := decide_eq_false (by omega)
          have t3 : decide (yp < 0) = false := decide_eq_false (by omega)
          have t4 : decide (1000000 < yp) = false := decide_eq_false (by omega)
          clear h1 h2 h3 h4
          rcases hor with o1 | ⟨o1, o2⟩
          · go_wp2
            go_ret
            exact ⟨rfl, F4⟩
          · go_wp2
            go_ret
            exact ⟨rfl, F4⟩
  · have C := hide (Near_bad xp xq most · hgood)
    clear hgood
    go_enter Try.func13, Try.ntmps13
    go_wp2_with fail
    refine (near_30 _).mono ?_
    rintro e w1 ⟨rfl, E1⟩
    have x0 := E1.keep (a := ⟨w.heap.size, 0, none⟩) (v := .int .i64 xp) (by simp [go_sem])
    have x1 := E1.keep (a := ⟨w.heap.size, 1, none⟩) (v := .int .i64 xq) (by simp [go_sem])
    have F1 : Ext w w1 := Ext.trans (by repeat (first | exact Ext.refl w | refine Ext.alloc ?_ _ | refine Ext.drew ?_ | refine Ext.drewN ?_ _ | (refine Ext.trans ?_ (plus_ext _ _)) | (refine Ext.setCell ?_ (by have := Ext.size Ext.refl w; simp; omega) _))) E1
    clear E1
    go_upto_region 4 with fail
    have EX : Ext w1 ((w1.alloc (.cells #[.int .i64 9, .int .i64 4] 38)).alloc (.cells #[.int .i64 7, .int .i64 3] 38)) := ((Ext.refl w1).alloc _).alloc _
    have x0 := EX.keep x0
    have x1 := EX.keep x1
    have F2 := F1.trans EX
    clear F1 EX
    generalize (w1.alloc (.cells #[.int .i64 9, .int .i64 4] 38)).alloc (.cells #[.int .i64 7, .int .i64 3] 38) = wx at *
    go_wp2_with fail
    refine (unhide C _).mono ?_
    rintro e w2 ⟨rfl, E2⟩
    go_wp2
    go_ret
    exact ⟨rfl, (by repeat (first | exact F2.trans E2 | refine Ext.alloc ?_ _ | refine Ext.drew ?_ | refine Ext.drewN ?_ _ | (refine Ext.trans ?_ (plus_ext _ _)) | (refine Ext.setCell ?_ (by have := Ext.size F2.trans E2; simp; omega) _)))⟩

end Go.Proofs.Ytbnmdkboidpmaaa
