/-
  choosePivotOrdered at uint16, with order2, median, medianAdjacent: which place is chosen does not matter.
-/
import Derived.Test.YtkebldjepdhioaaSrt1
set_option linter.unusedVariables false
set_option linter.unusedSimpArgs false
namespace Go.Proofs.Ytkebldjepdhioaa
open Go.RowKit Go.BigFrame

/-- The row is read; the count of exchanges lies in block q. -/
structure Md (w : World) (g n : Nat) (f : Nat → Nat) (q s : Nat) : Prop where
  cell : ∀ i, i < n → w.cell? ⟨g, i, none⟩ = some (.int .u16 ((f i : Nat) : Int))
  hg : g < w.heap.size
  hq : q < w.heap.size
  hgq : g ≠ q
  cnt : w.cell? ⟨q, 0, none⟩ = some (.int .i64 (s : Int))
  fro : w.frozen? ⟨q, 0, none⟩ = false
section
variable {w w' : World} {g n q s t : Nat} {f : Nat → Nat}
theorem Md.keep (M : Md w g n f q s) (E : Ext w w') : Md w' g n f q s :=
  ⟨fun i hi => (E.cell (p := ⟨g, i, none⟩) M.hg).trans (M.cell i hi), Nat.lt_of_lt_of_le M.hg E.size, Nat.lt_of_lt_of_le M.hq E.size, M.hgq, (E.cell (p := ⟨q, 0, none⟩) M.hq).trans M.cnt, (E.frozen (p := ⟨q, 0, none⟩) M.hq).trans M.fro⟩
theorem Md.set (M : Md w g n f q s) (t : Nat) : Md (w.setCell ⟨q, 0, none⟩ (.int .i64 (t : Int))) g n f q t := by
  have h := M.hgq
  exact ⟨fun i hi => (World.cell?_setCell_other _ _ _ _ (by intro e; injection e with e; exact h e.symm)).trans (M.cell i hi), by simpa using M.hg, by simpa using M.hq, h, World.cell?_setCell_same' _ _ _ (by rw [M.cnt]; rfl), by rw [World.frozen?_setCell]; exact M.fro⟩
end
def O2Post (g n A B : Nat) (f : Nat → Nat) (q s : Nat) (w : World) (e : Ending) (w' : World) : Prop := ∃ u v s' : Nat, e = .returned (.tuple #[.int .i64 (u : Int), .int .i64 (v : Int)]) ∧ (A ≤ u ∧ u < B) ∧ (A ≤ v ∧ v < B) ∧ s' ≤ s + 1 ∧ Md w' g n f q s' ∧ Oth q w w'
set_option maxRecDepth 100000 in
set_option maxHeartbeats 2000000 in
theorem order2_u16 (g n c A B x y q s : Nat) (f : Nat → Nat) (w : World) (M : Md w g n f q s) (hB : B ≤ n) (hn : n ≤ 1000) (hs : s ≤ 1000) (hx : A ≤ x ∧ x < B) (hy : A ≤ y ∧ y < B) :
    Calls Try.prog 78 #[.slice (some ⟨g, 0, none⟩) n c, .int .i64 x, .int .i64 y, .pointer (some ⟨q, 0, none⟩)] w fun e w' => O2Post g n A B f q s w e w' := by
  have hxn : x < n := by omega
  have hyn : y < n := by omega
  have c1 := M.cell x hxn
  have c2 := M.cell y hyn
  have c3 := M.cnt
  have f3 := M.fro
  have HM := hide M
  have CL := hide (fun (x y : Nat) (w : World) => Less_u16 x y w)
  generalize f x = u at *
  generalize f y = v at *
  have CX := hide (fun w : World => unhide CL v u w)
  clear M CL
  by_cases hl : v < u
  · rw [decide_eq_true hl] at CX
    go_enter Try.func78, Try.ntmps78
    go_wp2
    go_quiet ((go_at_call 67; with_reducible exact Calls.quiet_of (unhide CX _)))
    have HM2 := hide ((unhide HM).keep ((Ext.refl w).drewN nq))
    have HO := hide (Oth.of_ext (g := q) ((Ext.refl w).drewN nq))
    go_wp2
    go_ret2
    exact ⟨y, x, s + 1, rfl, hy, hx, Nat.le_refl _, (unhide HM2).set (s + 1), (unhide HO).set _⟩
  · rw [decide_eq_false hl] at CX
    go_enter Try.func78, Try.ntmps78
    go_wp2
    go_quiet ((go_at_call 67; with_reducible exact Calls.quiet_of (unhide CX _)))
    have HM2 := hide ((unhide HM).keep ((Ext.refl w).drewN nq))
    have HO := hide (Oth.of_ext (g := q) ((Ext.refl w).drewN nq))
    go_wp2
    go_ret2
    exact ⟨x, y, s, rfl, hx, hy, by omega, unhide HM2, unhide HO⟩

def MdPost (g n A B : Nat) (f : Nat → Nat) (q s : Nat) (w : World) (e : Ending) (w' : World) : Prop := ∃ u s' : Nat, e = .returned (.int .i64 (u : Int)) ∧ (A ≤ u ∧ u < B) ∧ s' ≤ s + 3 ∧ Md w' g n f q s' ∧ Oth q w w'
set_option maxRecDepth 100000 in
set_option maxHeartbeats 2000000 in
theorem median_u16 (g n c A B x y z q s : Nat) (f : Nat → Nat) (w : World) (M : Md w g n f q s) (hB : B ≤ n) (hn : n ≤ 1000) (hs : s ≤ 900) (hx : A ≤ x ∧ x < B) (hy : A ≤ y ∧ y < B) (hz : A ≤ z ∧ z < B) :
    Calls Try.prog 76 #[.slice (some ⟨g, 0, none⟩) n c, .int .i64 x, .int .i64 y, .int .i64 z, .pointer (some ⟨q, 0, none⟩)] w fun e w' => MdPost g n A B f q s w e w' := by
  have C := hide (fun (x y s : Nat) (w : World) (M : Md w g n f q s) (hs : s ≤ 1000) (hx : A ≤ x ∧ x < B) (hy : A ≤ y ∧ y < B) => order2_u16 g n c A B x y q s f w M hB hn hs hx hy)
  have HM := hide M
  clear M
  go_enter Try.func76, Try.ntmps76
  go_wp2_with fail
  refine (unhide C x y s _ (unhide HM) (by omega) hx hy).mono ?_
  rintro e w1 ⟨x, y, s1, rfl, hx, hy, h1, M1, O1⟩
  have HM1 := hide M1
  have HO1 := hide O1
  clear M1 O1
  go_wp2_with fail
  refine (unhide C y z s1 _ (unhide HM1) (by omega) hy hz).mono ?_
  rintro e w2 ⟨y, z, s2, rfl, hy, hz, h2, M2, O2⟩
  have HM2 := hide M2
  have HO2 := hide ((unhide HO1).trans O2)
  clear M2 O2
  go_wp2_with fail
  refine (unhide C x y s2 _ (unhide HM2) (by omega) hx hy).mono ?_
  rintro e w3 ⟨x, y, s3, rfl, hx, hy, h3, M3, O3⟩
  have HM3 := hide M3
  have HO3 := hide ((unhide HO2).trans O3)
  clear M3 O3
  go_wp2
  go_ret
  exact ⟨y, s3, rfl, hy, by omega, unhide HM3, unhide HO3⟩
set_option maxRecDepth 100000 in
set_option maxHeartbeats 2000000 in
theorem medianAdj_u16 (g n c A B x q s : Nat) (f : Nat → Nat) (w : World) (M : Md w g n f q s) (hB : B ≤ n) (hn : n ≤ 1000) (hs : s ≤ 900) (hx : A + 1 ≤ x ∧ x + 1 < B) :
    Calls Try.prog 75 #[.slice (some ⟨g, 0, none⟩) n c, .int .i64 x, .pointer (some ⟨q, 0, none⟩)] w fun e w' => MdPost g n A B f q s w e w' := by
  have C := hide (median_u16 g n c A B (x - 1) x (x + 1) q s f w M hB hn hs (by omega) (by omega) (by omega))
  have h1 : (x : Int) - 1 = ((x - 1 : Nat) : Int) := by omega
  have h2 : (x : Int) + 1 = ((x + 1 : Nat) : Int) := by omega
  obtain ⟨y, hy⟩ : ∃ y, y = x - 1 := ⟨_, rfl⟩
  obtain ⟨z, hz⟩ : ∃ z, z = x + 1 := ⟨_, rfl⟩
  rw [← hy] at C h1
  rw [← hz] at C h2
  have hyn : y ≤ 1000 := by omega
  have hzn : z ≤ 1001 := by omega
  clear hy hz M
  go_enter Try.func75, Try.ntmps75
  go_wp2_with fail
  refine (unhide C).mono ?_
  rintro e w1 ⟨u, s1, rfl, hu, h1, M1, O1⟩
  have HM1 := hide M1
  have HO1 := hide O1
  clear M1 O1
  go_wp2
  go_ret
  exact ⟨u, s1, rfl, hu, h1, unhide HM1, unhide HO1⟩

def PivPost (a b : Nat) (w : World) (e : Ending) (w' : World) : Prop := ∃ p t : Nat, e = .returned (.tuple #[.int .i64 (p : Int), .int .i64 (t : Int)]) ∧ (a ≤ p ∧ p < b) ∧ t ≤ 2 ∧ Ext w w'
set_option maxRecDepth 100000 in
set_option maxHeartbeats 4000000 in
theorem choose_u16 (g n c a b : Nat) (f : Nat → Nat) (w : World) (D : ∀ i, i < n → w.cell? ⟨g, i, none⟩ = some (.int .u16 ((f i : Nat) : Int))) (hg : g < w.heap.size) (hab : a + 12 < b) (hb : b ≤ n) (hn : n ≤ 1000) :
    Calls Try.prog 64 #[.slice (some ⟨g, 0, none⟩) n c, .int .i64 a, .int .i64 b] w fun e w' => PivPost a b w e w' := by
  obtain ⟨L, hL⟩ : ∃ L, L = b - a := ⟨_, rfl⟩
  obtain ⟨v, hv⟩ : ∃ v, v = L / 4 := ⟨_, rfl⟩
  have hLI : (b : Int) - (a : Int) = (L : Int) := by omega
  have hvI : (L : Int).tdiv 4 = (v : Int) := by rw [hv]; rfl
  have hvI2 : (L : Int) / 4 = (v : Int) := by rw [hv]; rfl
  have hvn : v ≤ 250 := by omega
  have hLn : L ≤ 1000 := by omega
  have hL12 : 12 < L := by omega
  obtain ⟨i, hi⟩ : ∃ i, i = a + v := ⟨_, rfl⟩
  obtain ⟨j, hj⟩ : ∃ j, j = a + v * 2 := ⟨_, rfl⟩
  obtain ⟨k, hk⟩ : ∃ k, k = a + v * 3 := ⟨_, rfl⟩
  have hiI : (a : Int) + (v : Int) = (i : Int) := by omega
  have hjI : (a : Int) + (v : Int) * 2 = (j : Int) := by omega
  have hkI : (a : Int) + (v : Int) * 3 = (k : Int) := by omega
  have bi : a + 1 ≤ i ∧ i + 1 < b := by omega
  have bj : a + 1 ≤ j ∧ j + 1 < b := by omega
  have bk : a + 1 ≤ k ∧ k + 1 < b := by omega
  have HM := hide (show Md (w.alloc (.cells #[.int .i64 0] 3)) g n f w.heap.size 0 from by
    have E : Ext w (w.alloc (.cells #[.int .i64 0] 3)) := (Ext.refl w).alloc _
    exact ⟨fun i hi => (E.cell (p := ⟨g, i, none⟩) hg).trans (D i hi), by simp; omega, by simp, by omega, by simp [go_sem], by simp [go_sem]⟩)
  have HO := hide (Oth.of_ext (g := w.heap.size) ((Ext.refl w).alloc (.cells #[.int .i64 0] 3)))
  have CA := hide (fun (x s : Nat) (w' : World) (M : Md w' g n f w.heap.size s) (hs : s ≤ 900) (hx : a + 1 ≤ x ∧ x + 1 < b) => medianAdj_u16 g n c a b x w.heap.size s f w' M hb hn hs hx)
  have CM := hide (fun (x y z s : Nat) (w' : World) (M : Md w' g n f w.heap.size s) (hs : s ≤ 900) (hx : a ≤ x ∧ x < b) (hy : a ≤ y ∧ y < b) (hz : a ≤ z ∧ z < b) => median_u16 g n c a b x y z w.heap.size s f w' M hb hn hs hx hy hz)
  have HEX := hide (fun (w' : World) (O : Oth w.heap.size w w') => O.ext (Ext.refl w) (Nat.le_refl _))
  clear hL hv hi hj hk D
  obtain ⟨q, hq⟩ : ∃ q, q = w.heap.size := ⟨_, rfl⟩
  by_cases h50 : 50 ≤ L
  · go_enter Try.func64, Try.ntmps64
    go_wp2_with fail
    refine (unhide CA i 0 _ (unhide HM) (by omega) bi).mono ?_
    rintro e w1 ⟨i, s1, rfl, hi, h1, M1, O1⟩
    have HM1 := hide M1
    have HO1 := hide ((unhide HO).trans O1)
    clear M1 O1 HM HO
    go_wp2_with fail
    refine (unhide CA j s1 _ (unhide HM1) (by omega) bj).mono ?_
    rintro e w2 ⟨j, s2, rfl, hj, h2, M2, O2⟩
    have HM2 := hide M2
    have HO2 := hide ((unhide HO1).trans O2)
    clear M2 O2 HM1 HO1
    go_wp2_with fail
    refine (unhide CA k s2 _ (unhide HM2) (by omega) bk).mono ?_
    rintro e w3 ⟨k, s3, rfl, hk, h3, M3, O3⟩
    have HM3 := hide M3
    have HO3 := hide ((unhide HO2).trans O3)
    clear M3 O3 HM2 HO2
    go_wp2_with fail
    refine (unhide CM i j k s3 _ (unhide HM3) (by omega) hi hj hk).mono ?_
    rintro e w4 ⟨p, s, rfl, hp, h4, M4, O4⟩
    have c4 := M4.cnt
    have HE := hide (unhide HEX _ ((unhide HO3).trans O4))
    clear M4 O4
    by_cases s0 : s = 0
    · subst s0
      go_wp2
      go_ret2
      exact ⟨p, 1, rfl, hp, by omega, unhide HE⟩
    · by_cases s12 : s = 12
      · subst s12
        go_wp2
        go_ret2
        exact ⟨p, 2, rfl, hp, by omega, unhide HE⟩
      · have s0B : ((s : Int) == 0) = false := by rw [beq_eq_false_iff_ne]; omega
        have s12B : ((s : Int) == 12) = false := by rw [beq_eq_false_iff_ne]; omega
        go_wp2
        go_ret2
        exact ⟨p, 0, rfl, hp, by omega, unhide HE⟩
  · have h50I : ¬ (50 : Int) ≤ (L : Int) := by omega
    go_enter Try.func64, Try.ntmps64
    go_wp2_with fail
    refine (unhide CM i j k 0 _ (unhide HM) (by omega) ⟨by omega, by omega⟩ ⟨by omega, by omega⟩ ⟨by omega, by omega⟩).mono ?_
    rintro e w4 ⟨p, s, rfl, hp, h4, M4, O4⟩
    have c4 := M4.cnt
    have HE := hide (unhide HEX _ ((unhide HO).trans O4))
    clear M4 O4
    by_cases s0 : s = 0
    · subst s0
      go_wp2
      go_ret2
      exact ⟨p, 1, rfl, hp, by omega, unhide HE⟩
    · by_cases s12 : s = 12
      · subst s12
        go_wp2
        go_ret2
        exact ⟨p, 2, rfl, hp, by omega, unhide HE⟩
      · have s0B : ((s : Int) == 0) = false := by rw [beq_eq_false_iff_ne]; omega
        have s12B : ((s : Int) == 12) = false := by rw [beq_eq_false_iff_ne]; omega
        go_wp2
        go_ret2
        exact ⟨p, 0, rfl, hp, by omega, unhide HE⟩
end Go.Proofs.Ytkebldjepdhioaa
