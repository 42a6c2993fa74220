/-
  The laws' helpers: sameRows, turned, tables.
-/
import Derived.Test.YtepkiicekcglhaaMx5
import Derived.Test.YtepkiicekcglhaaArith1
set_option linter.unusedVariables false
set_option linter.unusedSimpArgs false
namespace Go.Proofs.Ytepkiicekcglhaa
open Go.RowKit Go.BigFrame Wm.Fld

set_option maxRecDepth 100000 in
set_option maxHeartbeats 1000000 in
theorem equal_u8 (A B : Option Addr) (n m c d : Nat) (xs ys : List Nat) (w : World) (R : Row w A n 1 (nats .u8 xs)) (S : Row w B m 1 (nats .u8 ys)) (hn : (n : Int) ≤ 9223372036854775807) (hm : (m : Int) ≤ 9223372036854775807) :
    Calls Try.prog 13 #[.slice A n c, .slice B m d] w fun e w' => e = .returned (.bool (decide (xs = ys))) ∧ ∃ k, w' = w.drewN k := by
  have hx := R.numN
  have hy := S.numN
  by_cases hnm : n = m
  · subst hnm
    have HX := hide hx
    have HY := hide hy
    have HR := hide R
    have HS := hide S
    clear hx hy R S
    go_enter Try.func13, Try.ntmps13
    go_wp2
    go_loopw [13] (fun i wr => ∃ k : Nat, k ≤ n ∧ i = .int .i64 k ∧ Hid (∀ j, j < k → xs.getD j 0 = ys.getD j 0) ∧ ∃ q, wr = w.drewN q) (fun i _ => n - (intOf i).toNat)
    case atStart => exact ⟨0, by omega, rfl, hide (fun j h => absurd h (by omega)), 0, rfl⟩
    case round =>
      obtain ⟨k, hk, rfl, hz, q, rfl⟩ := hrel
      by_cases hlt : k < n
      · obtain ⟨b, o, rfl, hb, c1⟩ := (unhide HR).nat hlt
        obtain ⟨b', o', rfl, hb', c2⟩ := (unhide HS).nat hlt
        have hk0 : (0 : Int) ≤ (k : Int) := by omega
        have hk1 : (k : Int) < (n : Int) := by omega
        by_cases he : xs.getD k 0 = ys.getD k 0
        · have hz2 := hide (fun j (hj : j < k + 1) => (show xs.getD j 0 = ys.getD j 0 from by
            by_cases h : j < k
            · exact unhide hz j h
            · obtain rfl : j = k := by omega
              exact he))
          rw [he] at c1
          clear he
          generalize ys.getD k 0 = y at *
          go_wp2
          go_quiet (fail)
          go_wp2
          go_roundw
          case rel => exact ⟨k + 1, by omega, by go_num, hz2, _, rfl⟩
          case measure => simp [intOf]; omega
        · have hne : (((xs.getD k 0 : Nat) : Int) != ((ys.getD k 0 : Nat) : Int)) = true := by rw [bne_iff_ne]; exact fun h => he (by exact_mod_cast h)
          have hfin := hide (show decide (xs = ys) = false from decide_eq_false (fun h => he (by rw [h])))
          clear he
          generalize xs.getD k 0 = x at *
          generalize ys.getD k 0 = y at *
          go_wp2
          go_quiet (fail)
          go_wp2
          go_ret
          exact ⟨ret_boolv (unhide hfin).symm, _, World.drewN_drewN _ _ _⟩
      · obtain rfl : k = n := by omega
        have hfin := hide (show decide (xs = ys) = true from decide_eq_true (by
          have h1 := unhide HX
          have h2 := unhide HY
          apply List.ext_getElem (by omega)
          intro j j1 j2
          have := unhide hz j (by omega)
          rwa [List.getD_eq_getElem?_getD, List.getElem?_eq_getElem j1, List.getD_eq_getElem?_getD, List.getElem?_eq_getElem j2] at this))
        go_wp2
        go_ret
        exact ⟨ret_boolv (unhide hfin).symm, _, rfl⟩
  · have hv : decide (xs = ys) = false := decide_eq_false (fun h => hnm (by rw [← hx, ← hy, h]))
    rw [hv]
    have hb1 : ((n : Int) != (m : Int)) = true := by rw [bne_iff_ne]; omega
    have hb2 : (n != m) = true := by rw [bne_iff_ne]; exact hnm
    clear hv hx hy hnm R S
    go_enter Try.func13, Try.ntmps13
    go_wp2
    go_ret
    exact ⟨rfl, 0, rfl⟩


/-- Literal tables. -/
def litM (L : List (List Nat)) : Nat → Nat → Nat := fun i j => (L.getD i []).getD j 0
theorem litM_lt {L : List (List Nat)} (h : ∀ r ∈ L, ∀ x ∈ r, x < 256) (i j : Nat) : litM L i j < 256 := by
  unfold litM
  rw [List.getD_eq_getElem?_getD, List.getD_eq_getElem?_getD]
  cases e : L[i]? with
  | none => show (([] : List Nat)[j]?).getD 0 < 256; simp
  | some r =>
    show (r[j]?).getD 0 < 256
    cases e2 : r[j]? with
    | none => show 0 < 256; omega
    | some x => exact h r (List.mem_of_getElem? e) x (List.mem_of_getElem? e2)
theorem tabL1 (w : World) (r : List Nat) (hr : ∀ x ∈ r, x < 256) (hl : r.length ≤ 1000) :
    Tab ((w.alloc (.cells (nats .u8 r).toArray 5)).alloc (.cells #[.slice (some ⟨w.heap.size, 0, none⟩) r.length r.length] 23)) (some ⟨w.heap.size + 1, 0, none⟩) 1 (fun _ => some ⟨w.heap.size, 0, none⟩) (fun _ => r.length) (fun _ => r.length) (litM [r]) where
  hd _ := ⟨w.heap.size + 1, 0, rfl, by simp, fun i hi => by
    obtain rfl : i = 0 := by omega
    simp⟩
  row i hi _ := ⟨w.heap.size, 0, rfl, by simp; omega, fun j hj => by
    obtain rfl : i = 0 := by omega
    have E := (Ext.refl (w.alloc (.cells (nats .u8 r).toArray 5))).alloc (.cells #[.slice (some ⟨w.heap.size, 0, none⟩) r.length r.length] 23)
    refine (E.cell (p := ⟨w.heap.size, 0 + j, none⟩) (by simp)).trans ?_
    rw [Nat.zero_add]
    have : (w.alloc (.cells (nats .u8 r).toArray 5)).cell? ⟨w.heap.size, j, none⟩ = (nats .u8 r).toArray[j]? := by simp
    rw [this, List.getElem?_toArray, nats_get _ _ _ hj]
    rfl⟩
  cap _ _ := ⟨Nat.le_refl _, by omega⟩
  lt i j := litM_lt (fun r' h x hx => by simp at h; subst h; exact hr x hx) i j
theorem tabL2 (w : World) (r s : List Nat) (hr : ∀ x ∈ r, x < 256) (hs : ∀ x ∈ s, x < 256) (hl : r.length ≤ 1000) (hl2 : s.length ≤ 1000) :
    Tab (((w.alloc (.cells (nats .u8 r).toArray 5)).alloc (.cells (nats .u8 s).toArray 5)).alloc (.cells #[.slice (some ⟨w.heap.size, 0, none⟩) r.length r.length, .slice (some ⟨w.heap.size + 1, 0, none⟩) s.length s.length] 23)) (some ⟨w.heap.size + 2, 0, none⟩) 2
      (fun i => some ⟨w.heap.size + i, 0, none⟩) (fun i => ([r, s].getD i []).length) (fun i => ([r, s].getD i []).length) (litM [r, s]) where
  hd _ := ⟨w.heap.size + 2, 0, rfl, by simp, fun i hi => by
    have := World.cell?_alloc_mark ((w.alloc (.cells (nats .u8 r).toArray 5)).alloc (.cells (nats .u8 s).toArray 5)) #[.slice (some ⟨w.heap.size, 0, none⟩) r.length r.length, .slice (some ⟨w.heap.size + 1, 0, none⟩) s.length s.length] 23 (0, 0) i
    match i, hi with
    | 0, _ => simpa using this
    | 1, _ => simpa using this⟩
  row i hi _ := by
    have E := (Ext.refl ((w.alloc (.cells (nats .u8 r).toArray 5)).alloc (.cells (nats .u8 s).toArray 5))).alloc (.cells #[.slice (some ⟨w.heap.size, 0, none⟩) r.length r.length, .slice (some ⟨w.heap.size + 1, 0, none⟩) s.length s.length] 23)
    match i, hi with
    | 0, _ =>
      refine ⟨w.heap.size, 0, rfl, by simp; omega, fun j hj => ?_⟩
      have hj : j < r.length := hj
      refine (E.cell (p := ⟨w.heap.size, 0 + j, none⟩) (by first | (simp; done) | (simp; omega))).trans ?_
      have E2 := (Ext.refl (w.alloc (.cells (nats .u8 r).toArray 5))).alloc (.cells (nats .u8 s).toArray 5)
      refine (E2.cell (p := ⟨w.heap.size, 0 + j, none⟩) (by simp)).trans ?_
      rw [Nat.zero_add]
      have : (w.alloc (.cells (nats .u8 r).toArray 5)).cell? ⟨w.heap.size, j, none⟩ = (nats .u8 r).toArray[j]? := by simp
      rw [this, List.getElem?_toArray, nats_get _ _ _ hj]
      rfl
    | 1, _ =>
      refine ⟨w.heap.size + 1, 0, rfl, by simp, fun j hj => ?_⟩
      have hj : j < s.length := hj
      refine (E.cell (p := ⟨w.heap.size + 1, 0 + j, none⟩) (by simp)).trans ?_
      rw [Nat.zero_add]
      have : ((w.alloc (.cells (nats .u8 r).toArray 5)).alloc (.cells (nats .u8 s).toArray 5)).cell? ⟨w.heap.size + 1, j, none⟩ = (nats .u8 s).toArray[j]? := by
        simp
      rw [this, List.getElem?_toArray, nats_get _ _ _ hj]
      rfl
  cap i hi := ⟨Nat.le_refl _, by
    match i, hi with
    | 0, _ => show r.length ≤ _; omega
    | 1, _ => show s.length ≤ _; omega⟩
  lt i j := litM_lt (fun r' h x hx => by
    simp at h
    rcases h with h | h
    · subst h; exact hr x hx
    · subst h; exact hs x hx) i j
theorem det_ex {d : Nat} (hd : d < 256) (h : Done 2 (Wm.m8m (litM [[1, 2], [3, 4]])) (Wm.m8 d)) : d = 2 := by
  have e := h.dt Wm.b8_two
  have : (dt 2 (Wm.m8m (litM [[1, 2], [3, 4]]))) = Wm.m8 2 := by decide +kernel
  rw [this] at e
  exact Wm.m8_inj hd (by omega) e
theorem rank_ex {r : Nat} (h : Rk 2 2 r (Wm.m8m (litM [[1, 2], [2, 4]]))) : r = 1 := by
  refine h.unique ?_
  refine ⟨fun i _ => Wm.m8 (i + 1), fun _ j => Wm.m8 (j + 1), fun _ j => if j = 0 then o else z, fun i _ => if i = 0 then o else z, fun i j hi hj => ?_, fun i j hi hj => ?_⟩
  · have : (List.range 2).all (fun i => (List.range 2).all fun j => decide (Wm.m8m (litM [[1, 2], [2, 4]]) i j = mm 1 (fun i _ => Wm.m8 (i + 1)) (fun _ j => Wm.m8 (j + 1)) i j)) = true := by decide +kernel
    exact of_decide_eq_true (List.all_eq_true.1 (List.all_eq_true.1 this i (List.mem_range.2 hi)) j (List.mem_range.2 hj))
  · obtain rfl : i = 0 := by omega
    obtain rfl : j = 0 := by omega
    decide +kernel

set_option maxRecDepth 100000 in
set_option maxHeartbeats 1000000 in
theorem tables_any (w : World) : Calls Try.prog 5 #[] w fun e w' => e = .returned (.bool true) ∧ Ext w w' := by
  have CD := hide (fun (w : World) => Det_any _ 2 2 _ _ _ _ _ (tabL2 w [1, 2] [3, 4] (by decide) (by decide) (by decide) (by decide)) (by omega))
  have CR := hide (fun (w : World) => Rank_any _ 2 2 _ _ _ _ _ (tabL2 w [1, 2] [2, 4] (by decide) (by decide) (by decide) (by decide)) (by omega))
  go_enter Try.func5, Try.ntmps5
  go_wp2_with fail
  refine (unhide CD w).mono ?_
  rintro e w2 ⟨ho, E2⟩
  have HE2 := hide (((((Ext.refl w).alloc _).alloc _).alloc _).trans E2)
  rcases ho with ⟨h, -⟩ | ⟨-, -, -, d, hd, rfl, hdone, -⟩
  · exact absurd (by decide) h
  obtain rfl := det_ex hd hdone
  clear hdone hd E2 CD
  go_wp2_with fail
  refine (unhide CR w2).mono ?_
  rintro e w3 ⟨ho, E3⟩
  have HE3 := hide ((unhide HE2).trans (((((Ext.refl w2).alloc _).alloc _).alloc _).trans E3))
  rcases ho with ⟨h, -⟩ | ⟨-, r, rfl, hrk⟩
  · exact absurd (by decide) h
  obtain rfl := rank_ex hrk
  clear hrk E3 CR HE2
  go_wp2_with (go_at_call 22; refine (good_made' [0, 0] _ _ _ _ w3 rfl rfl (by decide) (by simp)).mono ?_; rintro e wg ⟨rfl, rfl⟩)
  go_ret
  exact ⟨rfl, (unhide HE3).alloc _⟩
end Go.Proofs.Ytepkiicekcglhaa
