/-
  The contracts of divide.Phi and divide.Moebius; slices.Equal of numbers; the walks of DivideGauss, DivideNone, DividePairs.
-/
import Derived.Test.YtahchidghfeofaaDivs1
import Derived.Test.YtahchidghfeofaaArith1
set_option linter.unusedVariables false
set_option linter.unusedSimpArgs false
namespace Go.Proofs.Ytahchidghfeofaa
open Go.RowKit Go.BigFrame

set_option maxRecDepth 100000 in
set_option maxHeartbeats 1000000 in
theorem equal_int (A B : Option Addr) (n m c d : Nat) (xs ys : List Int) (w : World) (R : Row w A n 1 (ints xs)) (S : Row w B m 1 (ints ys)) (hn : (n : Int) ≤ 9223372036854775807) (hm : (m : Int) ≤ 9223372036854775807) :
    Calls Try.prog 6 #[.slice A n c, .slice B m d] w fun e w' => e = .returned (.bool (decide (xs = ys))) ∧ ∃ k, w' = w.drewN k := by
  have hx := R.num
  have hy := S.num
  by_cases hnm : n = m
  · subst hnm
    have HX := hide hx
    have HY := hide hy
    have HR := hide R
    have HS := hide S
    clear hx hy R S
    go_enter Try.func6, Try.ntmps6
    go_wp2
    go_loopw [13] (fun i wr => ∃ k : Nat, k ≤ n ∧ i = .int .i64 k ∧ Hid (∀ j, j < k → xs.getD j 0 = ys.getD j 0) ∧ ∃ q, wr = w.drewN q) (fun i _ => n - (intOf i).toNat)
    case atStart => exact ⟨0, by omega, rfl, hide (fun j h => absurd h (by omega)), 0, rfl⟩
    case round =>
      obtain ⟨k, hk, rfl, hz, q, rfl⟩ := hrel
      by_cases hlt : k < n
      · obtain ⟨b, o, rfl, hb, c1⟩ := (unhide HR).int hlt
        obtain ⟨b', o', rfl, hb', c2⟩ := (unhide HS).int hlt
        have hk0 : (0 : Int) ≤ (k : Int) := by omega
        have hk1 : (k : Int) < (n : Int) := by omega
        by_cases he : xs.getD k 0 = ys.getD k 0
        · have hz2 := hide (fun j (hj : j < k + 1) => (show xs.getD j 0 = ys.getD j 0 from by
            by_cases h : j < k
            · exact unhide hz j h
            · obtain rfl : j = k := by omega
              exact he))
          rw [he] at c1
          clear he
          generalize ys.getD k 0 = y at *
          go_wp2
          go_quiet (fail)
          go_wp2
          go_roundw
          case rel => exact ⟨k + 1, by omega, by go_num, hz2, _, rfl⟩
          case measure => simp [intOf]; omega
        · have hne : (xs.getD k 0 != ys.getD k 0) = true := by rw [bne_iff_ne]; exact he
          have hfin := hide (show decide (xs = ys) = false from decide_eq_false (fun h => he (by rw [h])))
          clear he
          generalize xs.getD k 0 = x at *
          generalize ys.getD k 0 = y at *
          go_wp2
          go_quiet (fail)
          go_wp2
          go_ret
          exact ⟨ret_boolv (unhide hfin).symm, _, World.drewN_drewN _ _ _⟩
      · obtain rfl : k = n := by omega
        have hfin := hide (show decide (xs = ys) = true from decide_eq_true (by
          have h1 := unhide HX
          have h2 := unhide HY
          apply List.ext_getElem (by omega)
          intro j j1 j2
          have := unhide hz j (by omega)
          rwa [List.getD_eq_getElem?_getD, List.getElem?_eq_getElem j1, List.getD_eq_getElem?_getD, List.getElem?_eq_getElem j2] at this))
        go_wp2
        go_ret
        exact ⟨ret_boolv (unhide hfin).symm, _, rfl⟩
  · have hv : decide (xs = ys) = false := decide_eq_false (fun h => hnm (by rw [← hx, ← hy, h]))
    rw [hv]
    have hb1 : ((n : Int) != (m : Int)) = true := by rw [bne_iff_ne]; omega
    have hb2 : (n != m) = true := by rw [bne_iff_ne]; exact hnm
    clear hv hx hy hnm R S
    go_enter Try.func6, Try.ntmps6
    go_wp2
    go_ret
    exact ⟨rfl, 0, rfl⟩


/-- The totient's and MOEBIUS' values at a prime power. -/
def gphi (p k : Nat) : Int := (p : Int) ^ (k - 1) * ((p : Int) - 1)
def gmu (_p k : Nat) : Int := if k = 1 then -1 else 0

theorem cast_pow (p k : Nat) : ((p ^ k : Nat) : Int) = (p : Int) ^ k := by push_cast; rfl
theorem prodP_le {n : Nat} {l : List (Nat × Nat)} (h : Wm.IsFac n l) (k : Nat) (hn : 0 < n) : Wm.prodP (l.drop k) ≤ n := by
  have := Wm.prodP_append (l.take k) (l.drop k)
  rw [List.take_append_drop, h.2.2] at this
  exact Nat.le_of_dvd hn ⟨Wm.prodP (l.take k), by rw [this, Nat.mul_comm]⟩
/-- The totient, in naturals. -/
def nphi : List (Nat × Nat) → Nat
  | [] => 1
  | x :: l => x.1 ^ (x.2 - 1) * (x.1 - 1) * nphi l
theorem nphi_append : ∀ l m, nphi (l ++ m) = nphi l * nphi m
  | [], m => by simp [nphi]
  | x :: l, m => by simp only [List.cons_append, nphi, nphi_append l m, Nat.mul_assoc]
theorem nphi_le {l : List (Nat × Nat)} (h : ∀ x ∈ l, Wm.Prime x.1 ∧ 1 ≤ x.2) : nphi l ≤ Wm.prodP l := by
  induction l with
  | nil => simp [nphi, Wm.prodP]
  | cons x l ih =>
    simp only [nphi, Wm.prodP]
    refine Nat.mul_le_mul ?_ (ih fun y hy => h y (by simp [hy]))
    have hx := h x (by simp)
    obtain ⟨j, hj⟩ : ∃ j, x.2 = j + 1 := ⟨x.2 - 1, by omega⟩
    rw [hj, Nat.add_sub_cancel, Nat.pow_succ]
    exact Nat.mul_le_mul_left _ (Nat.sub_le _ _)
theorem nphi_mulF {l : List (Nat × Nat)} (h : ∀ x ∈ l, Wm.Prime x.1 ∧ 1 ≤ x.2) : (nphi l : Int) = Wm.mulF gphi l := by
  induction l with
  | nil => rfl
  | cons x l ih =>
    have hx := (h x (by simp)).1.1
    simp only [nphi, Wm.mulF, gphi]
    rw [← ih fun y hy => h y (by simp [hy])]
    push_cast
    rw [show ((x.1 - 1 : Nat) : Int) = (x.1 : Int) - 1 by omega]
/-- One prime more: n / p * (p - 1). -/
theorem phi_step (a : Nat) {p k r : Nat} (hp : 0 < p) (hk : 1 ≤ k) : a * (p ^ k * r) / p * (p - 1) = a * (p ^ (k - 1) * (p - 1)) * r := by
  obtain ⟨j, rfl⟩ : ∃ j, k = j + 1 := ⟨k - 1, by omega⟩
  have e : a * (p ^ (j + 1) * r) = a * (p ^ j * r) * p := by rw [Nat.pow_succ]; ac_rfl
  rw [e, Nat.mul_div_cancel _ hp, Nat.add_sub_cancel]
  ac_rfl

def PhiPost (n : Nat) (e : Ending) : Prop := ∃ l, Wm.IsFac n l ∧ e = .returned (.tuple #[.int .i64 (nphi l), .int .i64 0])

/-- MOEBIUS' function, by its powers. -/
theorem gmu_bound (l : List (Nat × Nat)) : -1 ≤ Wm.mulF gmu l ∧ Wm.mulF gmu l ≤ 1 := by
  induction l with
  | nil => simp [Wm.mulF]
  | cons x l ih =>
    simp only [Wm.mulF, gmu]
    split <;> omega
def MuPost (n : Nat) (e : Ending) : Prop := ∃ l, Wm.IsFac n l ∧ e = .returned (.tuple #[.int .i64 (Wm.mulF gmu l), .int .i64 0])

set_option maxRecDepth 100000 in
set_option maxHeartbeats 4000000 in
theorem Moebius_ok (n : Nat) (h1 : 1 ≤ n) (h6 : n ≤ 1000000) (w : World) :
    Calls Try.prog 30 #[.int .i64 n] w fun e w' => MuPost n e ∧ Ext w w' := by
  have cf := hide (fun w : World => Factor_ok n h1 h6 w)
  go_enter Try.func30, Try.ntmps30
  go_wp2_with fail
  refine (unhide cf _).mono ?_
  rintro e w1 ⟨⟨l, v, hfac, rfl, hown⟩, E1⟩
  obtain ⟨A, c, rfl, R, -⟩ := row_of_own hown
  have HR := hide R
  have HFAC := hide hfac
  have hln : l.length ≤ 1000000 := by
    have := Wm.prodP_pos hfac.2.1
    rw [hfac.2.2] at this
    have h5 : l.length < 2 ^ l.length := Nat.lt_two_pow_self
    omega
  generalize hL : l.length = L at *
  have HL := hide hL
  clear hown R cf hfac hL
  go_wp2
  go_loopw [6, 19] (fun a i wr => ∃ (k : Nat) (x : Int), k ≤ L ∧ i = .int .i64 k ∧ a = .int .i64 x ∧ -1 ≤ x ∧ x ≤ 1 ∧ Hid (x = Wm.mulF gmu (l.take k)) ∧ Ext w1 wr) (fun _ i _ => L - (intOf i).toNat)
  case atStart => exact ⟨0, 1, by omega, rfl, rfl, by omega, by omega, hide (by simp [Wm.mulF]), Ext.refl _⟩
  case round =>
    obtain ⟨k, x, hk, rfl, rfl, hx1, hx2, hx, hext⟩ := hrel
    by_cases hlt : k < L
    · obtain ⟨b, o, rfl, hb, c1, c2⟩ := ((unhide HR).keep hext).pair hlt
      have hkl : k < l.length := by rw [unhide HL]; exact hlt
      rw [castP_get' l k hkl] at c1 c2
      have hmem := getD_mem l (0, 0) hkl
      have hpk := ((unhide HFAC).2.1 _ hmem).2
      have htk := take_snoc l (0, 0) hkl
      have hdk : l.drop k = l.getD k (0, 0) :: l.drop (k + 1) := by
        rw [List.drop_eq_getElem_cons hkl, List.getD_eq_getElem?_getD, List.getElem?_eq_getElem hkl]; rfl
      have hst : Wm.mulF gmu (l.take (k + 1)) = Wm.mulF gmu (l.take k) * gmu (l.getD k (0, 0)).1 (l.getD k (0, 0)).2 := by
        rw [htk, Wm.mulF_append]; simp [Wm.mulF]
      have hz : gmu (l.getD k (0, 0)).1 (l.getD k (0, 0)).2 = 0 → Wm.mulF gmu l = 0 := fun h => by
        have := List.take_append_drop k l
        rw [hdk] at this
        rw [← this, Wm.mulF_append]
        simp only [Wm.mulF]; rw [h]; simp
      have HST := hide hst
      have HZ := hide hz
      clear hmem htk hdk hst hz hkl
      generalize (l.getD k (0, 0)).1 = P at *
      generalize (l.getD k (0, 0)).2 = K at *
      by_cases hK : 1 < K
      · have hf := hide (unhide HZ (by unfold gmu; rw [if_neg (by omega)]))
        have d1 : decide (1 < (K : Int)) = true := decide_eq_true (by omega)
        have hK' : 1 < (K : Int) := by omega
        clear hK
        go_wp2
        go_ret2
        exact ⟨⟨l, unhide HFAC, ret_two (unhide hf).symm⟩, E1.trans (hext.alloc _)⟩
      · obtain rfl : K = 1 := by omega
        have hn := hide (show -x = Wm.mulF gmu (l.take (k + 1)) by rw [unhide HST, ← unhide hx]; unfold gmu; rw [if_pos rfl]; omega)
        go_wp2
        go_roundw
        case rel => exact ⟨k + 1, -x, by omega, by go_num, rfl, by omega, by omega, hn, hext.alloc _⟩
        case measure => simp [intOf]; omega
    · obtain rfl : k = L := by omega
      have hfin := hide (show x = Wm.mulF gmu l by rw [unhide hx, ← unhide HL, List.take_length])
      go_wp2
      go_ret2
      exact ⟨⟨l, unhide HFAC, ret_two (unhide hfin)⟩, E1.trans hext⟩

end Go.Proofs.Ytahchidghfeofaa
