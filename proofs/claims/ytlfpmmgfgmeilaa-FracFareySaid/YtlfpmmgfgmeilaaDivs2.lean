/-
  The contracts of divide.Phi and divide.Moebius; slices.Equal of numbers; the walks of DivideGauss, DivideNone, DividePairs.
-/
import Derived.Test.YtlfpmmgfgmeilaaDivs1
import Derived.Test.YtlfpmmgfgmeilaaArith1
set_option linter.unusedVariables false
set_option linter.unusedSimpArgs false
namespace Go.Proofs.Ytlfpmmgfgmeilaa
open Go.RowKit Go.BigFrame

/-- The totient's and MOEBIUS' values at a prime power. -/
def gphi (p k : Nat) : Int := (p : Int) ^ (k - 1) * ((p : Int) - 1)
def gmu (_p k : Nat) : Int := if k = 1 then -1 else 0

theorem cast_pow (p k : Nat) : ((p ^ k : Nat) : Int) = (p : Int) ^ k := by push_cast; rfl
theorem prodP_le {n : Nat} {l : List (Nat × Nat)} (h : Wm.IsFac n l) (k : Nat) (hn : 0 < n) : Wm.prodP (l.drop k) ≤ n := by
  have := Wm.prodP_append (l.take k) (l.drop k)
  rw [List.take_append_drop, h.2.2] at this
  exact Nat.le_of_dvd hn ⟨Wm.prodP (l.take k), by rw [this, Nat.mul_comm]⟩
/-- The totient, in naturals. -/
def nphi : List (Nat × Nat) → Nat
  | [] => 1
  | x :: l => x.1 ^ (x.2 - 1) * (x.1 - 1) * nphi l
theorem nphi_append : ∀ l m, nphi (l ++ m) = nphi l * nphi m
  | [], m => by simp [nphi]
  | x :: l, m => by simp only [List.cons_append, nphi, nphi_append l m, Nat.mul_assoc]
theorem nphi_le {l : List (Nat × Nat)} (h : ∀ x ∈ l, Wm.Prime x.1 ∧ 1 ≤ x.2) : nphi l ≤ Wm.prodP l := by
  induction l with
  | nil => simp [nphi, Wm.prodP]
  | cons x l ih =>
    simp only [nphi, Wm.prodP]
    refine Nat.mul_le_mul ?_ (ih fun y hy => h y (by simp [hy]))
    have hx := h x (by simp)
    obtain ⟨j, hj⟩ : ∃ j, x.2 = j + 1 := ⟨x.2 - 1, by omega⟩
    rw [hj, Nat.add_sub_cancel, Nat.pow_succ]
    exact Nat.mul_le_mul_left _ (Nat.sub_le _ _)
theorem nphi_mulF {l : List (Nat × Nat)} (h : ∀ x ∈ l, Wm.Prime x.1 ∧ 1 ≤ x.2) : (nphi l : Int) = Wm.mulF gphi l := by
  induction l with
  | nil => rfl
  | cons x l ih =>
    have hx := (h x (by simp)).1.1
    simp only [nphi, Wm.mulF, gphi]
    rw [← ih fun y hy => h y (by simp [hy])]
    push_cast
    rw [show ((x.1 - 1 : Nat) : Int) = (x.1 : Int) - 1 by omega]
/-- One prime more: n / p * (p - 1). -/
theorem phi_step (a : Nat) {p k r : Nat} (hp : 0 < p) (hk : 1 ≤ k) : a * (p ^ k * r) / p * (p - 1) = a * (p ^ (k - 1) * (p - 1)) * r := by
  obtain ⟨j, rfl⟩ : ∃ j, k = j + 1 := ⟨k - 1, by omega⟩
  have e : a * (p ^ (j + 1) * r) = a * (p ^ j * r) * p := by rw [Nat.pow_succ]; ac_rfl
  rw [e, Nat.mul_div_cancel _ hp, Nat.add_sub_cancel]
  ac_rfl

def PhiPost (n : Nat) (e : Ending) : Prop := ∃ l, Wm.IsFac n l ∧ e = .returned (.tuple #[.int .i64 (nphi l), .int .i64 0])

set_option maxRecDepth 100000 in
set_option maxHeartbeats 4000000 in
theorem Phi_ok (n : Nat) (h1 : 1 ≤ n) (h6 : n ≤ 1000000) (w : World) :
    Calls Try.prog 7 #[.int .i64 n] w fun e w' => PhiPost n e ∧ Ext w w' := by
  have cf := hide (fun w : World => Factor_ok n h1 h6 w)
  go_enter Try.func7, Try.ntmps7
  go_wp2_with fail
  refine (unhide cf _).mono ?_
  rintro e w1 ⟨⟨l, v, hfac, rfl, hown⟩, E1⟩
  obtain ⟨A, c, rfl, R, -⟩ := row_of_own hown
  have HR := hide R
  have HFAC := hide hfac
  have hln : l.length ≤ 1000000 := by
    have := Wm.prodP_pos hfac.2.1
    rw [hfac.2.2] at this
    have h5 : l.length < 2 ^ l.length := Nat.lt_two_pow_self
    omega
  generalize hL : l.length = L at *
  have HL := hide hL
  have hdl : ∀ k, k ≤ l.length → nphi (l.take k) * Wm.prodP (l.drop k) ≤ 1000000 := fun k _ => by
    have h2 := nphi_le (l := l.take k) fun x hx => hfac.2.1 x (List.mem_of_mem_take hx)
    have h3 := Wm.prodP_append (l.take k) (l.drop k)
    rw [List.take_append_drop, hfac.2.2] at h3
    have h4 : nphi (l.take k) * Wm.prodP (l.drop k) ≤ Wm.prodP (l.take k) * Wm.prodP (l.drop k) := Nat.mul_le_mul_right _ h2
    omega
  have HDL := hide hdl
  clear hown R cf hfac hL hdl
  go_wp2
  go_loopw [0, 18] (fun a i wr => ∃ k x : Nat, k ≤ L ∧ i = .int .i64 k ∧ a = .int .i64 x ∧ x ≤ 1000000 ∧ Hid (x = nphi (l.take k) * Wm.prodP (l.drop k)) ∧ Ext w1 wr) (fun _ i _ => L - (intOf i).toNat)
  case atStart => exact ⟨0, n, by omega, rfl, rfl, h6, hide (by simp [nphi, (unhide HFAC).2.2]), Ext.refl _⟩
  case round =>
    obtain ⟨k, x, hk, rfl, rfl, hx6, hx, hext⟩ := hrel
    by_cases hlt : k < L
    · obtain ⟨b, o, rfl, hb, c1, c2⟩ := ((unhide HR).keep hext).pair hlt
      have hkl : k < l.length := by rw [unhide HL]; exact hlt
      rw [castP_get' l k hkl] at c1 c2
      have hmem := getD_mem l (0, 0) hkl
      have hpk := (unhide HFAC).2.1 _ hmem
      obtain ⟨b1, b2, b3⟩ := fac_small' (unhide HFAC) h6 hmem
      have htk := take_snoc l (0, 0) hkl
      have hdk : l.drop k = l.getD k (0, 0) :: l.drop (k + 1) := by
        rw [List.drop_eq_getElem_cons hkl, List.getD_eq_getElem?_getD, List.getElem?_eq_getElem hkl]; rfl
      have hstep := phi_step (nphi (l.take k)) (p := (l.getD k (0, 0)).1) (k := (l.getD k (0, 0)).2) (r := Wm.prodP (l.drop (k + 1))) (by omega) hpk.2
      have hx2 : x / (l.getD k (0, 0)).1 * ((l.getD k (0, 0)).1 - 1) = nphi (l.take (k + 1)) * Wm.prodP (l.drop (k + 1)) := by
        rw [unhide hx, hdk]
        simp only [Wm.prodP]
        rw [hstep, htk, nphi_append]
        simp [nphi]
      have hx3 := unhide HDL (k + 1) (by omega)
      rw [← hx2] at hx3
      have HX2 := hide hx2
      clear hmem hpk htk hdk hstep hx2 hkl
      generalize (l.getD k (0, 0)).1 = P at *
      generalize (l.getD k (0, 0)).2 = K at *
      obtain ⟨q, hq⟩ : ∃ q, x / P = q := ⟨_, rfl⟩
      have hq6 : q ≤ 1000000 := by rw [← hq]; exact Nat.le_trans (Nat.div_le_self _ _) hx6
      rw [hq] at hx3
      have hqi : (x : Int) / (P : Int) = (q : Int) := by rw [← hq]; rfl
      have hqt : (x : Int).tdiv (P : Int) = (q : Int) := by rw [← hq]; rfl
      obtain ⟨s, hs⟩ : ∃ s, s = q * (P - 1) := ⟨_, rfl⟩
      have hsi : (q : Int) * ((P : Int) - 1) = (s : Int) := by rw [hs]; push_cast; rw [show ((P - 1 : Nat) : Int) = (P : Int) - 1 by omega]
      rw [← hs] at hx3
      have HS := hide (show s = nphi (l.take (k + 1)) * Wm.prodP (l.drop (k + 1)) by rw [hs, ← hq]; exact unhide HX2)
      have P0 : ((P : Int) == 0) = false := by rw [beq_eq_false_iff_ne]; omega
      have P0' : ¬ (P : Int) = 0 := by omega
      have hm1 : IntKind.i64.wrap ((P : Int) - 1) = (P : Int) - 1 := IntWalk.i64_in _ (by omega)
      have hm2 : IntKind.i64.wrap (s : Int) = (s : Int) := IntWalk.i64_in _ (by omega)
      clear hs hq HX2
      go_wp2
      go_quiet (fail)
      go_wp2
      go_roundw
      case rel => exact ⟨k + 1, s, by omega, by go_num, rfl, hx3, HS, (hext.alloc _).drewN _⟩
      case measure => simp [intOf]; omega
    · obtain rfl : k = L := by omega
      have hfin := hide (show x = nphi l by rw [unhide hx, ← unhide HL, List.take_length, List.drop_length]; simp [Wm.prodP])
      go_wp2
      go_ret2
      exact ⟨⟨l, unhide HFAC, ret_two (by rw [unhide hfin])⟩, E1.trans hext⟩

/-- MOEBIUS' function, by its powers. -/
theorem gmu_bound (l : List (Nat × Nat)) : -1 ≤ Wm.mulF gmu l ∧ Wm.mulF gmu l ≤ 1 := by
  induction l with
  | nil => simp [Wm.mulF]
  | cons x l ih =>
    simp only [Wm.mulF, gmu]
    split <;> omega
def MuPost (n : Nat) (e : Ending) : Prop := ∃ l, Wm.IsFac n l ∧ e = .returned (.tuple #[.int .i64 (Wm.mulF gmu l), .int .i64 0])

end Go.Proofs.Ytlfpmmgfgmeilaa
