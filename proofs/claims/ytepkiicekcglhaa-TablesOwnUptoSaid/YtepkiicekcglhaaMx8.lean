/-
  The contracts of grid.check and grid.Powers.
-/
import Derived.Test.YtepkiicekcglhaaMx7
import Derived.Test.YtepkiicekcglhaaGr
set_option linter.unusedVariables false
set_option linter.unusedSimpArgs false
namespace Go.Proofs.Ytepkiicekcglhaa
open Go.RowKit Go.BigFrame Wm.Fld

set_option maxRecDepth 100000 in
theorem index_u8 (A : Option Addr) (n c : Nat) (l : List Nat) (x : Nat) (w : World) (R : Row w A n 1 (nats .u8 l)) (hn : n ≤ 1000) :
    Calls Try.prog 49 #[.slice A n c, .int .u8 (x : Int)] w fun e w' => (∃ r : Int, e = .returned (.int .i64 r) ∧ decide (0 ≤ r) = decide (x ∈ l)) ∧ w' = w := by
  have hlen := R.numN
  have HR := hide R
  have HL := hide hlen
  clear R hlen
  go_enter Try.func49, Try.ntmps49
  go_wp2
  go_loopw [8] (fun i wr => ∃ k : Nat, k ≤ n ∧ i = .int .i64 k ∧ Hid (∀ j, j < k → l.getD j 0 ≠ x) ∧ wr = w) (fun i _ => n - (intOf i).toNat)
  case atStart => exact ⟨0, by omega, rfl, hide (fun j h => absurd h (by omega)), rfl⟩
  case round =>
    obtain ⟨k, hk, rfl, hz, rfl⟩ := hrel
    by_cases hlt : k < n
    · obtain ⟨b, o, rfl, hb, hc⟩ := (unhide HR).nat hlt
      have hmem := getD_mem l 0 (k := k) (by rw [unhide HL]; exact hlt)
      have HM := hide hmem
      obtain ⟨y, hy⟩ : ∃ y, y = l.getD k 0 := ⟨_, rfl⟩
      rw [← hy] at hc
      have HY := hide hy
      clear hmem hy
      by_cases hxy : x = y
      · subst hxy
        have hin := hide (show x ∈ l from by rw [unhide HY]; exact unhide HM)
        go_wp2
        go_ret
        exact ⟨⟨_, rfl, by rw [decide_eq_true (unhide hin)]; exact decide_eq_true (by omega)⟩, rfl⟩
      · have hB : ((x : Int) == (y : Int)) = false := by rw [beq_eq_false_iff_ne]; omega
        have hB2 : ((y : Int) == (x : Int)) = false := by rw [beq_eq_false_iff_ne]; omega
        have hz2 := hide (show ∀ j, j < k + 1 → l.getD j 0 ≠ x from fun j hj => by
          by_cases d : j = k
          · subst d; rw [← unhide HY]; exact fun e => hxy e.symm
          · exact unhide hz j (by omega))
        clear hxy
        go_wp2
        go_roundw
        case rel => exact ⟨k + 1, by omega, by go_num, hz2, by first | rfl | trivial⟩
        case measure => simp [intOf]; omega
    · obtain rfl : n = k := by omega
      have hno := hide (show ¬ x ∈ l from fun h => by
        obtain ⟨j, hj, e⟩ := List.getElem_of_mem h
        have := unhide hz j (by rw [← unhide HL]; exact hj)
        rw [List.getD_eq_getElem?_getD, List.getElem?_eq_getElem hj] at this
        exact this e)
      go_wp2
      go_ret
      exact ⟨⟨_, rfl, by rw [decide_eq_false (unhide hno)]; rfl⟩, rfl⟩
theorem contains_u8 (A : Option Addr) (n c : Nat) (l : List Nat) (x : Nat) (w : World) (R : Row w A n 1 (nats .u8 l)) (hn : n ≤ 1000) :
    Calls Try.prog 34 #[.slice A n c, .int .u8 (x : Int)] w fun e w' => e = .returned (.bool (decide (x ∈ l))) ∧ w' = w := by
  have C := hide (index_u8 A n c l x w R hn)
  clear R
  generalize decide (x ∈ l) = q at *
  go_enter Try.func34, Try.ntmps34
  go_wp2_with fail
  refine (unhide C).mono ?_
  rintro e w' ⟨⟨r, rfl, hr⟩, rfl⟩
  go_wp2
  go_ret
  exact ⟨rfl, rfl⟩

/-- The same twice, among the first i. -/
def gdup (l : List Nat) : Nat → Bool
  | 0 => false
  | i + 1 => gdup l i || decide (l.getD i 0 ∈ l.take i)
theorem gdup_mono {l : List Nat} : ∀ {n x : Nat}, x ≤ n → gdup l x = true → gdup l n = true
  | 0, x, h, hx => by obtain rfl : x = 0 := by omega
                      exact hx
  | n + 1, x, h, hx => by
    by_cases e : x = n + 1
    · subst e; exact hx
    · simp only [gdup, gdup_mono (show x ≤ n by omega) hx, Bool.true_or]
theorem gdup_no {l : List Nat} : ∀ {n : Nat}, gdup l n = false → n ≤ l.length → ∀ i j, j < i → i < n → l.getD i 0 ≠ l.getD j 0
  | 0, _, _, i, j, _, h => by omega
  | n + 1, h, hn, i, j, hj, hi => by
    simp only [gdup, Bool.or_eq_false_iff] at h
    by_cases e : i = n
    · subst e
      intro e
      refine of_decide_eq_false h.2 ?_
      rw [e]
      have : l.getD j 0 = (l.take i).getD j 0 := by
        rw [List.getD_eq_getElem?_getD, List.getD_eq_getElem?_getD, List.getElem?_take_of_lt hj]
      rw [this]
      exact getD_mem _ _ (by rw [List.length_take]; omega)
    · exact gdup_no h.1 (by omega) i j hj (by omega)
def gridErr (l : List Nat) : Int := if l.length < 1 ∨ 12 < l.length then 2 else if gdup l l.length = true then 6 else 0
theorem gridErr_ok {l : List Nat} (h : gridErr l = 0) : 1 ≤ l.length ∧ l.length ≤ 12 ∧ ∀ i j, i < l.length → j < l.length → l.getD i 0 = l.getD j 0 → i = j := by
  unfold gridErr at h
  by_cases a : l.length < 1 ∨ 12 < l.length
  · rw [if_pos a] at h; omega
  · rw [if_neg a] at h
    by_cases b : gdup l l.length = true
    · rw [if_pos b] at h; omega
    · have hb : gdup l l.length = false := by simpa using b
      refine ⟨by omega, by omega, fun i j hi hj e => ?_⟩
      rcases Nat.lt_trichotomy i j with c | c | c
      · exact absurd e.symm (gdup_no hb (Nat.le_refl _) j i c hj)
      · exact c
      · exact absurd e (gdup_no hb (Nat.le_refl _) i j c hi)

set_option maxRecDepth 100000 in
set_option maxHeartbeats 1000000 in
theorem gcheck_any (A : Option Addr) (n c : Nat) (l : List Nat) (w : World) (R : Row w A n 1 (nats .u8 l)) (hnc : n ≤ c) (hc63 : c ≤ 9223372036854775807) :
    Calls Try.prog 31 #[.slice A n c] w fun e w' => e = .returned (.int .i64 (gridErr l)) ∧ w' = w := by
  have hlen := R.numN
  by_cases h1 : n < 1 ∨ 12 < n
  · rw [show gridErr l = 2 from by unfold gridErr; rw [if_pos (by rw [hlen]; exact h1)]]
    by_cases h2 : n < 1
    · have h2I : (n : Int) < 1 := by omega
      clear R hlen h1
      go_enter Try.func31, Try.ntmps31
      go_wp2
      go_ret
      exact ⟨rfl, rfl⟩
    · have h2I : ¬ (n : Int) < 1 := by omega
      have h3I : (12 : Int) < (n : Int) := by omega
      clear R hlen h1
      go_enter Try.func31, Try.ntmps31
      go_wp2
      go_ret
      exact ⟨rfl, rfl⟩
  · have h2I : ¬ (n : Int) < 1 := by omega
    have h3I : ¬ (12 : Int) < (n : Int) := by omega
    have hE := hide (show gridErr l = if gdup l n = true then 6 else 0 from by unfold gridErr; rw [if_neg (by rw [hlen]; exact h1), hlen])
    have HR := hide R
    have HL := hide hlen
    have hncI : (n : Int) ≤ (c : Int) := by omega
    clear R hlen h1
    obtain ⟨r, hr⟩ : ∃ r, r = gridErr l := ⟨_, rfl⟩
    rw [← hr] at hE ⊢
    clear hr
    go_enter Try.func31, Try.ntmps31
    go_wp2
    go_loopw [2, 15] (fun q i wr => ∃ k : Nat, k ≤ n ∧ i = .int .i64 k ∧ q = .int .i64 0 ∧ Hid (gdup l k = false) ∧ wr = w) (fun _ i _ => n - (intOf i).toNat)
    case atStart => exact ⟨0, by omega, rfl, rfl, hide rfl, rfl⟩
    case round =>
      obtain ⟨k, hk, rfl, rfl, HD, rfl⟩ := hrel
      by_cases hlt : k < n
      · obtain ⟨b, o, rfl, hb, hc⟩ := (unhide HR).nat hlt
        have RT := (unhide HR).take (k := k) (by omega)
        rw [Nat.mul_one, nats_take] at RT
        have HG := hide (show gdup l (k + 1) = decide (l.getD k 0 ∈ l.take k) from by simp only [gdup, unhide HD, Bool.false_or])
        obtain ⟨y, hy⟩ : ∃ y, y = l.getD k 0 := ⟨_, rfl⟩
        rw [← hy] at hc HG
        have C := hide (fun cc => contains_u8 (some ⟨b, o, none⟩) k cc (l.take k) y wr RT (by omega))
        obtain ⟨q, hq⟩ : ∃ q, q = decide (y ∈ l.take k) := ⟨_, rfl⟩
        rw [← hq] at C HG
        have hkc : (k : Int) ≤ (c : Int) := by omega
        clear RT hy hq
        go_wp2_with fail
        refine (unhide C _).mono ?_
        rintro e w2 ⟨rfl, rfl⟩
        cases q with
        | true =>
          have hE2 := hide (show r = 6 from by rw [unhide hE, if_pos (gdup_mono (show k + 1 ≤ n by omega) (unhide HG))])
          go_wp2
          go_ret
          exact ⟨by rw [unhide hE2]; rfl, rfl⟩
        | false =>
          go_wp2
          go_roundw
          case rel => exact ⟨k + 1, by omega, by go_num, rfl, HG, by first | rfl | trivial⟩
          case measure => simp [intOf]; omega
      · obtain rfl : n = k := by omega
        have hE2 := hide (show r = 0 from by rw [unhide hE, unhide HD, if_neg (by decide)])
        go_wp2
        go_ret
        exact ⟨by rw [unhide hE2]; rfl, rfl⟩
end Go.Proofs.Ytepkiicekcglhaa
