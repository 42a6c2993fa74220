/-
  The contract of chinese.Join.
-/
import Derived.Test.YtjlofcccijcanaaChinese1
set_option linter.unusedVariables false
set_option linter.unusedSimpArgs false
namespace Go.Proofs.Ytjlofcccijcanaa
open Go.RowKit Go.BigFrame

/-- The system in naturals. -/
def natl (l : List (Int × Int)) : List (Nat × Nat) := l.map fun p => (p.1.toNat, p.2.toNat)
theorem natl_take (l : List (Int × Int)) (k : Nat) : (natl l).take k = natl (l.take k) := by simp [natl, List.map_take]
theorem natl_length (l : List (Int × Int)) : (natl l).length = l.length := List.length_map _
theorem natl_getD (l : List (Int × Int)) (k : Nat) (h : k < l.length) : (natl l).getD k (0, 0) = ((l.getD k (0, 0)).1.toNat, (l.getD k (0, 0)).2.toNat) := by
  simp [natl, List.getD_eq_getElem?_getD, List.getElem?_eq_getElem h]

/-- What Join says of a right system. -/
def JoinPost (l : List (Int × Int)) (e : Ending) : Prop :=
  (∃ n m : Nat, Wm.Joined (natl l) n m ∧ m ≤ 1000000000000000000 ∧ e = .returned (.tuple #[.int .i64 n, .int .i64 m, .int .i64 0])) ∨ ((¬ ∃ t, Wm.Fits t (natl l)) ∧ e = .returned (.tuple #[.int .i64 0, .int .i64 0, .int .i64 4]))

theorem num_eq {K : IntKind} {a b : Int} (h : a = b) : Value.int K a = Value.int K b := by rw [h]
theorem pow1000 {k : Nat} (h : k ≤ 6) : 1000 ^ k ≤ 1000000000000000000 := Nat.le_trans (Nat.pow_le_pow_right (by omega) h) (by decide)

set_option maxRecDepth 100000 in
set_option maxHeartbeats 4000000 in
theorem cJoin_ok (A : Option Addr) (n c : Nat) (l : List (Int × Int)) (w : World) (R : Row w A n 2 (prs l)) (h6 : n ≤ 6) (hall : ∀ p ∈ l, RestOk p) :
    Calls Try.prog 34 #[.slice A n c] w fun e w' => JoinPost l e ∧ Ext w w' := by
  have HC := hide (fun w (R : Row w A n 2 (prs l)) => cCheck_ok A n c l w R h6 hall)
  have HA := hide hall
  have hlen := hide R.prn
  have HR := hide R
  clear hall R
  go_enter Try.func34, Try.ntmps34
  go_wp2_with fail
  refine (unhide HC _ (unhide HR)).mono ?_
  rintro e w' ⟨rfl, E0⟩
  go_wp2
  go_loopw [6, 7, 20] (fun p q i wr => ∃ k N M : Nat, k ≤ n ∧ i = .int .i64 k ∧ p = .int .i64 N ∧ q = .int .i64 M ∧ N < M ∧ M ≤ 1000000000000000000 ∧ Hid (M ≤ 1000 ^ k) ∧ Hid (Wm.Joined (natl (l.take k)) N M) ∧ Ext w wr) (fun _ _ i _ => n - (intOf i).toNat)
  case atStart => exact ⟨0, 0, 1, by omega, rfl, rfl, rfl, by omega, by omega, hide (by simp), hide Wm.Joined.nil, E0⟩
  case round =>
    obtain ⟨k, N, M, hk, rfl, rfl, rfl, hNM, hM18, hMk, hj, hext⟩ := hrel
    by_cases hlt : k < n
    · obtain ⟨b, o, rfl, hb, c1, c2⟩ := ((unhide HR).keep hext).pair hlt
      have hkl : k < l.length := by rw [unhide hlen]; exact hlt
      obtain ⟨⟨v1, v2⟩, v3, v4⟩ := unhide HA _ (getD_mem l (0, 0) hkl)
      have htk := take_snoc (natl l) (0, 0) (k := k) (by rw [natl_length]; exact hkl)
      rw [natl_getD l k hkl, natl_take, natl_take] at htk
      obtain ⟨x, hx⟩ := Int.eq_ofNat_of_zero_le (show 0 ≤ (l.getD k (0, 0)).1 by omega)
      obtain ⟨y, hy⟩ := Int.eq_ofNat_of_zero_le (show 0 ≤ (l.getD k (0, 0)).2 by omega)
      rw [hx, hy] at htk
      rw [Int.toNat_natCast, Int.toNat_natCast] at htk
      rw [hx] at c1
      rw [hy] at c2
      have y1 : 1 ≤ (y : Int) := by omega
      have y2 : (y : Int) ≤ 1000 := by omega
      have xy : (x : Int) < (y : Int) := by omega
      clear v1 v2 v3 v4 hx hy
      obtain ⟨G, hG⟩ : ∃ G, G = Nat.gcd (M % y) y := ⟨_, rfl⟩
      have hGy : G ∣ y := by rw [hG]; exact Nat.gcd_dvd_right _ _
      have hG0 : 0 < G := by rw [hG]; exact Nat.gcd_pos_of_pos_right _ (by omega)
      have hGle : G ≤ y := Nat.le_of_dvd (by omega) hGy
      obtain ⟨Q, hQ⟩ : ∃ Q, Q = y / G := ⟨_, rfl⟩
      have hQ0 : 0 < Q := by rw [hQ]; exact Nat.div_pos hGle hG0
      have hQy : Q ≤ y := by rw [hQ]; exact Nat.div_le_self _ _
      have hMQ : M * Q ≤ 1000 ^ (k + 1) := by rw [Nat.pow_succ]; exact Nat.mul_le_mul (unhide hMk) (by omega)
      have hMQ2 := Nat.le_trans hMQ (pow1000 (k := k + 1) (by omega))
      have HMQ := hide hMQ
      have cg := fun w : World => Gcd_ok ((M % y : Nat) : Int) (y : Int) w (by have := Nat.mod_lt M (show 0 < y by omega); omega) (by omega)
      rw [show (Int.gcd ((M % y : Nat) : Int) (y : Int)) = G by rw [hG]; rfl, Int.natCast_emod] at cg
      have HG := hide cg
      have qd : (y : Int) / (G : Int) = (Q : Int) := by rw [hQ]; rfl
      have qd' : (y : Int).tdiv (G : Int) = (Q : Int) := by rw [hQ]; rfl
      have rm : (M : Int).tmod (y : Int) = (M : Int) % (y : Int) := Int.tmod_eq_emod_of_nonneg (by omega)
      have y0 : ((y : Int) == 0) = false := by rw [beq_eq_false_iff_ne]; omega
      have G0 : ((G : Int) == 0) = false := by rw [beq_eq_false_iff_ne]; omega
      have y0' : ¬ (y : Int) = 0 := by omega
      have G0' : ¬ (G : Int) = 0 := by omega
      have G1 : 1 ≤ (G : Int) := by omega
      have hstep := fun j (h : j < Q) (hf : (N + j * M) % y = x) => (unhide hj).step (k := j) (R := x) (M := y) (by omega) (by rw [← hG, ← hQ]; exact h) hf
      rw [← hG, ← hQ, ← htk] at hstep
      have hnone := fun (h : ∀ j, j < Q → (N + j * M) % y ≠ x) => (unhide hj).none (R := x) (M := y) (by omega) (by rw [← hG, ← hQ]; exact h)
      rw [← htk] at hnone
      have HSTEP := hide hstep
      have HNONE := hide hnone
      have hmono := hide (fun (h : ¬ ∃ t, Wm.Fits t (natl (l.take (k + 1)))) (h' : ∃ t, Wm.Fits t (natl l)) => h (by
        obtain ⟨t, ht⟩ := h'
        exact ⟨t, ht.mono fun q hq => by rw [← natl_take] at hq; exact List.mem_of_mem_take hq⟩))
      clear hstep hnone htk hG hQ hGy hMQ cg hb hkl
      go_wp2
      go_quiet ((go_at_call 66; exact Calls.quiet_of (unhide HG _)))
      go_wp2
      obtain ⟨wo, rfl⟩ : ∃ wo : World, wo = wr := ⟨_, rfl⟩
      go_loopw [12] (fun q wi => ∃ j d : Nat, j ≤ Q ∧ q = .int .i64 j ∧ Hid (∀ i, i < j → (N + i * M) % y ≠ x) ∧ wi = (wo.alloc (.cells #[.int .i64 x, .int .i64 y] 48)).drewN d) (fun q _ => Q + 1 - (intOf q).toNat)
      case atStart => exact ⟨0, _, by omega, rfl, hide (fun i h => absurd h (by omega)), rfl⟩
      case round =>
        obtain ⟨j, d, hjQ, rfl, hz, rfl⟩ := hrel
        have hjm : j * M ≤ Q * M := Nat.mul_le_mul_right M hjQ
        rw [Nat.mul_comm Q M] at hjm
        have hcast : ((j * M : Nat) : Int) = (j : Int) * (M : Int) := Int.natCast_mul j M
        by_cases hjl : j < Q
        · have hjm1 : (j + 1) * M ≤ Q * M := Nat.mul_le_mul_right M hjl
          rw [Nat.add_mul, Nat.mul_comm Q M] at hjm1
          obtain ⟨T, hT⟩ : ∃ T, T = N + j * M := ⟨_, rfl⟩
          have w1 : IntKind.i64.wrap ((j : Int) * (M : Int)) = (j : Int) * (M : Int) := IntWalk.i64_in _ (by omega)
          have eT : (N : Int) + (j : Int) * (M : Int) = (T : Int) := by omega
          have w3 : ((N : Int) + (j : Int) * (M : Int)).tmod (y : Int) = ((T % y : Nat) : Int) := by rw [eT]; rfl
          have w4 : ((N : Int) + (j : Int) * (M : Int)) % (y : Int) = ((T % y : Nat) : Int) := by rw [eT]; rfl
          have hw0 : 0 ≤ (j : Int) * (M : Int) := by omega
          have hw1 : (j : Int) * (M : Int) ≤ 1000000000000000000 := by omega
          have dj : decide (j < Q) = true := decide_eq_true hjl
          have hstepj := unhide HSTEP j hjl
          rw [← hT] at hstepj
          have hzj := hide (fun (h : ¬ T % y = x) i (hi : i < j + 1) => (show (N + i * M) % y ≠ x from by
            by_cases h' : i < j
            · exact unhide hz i h'
            · obtain rfl : i = j := by omega
              rw [← hT]; exact h))
          by_cases hf : T % y = x
          · have HS := hide (hstepj hf)
            clear hzj hjm hjm1
            have dn : (((T % y : Nat) : Int) != (x : Int)) = false := by rw [hf]; simp
            have dn' : (T % y != x) = false := by rw [hf]; simp
            generalize T % y = Z at *
            clear hf
            have HT := hide eT
            clear hT eT hcast hstepj
            go_wp2
            go_quiet (fail)
            go_wp2
            go_quiet (fail)
            go_wp2
            have hJ := (unhide HS).1
            have HJ := hide hJ
            clear hJ
            go_roundw
            case rel => exact ⟨k + 1, T, M * Q, by omega, by go_num, num_eq (unhide HT), num_eq (by push_cast; rfl), unhide HJ, by omega, HMQ, HS, (hext.alloc _).drewN _⟩
            case measure => simp [intOf]; omega
          · have dn : (((T % y : Nat) : Int) != (x : Int)) = true := by rw [bne_iff_ne]; omega
            have dn' : (T % y != x) = true := by rw [bne_iff_ne]; exact hf
            have hz2 := hide ((unhide hzj) hf)
            clear hzj hf hstepj hjm hjm1 hT eT hcast
            generalize T % y = Z at *
            go_wp2
            go_quiet (fail)
            go_wp2
            go_roundw
            case rel => exact ⟨j + 1, _, by omega, by go_num, hz2, rfl⟩
            case measure => simp [intOf]; omega
        · obtain rfl : j = Q := by omega
          have hno := unhide HNONE (fun i hi => unhide hz i hi)
          have HNO := hide (fun h => unhide hmono hno h)
          clear hno
          have dj : decide (j < j) = false := decide_eq_false (by omega)
          go_wp2
          go_quiet (fail)
          go_wp2
          go_ret3
          exact ⟨.inr ⟨unhide HNO, rfl⟩, (hext.alloc _).drewN _⟩
    · obtain rfl : k = n := by omega
      have hJ := unhide hj
      rw [show l.take k = l by rw [← unhide hlen]; exact List.take_length] at hJ
      have HJ := hide hJ
      clear hJ
      go_wp2
      go_ret3
      exact ⟨.inl ⟨N, M, unhide HJ, hM18, rfl⟩, hext⟩

end Go.Proofs.Ytjlofcccijcanaa
