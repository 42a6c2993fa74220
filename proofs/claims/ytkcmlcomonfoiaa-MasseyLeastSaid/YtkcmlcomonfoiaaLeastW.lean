/-
  The walk of the law MasseyLeast.
-/
import Derived.Test.YtkcmlcomonfoiaaMassey3
set_option linter.unusedVariables false
set_option linter.unusedSimpArgs false
namespace Wm
/-- The rule's polynomial. -/
def cR (r : Nat → Bool) (R : Nat) : Nat → Bool
  | 0 => true
  | k + 1 => decide (k < R) && r k
theorem cR_start (s r : Nat → Bool) (R : Nat) : Gen s (cR r R) R R := ⟨fun k hk => by
  obtain ⟨j, rfl⟩ : ∃ j, k = j + 1 := ⟨k - 1, by omega⟩
  show (decide (j < R) && r j) = false
  rw [decide_eq_false (by omega)]; rfl, rfl, fun i h1 h2 => by omega⟩
theorem cR_step {s r : Nat → Bool} {R p : Nat} (h : Gen s (cR r R) R p) (hR : R ≤ p) : Gen (fun j => if j = p then xs (fun k => r k && s (p - 1 - k)) R else s j) (cR r R) R (p + 1) := by
  refine (h.congr (t := fun j => if j = p then xs (fun k => r k && s (p - 1 - k)) R else s j) fun k hk => ?_).next ?_
  · show s k = if k = p then _ else s k
    rw [if_neg (by omega)]
  · unfold dot
    rw [xs_first]
    have e : xs (fun k => cR r R (k + 1) && (fun j => if j = p then xs (fun k => r k && s (p - 1 - k)) R else s j) (p - (k + 1))) R = xs (fun k => r k && s (p - 1 - k)) R := xs_congr _ fun k hk => by
      show ((decide (k < R) && r k) && if p - (k + 1) = p then _ else s (p - (k + 1))) = _
      rw [decide_eq_true hk, if_neg (by omega), show p - (k + 1) = p - 1 - k by omega, Bool.true_and]
    rw [e]
    show xor (true && if p - 0 = p then xs (fun k => r k && s (p - 1 - k)) R else s (p - 0)) _ = false
    rw [if_pos (by omega)]
    cases xs (fun k => r k && s (p - 1 - k)) R <;> rfl
end Wm
namespace Go.Proofs.Ytkcmlcomonfoiaa
open Go.RowKit Go.BigFrame

theorem own_take {w : World} {base : Nat} {e : TypeId} {A : Option Addr} {n c : Nat} {f : Nat → Bool} (h : w.ownsRow base e 1 (.slice A n c) n (nats .u8 (bsl f n))) {k : Nat} (hk : k ≤ n) : w.ownsRow base e 1 (.slice A k c) k (nats .u8 (bsl f k)) := by
  obtain ⟨h1, h2⟩ := h
  refine ⟨by rw [nats_length, bsl_length, Nat.mul_one], ?_⟩
  rcases h2 with ⟨h2, rfl⟩ | ⟨g, cap, cur, hv, hb, hh, hn, hm, hs, ht⟩
  · injection h2 with h2 _ h3
    subst h2; subst h3
    obtain rfl : k = 0 := by omega
    exact .inl ⟨rfl, rfl⟩
  · injection hv with hv _ hv3
    subst hv; subst hv3
    refine .inr ⟨g, c, cur, rfl, hb, hh, by omega, hm, hs, ?_⟩
    rw [Nat.mul_one] at ht ⊢
    rw [← bsl_take f hk, ← nats_take, ← ht, List.take_take, Nat.min_eq_left hk]
def sliceLenM : Value → Nat
  | .slice _ n _ => n
  | _ => 0

set_option maxRecDepth 100000 in
set_option maxHeartbeats 2000000 in
theorem least_law (A : Option Addr) (n c : Nat) (l : List Nat) (A' : Option Addr) (n' c' : Nat) (l' : List Nat) (q : Int) (w : World) (S : SliceIn w A n c 1 1 (nats .u8 l)) (h8 : ∀ x ∈ l, x < 256) (S' : SliceIn w A' n' c' 1 1 (nats .u8 l')) (h8' : ∀ x ∈ l', x < 256) :
    Calls Try.prog 4 #[.slice A n c, .slice A' n' c', .int .i64 q] w fun e w' => e = .returned (.bool true) ∧ Ext w w' := by
  have CT := hide (fun (w' : World) (E : Ext w w') => tape_any A n c l w' ⟨S.1.keep E, S.2⟩ h8)
  have CT' := hide (fun (w' : World) (E : Ext w w') => tape_any A' n' c' l' w' ⟨S'.1.keep E, S'.2⟩ h8')
  clear S h8 S' h8'
  go_enter Try.func4, Try.ntmps4
  go_wp2_with fail
  refine (masseys_any w).mono ?_
  rintro e w1 ⟨rfl, E1⟩
  go_wp2_with fail
  refine (unhide CT' w1 E1).mono ?_
  rintro e w2 ⟨⟨v, rfl, hown⟩, E2⟩
  have EE := E1.trans E2
  obtain ⟨A1, c1, rfl, Q1, hc1, hc2, -⟩ := row_of_own hown
  obtain ⟨m, hm⟩ : ∃ m, m = min n' 60 := ⟨_, rfl⟩
  rw [← hm] at Q1 hc1 ⊢
  have hm60 : m ≤ 60 := by omega
  clear hm hown E1 E2 CT'
  obtain ⟨r, hr⟩ : ∃ f, f = tapeF l' := ⟨_, rfl⟩
  rw [← hr] at Q1
  obtain ⟨R, hR⟩ : ∃ R, R = min m 28 := ⟨_, rfl⟩
  have hRm : R ≤ m := by omega
  have hR28 : R ≤ 28 := by omega
  have Q2 := hide (show RowB w2 A1 R r from RowB.take Q1 hRm)
  have hmI : (if (28 : Int) < (m : Int) then (28 : Int) else (m : Int)) = (R : Int) := by split <;> omega
  have hwR : IntKind.i64.wrap (R : Int) = (R : Int) := IntWalk.i64_in _ (by omega)
  unfold maxLen at hc2
  have hRc : R ≤ c1 := by omega
  have hRcI : (R : Int) ≤ (c1 : Int) := by omega
  clear hR hr Q1
  go_wp2_with fail
  refine (unhide CT w2 EE).mono ?_
  rintro e w3 ⟨⟨v, rfl, hown⟩, E3⟩
  obtain ⟨m2, hm2⟩ : ∃ m, m = min n 60 := ⟨_, rfl⟩
  rw [← hm2] at hown
  have hm260 : m2 ≤ 60 := by omega
  clear hm2 CT
  obtain ⟨f, hf⟩ : ∃ f, f = tapeF l := ⟨_, rfl⟩
  rw [← hf] at hown
  clear hf
  obtain ⟨s0, hs0⟩ : ∃ s0 : Nat → Bool, s0 = fun j => if j < m2 then f j else true := ⟨_, rfl⟩
  have hb0 : bsl f m2 = bsl s0 m2 := bsl_congr fun j hj => by rw [hs0]; show f j = if j < m2 then f j else true; rw [if_pos hj]
  have hs1 : Hid (∀ k, m2 ≤ k → s0 k = true) := hide fun k hk => by rw [hs0]; show (if k < m2 then f k else true) = true; rw [if_neg (by omega)]
  rw [hb0] at hown
  clear hb0 hs0
  have HOWN := hide hown
  clear hown
  go_wp2
  go_loopw [7] (fun v wr => ∃ k : Nat, m2 ≤ k ∧ k ≤ 60 ∧ Hid (wr.ownsRow w2.heap.size 5 1 v k (nats .u8 (bsl s0 k))) ∧ Ext w2 wr) (fun v _ => 60 - (sliceLenM v))
  case atStart => exact ⟨m2, Nat.le_refl _, by omega, HOWN, E3⟩
  case round =>
    clear HOWN E3
    obtain ⟨k, hmk, hk60, HOWN, hext⟩ := hrel
    obtain ⟨A7, c7, rfl, Q7, hc7, hc72, -⟩ := row_of_own (unhide HOWN)
    unfold maxLen at hc72
    by_cases hkR : k < R
    · have htk : nats .u8 (bsl s0 (k + 1)) = nats .u8 (bsl s0 k) ++ [.int .u8 1] := by
        rw [bsl_succ, ← nats_append, unhide hs1 k hmk]; rfl
      have HT := hide htk
      have hbd : (k + 1) * 1 ≤ 140737488355328 ∧ k + 1 ≤ 9223372036854775807 := by omega
      clear htk Q7
      go_wp2_with (at_builtin; refine wpList_app rfl _ _ 22 (by rfl) 5 byteM hext _ _ _ _ (by rfl) (unhide HOWN) 1 1 (by rfl) rfl rfl hbd ?_)
      intro v' w4 hown' hext' _
      have hown2 : Hid (w4.ownsRow w2.heap.size 5 1 v' (k + 1) (nats .u8 (bsl s0 (k + 1)))) := hide (by rw [unhide HT]; exact hown')
      obtain ⟨A8, c8, hv8, -⟩ := row_of_own (unhide hown2)
      clear hown'
      go_wp2
      go_roundw
      case rel => exact ⟨k + 1, by omega, by omega, hown2, hext'⟩
      case measure => rw [hv8]; simp [sliceLenM]; omega
    · have hRk : R ≤ k := by omega
      have HOWN := hide (own_take (unhide HOWN) hRk)
      have hRc7 : R ≤ c7 := by omega
      have hRc7I : (R : Int) ≤ (c7 : Int) := by omega
      clear Q7 hs1
      have hw1 : IntKind.i64.wrap ((60 : Int) - (R : Int)) = ((60 - R : Nat) : Int) := (IntWalk.i64_in _ (by omega)).trans (by omega)
      have hw2 : IntKind.i64.wrap (((60 - R : Nat) : Int) + 1) = ((60 - R + 1 : Nat) : Int) := (IntWalk.i64_in _ (by omega)).trans (by omega)
      obtain ⟨T, hT0, hT1, -, CW⟩ := within_ex q ((60 - R + 1 : Nat) : Int) (by omega) (by omega)
      obtain ⟨T, rfl⟩ := Int.eq_ofNat_of_zero_le hT0
      have hT : R + T ≤ 60 := by omega
      clear hT0 hT1
      go_wp2_with fail
      refine (unhide CW _).mono ?_
      rintro e wr ⟨rfl, rfl⟩
      clear CW
      go_wp2
      go_loopw [7, 42] (fun v i wr => ∃ (t : Nat) (s : Nat → Bool), t ≤ T ∧ i = .int .i64 t ∧ Hid (wr.ownsRow w2.heap.size 5 1 v (R + t) (nats .u8 (bsl s (R + t)))) ∧ Hid (Wm.Gen s (Wm.cR r R) R (R + t)) ∧ Ext w2 wr) (fun _ i _ => T - (intOf i).toNat)
      case atStart => exact ⟨0, s0, Nat.zero_le _, rfl, HOWN, hide (Wm.cR_start s0 r R), hext⟩
      case round =>
        clear HOWN hext
        obtain ⟨t, s, htT, rfl, HOWN, HG, hext⟩ := hrel
        obtain ⟨A9, c9, rfl, Q9, hc9, hc92, -⟩ := row_of_own (unhide HOWN)
        unfold maxLen at hc92
        by_cases hlt : t < T
        · obtain ⟨p, hp⟩ : ∃ p, p = R + t := ⟨_, rfl⟩
          have hp60 : p < 60 := by omega
          have hRp : R ≤ p := by omega
          rw [← hp] at HOWN Q9 hc9 HG ⊢
          have HP := hide hp
          clear hp
          have HQ9 := hide (show RowB wr A9 p s from Q9)
          obtain ⟨g, hg⟩ : ∃ g, g = fun k => r k && s (p - 1 - k) := ⟨_, rfl⟩
          have HGG := hide hg
          clear hg Q9
          go_wp2
          obtain ⟨wz, hwz⟩ : ∃ wz : World, wz = wr := ⟨_, rfl⟩
          rw [← hwz] at HOWN HQ9 hext ⊢
          clear hwz
          go_loopw [8, 46] (fun b j wi => ∃ k : Nat, k ≤ R ∧ j = .int .i64 k ∧ b = .int .u8 (((Wm.xs g k).toNat : Nat) : Int) ∧ wi = wz) (fun _ j _ => R - (intOf j).toNat)
          case atStart => exact ⟨0, Nat.zero_le _, rfl, rfl, rfl⟩
          case round =>
            obtain ⟨k, hk, rfl, rfl, rfl⟩ := hrel
            by_cases hkR : k < R
            · obtain ⟨b, o, rfl, hb, hc⟩ := (unhide HQ9).bit (k := p - 1 - k) (by omega)
              obtain ⟨b2, o2, rfl, hb2, hc2'⟩ := ((unhide Q2).keep hext).bit hkR
              have hstep : Wm.xs g (k + 1) = xor (Wm.xs g k) (r k && s (p - 1 - k)) := by
                show xor (Wm.xs g k) (g k) = _
                rw [unhide HGG]
              have hx := u8_bits (Wm.xs g k) (r k) (s (p - 1 - k))
              rw [← hstep] at hx
              have hw1 : IntKind.i64.wrap ((p : Int) - 1) = (p : Int) - 1 := IntWalk.i64_in _ (by omega)
              have hw2 : IntKind.i64.wrap ((p : Int) - 1 - (k : Int)) = (p : Int) - 1 - k := IntWalk.i64_in _ (by omega)
              have h0 : (0 : Int) ≤ (p : Int) - 1 - k := by omega
              have h1 : (p : Int) - 1 - k < p := by omega
              clear hstep HOWN HG HQ9 HGG HP Q2
              obtain ⟨y, hy⟩ : ∃ y, y = Wm.xs g (k + 1) := ⟨_, rfl⟩
              rw [← hy] at hx
              have HY := hide hy
              clear hy
              obtain ⟨z, hz⟩ : ∃ z, z = Wm.xs g k := ⟨_, rfl⟩
              rw [← hz] at hx ⊢
              clear hz
              generalize (s (p - 1 - k)) = u at *
              generalize r k = v at *
              go_wp2
              go_roundw
              case rel => exact ⟨k + 1, by omega, num_eqM (by omega), by rw [← unhide HY], by first | rfl | trivial⟩
              case measure => simp [intOf]; omega
            · obtain rfl : k = R := by omega
              obtain ⟨s', hs'⟩ : ∃ s' : Nat → Bool, s' = fun j => if j = p then Wm.xs g k else s j := ⟨_, rfl⟩
              have HG2 : Hid (Wm.Gen s' (Wm.cR r k) k (p + 1)) := hide (by
                rw [hs', unhide HGG]
                exact Wm.cR_step (unhide HG) hRp)
              have htk : nats .u8 (bsl s' (p + 1)) = nats .u8 (bsl s p) ++ [.int .u8 (((Wm.xs g k).toNat : Nat) : Int)] := by
                rw [bsl_succ, ← nats_append, bsl_congr (g := s) (fun j hj => by rw [hs']; show (if j = p then _ else s j) = s j; rw [if_neg (by omega)])]
                have : s' p = Wm.xs g k := by rw [hs']; show (if p = p then _ else s p) = _; rw [if_pos rfl]
                rw [this]; rfl
              have HT := hide htk
              have hbd : (p + 1) * 1 ≤ 140737488355328 ∧ p + 1 ≤ 9223372036854775807 := by omega
              clear htk hs' HG HGG HQ9
              generalize (Wm.xs g k).toNat = y at *
              go_wp2_with (at_builtin; refine wpList_app rfl _ _ 22 (by rfl) 5 byteM hext _ _ _ _ (by rfl) (unhide HOWN) 1 1 (by rfl) rfl rfl hbd ?_)
              intro v' w4 hown' hext' _
              have hown2 : Hid (w4.ownsRow w2.heap.size 5 1 v' (p + 1) (nats .u8 (bsl s' (p + 1)))) := hide (by rw [unhide HT]; exact hown')
              clear hown'
              have hp1 : Hid (p + 1 = k + (t + 1)) := hide (by have := unhide HP; omega)
              go_wp2
              go_roundw
              case rel => exact ⟨t + 1, s', by omega, num_eqM (by omega), by rw [← unhide hp1]; exact hown2, by rw [← unhide hp1]; exact HG2, hext'⟩
              case measure => simp [intOf]; omega
        · obtain rfl : t = T := by omega
          obtain ⟨p, hp⟩ : ∃ p, p = R + t := ⟨_, rfl⟩
          have hp60 : p ≤ 60 := by omega
          rw [← hp] at HOWN Q9 hc9 HG ⊢
          clear hp HOWN
          have C1 := hide (Rule_ok A9 p c9 s wr Q9 hp60)
          clear Q9
          go_wp2_with fail
          refine (unhide C1).mono ?_
          rintro e w5 ⟨⟨C, B, L, g, v, hst, rfl, hmd⟩, E5⟩
          obtain ⟨A6, c6, rfl, Q6, -⟩ := hmd.open_
          have hLR : L ≤ R := hst.2.1 _ _ (unhide HG)
          have EF := EE.trans (hext.trans E5)
          have HQ := hide ((unhide Q2).keep (hext.trans E5))
          have hLRI : decide ((L : Int) ≤ (R : Int)) = true := decide_eq_true (by omega)
          have hLRN : decide (L ≤ R) = true := decide_eq_true hLR
          clear hmd C1 Q2 EE hext E5
          have hw2L : IntKind.i64.wrap ((2 : Int) * (L : Int)) = ((2 * L : Nat) : Int) := (IntWalk.i64_in _ (by omega)).trans (by omega)
          by_cases h1 : L < R
          · have d1 : decide ((L : Int) < (R : Int)) = true := decide_eq_true (by omega)
            have d1N : decide (L < R) = true := decide_eq_true h1
            clear Q6 HQ hst HG
            go_wp2
            all_goals
              go_ret
              exact ⟨rfl, EF⟩
          · have d1 : decide ((L : Int) < (R : Int)) = false := decide_eq_false (by omega)
            have d1N : decide (L < R) = false := decide_eq_false h1
            by_cases h2 : p < 2 * L
            · have d2 : decide ((p : Int) < ((2 * L : Nat) : Int)) = true := decide_eq_true (by omega)
              have d2J : decide ((p : Int) < (2 : Int) * (L : Int)) = true := decide_eq_true (by omega)
              have d2N : decide (p < 2 * L) = true := decide_eq_true h2
              clear Q6 HQ hst HG
              go_wp2
              all_goals
                go_ret
                exact ⟨rfl, EF⟩
            · have d2 : decide ((p : Int) < ((2 * L : Nat) : Int)) = false := decide_eq_false (by omega)
              have d2J : decide ((p : Int) < (2 : Int) * (L : Int)) = false := decide_eq_false (by omega)
              have d2N : decide (p < 2 * L) = false := decide_eq_false h2
              obtain rfl : L = R := by omega
              have hC := Wm.unique hst.1 (unhide HG) hst.2.1 (by omega)
              have hrow : bsl (fun k => C (k + 1)) L = bsl r L := bsl_congr fun k hk => by
                show C (k + 1) = r k
                rw [hC (k + 1)]
                show (decide (k < L) && r k) = r k
                rw [decide_eq_true hk, Bool.true_and]
              rw [hrow] at Q6
              have CE := hide (equal_byte A6 A1 L L c6 c1 (bsl r L) (bsl r L) w5 Q6 (unhide HQ) (by omega) (by omega))
              rw [decide_eq_true (rfl : bsl r L = bsl r L)] at CE
              clear Q6 HQ hst HG hrow hC
              go_wp2_with (go_at_call 16; refine (unhide CE).mono ?_; rintro e w6 ⟨rfl, nk, rfl⟩)
              all_goals
                go_ret
                exact ⟨rfl, EF.drewN _⟩
end Go.Proofs.Ytkcmlcomonfoiaa
