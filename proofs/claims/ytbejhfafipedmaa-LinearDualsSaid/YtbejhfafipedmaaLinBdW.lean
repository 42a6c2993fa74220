/-
  The laws LinearBounds and LinearPacked return true: the walks.
-/
import Derived.Test.YtbejhfafipedmaaLin9
set_option linter.unusedVariables false
set_option linter.unusedSimpArgs false
namespace Wm
theorem far_35 {d : Nat} (h1 : 1 ≤ d) (h : 0 < wcnt [0, 3, 5, 6] d) (hz : ∀ j, 1 ≤ j → j < d → wcnt [0, 3, 5, 6] j = 0) : d = 2 := by
  rcases Nat.lt_trichotomy d 2 with c | c | c
  · obtain rfl : d = 1 := by omega
    exact absurd h (by decide)
  · exact c
  · exact absurd (hz 2 (by omega) c) (by decide)
/-- The least weight of a word that is not nothing. -/
theorem far_min {N d : Nat} {l : List Nat} (hN : N ≤ 16) (hl : ∀ x ∈ l, x < 2 ^ N) (hz : ∀ j, 1 ≤ j → j < d → wcnt (wl l) j = 0) : ∀ x ∈ ws (bl l), x ≠ 0 → d ≤ ones x N := fun x hx h0 => by
  have hxl := (bl_ws l x).1 hx
  have hlt := ws_lt hl x hxl
  have hp := ones_pos h0 hlt
  rw [← ones_16 hN hlt] at hp ⊢
  apply Classical.byContradiction
  intro hc
  have := hz (ones x 16) hp (by omega)
  have h2 := List.length_pos_iff.2 (List.ne_nil_of_mem ((List.mem_filter (p := fun y => decide (ones y 16 = ones x 16))).2 ⟨(wl_mem l x).2 hxl, by simp⟩))
  unfold wcnt at this
  omega
theorem far_dim {d : Nat} {l : List Nat} (h1 : 1 ≤ d) (h : 0 < wcnt (wl l) d) : 1 ≤ (bl l).length := by
  apply Classical.byContradiction
  intro hc
  have e : bl l = [] := List.eq_nil_of_length_eq_zero (by omega)
  unfold wcnt at h
  obtain ⟨x, hx⟩ := List.exists_mem_of_length_pos h
  rw [List.mem_filter, wl_mem, ← bl_ws, e, ws_nil, List.mem_singleton, decide_eq_true_eq] at hx
  obtain ⟨rfl, h2⟩ := hx
  rw [ones_zero] at h2
  omega
theorem far_need {N d : Nat} {l : List Nat} (hN : N ≤ 16) (hl : ∀ x ∈ l, x < 2 ^ N) (hz : ∀ j, 1 ≤ j → j < d → wcnt (wl l) j = 0) : need (bl l).length d ≤ N := by
  have := griesmer N _ (bl l) (fun _ => true) d rfl (Red.free _ (bl_red l)) fun x hx h0 => by rw [wm_all]; exact far_min hN hl hz x hx h0
  rwa [sz_all] at this
theorem far_spheres {N d : Nat} {l : List Nat} (hN : N ≤ 12) (hl : ∀ x ∈ l, x < 2 ^ N) (h1 : 1 ≤ d) (hdN : d ≤ N) (hz : ∀ j, 1 ≤ j → j < d → wcnt (wl l) j = 0) : (wl l).length * vol N ((d - 1) / 2 + 1) ≤ 2 ^ N := by
  rw [← ball_len hN _ (by omega)]
  refine spheres (d := d) (lt_nodup (wl_sorted l)) (wl_lt hl) (fun x hx y hy hne => ?_) (by omega)
  refine far_min (by omega) hl hz _ ((bl_ws l _).2 (ws_xor l x y ((wl_mem l x).1 hx) ((wl_mem l y).1 hy))) fun e => hne (x_eq e)
def pS (d : Nat) : Nat → Nat
  | 0 => d
  | k + 1 => (pS d k + 1) / 2
def nS (d : Nat) : Nat → Nat
  | 0 => 0
  | k + 1 => nS d k + pS d k
theorem nS_all : (List.range 13).all (fun d => (List.range 7).all fun k => decide (nS d k = need k d) && decide (nS d k ≤ 100) && decide (pS d k ≤ 12)) = true := by decide +kernel
theorem nS_need {d k : Nat} (hd : d ≤ 12) (hk : k ≤ 6) : nS d k = need k d ∧ nS d k ≤ 100 ∧ pS d k ≤ 12 := by
  have := List.all_eq_true.1 (List.all_eq_true.1 nS_all d (List.mem_range.2 (by omega))) k (List.mem_range.2 (by omega))
  simp only [Bool.and_eq_true, decide_eq_true_eq] at this
  exact ⟨this.1.1, this.1.2, this.2⟩
theorem way_all : (List.range 13).all (fun n => (List.range 7).all fun i => decide (n ≤ i) || (decide (C n i * (n - i) / (i + 1) = C n (i + 1)) && decide (C n i ≤ 1000) && decide (vol n i ≤ 5000))) = true := by decide +kernel
theorem way_step {n i : Nat} (hn : n ≤ 12) (hi : i ≤ 6) (h : i < n) : C n i * (n - i) / (i + 1) = C n (i + 1) ∧ C n i ≤ 1000 ∧ vol n i ≤ 5000 := by
  have := List.all_eq_true.1 (List.all_eq_true.1 way_all n (List.mem_range.2 (by omega))) i (List.mem_range.2 (by omega))
  simp only [Bool.or_eq_true, Bool.and_eq_true, decide_eq_true_eq] at this
  rcases this with h2 | h2
  · omega
  · exact ⟨h2.1.1, h2.1.2, h2.2⟩
theorem vol_le : (List.range 13).all (fun n => (List.range 8).all fun i => decide (vol n i ≤ 5000)) = true := by decide +kernel
end Wm
namespace Go.Proofs.Ytbejhfafipedmaa
open Go.RowKit Go.BigFrame Go.Sort

set_option maxRecDepth 100000 in
set_option maxHeartbeats 1000000 in
theorem fars_any (w : World) : Calls Try.prog 20 #[] w fun e w' => e = .returned (.bool true) ∧ Ext w w' := by
  have CF := hide (fun (W : World) (b : Nat) (R : Row W (some ⟨b, 0, none⟩) 2 1 (nats .u16 [3, 5])) => (Far_any 3 (some ⟨b, 0, none⟩) 2 2 [3, 5] W R (by omega) (by decide)).mono fun e w' h => (show e = .returned (.tuple #[.int .i64 2, .int .i64 0]) ∧ Ext W w' from by
    obtain ⟨h | ⟨-, h⟩, E⟩ := h
    · exact absurd Wm.chk_35 h.1
    · rw [Wm.wl_35] at h
      rcases h with ⟨d, h1, -, h2, h3, rfl⟩ | ⟨h, -⟩
      · rw [Wm.far_35 h1 h2 h3]
        exact ⟨rfl, E⟩
      · exact absurd (h 2 (by omega) (by decide)) (by decide)))
  have C0 := hide (fun w : World => words_any w)
  go_enter Try.func20, Try.ntmps20
  go_wp2_with fail
  refine (unhide CF _ _ (row16 w [3, 5] 2 rfl _ rfl)).mono ?_
  rintro e w1 ⟨rfl, E1⟩
  have HE1 := hide (show Ext w w1 from Ext.trans ((Ext.refl w).alloc _) E1)
  go_wp2_with fail
  refine (unhide C0 _).mono ?_
  rintro e w2 ⟨rfl, E2⟩
  go_wp2
  go_ret
  exact ⟨ret_boolv (by simp), (unhide HE1).trans E2⟩

set_option maxRecDepth 100000 in
set_option maxHeartbeats 4000000 in
theorem bounds_law (n : Int) (A : Option Addr) (m c : Nat) (l : List Nat) (w : World) (S : SliceIn w A m c 1 2 (nats .u16 l)) (hl : ∀ x ∈ l, x < 65536) :
    Calls Try.prog 5 #[.int .i64 n, .slice A m c] w fun e w' => e = .returned (.bool true) ∧ Ext w w' := by
  have hm63 : m ≤ 9223372036854775807 := by have := S.2.1; have := S.2.2.2.1; omega
  have C0 := hide (fars_any w)
  have CF := hide (fun (W : World) (E : Ext w W) => Far_any n A m c l W (S.1.keep E) hm63 hl)
  have CB := hide (fun (W : World) (E : Ext w W) => Base_any n A m c l W (S.1.keep E) hm63 hl)
  clear S
  by_cases hk : Wm.chkL n l = 0
  · obtain ⟨N, rfl, h1, h12, h6, hlt⟩ := Wm.chk_ok hk
    have hb6 := Nat.le_trans (Wm.bl_len_le l) h6
    have HK0 := hide hk
    have HT := hide (Int.toNat_natCast N)
    have HND := hide (fun d hz => Wm.far_need (N := N) (d := d) (by omega) hlt hz)
    clear hl hk
    go_enter Try.func5, Try.ntmps5
    go_wp2_with fail
    refine (unhide C0).mono ?_
    rintro e w1 ⟨rfl, E1⟩
    have HE1 := hide E1
    go_wp2_with fail
    refine (unhide CF _ (unhide HE1)).mono ?_
    rintro e w2 ⟨ho, E2⟩
    have HE2 := hide ((unhide HE1).trans E2)
    clear E1 E2 CF C0
    rcases ho with ⟨h, -⟩ | ⟨-, ⟨d, hd1, hdN, hd0, hdz, rfl⟩ | ⟨-, rfl⟩⟩
    · exact absurd (unhide HK0) h
    · rw [unhide HT] at hdN
      have hneed := unhide HND d hdz
      have hK1 := Wm.far_dim hd1 hd0
      clear hdz hd0 HND
      go_wp2_with fail
      refine (unhide CB _ (unhide HE2)).mono ?_
      rintro e w3 ⟨ho, E3⟩
      rcases ho with ⟨h, -⟩ | ⟨-, v, rfl, M2⟩
      · exact absurd (unhide HK0) h
      have HE3 := hide ((unhide HE2).trans E3)
      obtain ⟨A2, c2, rfl, -, -, -, -⟩ := M2.open_
      clear M2 E3 CB
      generalize (Wm.bl l).length = K at *
      obtain ⟨J, rfl⟩ : ∃ J, K = J + 1 := ⟨K - 1, by omega⟩
      obtain ⟨hs, hp⟩ := Wm.plain_bounds hd1 hneed
      have hNS := fun k (hk : k ≤ J + 1) => Wm.nS_need (d := d) (k := k) (by omega) (by omega)
      have HNS := hide hNS
      have HND := hide (show Wm.nS d (J + 1) ≤ N by rw [(hNS (J + 1) (Nat.le_refl _)).1]; exact hneed)
      obtain ⟨K, hK⟩ : ∃ K, K = J + 1 := ⟨_, rfl⟩
      rw [← hK] at hp HNS HND ⊢
      have hKJ : (K : Int) - 1 = (J : Int) := by omega
      have hpk := pow_i64 K (by omega)
      have hpj := pow_i64 J (by omega)
      have hpe : 2 ^ K = 2 * 2 ^ J := by rw [hK, Nat.pow_succ, Nat.mul_comm]
      have hpge : 1 ≤ 2 ^ K := Nat.one_le_two_pow
      have h64 : 2 ^ K ≤ 64 := Nat.pow_le_pow_right (n := 2) (by omega) (show K ≤ 6 by omega)
      have hpow : ((2 : Int) ^ J) = ((2 ^ J : Nat) : Int) := by push_cast; rfl
      obtain ⟨p, hpp⟩ : ∃ p, p = 2 ^ K := ⟨_, rfl⟩
      obtain ⟨q, hqq⟩ : ∃ q, q = 2 ^ J := ⟨_, rfl⟩
      rw [← hpp] at hp hpk hpe h64 hpge
      rw [← hqq] at hp hpj hpe hpow
      have hp1 : (p : Int) - 1 = ((p - 1 : Nat) : Int) := by omega
      obtain ⟨p', hp'⟩ : ∃ p', p' = p - 1 := ⟨_, rfl⟩
      rw [← hp'] at hp hp1
      have hmul1 : d * p' ≤ 12 * 63 := Nat.mul_le_mul (by omega) (by omega)
      have hmul2 : N * q ≤ 12 * 32 := Nat.mul_le_mul (by omega) (by omega)
      have e1 : (d : Int) * (p' : Int) = ((d * p' : Nat) : Int) := (Int.natCast_mul _ _).symm
      have e2 : (N : Int) * 2 ^ J = ((N * q : Nat) : Int) := by rw [hpow, Int.natCast_mul]
      obtain ⟨u, hu⟩ : ∃ u, u = d * p' := ⟨_, rfl⟩
      obtain ⟨v, hv⟩ : ∃ v, v = N * q := ⟨_, rfl⟩
      rw [← hu] at e1 hmul1 hp
      rw [← hv] at e2 hmul2 hp
      have w1' := hpk.1
      have w2' : IntKind.i64.wrap ((N : Int) * 2 ^ J) = (v : Int) := by rw [e2]; exact IntWalk.i64_in _ (by omega)
      have b1 : decide ((K : Int) < 1) = false := decide_eq_false (by omega)
      have b2 : decide ((d : Int) < 1) = false := decide_eq_false (by omega)
      have b3 : decide ((N : Int) - (K : Int) + 1 < (d : Int)) = false := decide_eq_false (by omega)
      have b4 : decide ((v : Int) < (u : Int)) = false := decide_eq_false (by omega)
      have b5 : decide (K < 1) = false := decide_eq_false (by omega)
      have b6 : decide (d < 1) = false := decide_eq_false (by omega)
      have b7 : decide (v < u) = false := decide_eq_false (by omega)
      have hKn : K ≤ 6 := by omega
      have HKK := hide hK
      clear hK
      clear hu hv hp' hpp hqq hpk hpj hpe hpow hp hNS hneed hs
      go_wp2
      go_quiet (fail)
      replace HE3 := hide ((unhide HE3).drewN nq)
      generalize w3.drewN nq = w4 at *
      go_wp2
      go_loopw [10, 11, 65] (fun a b i wr => ∃ k : Nat, k ≤ K ∧ i = .int .i64 k ∧ a = .int .i64 ((Wm.nS d k : Nat) : Int) ∧ b = .int .i64 ((Wm.pS d k : Nat) : Int) ∧ wr = w4) (fun _ _ i _ => K - (intOf i).toNat)
      case atStart => exact ⟨0, Nat.zero_le _, rfl, rfl, rfl, rfl⟩
      case round =>
        obtain ⟨k, hkK, rfl, rfl, rfl, hw⟩ := hrel
        subst hw
        by_cases hlt : k < K
        · obtain ⟨-, n1, n2⟩ := unhide HNS k (by have := unhide HKK; omega)
          have hS := hide (show Wm.nS d (k + 1) = Wm.nS d k + Wm.pS d k from rfl)
          have hP := hide (show Wm.pS d (k + 1) = (Wm.pS d k + 1) / 2 from rfl)
          generalize Wm.nS d k = x at *
          generalize Wm.pS d k = y at *
          obtain ⟨z, hz⟩ : ∃ z, z = (y + 1) / 2 := ⟨_, rfl⟩
          have hq : ((y : Int) + 1).tdiv 2 = (z : Int) := by rw [hz, show (y : Int) + 1 = ((y + 1 : Nat) : Int) by omega]; rfl
          have hq2 : ((y : Int) + 1) / 2 = (z : Int) := by rw [hz, show (y : Int) + 1 = ((y + 1 : Nat) : Int) by omega]; rfl
          have hzb : z ≤ 12 := by omega
          rw [← hz] at hP
          clear hz
          go_wp2
          go_roundw
          case rel => exact ⟨k + 1, by omega, by go_num, by rw [unhide hS]; go_num, by rw [unhide hP], trivial⟩
          case measure => simp [intOf]; omega
        · obtain rfl : k = K := by omega
          have hle := unhide HND
          have hleI : ((Wm.nS d k : Nat) : Int) ≤ (N : Int) := by omega
          go_wp2
          go_ret
          exact ⟨ret_boolv (by simp [hle]), unhide HE3⟩
    · clear HND
      go_wp2_with fail
      refine (unhide CB _ (unhide HE2)).mono ?_
      rintro e w3 ⟨ho, E3⟩
      rcases ho with ⟨h, -⟩ | ⟨-, v, rfl, M2⟩
      · exact absurd (unhide HK0) h
      obtain ⟨A2, c2, rfl, -, -, -, -⟩ := M2.open_
      have HE3 := hide ((unhide HE2).trans E3)
      go_wp2
      go_ret
      exact ⟨ret_boolv (by simp), unhide HE3⟩
  · obtain ⟨q, hq⟩ : ∃ q, q = Wm.chkL n l := ⟨_, rfl⟩
    have hqB : (q != 0) = true := by rw [hq]; simpa using hk
    have HQ := hide (And.intro hq hk)
    clear hq hk hl
    go_enter Try.func5, Try.ntmps5
    go_wp2_with fail
    refine (unhide C0).mono ?_
    rintro e w1 ⟨rfl, E1⟩
    go_wp2_with fail
    refine (unhide CF _ E1).mono ?_
    rintro e w2 ⟨ho, E2⟩
    rcases ho with ⟨-, rfl⟩ | ⟨h, -⟩
    · rw [← (unhide HQ).1]
      have HE2 := hide (E1.trans E2)
      clear E1 E2
      go_wp2_with fail
      refine (unhide CB _ (unhide HE2)).mono ?_
      rintro e w3 ⟨ho, E3⟩
      rcases ho with ⟨-, rfl⟩ | ⟨h, -⟩
      · rw [← (unhide HQ).1]
        have HE3 := hide ((unhide HE2).trans E3)
        clear E3
        go_wp2
        go_ret
        exact ⟨ret_boolv (by simp), unhide HE3⟩
      · exact absurd h (unhide HQ).2
    · exact absurd h (unhide HQ).2
set_option maxRecDepth 100000 in
set_option maxHeartbeats 4000000 in
theorem packed_law (n : Int) (A : Option Addr) (m c : Nat) (l : List Nat) (w : World) (S : SliceIn w A m c 1 2 (nats .u16 l)) (hl : ∀ x ∈ l, x < 65536) :
    Calls Try.prog 6 #[.int .i64 n, .slice A m c] w fun e w' => e = .returned (.bool true) ∧ Ext w w' := by
  have hm63 : m ≤ 9223372036854775807 := by have := S.2.1; have := S.2.2.2.1; omega
  have C0 := hide (fars_any w)
  have CF := hide (fun (W : World) (E : Ext w W) => Far_any n A m c l W (S.1.keep E) hm63 hl)
  have CW := hide (fun (W : World) (E : Ext w W) => Words_any n A m c l W (S.1.keep E) hm63 hl)
  clear S
  by_cases hk : Wm.chkL n l = 0
  · obtain ⟨N, rfl, h1, h12, h6, hlt⟩ := Wm.chk_ok hk
    have HK0 := hide hk
    have HT := hide (Int.toNat_natCast N)
    have HSP := hide (fun d h1 hdN hz => Wm.far_spheres (N := N) (d := d) h12 hlt h1 hdN hz)
    have hL64 : (Wm.wl l).length ≤ 64 := by
      rw [Wm.wl_len]
      have : 2 ^ (Wm.bl l).length ≤ 2 ^ 6 := Nat.pow_le_pow_right (by omega) (Nat.le_trans (Wm.bl_len_le l) h6)
      omega
    clear hl hk
    go_enter Try.func6, Try.ntmps6
    go_wp2_with fail
    refine (unhide C0).mono ?_
    rintro e w1 ⟨rfl, E1⟩
    have HE1 := hide E1
    go_wp2_with fail
    refine (unhide CF _ (unhide HE1)).mono ?_
    rintro e w2 ⟨ho, E2⟩
    have HE2 := hide ((unhide HE1).trans E2)
    clear E1 E2 CF C0
    rcases ho with ⟨h, -⟩ | ⟨-, ⟨d, hd1, hdN, hd0, hdz, rfl⟩ | ⟨-, rfl⟩⟩
    · exact absurd (unhide HK0) h
    · rw [unhide HT] at hdN
      have hsp := unhide HSP d hd1 hdN hdz
      clear hdz hd0 HSP
      go_wp2_with fail
      refine (unhide CW _ (unhide HE2)).mono ?_
      rintro e w3 ⟨ho, E3⟩
      rcases ho with ⟨h, -⟩ | ⟨-, v, rfl, M2⟩
      · exact absurd (unhide HK0) h
      have HE3 := hide ((unhide HE2).trans E3)
      obtain ⟨A2, c2, rfl, -, -, -, -⟩ := M2.open_
      clear M2 E3 CW
      generalize (Wm.wl l).length = L at *
      obtain ⟨d1, hd1'⟩ : ∃ d1, d1 = d - 1 := ⟨_, rfl⟩
      obtain ⟨h, hh⟩ : ∃ h, h = d1 / 2 := ⟨_, rfl⟩
      obtain ⟨T, hT'⟩ : ∃ T, T = h + 1 := ⟨_, rfl⟩
      rw [← hd1', ← hh, ← hT'] at hsp
      have i1 : (d : Int) - 1 = (d1 : Int) := by omega
      have i2 : (d1 : Int).tdiv 2 = (h : Int) := by rw [hh]; rfl
      have i3 : (d1 : Int) / 2 = (h : Int) := by rw [hh]; rfl
      have i4 : (h : Int) + 1 = (T : Int) := by omega
      have hd1n : d1 ≤ 11 := by omega
      have hhn : h ≤ 5 := by omega
      have hTn : T ≤ 6 := by omega
      have hTN : T ≤ N := by omega
      have hpn := pow_i64 N (by omega)
      obtain ⟨P, hP⟩ : ∃ P, P = 2 ^ N := ⟨_, rfl⟩
      rw [← hP] at hpn hsp
      obtain ⟨hpw, hpb⟩ := hpn
      clear hd1' hh hT' hP
      go_wp2
      go_loopw [9, 10, 38] (fun a b i wr => ∃ k : Nat, k ≤ T ∧ i = .int .i64 k ∧ a = .int .i64 ((Wm.vol N k : Nat) : Int) ∧ b = .int .i64 ((Wm.C N k : Nat) : Int) ∧ wr = w3) (fun _ _ i _ => T - (intOf i).toNat)
      case atStart => exact ⟨0, Nat.zero_le _, rfl, rfl, by rw [Wm.C_zero]; rfl, rfl⟩
      case round =>
        obtain ⟨k, hkT, rfl, rfl, rfl, hw⟩ := hrel
        subst hw
        by_cases hlt : k < T
        · obtain ⟨n1, n2, n3⟩ := Wm.way_step (n := N) (i := k) h12 (by omega) (by omega)
          have hS := hide (show Wm.vol N (k + 1) = Wm.vol N k + Wm.C N k from rfl)
          have HC := hide n1
          have hC2 : Wm.C N (k + 1) ≤ 12000 := by
            rw [← n1]
            exact Nat.le_trans (Nat.div_le_self _ _) (Nat.le_trans (Nat.mul_le_mul n2 (show N - k ≤ 12 by omega)) (by omega))
          generalize Wm.vol N k = x at *
          generalize hCC : Wm.C N (k + 1) = z at *
          have HCC := hide hCC
          generalize Wm.C N k = y at *
          obtain ⟨a, ha⟩ : ∃ a, a = N - k := ⟨_, rfl⟩
          rw [← ha] at HC
          have haI : (N : Int) - (k : Int) = (a : Int) := by omega
          have hal : a ≤ 12 := by omega
          obtain ⟨pr, hpr⟩ : ∃ pr, pr = y * a := ⟨_, rfl⟩
          rw [← hpr] at HC
          have hprI : (y : Int) * (a : Int) = (pr : Int) := by rw [hpr, Int.natCast_mul]
          have hprl : pr ≤ 12000 := by rw [hpr]; exact Nat.le_trans (Nat.mul_le_mul n2 hal) (by omega)
          have hq : (pr : Int).tdiv ((k : Int) + 1) = (z : Int) := by
            rw [show (k : Int) + 1 = ((k + 1 : Nat) : Int) by omega, ← unhide HC]; rfl
          have hq2 : (pr : Int) / ((k : Int) + 1) = (z : Int) := by
            rw [show (k : Int) + 1 = ((k + 1 : Nat) : Int) by omega, ← unhide HC]; rfl
          have hk1 : ¬ (k : Int) + 1 = 0 := by omega
          have hk1B : ((k : Int) + 1 == 0) = false := by rw [beq_eq_false_iff_ne]; exact hk1
          clear n1 hCC ha hpr
          go_wp2
          go_roundw
          case rel => exact ⟨k + 1, by omega, by go_num, by rw [unhide hS]; go_num, by rw [unhide HCC], trivial⟩
          case measure => simp [intOf]; omega
        · obtain rfl : k = T := by omega
          obtain ⟨u, hu⟩ : ∃ u, u = L * Wm.vol N k := ⟨_, rfl⟩
          rw [← hu] at hsp
          have huI : (L : Int) * ((Wm.vol N k : Nat) : Int) = (u : Int) := by rw [hu, Int.natCast_mul]
          have hv := List.all_eq_true.1 (List.all_eq_true.1 Wm.vol_le N (List.mem_range.2 (by omega))) k (List.mem_range.2 (by omega))
          rw [decide_eq_true_eq] at hv
          generalize Wm.vol N k = v at *
          clear hu
          go_wp2
          go_ret
          exact ⟨ret_boolv (by simp [hsp]), unhide HE3⟩
    · clear HSP
      go_wp2_with fail
      refine (unhide CW _ (unhide HE2)).mono ?_
      rintro e w3 ⟨ho, E3⟩
      rcases ho with ⟨h, -⟩ | ⟨-, v, rfl, M2⟩
      · exact absurd (unhide HK0) h
      obtain ⟨A2, c2, rfl, -, -, -, -⟩ := M2.open_
      have HE3 := hide ((unhide HE2).trans E3)
      go_wp2
      go_ret
      exact ⟨ret_boolv (by simp), unhide HE3⟩
  · obtain ⟨q, hq⟩ : ∃ q, q = Wm.chkL n l := ⟨_, rfl⟩
    have hqB : (q != 0) = true := by rw [hq]; simpa using hk
    have HQ := hide (And.intro hq hk)
    clear hq hk hl
    go_enter Try.func6, Try.ntmps6
    go_wp2_with fail
    refine (unhide C0).mono ?_
    rintro e w1 ⟨rfl, E1⟩
    go_wp2_with fail
    refine (unhide CF _ E1).mono ?_
    rintro e w2 ⟨ho, E2⟩
    rcases ho with ⟨-, rfl⟩ | ⟨h, -⟩
    · rw [← (unhide HQ).1]
      have HE2 := hide (E1.trans E2)
      clear E1 E2
      go_wp2_with fail
      refine (unhide CW _ (unhide HE2)).mono ?_
      rintro e w3 ⟨ho, E3⟩
      rcases ho with ⟨-, rfl⟩ | ⟨h, -⟩
      · rw [← (unhide HQ).1]
        have HE3 := hide ((unhide HE2).trans E3)
        clear E3
        go_wp2
        go_ret
        exact ⟨ret_boolv (by simp), unhide HE3⟩
      · exact absurd h (unhide HQ).2
    · exact absurd h (unhide HQ).2
end Go.Proofs.Ytbejhfafipedmaa
