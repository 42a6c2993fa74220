/-
  The contract of welch.Mend.
-/
import Derived.Test.YtkkohaojbijklaaWelch1
import Derived.Test.YtkkohaojbijklaaReed2
import Derived.Test.YtkkohaojbijklaaHold
set_option linter.unusedVariables false
set_option linter.unusedSimpArgs false
namespace Go.Proofs.Ytkkohaojbijklaa
open Go.RowKit Go.BigFrame

theorem intW : EInfo Try.prog 44 3 (.int .i64 0) 1 8 := EInfo.mk_ Try.underlying44 (by kernel_rfl) rfl (by omega)
theorem u64_bit (s x : Nat) (hs : s < 18446744073709551616) : bits .and .u64 ((s : Int) / 2 ^ x) 1 = (((s.testBit x).toNat : Nat) : Int) := by
  have h1 : ((s : Int) / 2 ^ x) = ((s / 2 ^ x : Nat) : Int) := by rw [Int.natCast_ediv, Int.natCast_pow]; rfl
  have h2 : s / 2 ^ x < 2 ^ 64 := Nat.lt_of_le_of_lt (Nat.div_le_self _ _) hs
  rw [h1, Nat.toNat_testBit]
  show IntKind.u64.wrap ((BitVec.ofInt 64 ((s / 2 ^ x : Nat) : Int) &&& BitVec.ofInt 64 ((1 : Nat) : Int)).toNat : Int) = _
  rw [BitVec.toNat_and, ofInt_nat 64 _ h2, ofInt_nat 64 1 (by omega), Nat.and_one_is_mod, IntKind.wrap_u64]
  omega

/-- What Mend tells. -/
def WOut (w w' : World) (n : Nat) (l : List Nat) (k : Int) (e : Ending) : Prop :=
  (wErr n k ≠ 0 ∧ e = .returned (.tuple #[.slice none 0 0, .int .i64 0, .int .i64 (wErr n k)])) ∨
  (wErr n k = 0 ∧ ∃ K : Nat, k = (K : Int) ∧ 1 ≤ K ∧ K ≤ n ∧ n ≤ 12 ∧
    ((∃ (s : Nat) (v : Value), s < 2 ^ n ∧ Wm.ones s n = K ∧ Wm.off (Wm.rowS l s n) l n ≤ (n - K) / 2 ∧ Made w' w.heap.size 5 1 v n (nats .u8 (Wm.rowS l s n)) ∧ e = .returned (.tuple #[v, .int .i64 (Wm.off (Wm.rowS l s n) l n : Nat), .int .i64 0])) ∨
     ((∀ s, s < 2 ^ n → Wm.ones s n = K → ¬ Wm.off (Wm.rowS l s n) l n ≤ (n - K) / 2) ∧ e = .returned (.tuple #[.slice none 0 0, .int .i64 0, .int .i64 4]))))

set_option maxRecDepth 100000 in
set_option maxHeartbeats 4000000 in
theorem wMend_any (A : Option Addr) (n c : Nat) (l : List Nat) (k : Int) (w : World) (R : Row w A n 1 (nats .u8 l)) (hl : Wm.B256 l) :
    Calls Try.prog 21 #[.slice A n c, .int .i64 k] w fun e w' => WOut w w' n l k e ∧ Ext w w' := by
  have CK := hide (fun w : World => wCheck_any A n c k w)
  by_cases h0 : wErr n k = 0
  · have hk : 1 ≤ k ∧ k ≤ n ∧ n ≤ 12 := by
      unfold wErr at h0
      split at h0
      · omega
      · split at h0
        · omega
        · omega
    obtain ⟨K, rfl⟩ := Int.eq_ofNat_of_zero_le (show 0 ≤ k by omega)
    obtain ⟨hk1, hkn, hn⟩ := hk
    have hK1 : 1 ≤ K := by omega
    have hKn : K ≤ n := by omega
    have hN : 2 ^ n ≤ 2 ^ 12 := Nat.pow_le_pow_right (by omega) hn
    have hNI : (2 : Int) ^ n = ((2 ^ n : Nat) : Int) := by push_cast; rfl
    rw [h0] at CK
    have HR := hide R
    have HL := hide hl
    have hlen := R.numN
    have HLEN := hide hlen
    have HPOW := hide (show 2 ^ n = 2 ^ n from rfl)
    obtain ⟨N, hNN⟩ : ∃ N, N = 2 ^ n := ⟨_, rfl⟩
    have HN := hide hNN
    have hN12 : N ≤ 4096 := by rw [hNN]; exact hN
    have hshl : IntKind.u64.wrap (1 * 2 ^ n) = (N : Int) := by rw [Int.one_mul, hNI, ← hNN, IntKind.wrap_u64]; omega
    have hshl2 : IntKind.u64.wrap (2 ^ n) = (N : Int) := by rw [hNI, ← hNN, IntKind.wrap_u64]; omega
    have H00 := hide h0
    clear R hl hNI hN hNN h0 hlen
    go_enter Try.func21, Try.ntmps21
    go_wp2_with fail
    refine (unhide CK _).mono ?_
    rintro e w ⟨rfl, rfl⟩
    go_wp2
    go_loopw [26] (fun i wr => ∃ s : Nat, s ≤ N ∧ i = .int .u64 s ∧ Hid (∀ t, t < s → Wm.ones t n = K → ¬ Wm.off (Wm.rowS l t n) l n ≤ (n - K) / 2) ∧ (Ext w wr ∧ True)) (fun i _ => N - (intOf i).toNat)
    case atStart => exact ⟨0, Nat.zero_le _, rfl, hide (fun t ht => absurd ht (by omega)), (by repeat (first | exact Ext.refl _ | refine Ext.alloc ?_ _ | refine Ext.drew ?_ | refine Ext.drewN ?_ _ | (refine Ext.trans ?_ (plus_ext _ _)) | (refine Ext.setCell ?_ (by have := Ext.size Ext.refl _; simp; omega) _))), trivial⟩
    case round =>
      obtain ⟨s, hs, rfl, HNO, hE⟩ := hrel
      by_cases hlt : s < N
      · have CO := hide (fun w : World => ones64_any s (by omega) w)
        have hon : Wm.ones s 12 = Wm.ones s n := by
          have := Wm.ones_above (w := s) (n := n) (by rw [← unhide HN]; exact hlt) (12 - n)
          rwa [show n + (12 - n) = 12 by omega] at this
        rw [hon] at CO
        have hol := Wm.ones_le s n
        clear hon
        by_cases hK : Wm.ones s n = K
        · rw [hK] at CO
          have HK := hide hK
          clear hK hol
          go_wp2_with fail
          refine (unhide CO _).mono ?_
          rintro e wr ⟨rfl, rfl⟩
          go_wp2
          obtain ⟨P, hP⟩ : ∃ P, P = Wm.pk (fun i => s.testBit i) := ⟨_, rfl⟩
          have HP := hide hP
          have HP1 := hide (show ∀ j, s.testBit j = true → P (j + 1) = P j ++ [j] from fun j hj => by rw [hP]; simp [Wm.pk, hj])
          have HP0 := hide (show ∀ j, s.testBit j = false → P (j + 1) = P j from fun j hj => by rw [hP]; simp [Wm.pk, hj])
          have HPL := hide (show (P n).length = K by rw [hP, Wm.pk_length, Wm.cntR_ones]; exact unhide HK)
          have HPM := hide (show ∀ j, j ≤ n → (P j).length ≤ j from fun j _ => by rw [hP, Wm.pk_length]; exact Wm.cntR_le _ _)
          have h00 : P 0 = [] := by rw [hP]; rfl
          have HT0 : Hid (Hold w wr [⟨3, 1, .slice none 0 0, (P 0).length, nats .i64 (P 0)⟩, ⟨5, 1, .slice none 0 0, (P 0).length, nats .u8 ((P 0).map fun i => l.getD i 0)⟩]) := hide (by rw [h00]; exact Hold.none_ (Hold.none_ (Hold.nil hE.1) _ _) _ _)
          clear hP h00
          go_loopw [9, 10, 35] (fun v u i wz => ∃ j : Nat, j ≤ n ∧ i = .int .i64 j ∧ (Hid (Hold w wz [⟨3, 1, v, (P j).length, nats .i64 (P j)⟩, ⟨5, 1, u, (P j).length, nats .u8 ((P j).map fun i => l.getD i 0)⟩]) ∧ True)) (fun _ _ i _ => n - (intOf i).toNat)
          case atStart => exact ⟨0, Nat.zero_le _, rfl, HT0, trivial⟩
          case round =>
            clear HT0 hE
            obtain ⟨j, hj, rfl, HT, -⟩ := hrel
            by_cases hjn : j < n
            · have T0 := unhide HT
              obtain ⟨b, o, rfl, hb, hc⟩ := ((unhide HR).keep T0.1).nat (k := j) hjn
              have hbit := u64_bit s j (by omega)
              have hjI : (j : Int) < (n : Int) := by omega
              have hpl := unhide HPM j (by omega)
              cases hb2 : s.testBit j with
              | true =>
                rw [hb2] at hbit
                have hbit' : bits .and .u64 ((s : Int) / 2 ^ j) 1 = 1 := hbit
                have HS1 := hide (show nats .i64 (P (j + 1)) = nats .i64 (P j) ++ [.int .i64 (j : Int)] by rw [unhide HP1 j hb2, ← nats_append]; rfl)
                have HS2 := hide (show nats .u8 ((P (j + 1)).map fun i => l.getD i 0) = nats .u8 ((P j).map fun i => l.getD i 0) ++ [.int .u8 ((l.getD j 0 : Nat) : Int)] by rw [unhide HP1 j hb2, List.map_append, ← nats_append]; rfl)
                have HS3 := hide (show (P (j + 1)).length = (P j).length + 1 by rw [unhide HP1 j hb2]; simp)
                generalize l.getD j 0 = y at *
                generalize (P j).length = q at *
                clear hbit hb2
                go_wp2_with (at_builtin; first
                  | (refine wpList_app_hold rfl _ _ 44 (by rfl) intW T0 0 rfl rfl 1 rfl rfl rfl ?hb ?_; (case hb => omega); intro vx wx TX)
                  | (refine wpList_app_hold rfl _ _ 22 (by rfl) byteR TX 1 rfl rfl 1 rfl rfl rfl ?hb ?_; (case hb => omega); intro vy wy TY))
                have T2 : Hid (Hold w wy [⟨3, 1, vx, (P (j + 1)).length, nats .i64 (P (j + 1))⟩, ⟨5, 1, vy, (P (j + 1)).length, nats .u8 ((P (j + 1)).map fun i => l.getD i 0)⟩]) := hide (by rw [unhide HS1, unhide HS2, unhide HS3]; exact TY)
                clear TX TY T0 HT HS1 HS2 HS3 hpl
                go_roundw
                case rel => exact ⟨j + 1, by omega, by go_num, T2, trivial⟩
                case measure => simp [intOf]; omega
              | false =>
                rw [hb2] at hbit
                have hbit' : bits .and .u64 ((s : Int) / 2 ^ j) 1 = 0 := hbit
                have T2 := hide T0
                rw [← unhide HP0 j hb2] at T2
                generalize l.getD j 0 = y at *
                clear hbit hb2 T0 HT hpl
                go_wp2
                go_roundw
                case rel => exact ⟨j + 1, by omega, by go_num, T2, trivial⟩
                case measure => simp [intOf]; omega
            · obtain rfl : n = j := by omega
              have T0 := unhide HT
              have h1 := row_of_own (T0.own List.mem_cons_self)
              have h2 := row_of_own (T0.own (List.mem_cons_of_mem _ List.mem_cons_self))
              dsimp only at h1 h2
              rw [unhide HPL] at h1 h2
              obtain ⟨Aa, ca, rfl, Ra, -⟩ := h1
              obtain ⟨Ab, cb, rfl, Rb, -⟩ := h2
              have hnd : (P n).Nodup := by rw [unhide HP]; exact Wm.pk_nodup _ _
              have h32 : ∀ x ∈ P n, x < 32 := fun x hx => by
                rw [unhide HP] at hx
                have := (Wm.pk_mem n hx).1
                omega
              have CR := hide (fun (W : World) (E : Ext wr W) => Row_ok Aa Ab K ca cb n (P n) _ W (Ra.keep E) (Rb.keep E) (by omega) (by omega) h32 hnd (Wm.pick_b (unhide HL)))
              have hrow : Wm.rowL (P n) ((P n).map fun i => l.getD i 0) n = Wm.rowS l s n := by rw [unhide HP]; rfl
              rw [hrow] at CR
              have HE0 := And.intro T0.1 trivial
              obtain ⟨r, hr⟩ : ∃ r, r = Wm.rowS l s n := ⟨_, rfl⟩
              rw [← hr] at CR
              have HRR := hide hr
              have hszw := Ext.size T0.1
              clear T0 HT Ra Rb hnd h32 hrow HP HP0 HP1 HPL HPM hr
              go_wp2_with fail
              refine (unhide CR _ (by repeat (first | exact Ext.refl _ | refine Ext.alloc ?_ _ | refine Ext.drew ?_ | refine Ext.drewN ?_ _ | (refine Ext.trans ?_ (plus_ext _ _)) | (refine Ext.setCell ?_ (by have := Ext.size Ext.refl _; simp; omega) _)))).mono ?_
              rintro e w5 ⟨⟨v, rfl, M⟩, EN⟩
              have F5 : Ext w w5 ∧ True := ⟨HE0.1.trans (Ext.trans (by repeat (first | exact Ext.refl wr | refine Ext.alloc ?_ _ | refine Ext.drew ?_ | refine Ext.drewN ?_ _ | (refine Ext.trans ?_ (plus_ext _ _)) | (refine Ext.setCell ?_ (by have := Ext.size Ext.refl wr; simp; omega) _))) EN), trivial⟩
              have HM := hide (M.mono (base' := w.heap.size) hszw)
              have ho := M.open_
              obtain ⟨Ar, cr, rfl, Rr, -⟩ := ho
              have HRr := hide Rr
              clear M EN HE0 CR Rr
              go_wp2
              go_loopw [14, 61] (fun q i wz => ∃ j : Nat, j ≤ n ∧ i = .int .i64 j ∧ q = .int .i64 ((Wm.off r l j : Nat) : Int) ∧ (Ext w5 wz ∧ True)) (fun _ i _ => n - (intOf i).toNat)
              case atStart => exact ⟨0, Nat.zero_le _, rfl, rfl, (by repeat (first | exact Ext.refl _ | refine Ext.alloc ?_ _ | refine Ext.drew ?_ | refine Ext.drewN ?_ _ | (refine Ext.trans ?_ (plus_ext _ _)) | (refine Ext.setCell ?_ (by have := Ext.size Ext.refl _; simp; omega) _))), trivial⟩
              case round =>
                obtain ⟨j, hj, rfl, rfl, hE5⟩ := hrel
                have hoj : Wm.off r l j ≤ j := Wm.cntR_le _ _
                by_cases hjn : j < n
                · obtain ⟨b, o, rfl, hb, hc⟩ := ((unhide HR).keep (F5.1.trans hE5.1)).nat (k := j) hjn
                  obtain ⟨b', o', rfl, hb', hc'⟩ := ((unhide HRr).keep hE5.1).nat (k := j) hjn
                  have hjI : (j : Int) < (n : Int) := by omega
                  have hj0 : (0 : Int) ≤ (j : Int) := by omega
                  by_cases he : r.getD j 0 = l.getD j 0
                  · have hs1 : Wm.off r l (j + 1) = Wm.off r l j := by
                      show Wm.cntR _ j + (decide (r.getD j 0 ≠ l.getD j 0)).toNat = _
                      rw [decide_eq_false (fun h => h he)]; rfl
                    rw [he] at hc'
                    have HS := hide hs1
                    generalize l.getD j 0 = y at *
                    generalize Wm.off r l j = z at *
                    clear he hs1
                    go_wp2
                    go_roundw
                    case rel => exact ⟨j + 1, by omega, by go_num, by rw [unhide HS], (by repeat (first | exact hE5.1 | refine Ext.alloc ?_ _ | refine Ext.drew ?_ | refine Ext.drewN ?_ _ | (refine Ext.trans ?_ (plus_ext _ _)) | (refine Ext.setCell ?_ (by have := Ext.size hE5.1; simp; omega) _))), trivial⟩
                    case measure => simp [intOf]; omega
                  · have hs1 : Wm.off r l (j + 1) = Wm.off r l j + 1 := by
                      show Wm.cntR _ j + (decide (r.getD j 0 ≠ l.getD j 0)).toNat = _
                      rw [decide_eq_true he]; rfl
                    have HS := hide hs1
                    have hne : (((r.getD j 0 : Nat) : Int) != ((l.getD j 0 : Nat) : Int)) = true := by rw [bne_iff_ne]; exact fun h => he (by exact_mod_cast h)
                    have hne' : ¬ ((r.getD j 0 : Nat) : Int) = ((l.getD j 0 : Nat) : Int) := fun h => he (by exact_mod_cast h)
                    have hne2 : ¬ r.getD j 0 = l.getD j 0 := he
                    generalize l.getD j 0 = y at *
                    generalize r.getD j 0 = x at *
                    generalize Wm.off r l j = z at *
                    clear he hs1
                    go_wp2
                    go_roundw
                    case rel => exact ⟨j + 1, by omega, by go_num, by rw [unhide HS]; go_num, (by repeat (first | exact hE5.1 | refine Ext.alloc ?_ _ | refine Ext.drew ?_ | refine Ext.drewN ?_ _ | (refine Ext.trans ?_ (plus_ext _ _)) | (refine Ext.setCell ?_ (by have := Ext.size hE5.1; simp; omega) _))), trivial⟩
                    case measure => simp [intOf]; omega
                · obtain rfl : n = j := by omega
                  have hq : ((n : Int) - (K : Int)).tdiv 2 = (((n - K) / 2 : Nat) : Int) := by
                    rw [Int.tdiv_eq_ediv_of_nonneg (by omega)]; omega
                  obtain ⟨y, hy⟩ : ∃ y, y = (n - K) / 2 := ⟨_, rfl⟩
                  have hy12 : y ≤ 12 := by omega
                  rw [← hy] at hq
                  have HY := hide hy
                  by_cases hok : Wm.off r l n ≤ (n - K) / 2
                  · have hokI : ((Wm.off r l n : Nat) : Int) ≤ (y : Int) := by omega
                    have HMF := hide ((unhide HM).keep hE5.1)
                    have HFIN := hide (fun v (e : Ending) (hm : Made wr w.heap.size 5 1 v n (nats .u8 r)) (he : e = .returned (.tuple #[v, .int .i64 ((Wm.off r l n : Nat) : Int), .int .i64 0])) => (show WOut w wr n l K e from
                      .inr ⟨unhide H00, K, rfl, hK1, hKn, hn, .inl ⟨s, v, by rw [← unhide HN]; exact hlt, unhide HK, by rw [← unhide HRR]; exact hok, by rw [← unhide HRR]; exact hm, by rw [← unhide HRR]; exact he⟩⟩))
                    generalize Wm.off r l n = z at *
                    clear hok hy
                    go_wp2
                    go_ret3
                    exact ⟨unhide HFIN _ _ (unhide HMF) rfl, (by repeat (first | exact F5.1.trans hE5.1 | refine Ext.alloc ?_ _ | refine Ext.drew ?_ | refine Ext.drewN ?_ _ | (refine Ext.trans ?_ (plus_ext _ _)) | (refine Ext.setCell ?_ (by have := Ext.size F5.1.trans hE5.1; simp; omega) _)))⟩
                  · have hokI : ¬ ((Wm.off r l n : Nat) : Int) ≤ (y : Int) := by omega
                    have HNO2 := hide (show ∀ t, t < s + 1 → Wm.ones t n = K → ¬ Wm.off (Wm.rowS l t n) l n ≤ (n - K) / 2 from fun t ht ho => by
                      by_cases h : t < s
                      · exact unhide HNO t h ho
                      · obtain rfl : t = s := by omega
                        rw [← unhide HRR]; exact hok)
                    generalize Wm.off r l n = z at *
                    clear hok HNO HM hy
                    go_wp2
                    go_roundw
                    case rel => exact ⟨s + 1, by omega, by go_num, HNO2, (by repeat (first | exact F5.1.trans hE5.1 | refine Ext.alloc ?_ _ | refine Ext.drew ?_ | refine Ext.drewN ?_ _ | (refine Ext.trans ?_ (plus_ext _ _)) | (refine Ext.setCell ?_ (by have := Ext.size F5.1.trans hE5.1; simp; omega) _))), trivial⟩
                    case measure => simp [intOf]; omega
        · have hKI : ((Wm.ones s n : Nat) : Int) ≠ (K : Int) := by omega
          have HNO2 := hide (show ∀ t, t < s + 1 → Wm.ones t n = K → ¬ Wm.off (Wm.rowS l t n) l n ≤ (n - K) / 2 from fun t ht ho => by
            by_cases h : t < s
            · exact unhide HNO t h ho
            · obtain rfl : t = s := by omega
              exact absurd ho hK)
          generalize Wm.ones s n = z at *
          clear hK HNO
          go_wp2_with fail
          refine (unhide CO _).mono ?_
          rintro e wr ⟨rfl, rfl⟩
          go_wp2
          go_roundw
          case rel => exact ⟨s + 1, by omega, by go_num, HNO2, (by repeat (first | exact hE.1 | refine Ext.alloc ?_ _ | refine Ext.drew ?_ | refine Ext.drewN ?_ _ | (refine Ext.trans ?_ (plus_ext _ _)) | (refine Ext.setCell ?_ (by have := Ext.size hE.1; simp; omega) _))), trivial⟩
          case measure => simp [intOf]; omega
      · obtain rfl : N = s := by omega
        go_wp2
        go_ret3
        exact ⟨.inr ⟨unhide H00, K, rfl, hK1, hKn, hn, .inr ⟨by rw [← unhide HN]; exact unhide HNO, rfl⟩⟩, (by repeat (first | exact hE.1 | refine Ext.alloc ?_ _ | refine Ext.drew ?_ | refine Ext.drewN ?_ _ | (refine Ext.trans ?_ (plus_ext _ _)) | (refine Ext.setCell ?_ (by have := Ext.size hE.1; simp; omega) _)))⟩
  · have hb : (wErr n k != 0) = true := by rw [bne_iff_ne]; exact h0
    have H0 := hide h0
    generalize hr : wErr n k = r at *
    have HR := hide hr
    clear h0 R hr
    go_enter Try.func21, Try.ntmps21
    go_wp2_with fail
    refine (unhide CK _).mono ?_
    rintro e w ⟨rfl, rfl⟩
    go_wp2
    go_ret3
    exact ⟨.inl ⟨by rw [unhide HR]; exact unhide H0, by rw [unhide HR]; rfl⟩, Ext.refl _⟩
end Go.Proofs.Ytkkohaojbijklaa
