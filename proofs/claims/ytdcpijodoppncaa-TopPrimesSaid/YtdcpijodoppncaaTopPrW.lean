/-
  The law TopPrimes returns true: the walk.
-/
import Derived.Test.YtdcpijodoppncaaWorks
import Derived.Test.YtdcpijodoppncaaSquareW
import Derived.Test.YtdcpijodoppncaaLucas1
import Derived.Test.YtdcpijodoppncaaFactor1
import Derived.Test.YtdcpijodoppncaaQr0
import Derived.Test.YtdcpijodoppncaaLaw
set_option linter.unusedVariables false
set_option linter.unusedSimpArgs false
namespace Go.Proofs.Ytdcpijodoppncaa
open Go.RowKit Go.BigFrame

set_option maxRecDepth 100000 in
set_option maxHeartbeats 1000000 in
theorem equal_pows (A B : Option Addr) (n m c d : Nat) (xs ys : List (Int × Int)) (w : World) (R : Row w A n 2 (prs xs)) (S : Row w B m 2 (prs ys)) (hn : (n : Int) ≤ 9223372036854775807) (hm : (m : Int) ≤ 9223372036854775807) :
    Calls Try.prog 15 #[.slice A n c, .slice B m d] w fun e w' => e = .returned (.bool (decide (xs = ys))) ∧ ∃ k, w' = w.drewN k := by
  have hne : ∀ (x y : Int) (w : World), (binOp .neq 43 (.agg #[.int .i64 x, .int .i64 y]) (.agg #[.int .i64 x, .int .i64 y])).run Try.prog w = .ok (.bool false) w := by
    intro x y w
    have h1 := Try.underlying43
    have h2 := Try.underlying3
    rw [run_neq_struct]
    simp [go_sem, h1, h2]
  have hdf : ∀ (x y x' y' : Int) (w : World), ¬ (x = x' ∧ y = y') → (binOp .neq 43 (.agg #[.int .i64 x, .int .i64 y]) (.agg #[.int .i64 x', .int .i64 y'])).run Try.prog w = .ok (.bool true) w := by
    intro x y x' y' w h
    have h1 := Try.underlying43
    have h2 := Try.underlying3
    rw [run_neq_struct]
    by_cases e : x = x'
    · subst e
      have hy : ¬ y = y' := fun e => h ⟨rfl, e⟩
      simp [go_sem, h1, h2, hy]
    · simp [go_sem, h1, h2, e]
  have hx := R.prn
  have hy := S.prn
  by_cases hnm : n = m
  · subst hnm
    have HX := hide hx
    have HY := hide hy
    have HR := hide R
    have HS := hide S
    have HDF := hide hdf
    clear hx hy R S hdf
    go_enter Try.func15, Try.ntmps15
    go_wp2
    go_loopw [13] (fun i wr => ∃ k : Nat, k ≤ n ∧ i = .int .i64 k ∧ Hid (∀ j, j < k → xs.getD j (0, 0) = ys.getD j (0, 0)) ∧ ∃ q, wr = w.drewN q) (fun i _ => n - (intOf i).toNat)
    case atStart => exact ⟨0, by omega, rfl, hide (fun j h => absurd h (by omega)), 0, rfl⟩
    case round =>
      obtain ⟨k, hk, rfl, hz, q, rfl⟩ := hrel
      by_cases hlt : k < n
      · obtain ⟨b, o, rfl, hb, c1, c2⟩ := (unhide HR).pair hlt
        obtain ⟨b', o', rfl, hb', d1, d2⟩ := (unhide HS).pair hlt
        have hk0 : (0 : Int) ≤ (k : Int) := by omega
        have hk1 : (k : Int) < (n : Int) := by omega
        by_cases he : xs.getD k (0, 0) = ys.getD k (0, 0)
        · have hz2 := hide (fun j (hj : j < k + 1) => (show xs.getD j (0, 0) = ys.getD j (0, 0) from by
            by_cases h : j < k
            · exact unhide hz j h
            · obtain rfl : j = k := by omega
              exact he))
          rw [he] at c1 c2
          clear he
          generalize (ys.getD k (0, 0)).1 = x at *
          generalize (ys.getD k (0, 0)).2 = y at *
          go_wp2
          go_quiet (fail)
          go_wp2
          go_roundw
          case rel => exact ⟨k + 1, by omega, by go_num, hz2, _, rfl⟩
          case measure => simp [intOf]; omega
        · have hdd := fun w : World => unhide HDF (xs.getD k (0, 0)).1 (xs.getD k (0, 0)).2 (ys.getD k (0, 0)).1 (ys.getD k (0, 0)).2 w (fun h => he (Prod.ext h.1 h.2))
          have hfin := hide (show decide (xs = ys) = false from decide_eq_false (fun h => he (by rw [h])))
          clear he hne
          generalize (xs.getD k (0, 0)).1 = x at *
          generalize (xs.getD k (0, 0)).2 = y at *
          generalize (ys.getD k (0, 0)).1 = x' at *
          generalize (ys.getD k (0, 0)).2 = y' at *
          go_wp2
          go_quiet (fail)
          go_wp2
          go_ret
          exact ⟨ret_boolv (unhide hfin).symm, _, World.drewN_drewN _ _ _⟩
      · obtain rfl : k = n := by omega
        have hfin := hide (show decide (xs = ys) = true from decide_eq_true (by
          have h1 := unhide HX
          have h2 := unhide HY
          apply List.ext_getElem (by omega)
          intro j j1 j2
          have := unhide hz j (by omega)
          rwa [List.getD_eq_getElem?_getD, List.getElem?_eq_getElem j1, List.getD_eq_getElem?_getD, List.getElem?_eq_getElem j2] at this))
        go_wp2
        go_ret
        exact ⟨ret_boolv (unhide hfin).symm, _, rfl⟩
  · have hv : decide (xs = ys) = false := decide_eq_false (fun h => hnm (by rw [← hx, ← hy, h]))
    rw [hv]
    have hb1 : ((n : Int) != (m : Int)) = true := by rw [bne_iff_ne]; omega
    have hb2 : (n != m) = true := by rw [bne_iff_ne]; exact hnm
    clear hv hx hy hnm R S hne hdf
    go_enter Try.func15, Try.ntmps15
    go_wp2
    go_ret
    exact ⟨rfl, 0, rfl⟩


theorem isp_fac {n : Nat} (hn : 1 < n) {l : List (Nat × Nat)} (hl : Wm.IsFac n l) : Wm.isp n = decide (castP l = [((n : Int), 1)]) := by
  by_cases hp : Wm.Prime n
  · rw [Wm.isp_true hp, Wm.fac_unique hl (fac_prime hp)]
    exact (decide_eq_true rfl).symm
  · rw [Wm.isp_false hp]
    refine (decide_eq_false fun h => ?_).symm
    cases l with
    | nil => simp [castP] at h
    | cons x t =>
      simp only [castP, List.map_cons, List.cons.injEq, Prod.mk.injEq] at h
      have h1 : x.1 = n := by omega
      exact hp (h1 ▸ (hl.2.1 x (by simp)).1)
theorem hasR_leg {p b : Nat} (hp : Wm.Prime p) (h3 : 3 ≤ p) (hb : 0 < b) (hbp : b < p) : Wm.hasR p b = true ↔ leg p (b : Int) = 1 := by
  have e : (b : Int) % (p : Int) = (b : Int) := Int.emod_eq_of_lt (by omega) (by omega)
  constructor
  · intro h
    obtain ⟨x, hx, hxb⟩ := Wm.hasR_iff.1 h
    have h1 := leg_root (a := (b : Int)) hp h3 (x := x) (by rw [e, hxb])
    have h2 := leg_bound p (b : Int)
    have hne : leg p (b : Int) ≠ 0 := fun h0 => by
      have h4 := leg_power p (b : Int) hp h3
      rw [h0, emod_pow_nat _ _ _ hp.pos, e, Int.toNat_natCast] at h4
      have h5 : b ^ ((p - 1) / 2) % p = 0 := by
        simp only [Int.zero_emod] at h4
        exact_mod_cast h4
      have := Wm.euler_yes hp (Wm.prime_odd hp h3) (Wm.not_dvd_of_lt hb hbp) (x := x) (by rw [hxb, Nat.mod_eq_of_lt hbp])
      omega
    omega
  · intro h
    refine Classical.byContradiction fun hno => ?_
    have h1 := root_leg (a := (b : Int)) hp h3 fun y hy h2 => hno (Wm.hasR_iff.2 ⟨y, hy, by rw [e] at h2; omega⟩)
    omega

set_option maxRecDepth 100000 in
set_option maxHeartbeats 2000000 in
theorem tprimes_law (n a : Int) (w : World) :
    Calls Try.prog 4 #[.int .i64 n, .int .i64 a] w fun e w' => e = .returned (.bool true) ∧ Ext w w' := by
  obtain ⟨N', n0, n1, -, cN⟩ := within_ex n 400 (by omega) (by omega)
  obtain ⟨N, rfl⟩ := Int.eq_ofNat_of_zero_le n0
  obtain ⟨p, hp⟩ : ∃ p, p = 3 + 2 * N := ⟨_, rfl⟩
  have h3 : 3 ≤ p := by omega
  have h6 : p ≤ 801 := by omega
  have hpI : (3 : Int) + 2 * (N : Int) = (p : Int) := by omega
  have CI := hide (fun w : World => Is_ok p (by omega) w)
  have CF := hide (fun w : World => Factor_ok p (by omega) (by omega) w)
  have CW := hide (fun w : World => works_any w)
  have hfac := hide (fun l (hl : Wm.IsFac p l) => isp_fac (show 1 < p by omega) hl)
  clear hp
  go_enter Try.func4, Try.ntmps4
  go_wp2_with fail
  refine (unhide cN _).mono ?_
  rintro e w1 ⟨rfl, rfl⟩
  go_wp2_with fail
  refine (unhide CI _).mono ?_
  rintro e w1 ⟨rfl, rfl⟩
  go_wp2_with fail
  refine (unhide CF _).mono ?_
  rintro e w2 ⟨⟨l, v, hl, rfl, hown⟩, E2⟩
  have Fw2 := E2
  clear E2
  obtain ⟨A, c, rfl, R, hc1, hc2, -⟩ := row_of_own hown
  have HFAC := hide (unhide hfac l hl)
  go_wp2_with fail
  refine (unhide CW _).mono ?_
  rintro e w3 ⟨rfl, E3⟩
  have Fw3 : Ext w2 w3 := Ext.trans (by repeat (first | exact Ext.refl _ | refine Ext.alloc ?_ _ | refine Ext.drew ?_ | refine Ext.drewN ?_ _ | (refine Ext.trans ?_ (plus_ext _ _)) | (refine Ext.setCell ?_ (by have := Ext.size Ext.refl _; simp; omega) _))) E3
  clear E3
  go_wp2_with (go_at_call 12; refine (tgood_made' [0, 0] _ _ _ _ _ rfl rfl (by decide) (by simp)).mono ?_; rintro e wg ⟨rfl, rfl⟩)
  have CE := hide (fun (W : World) (E : Ext w3 W) (B : Option Addr) (S : Row W B 1 2 (prs [((p : Int), 1)])) => equal_pows A B l.length 1 c 1 (castP l) [((p : Int), 1)] W ((R.keep Fw3).keep E) S (by unfold maxLen at hc2; omega) (by omega))
  rw [← unhide HFAC] at CE
  have E3 := And.intro (Fw2.trans Fw3 : Ext w1 w3) trivial
  clear R hown hl HFAC Fw2 Fw3 hc1 hc2
  go_wp2_with fail
  refine (unhide CE _ (by repeat (first | exact Ext.refl w3 | refine Ext.alloc ?_ _ | refine Ext.drew ?_ | refine Ext.drewN ?_ _ | (refine Ext.trans ?_ (plus_ext _ _)) | (refine Ext.setCell ?_ (by have := Ext.size Ext.refl w3; simp; omega) _))) _ (by
    have := row_new (w3.alloc (.cells #[.int .i64 0, .int .i64 0] 26)) #[.int .i64 (p : Int), .int .i64 1] 43 1 2 rfl
    first | exact this | (rw [show (w3.alloc (.cells #[.int .i64 0, .int .i64 0] 26)).heap.size = w3.heap.size + 1 by simp] at this; exact this))).mono ?_
  rintro e w4 ⟨rfl, k4, rfl⟩
  by_cases hp : Wm.Prime p
  · have hisp := Wm.isp_true hp
    rw [hisp]
    have CP := hide (fun w : World => pow_ok a p p w (by omega) (by omega) (by omega))
    have CO := hide (fun w : World => of_ok a p w (by omega) (by omega))
    rw [Wm.fermat hp a] at CP
    obtain ⟨k', k0, k1, -, cK⟩ := within_ex a ((p : Int) - 1) (by omega) (by omega)
    obtain ⟨k, rfl⟩ := Int.eq_ofNat_of_zero_le k0
    have hkI : (1 : Int) + (k : Int) = ((1 + k : Nat) : Int) := by omega
    have CM := hide (fun w : World => Mod_ok p (1 + k) p (by omega) (by omega) (by omega) hp w)
    rw [Wm.luc_eq hp, Nat.mod_eq_zero_of_dvd (Wm.C_prime hp (by omega) (by omega)), ← hkI] at CM
    have CS := hide (fun (b : Nat) (w : World) => Symbol_prime (b : Int) p w hp h3 (by omega))
    have CR := hide (fun (b : Nat) (w : World) => Root_ok (b : Int) p w hp (by omega))
    have HL := hide (fun (b : Nat) (h1 : 0 < b) (h2 : b < p) => hasR_leg hp h3 h1 h2)
    have HH := hide (Wm.qr_half hp h3)
    have ab := Wm.emod_bound a (show (0 : Int) < (p : Int) by omega)
    generalize a % (p : Int) = A at *
    clear hp hisp hkI
    go_wp2_with fail
    refine (unhide CP _).mono ?_
    rintro e w5 ⟨rfl, n5, rfl⟩
    go_wp2_with fail
    refine (unhide CO _).mono ?_
    rintro e w6 ⟨rfl, rfl⟩
    go_wp2_with fail
    refine (unhide cK _).mono ?_
    rintro e w6 ⟨rfl, rfl⟩
    go_wp2_with fail
    refine (unhide CM _).mono ?_
    rintro e w7 ⟨rfl, n7, rfl⟩
    clear CM CO CP CI CF CE CW cK cN
    go_wp2
    go_loopw [16, 17] (fun r b wr => ∃ q : Nat, 1 ≤ q ∧ q ≤ p ∧ b = .int .i64 q ∧ r = .int .i64 (Wm.qr p q : Int) ∧ (Ext w1 wr ∧ True)) (fun _ b _ => p - (intOf b).toNat)
    case atStart => exact ⟨1, by omega, by omega, rfl, by rw [Wm.qr_one]; rfl, (by repeat (first | exact E3.1 | refine Ext.alloc ?_ _ | refine Ext.drew ?_ | refine Ext.drewN ?_ _ | (refine Ext.trans ?_ (plus_ext _ _)) | (refine Ext.setCell ?_ (by have := Ext.size E3.1; simp; omega) _))), trivial⟩
    case round =>
      clear E3
      obtain ⟨q, hq1, hqp, rfl, rfl, hE⟩ := hrel
      have hqle := Wm.qr_le p q
      by_cases hlt : q < p
      · have CS2 := hide (fun w : World => unhide CS q w)
        have CR2 := hide (fun w : World => unhide CR q w)
        have HLq := unhide HL q (by omega) hlt
        have lb := leg_bound p (q : Int)
        have e0 : (q : Int) % (p : Int) = (q : Int) := Int.emod_eq_of_lt (by omega) (by omega)
        go_wp2_with fail
        refine (unhide CS2 _).mono ?_
        rintro e w8 ⟨rfl, E8⟩
        have F8 := And.intro (hE.1.trans (Ext.trans (by repeat (first | exact Ext.refl _ | refine Ext.alloc ?_ _ | refine Ext.drew ?_ | refine Ext.drewN ?_ _ | (refine Ext.trans ?_ (plus_ext _ _)) | (refine Ext.setCell ?_ (by have := Ext.size Ext.refl _; simp; omega) _))) E8)) trivial
        clear E8
        go_wp2_with fail
        refine (unhide CR2 _).mono ?_
        rintro e w9 ⟨hpost, E9⟩
        have F9 := And.intro (F8.1.trans (Ext.trans (by repeat (first | exact Ext.refl _ | refine Ext.alloc ?_ _ | refine Ext.drew ?_ | refine Ext.drewN ?_ _ | (refine Ext.trans ?_ (plus_ext _ _)) | (refine Ext.setCell ?_ (by have := Ext.size Ext.refl _; simp; omega) _))) E9)) trivial
        clear E9 F8 hE
        by_cases hr : Wm.hasR p q = true
        · have hs := HLq.1 hr
          have hqr := Wm.qr_yes (p := p) (k := q) (by omega) hr
          obtain ⟨x, hx, hxq⟩ := Wm.hasR_iff.1 hr
          rcases hpost with ⟨y, -, -, -, rfl⟩ | ⟨hno, -⟩
          · rw [hs]
            have hqrI : ((Wm.qr p q : Nat) : Int) + 1 = ((Wm.qr p (q + 1) : Nat) : Int) := by omega
            clear HLq hr hs hqr hxq lb
            generalize Wm.qr p q = z at *
            generalize hz : Wm.qr p (q + 1) = z' at *
            go_wp2
            go_roundw
            case rel => exact ⟨q + 1, by omega, by omega, by go_num, by rw [hz], (by repeat (first | exact F9.1 | refine Ext.alloc ?_ _ | refine Ext.drew ?_ | refine Ext.drewN ?_ _ | (refine Ext.trans ?_ (plus_ext _ _)) | (refine Ext.setCell ?_ (by have := Ext.size F9.1; simp; omega) _))), trivial⟩
            case measure => simp [intOf]; omega
          · exact absurd (by rw [hxq, e0]) (hno x hx)
        · have hs : leg p (q : Int) ≠ 1 := fun h => hr (HLq.2 h)
          have hr' : Wm.hasR p q = false := by simpa using hr
          have hqr := Wm.qr_no (p := p) (k := q) hr'
          rcases hpost with ⟨y, hy, hyq, -, -⟩ | ⟨-, rfl⟩
          · exact absurd (Wm.hasR_iff.2 ⟨y, hy, by rw [e0] at hyq; omega⟩) hr
          · clear HLq hr hr'
            generalize leg p (q : Int) = s at *
            generalize Wm.qr p q = z at *
            generalize hz : Wm.qr p (q + 1) = z' at *
            go_wp2
            go_roundw
            case rel => exact ⟨q + 1, by omega, by omega, by go_num, by rw [hz, hqr], (by repeat (first | exact F9.1 | refine Ext.alloc ?_ _ | refine Ext.drew ?_ | refine Ext.drewN ?_ _ | (refine Ext.trans ?_ (plus_ext _ _)) | (refine Ext.setCell ?_ (by have := Ext.size F9.1; simp; omega) _))), trivial⟩
            case measure => simp [intOf]; omega
      · obtain rfl : q = p := by omega
        have hh := unhide HH
        generalize Wm.qr q q = z at *
        have hzI : 2 * (z : Int) = (q : Int) - 1 := by omega
        clear hlt hq1 hqp
        go_wp2_with (go_at_call 12; refine (tgood_made' [0, 0, 0] _ _ _ _ _ rfl rfl (by decide) (by simp)).mono ?_; rintro e wg ⟨rfl, rfl⟩)
        go_ret
        exact ⟨rfl, (by repeat (first | exact hE.1 | refine Ext.alloc ?_ _ | refine Ext.drew ?_ | refine Ext.drewN ?_ _ | (refine Ext.trans ?_ (plus_ext _ _)) | (refine Ext.setCell ?_ (by have := Ext.size hE.1; simp; omega) _)))⟩
  · have hisp := Wm.isp_false hp
    rw [hisp]
    clear hp hisp
    go_wp2
    go_ret
    exact ⟨rfl, (by repeat (first | exact E3.1 | refine Ext.alloc ?_ _ | refine Ext.drew ?_ | refine Ext.drewN ?_ _ | (refine Ext.trans ?_ (plus_ext _ _)) | (refine Ext.setCell ?_ (by have := Ext.size E3.1; simp; omega) _)))⟩
end Go.Proofs.Ytdcpijodoppncaa
