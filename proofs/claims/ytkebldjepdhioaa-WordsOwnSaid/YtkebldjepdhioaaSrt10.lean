/-
  pdqsortOrdered at uint16, up to 64 values: what lies in [a, b) is sorted.
-/
import Derived.Test.YtkebldjepdhioaaSrt3
import Derived.Test.YtkebldjepdhioaaSrt4
import Derived.Test.YtkebldjepdhioaaSrt5
import Derived.Test.YtkebldjepdhioaaSrt6
import Derived.Test.YtkebldjepdhioaaSrt8
import Derived.Test.YtkebldjepdhioaaSrt9
set_option linter.unusedVariables false
set_option linter.unusedSimpArgs false
namespace Go.Proofs.Ytkebldjepdhioaa
open Go.RowKit Go.BigFrame

set_option maxRecDepth 100000 in
set_option maxHeartbeats 16000000 in
theorem pdq_u16 (base g n c : Nat) (hn : n ≤ 1000) : ∀ (d a b limit : Nat) (f : Nat → Nat) (w : World), b - a ≤ d → Sl w w base g n c f → a ≤ b → b ≤ a + 64 → b ≤ n → limit ≤ 1000 → Wm.Blw a b f →
    Calls Try.prog 58 #[.slice (some ⟨g, 0, none⟩) n c, .int .i64 a, .int .i64 b, .int .i64 limit] w fun e w' => e = .returned (.tuple #[]) ∧ SrtPost w base g n c a b f (Wm.Srtd a b) w' := by
  intro d
  induction d using Nat.strongRecOn with
  | _ d ih =>
  intro a b limit f w hd S hab h64 hb hlim hB
  have HIH := hide (fun (a' b' limit : Nat) (f : Nat → Nat) (w : World) (hlt : b' - a' < b - a) (S : Sl w w base g n c f) h1 h2 h3 h4 h5 => ih (b' - a') (by omega) a' b' limit f w (Nat.le_refl _) S h1 h2 h3 h4 h5)
  have CL := hide (fun (x y : Nat) (w : World) => Less_u16 x y w)
  have CI := hide (fun (a b : Nat) (f : Nat → Nat) (w : World) S (hab : a ≤ b) (hb : b ≤ n) => insertion_u16 base g n c a b f w S hab hb hn)
  have CH := hide (fun (a b : Nat) (f : Nat → Nat) (w : World) S (hab : a < b) (hb : b ≤ n) => heap_u16 base g n c a b f w S hab hb hn)
  have CB := hide (fun (a b : Nat) (f : Nat → Nat) (w : World) S (hab : a + 12 < b) (h64 : b ≤ a + 64) (hb : b ≤ n) => break_u16 base g n c a b f w S hab h64 hb hn)
  have CC := hide (fun (a b : Nat) (f : Nat → Nat) (w : World) D (hg : g < w.heap.size) (hab : a + 12 < b) (hb : b ≤ n) => choose_u16 g n c a b f w D hg hab hb hn)
  have CR := hide (fun (a b : Nat) (f : Nat → Nat) (w : World) S (hab : a < b) (hb : b ≤ n) => reverse_u16 base g n c a b f w S hab hb hn)
  have CP := hide (fun (a b : Nat) (f : Nat → Nat) (w : World) S (hab : a < b) (hb : b ≤ n) hB => pis_u16 base g n c a b f w S hab hb hn hB)
  have CE := hide (fun (a b p : Nat) (f : Nat → Nat) (w : World) S (hap : a ≤ p) (hpb : p < b) (hb : b ≤ n) hlow => partEq_u16 base g n c a b p f w S hap hpb hb hn hlow)
  have CT := hide (fun (a b p : Nat) (f : Nat → Nat) (w : World) S (hap : a ≤ p) (hpb : p < b) (hab : a + 2 ≤ b) (hb : b ≤ n) => partition_u16 base g n c a b p f w S hap hpb hab hb hn)
  have HS := hide S
  have HB := hide hB
  clear S hB ih
  go_enter Try.func58, Try.ntmps58
  go_wp2
  -- the rest of the range: sorted there, all is sorted
  go_loopw [1, 2, 3, 8, 9] (fun av bv lv b8 b9 wr => ∃ (x y lm : Nat) (p8 p9 : Bool) (h : Nat → Nat), a ≤ x ∧ x ≤ y ∧ y ≤ b ∧ lm ≤ 1000 ∧ av = .int .i64 x ∧ bv = .int .i64 y ∧ lv = .int .i64 lm ∧ b8 = .bool p8 ∧ b9 = .bool p9 ∧ Hid (Wm.Shuf a b f h) ∧ Hid (Wm.Blw x y h) ∧ Hid (∀ h', Wm.Shuf x y h h' → Wm.Srtd x y h' → Wm.Srtd a b h') ∧ Hid (Sl w wr base g n c h)) (fun av bv _ _ _ _ => ((intOf bv) - (intOf av)).toNat)
  case atStart => exact ⟨a, b, limit, true, true, f, Nat.le_refl _, hab, Nat.le_refl _, hlim, rfl, rfl, rfl, rfl, rfl, hide (Wm.Shuf.refl a b f), HB, hide (fun _ _ h => h), HS⟩
  case round =>
    clear HB HS
    obtain ⟨x, y, lm, p8, p9, h, hax, hxy, hyb, hlm, rfl, rfl, rfl, rfl, rfl, HF, HB, HJ, HS⟩ := hrel
    obtain ⟨L, hL⟩ : ∃ L, L = y - x := ⟨_, rfl⟩
    have hLI : (y : Int) - (x : Int) = (L : Int) := by omega
    have hyn : y ≤ n := by omega
    by_cases h12 : L ≤ 12
    · have C := hide (unhide CI x y h wr (unhide HS).here hxy hyn)
      clear hL
      go_wp2_with fail
      refine (unhide C).mono ?_
      rintro e w2 ⟨rfl, h2, F2, O2, S2⟩
      have HO := hide (unhide HJ h2 F2 O2)
      have HS2 := hide ((unhide HS).trans S2)
      have HF2 := hide ((unhide HF).trans (F2.wide hax hyb))
      clear F2 O2 S2
      go_wp2
      refine bodyPost_ret (results_none rfl _ _ _) rfl ?_
      exact ⟨rfl, h2, unhide HF2, unhide HO, unhide HS2⟩
    · have hx12 : x + 12 < y := by omega
      have hx64 : y ≤ x + 64 := by omega
      have hxy1 : x < y := by omega
      by_cases hl0 : lm = 0
      · subst hl0
        have C := hide (unhide CH x y h wr (unhide HS).here hxy1 hyn)
        clear hL
        go_wp2_with fail
        refine (unhide C).mono ?_
        rintro e w2 ⟨rfl, h2, F2, O2, S2⟩
        have HO := hide (unhide HJ h2 F2 O2)
        have HS2 := hide ((unhide HS).trans S2)
        have HF2 := hide ((unhide HF).trans (F2.wide hax hyb))
        clear F2 O2 S2
        go_wp2
        refine bodyPost_ret (results_none rfl _ _ _) rfl ?_
        exact ⟨rfl, h2, unhide HF2, unhide HO, unhide HS2⟩
      · have hl0B : ((lm : Int) == 0) = false := by rw [beq_eq_false_iff_ne]; omega
        have hl0N : ¬ (lm : Int) = 0 := by omega
        have hLh := hide hL
        clear hL
        go_upto_if 35 with fail
        go_cut [3] from 19 to 133 (fun lv wx => ∃ (lm : Nat) (h2 : Nat → Nat), lm ≤ 1000 ∧ lv = .int .i64 lm ∧ Hid (Wm.Shuf x y h h2) ∧ Hid (Sl w wx base g n c h2))
        case first =>
          cases p8
          · have C := hide (unhide CB x y h wr (unhide HS).here hx12 hx64 hyn)
            have hlm1 : (lm : Int) - 1 = ((lm - 1 : Nat) : Int) := by omega
            go_wp2_with fail
            refine (unhide C).mono ?_
            rintro e w2 ⟨rfl, h2, F2, -, S2⟩
            have HS2 := hide ((unhide HS).trans S2)
            have HF2 := hide F2
            clear F2 S2
            go_wp2_with fail
            go_meet
            case rel => exact ⟨lm - 1, h2, by omega, by go_num, HF2, HS2⟩
          · go_wp2_with fail
            go_meet
            case rel => exact ⟨lm, h, hlm, rfl, hide (Wm.Shuf.refl x y h), HS⟩
        case rest =>
          clear HS hlm hl0 hl0B hl0N
          obtain ⟨lm, h1, hlm, rfl, HG, HS⟩ := hcut
          have HF9 := hide ((unhide HF).trans ((unhide HG).wide hax hyb))
          have HB9 := hide ((unhide HB).shuf (unhide HG))
          have HJ9 := hide (fun h' s => unhide HJ h' ((unhide HG).trans s))
          clear HF HB HJ HG
          have HF := HF9
          have HB := HB9
          have HJ := HJ9
          clear HF9 HB9 HJ9
          clear h
          generalize h1 = h at *
          have C := hide (unhide CC x y h wc (fun i hi => (unhide HS).cell hi) ((unhide HS).made.lt g rfl).2 hx12 hyn)
          go_wp2_with fail
          refine (unhide C).mono ?_
          rintro e w2 ⟨p, t, rfl, hp, ht, E2⟩
          replace HS := hide ((unhide HS).keep E2)
          clear E2 C
          go_upto_if 50 with fail
          go_cut [11, 12] from 19 to 133 (fun pv tv wx => ∃ (p t : Nat) (h2 : Nat → Nat), x ≤ p ∧ p < y ∧ pv = .int .i64 p ∧ tv = .int .i64 t ∧ Hid (Wm.Shuf x y h h2) ∧ Hid (Sl w wx base g n c h2))
          case first =>
            by_cases ht2 : t = 2
            · subst ht2
              have C := hide (unhide CR x y h w2 (unhide HS).here hxy1 hyn)
              have e1 : (y : Int) - 1 = ((y - 1 : Nat) : Int) := by omega
              have e2 : (p : Int) - (x : Int) = ((p - x : Nat) : Int) := by omega
              have e3 : ((y - 1 : Nat) : Int) - ((p - x : Nat) : Int) = ((y - 1 - (p - x) : Nat) : Int) := by omega
              obtain ⟨p', hp'⟩ : ∃ p', p' = y - 1 - (p - x) := ⟨_, rfl⟩
              rw [← hp'] at e3
              have hpp : x ≤ p' ∧ p' < y := by omega
              have hb1 : y - 1 ≤ 1000 := by omega
              have hb2 : p - x ≤ 1000 := by omega
              clear hp'
              generalize y - 1 = y1 at *
              generalize p - x = px at *
              go_wp2_with fail
              refine (unhide C).mono ?_
              rintro e w3 ⟨rfl, h2, F2, -, S2⟩
              have HS2 := hide ((unhide HS).trans S2)
              have HF2 := hide F2
              clear F2 S2
              go_wp2_with fail
              go_meet
              case rel => exact ⟨p', 1, h2, hpp.1, hpp.2, by go_num, rfl, HF2, HS2⟩
            · have ht2B : ((t : Int) == 2) = false := by rw [beq_eq_false_iff_ne]; omega
              have ht2N : ¬ (t : Int) = 2 := by omega
              go_wp2_with fail
              go_meet
              case rel => exact ⟨p, t, h, hp.1, hp.2, rfl, rfl, hide (Wm.Shuf.refl x y h), HS⟩
          case rest =>
            clear HS hp ht
            obtain ⟨p, t, h1, hp1, hp2, rfl, rfl, HG, HS⟩ := hcut
            have HF9 := hide ((unhide HF).trans ((unhide HG).wide hax hyb))
            have HB9 := hide ((unhide HB).shuf (unhide HG))
            have HJ9 := hide (fun h' s => unhide HJ h' ((unhide HG).trans s))
            clear HF HB HJ HG
            have HF := HF9
            have HB := HB9
            have HJ := HJ9
            clear HF9 HB9 HJ9
            clear h
            generalize h1 = h at *
            go_upto_region 15 with fail
            go_cut [68] from 19 to 133 (fun v wx => ∃ r : Bool, v = .bool r ∧ Hid (Sl w wx base g n c h))
            case first =>
              cases p8
              · go_wp2_with fail
                go_meet
                case rel => exact ⟨_, rfl, HS⟩
              · cases p9
                · go_wp2_with fail
                  go_meet
                  case rel => exact ⟨_, rfl, HS⟩
                · go_wp2_with fail
                  go_meet
                  case rel => exact ⟨_, rfl, HS⟩
            case rest =>
              clear HS
              obtain ⟨r, rfl, HS⟩ := hcut
              go_upto_if 68 with fail
              go_cut [] from 19 to 133 (fun wx => ∃ h2, Hid (Wm.Shuf x y h h2) ∧ Hid (Sl w wx base g n c h2))
              case first =>
                cases r
                · go_wp2_with fail
                  go_meet
                  case rel => exact ⟨h, hide (Wm.Shuf.refl x y h), HS⟩
                · have C := hide (unhide CP x y h wc (unhide HS).here hxy1 hyn (unhide HB))
                  go_wp2_with fail
                  refine (unhide C).mono ?_
                  rintro e w3 ⟨r2, rfl, h2, F2, O2, S2⟩
                  have HS2 := hide ((unhide HS).trans S2)
                  have HF2 := hide F2
                  cases r2
                  · clear F2 S2 O2
                    go_wp2_with fail
                    go_meet
                    case rel => exact ⟨h2, HF2, HS2⟩
                  · have HO := hide (unhide HJ h2 F2 (O2 rfl))
                    have HF3 := hide ((unhide HF).trans (F2.wide hax hyb))
                    clear F2 S2 O2
                    go_wp2
                    refine bodyPost_ret (results_none rfl _ _ _) rfl ?_
                    exact ⟨rfl, h2, unhide HF3, unhide HO, unhide HS2⟩
              case rest =>
                clear HS
                obtain ⟨h1, HG, HS⟩ := hcut
                have HF9 := hide ((unhide HF).trans ((unhide HG).wide hax hyb))
                have HB9 := hide ((unhide HB).shuf (unhide HG))
                have HJ9 := hide (fun h' s => unhide HJ h' ((unhide HG).trans s))
                clear HF HB HJ HG
                have HF := HF9
                have HB := HB9
                have HJ := HJ9
                clear HF9 HB9 HJ9
                clear h
                generalize h1 = h at *
                go_upto_region 17 with fail
                go_cut [87] from 19 to 133 (fun v wx => ∃ r : Bool, v = .bool r ∧ Hid (r = true → ∀ k, x ≤ k → k < y → h p ≤ h k) ∧ Hid (Sl w wx base g n c h))
                case first =>
                  by_cases hx0 : x = 0
                  · subst hx0
                    go_quiet (fail)
                    go_wp2_with fail
                    go_meet
                    case rel => exact ⟨false, rfl, hide (fun e => absurd e (by decide)), hide ((unhide HS).drewN _)⟩
                  · obtain ⟨k, hk⟩ : ∃ k, k = x - 1 := ⟨_, rfl⟩
                    have hkI : (x : Int) - 1 = (k : Int) := by omega
                    have hx0I : (0 : Int) < (x : Int) := by omega
                    have hx0N : 0 < x := by omega
                    have hx0B : decide (0 < x) = true := decide_eq_true hx0N
                    have hkn : k < n := by omega
                    have hpn : p < n := by omega
                    have c1 := (unhide HS).cell (i := k) hkn
                    have c2 := (unhide HS).cell (i := p) hpn
                    obtain ⟨u, hu⟩ : ∃ u, u = h k := ⟨_, rfl⟩
                    obtain ⟨v, hv⟩ : ∃ v, v = h p := ⟨_, rfl⟩
                    have CX := hide (fun w : World => unhide CL u v w)
                    have HUV := hide (show u = h (x - 1) ∧ v = h p from ⟨by rw [hu, hk], hv⟩)
                    rw [← hu] at c1
                    rw [← hv] at c2
                    clear hu hv hk
                    by_cases hl : u < v
                    · rw [decide_eq_true hl] at CX
                      go_quiet ((go_at_call 67; with_reducible exact Calls.quiet_of (unhide CX _)))
                      go_wp2_with fail
                      go_meet
                      case rel => exact ⟨false, rfl, hide (fun e => absurd e (by decide)), hide ((unhide HS).drewN _)⟩
                    · rw [decide_eq_false hl] at CX
                      have HLO := hide (show ∀ k, x ≤ k → k < y → h p ≤ h k from fun k h1 h2 => by
                        have e1 := unhide HUV
                        have e2 := unhide HB (by omega) k h1 h2
                        omega)
                      go_quiet ((go_at_call 67; with_reducible exact Calls.quiet_of (unhide CX _)))
                      go_wp2_with fail
                      go_meet
                      case rel => exact ⟨true, rfl, hide (fun _ => unhide HLO), hide ((unhide HS).drewN _)⟩
                case rest =>
                  clear HS
                  obtain ⟨r, rfl, HLO, HS⟩ := hcut
                  have hxL : x + L = y := by have := unhide hLh; omega
                  cases r
                  · have C := hide (unhide CT x y p h wc (unhide HS).here hp1 hp2 (by omega) hyn)
                    go_wp2_with fail
                    refine (unhide C).mono ?_
                    rintro e w3 ⟨mid, q, rfl, h2, F2, P2, S2⟩
                    have hmx := P2.lo
                    have hmy := P2.hi
                    have HG := hide F2
                    have HP := hide P2
                    have HS2 := hide ((unhide HS).trans S2)
                    clear F2 P2 S2 C HS HLO hp1 hp2
                    have HF9 := hide ((unhide HF).trans ((unhide HG).wide hax hyb))
                    have HB9 := hide ((unhide HB).shuf (unhide HG))
                    have HJ9 := hide (fun h' s => unhide HJ h' ((unhide HG).trans s))
                    clear HF HB HJ HG
                    have HF := HF9
                    have HB := HB9
                    have HJ := HJ9
                    clear HF9 HB9 HJ9
                    clear h
                    generalize h2 = h at *
                    obtain ⟨l1, h1⟩ : ∃ l1, l1 = mid - x := ⟨_, rfl⟩
                    obtain ⟨l2, h2⟩ : ∃ l2, l2 = y - mid := ⟨_, rfl⟩
                    obtain ⟨v, hv⟩ : ∃ v, v = L / 8 := ⟨_, rfl⟩
                    have l1I : (mid : Int) - (x : Int) = (l1 : Int) := by omega
                    have l2I : (y : Int) - (mid : Int) = (l2 : Int) := by omega
                    have hvI : (L : Int).tdiv 8 = (v : Int) := by rw [hv]; rfl
                    have hvI2 : (L : Int) / 8 = (v : Int) := by rw [hv]; rfl
                    have hvn : v ≤ 8 := by omega
                    have hl1n : l1 ≤ 64 := by omega
                    have hl2n : l2 ≤ 64 := by omega
                    have hLn : L ≤ 64 := by omega
                    have hmn : mid ≤ n := by omega
                    by_cases hlt : l1 < l2
                    · have hB1 := (unhide HP).blw_left (unhide HB)
                      have C := hide (unhide HIH x mid lm h w3 (by omega) (unhide HS2).here hmx (by omega) hmn hlm hB1)
                      clear hB1 hv h1 h2 hLh
                      go_wp2_with fail
                      refine (unhide C).mono ?_
                      rintro e w4 ⟨rfl, h4, F4, O4, S4⟩
                      have HS4 := hide ((unhide HS2).trans S4)
                      have hP4 := (unhide HP).left_shuf F4
                      have HB4 := hide hP4.blw_right
                      have HF4 := hide ((unhide HF).trans (F4.wide (by omega) (by omega)))
                      have HJ4 := hide (show ∀ h', Wm.Shuf (mid + 1) y h4 h' → Wm.Srtd (mid + 1) y h' → Wm.Srtd a b h' from fun h' s o =>
                        unhide HJ h' ((F4.wide (Nat.le_refl _) (by omega)).trans (s.wide (by omega) (Nat.le_refl _))) ((hP4.right_shuf s).sorted (O4.congr fun k _ k2 => s.out k (by omega)) o))
                      clear F4 O4 S4 hP4 C
                      go_wp2
                      go_roundw
                      case rel => exact ⟨mid + 1, y, lm, _, q, h4, by omega, by omega, hyb, hlm, by go_num, rfl, rfl, rfl, rfl, HF4, HB4, HJ4, HS4⟩
                      case measure => simp [intOf]; omega
                    · have hB1 := (unhide HP).blw_right
                      have C := hide (unhide HIH (mid + 1) y lm h w3 (by omega) (unhide HS2).here (by omega) (by omega) hyn hlm hB1)
                      rw [show ((mid + 1 : Nat) : Int) = (mid : Int) + 1 by omega] at C
                      have hltI : ¬ (l1 : Int) < (l2 : Int) := by omega
                      clear hB1 hv h1 h2 hLh
                      go_wp2_with fail
                      refine (unhide C).mono ?_
                      rintro e w4 ⟨rfl, h4, F4, O4, S4⟩
                      have HS4 := hide ((unhide HS2).trans S4)
                      have hP4 := (unhide HP).right_shuf F4
                      have hB0 := (unhide HB).shuf (F4.wide (by omega) (Nat.le_refl _))
                      have HB4 := hide (hP4.blw_left hB0)
                      have HF4 := hide ((unhide HF).trans (F4.wide (by omega) (by omega)))
                      have HJ4 := hide (show ∀ h', Wm.Shuf x mid h4 h' → Wm.Srtd x mid h' → Wm.Srtd a b h' from fun h' s o =>
                        unhide HJ h' ((F4.wide (by omega) (Nat.le_refl _)).trans (s.wide (Nat.le_refl _) (by omega))) ((hP4.left_shuf s).sorted o (O4.congr fun k k1 _ => s.out k (by omega))))
                      clear F4 O4 S4 hP4 hB0 C
                      go_wp2
                      go_roundw
                      case rel => exact ⟨x, mid, lm, _, q, h4, hax, hmx, by omega, hlm, rfl, rfl, rfl, rfl, rfl, HF4, HB4, HJ4, HS4⟩
                      case measure => simp [intOf]; omega
                  · have C := hide (unhide CE x y p h wc (unhide HS).here hp1 hp2 hyn (unhide HLO rfl))
                    go_wp2_with fail
                    refine (unhide C).mono ?_
                    rintro e w3 ⟨mid, rfl, h2, F2, ⟨P2, L2⟩, S2⟩
                    have hmx := P2.lo
                    have hmy := P2.hi
                    have HS2 := hide ((unhide HS).trans S2)
                    have HB2 := hide P2.blw
                    have HF2 := hide ((unhide HF).trans (F2.wide hax hyb))
                    have HJ2 := hide (show ∀ h', Wm.Shuf mid y h2 h' → Wm.Srtd mid y h' → Wm.Srtd a b h' from fun h' s o =>
                      unhide HJ h' (F2.trans (s.wide (by omega) (Nat.le_refl _))) (P2.sorted L2 s o))
                    clear F2 P2 L2 S2 C
                    go_wp2
                    go_roundw
                    case rel => exact ⟨mid, y, lm, p8, p9, h2, by omega, hmy, hyb, hlm, rfl, rfl, rfl, rfl, rfl, HF2, HB2, HJ2, HS2⟩
                    case measure => simp [intOf]; omega
end Go.Proofs.Ytkebldjepdhioaa
