/-
  The contracts of the laws' fieldOf and polyOf, and of the references Prime and Short.
-/
import Derived.Test.YtahchidghfeofaaPoly2
set_option linter.unusedVariables false
set_option linter.unusedSimpArgs false
namespace Wm
theorem six_step {n d : Nat} (h6 : d % 6 = 5) (h : ∀ e, 2 ≤ e → e < d → ¬ e ∣ n) (h5 : 5 ≤ d) (h1 : ¬ d ∣ n) (h2 : ¬ (d + 2) ∣ n) : ∀ e, 2 ≤ e → e < d + 6 → ¬ e ∣ n := fun e he1 he2 hd => by
  have e2 : ¬ 2 ∣ n := h 2 (by omega) (by omega)
  have e3 : ¬ 3 ∣ n := h 3 (by omega) (by omega)
  by_cases c : e < d
  · exact h e he1 c hd
  · by_cases c0 : e = d
    · subst c0; exact h1 hd
    · by_cases c2 : e = d + 2
      · subst c2; exact h2 hd
      · by_cases c4 : e = d + 4
        · exact e3 (Nat.dvd_trans ⟨e / 3, by omega⟩ hd)
        · exact e2 (Nat.dvd_trans ⟨e / 2, by omega⟩ hd)
theorem six_start {n : Nat} (h2 : n % 2 ≠ 0) (h3 : n % 3 ≠ 0) : ∀ e, 2 ≤ e → e < 5 → ¬ e ∣ n := fun e he1 he2 hd => by
  by_cases c : e = 3
  · subst c; exact h3 (Nat.mod_eq_zero_of_dvd hd)
  · exact h2 (Nat.mod_eq_zero_of_dvd (Nat.dvd_trans (⟨e / 2, by omega⟩ : 2 ∣ e) hd))
theorem prime_997 : Prime 997 := pchk_spec (r := 30) (by decide +kernel)
end Wm
namespace Go.Proofs.Ytahchidghfeofaa
open Go.RowKit Go.BigFrame

set_option maxHeartbeats 1000000 in
theorem rprime_any (n : Nat) (hn : n ≤ 1000000) :
    ∀ w : World, Calls Try.prog 20 #[.int .i64 n] w fun e w' => e = .returned (.bool (Wm.isp n)) ∧ ∃ k, w' = w.drewN k := fun w => by
  by_cases h4 : n < 4
  · have hr : Wm.isp n = (decide (n = 2) || decide (n = 3)) := by
      by_cases h2 : n = 2
      · subst h2; rw [Wm.isp_true (Wm.pchk_spec (r := 0) (by decide +kernel))]; rfl
      · by_cases h3 : n = 3
        · subst h3; rw [Wm.isp_true (Wm.pchk_spec (r := 0) (by decide +kernel))]; rfl
        · rw [Wm.isp_false (fun h => by have := h.1; omega)]; simp [h2, h3]
    have HR := hide hr
    have h4I : (n : Int) < 4 := by omega
    clear hr
    by_cases h2 : n = 2
    · subst h2
      go_enter Try.func20, Try.ntmps20
      go_wp2
      go_ret
      exact ⟨ret_boolv (by rw [unhide HR]; rfl), by first | exact ⟨_, rfl⟩ | exact ⟨0, rfl⟩ | exact ⟨_, by rw [World.drewN_drewN]⟩⟩
    · have h2I : ((n : Int) == 2) = false := by rw [beq_eq_false_iff_ne]; omega
      by_cases h3 : n = 3
      · subst h3
        go_enter Try.func20, Try.ntmps20
        go_wp2
        go_ret
        exact ⟨ret_boolv (by rw [unhide HR]; rfl), by first | exact ⟨_, rfl⟩ | exact ⟨0, rfl⟩ | exact ⟨_, by rw [World.drewN_drewN]⟩⟩
      · have h3I : ((n : Int) == 3) = false := by rw [beq_eq_false_iff_ne]; omega
        have hr2 := hide (show Wm.isp n = false by rw [unhide HR]; simp [h2, h3])
        clear h2 h3 HR
        go_enter Try.func20, Try.ntmps20
        go_wp2
        go_ret
        exact ⟨ret_boolv (unhide hr2).symm, by first | exact ⟨_, rfl⟩ | exact ⟨0, rfl⟩ | exact ⟨_, by rw [World.drewN_drewN]⟩⟩
  · have h4I : ¬ (n : Int) < 4 := by omega
    by_cases e2 : n % 2 = 0
    · have hr := hide (Wm.isp_false (Wm.not_prime_of_dvd (n := n) (e := 2) (by omega) (by omega) (Nat.dvd_of_mod_eq_zero e2)))
      have e2I : ((n : Int) % 2 == 0) = true := by rw [beq_iff_eq]; omega
      clear e2
      go_enter Try.func20, Try.ntmps20
      go_wp2
      go_ret
      exact ⟨ret_boolv (unhide hr).symm, by first | exact ⟨_, rfl⟩ | exact ⟨0, rfl⟩ | exact ⟨_, by rw [World.drewN_drewN]⟩⟩
    · have e2I : ((n : Int) % 2 == 0) = false := by rw [beq_eq_false_iff_ne]; omega
      by_cases e3 : n % 3 = 0
      · have hr := hide (Wm.isp_false (Wm.not_prime_of_dvd (n := n) (e := 3) (by omega) (by omega) (Nat.dvd_of_mod_eq_zero e3)))
        have e3I : ((n : Int) % 3 == 0) = true := by rw [beq_iff_eq]; omega
        clear e3 e2
        go_enter Try.func20, Try.ntmps20
        go_wp2
        go_ret
        exact ⟨ret_boolv (unhide hr).symm, by first | exact ⟨_, rfl⟩ | exact ⟨0, rfl⟩ | exact ⟨_, by rw [World.drewN_drewN]⟩⟩
      · have e3I : ((n : Int) % 3 == 0) = false := by rw [beq_eq_false_iff_ne]; omega
        have hst := hide (Wm.six_start e2 e3)
        clear e2 e3
        go_enter Try.func20, Try.ntmps20
        go_wp2
        go_loopw [3] (fun i wr => ∃ d : Nat, 5 ≤ d ∧ d ≤ 1007 ∧ d % 6 = 5 ∧ i = .int .i64 d ∧ Hid (∀ e, 2 ≤ e → e < d → ¬ e ∣ n) ∧ ∃ k, wr = w.drewN k) (fun i _ => 2000 - (intOf i).toNat)
        case atStart => exact ⟨5, by omega, by omega, by omega, rfl, hst, 0, rfl⟩
        case round =>
          obtain ⟨d, h5, h7, hd6, rfl, hd, k, rfl⟩ := hrel
          have hdd : ((d * d : Nat) : Int) = (d : Int) * (d : Int) := Int.natCast_mul d d
          have hb : d * d ≤ 1007 * 1007 := Nat.mul_le_mul h7 h7
          have hb1 : (d : Int) * (d : Int) ≤ 1014049 := by omega
          have hb0 : 0 ≤ (d : Int) * (d : Int) := by omega
          by_cases hlt : n < d * d
          · have hlt' : ¬ (d : Int) * (d : Int) ≤ (n : Int) := by omega
            have hp := hide (Wm.isp_true (Wm.prime_of_trial (by omega) hlt (unhide hd)))
            clear hlt hdd hb
            go_wp2
            go_ret
            exact ⟨ret_boolv (unhide hp).symm, by first | exact ⟨_, rfl⟩ | exact ⟨0, rfl⟩ | exact ⟨_, by rw [World.drewN_drewN]⟩⟩
          · have hlt' : (d : Int) * (d : Int) ≤ (n : Int) := by omega
            have hdn : d + 2 < n := by
              have : d * 5 ≤ d * d := Nat.mul_le_mul_left d h5
              omega
            have hd1 : d ≤ 1000 := by
              rcases Nat.lt_or_ge 1000 d with h | h
              · have : 1001 * 1001 ≤ d * d := Nat.mul_le_mul h h
                omega
              · exact h
            clear hlt hdd hb
            by_cases hm : n % d = 0
            · have hp := hide (Wm.isp_false (Wm.not_prime_of_dvd (by omega) (show d < n by omega) (Nat.dvd_of_mod_eq_zero hm)))
              have hm' : ((n : Int) % (d : Int) == 0) = true := by rw [beq_iff_eq]; omega
              clear hm
              go_wp2
              go_ret
              exact ⟨ret_boolv (unhide hp).symm, by first | exact ⟨_, rfl⟩ | exact ⟨0, rfl⟩ | exact ⟨_, by rw [World.drewN_drewN]⟩⟩
            · have hm' : ((n : Int) % (d : Int) == 0) = false := by rw [beq_eq_false_iff_ne]; omega
              have hnd := hide (fun h => hm (Nat.mod_eq_zero_of_dvd h) : ¬ d ∣ n)
              clear hm
              by_cases hm2 : n % (d + 2) = 0
              · have hp := hide (Wm.isp_false (Wm.not_prime_of_dvd (by omega) hdn (Nat.dvd_of_mod_eq_zero hm2)))
                have hm2' : ((n : Int) % ((d : Int) + 2) == 0) = true := by
                  rw [beq_iff_eq, show (d : Int) + 2 = ((d + 2 : Nat) : Int) by omega]; omega
                clear hm2
                go_wp2
                go_ret
                exact ⟨ret_boolv (unhide hp).symm, by first | exact ⟨_, rfl⟩ | exact ⟨0, rfl⟩ | exact ⟨_, by rw [World.drewN_drewN]⟩⟩
              · have hm2' : ((n : Int) % ((d : Int) + 2) == 0) = false := by
                  rw [beq_eq_false_iff_ne, show (d : Int) + 2 = ((d + 2 : Nat) : Int) by omega]; omega
                have hall := hide (Wm.six_step hd6 (unhide hd) h5 (unhide hnd) (fun h => hm2 (Nat.mod_eq_zero_of_dvd h)))
                clear hm2
                go_wp2
                go_roundw
                case rel => exact ⟨d + 6, by omega, by omega, by omega, by go_num, hall, by first | exact ⟨_, rfl⟩ | exact ⟨0, rfl⟩ | exact ⟨_, by rw [World.drewN_drewN]⟩⟩
                case measure => simp [intOf]; omega

set_option maxHeartbeats 1000000 in
theorem fieldOf_any (n : Int) (w : World) : Calls Try.prog 8 #[.int .i64 n] w fun e w' => (∃ P : Wm.Pr, P.p ≤ 997 ∧ e = .returned (.int .i64 (P.p : Int))) ∧ ∃ k, w' = w.drewN k := by
  have hb := Wm.emod_bound n (show (0 : Int) < 998 by omega)
  have C := hide (fun w : World => within_any n 998 w (by omega) (by omega))
  obtain ⟨r, hr⟩ : ∃ r : Nat, (r : Int) = n % 998 := ⟨(n % 998).toNat, by omega⟩
  rw [← hr] at C hb
  clear hr
  go_enter Try.func8, Try.ntmps8
  go_wp2_with fail
  refine (unhide C _).mono ?_
  rintro e w' ⟨rfl, rfl⟩
  go_wp2
  go_loopw [3] (fun i wr => ∃ k : Nat, k ≤ 997 ∧ i = .int .i64 k ∧ ∃ d, wr = w'.drewN d) (fun i _ => 1000 - (intOf i).toNat)
  case atStart => exact ⟨r, by omega, rfl, 0, rfl⟩
  case round =>
    obtain ⟨k, hk, rfl, d, rfl⟩ := hrel
    have C2 := hide (rprime_any k (by omega))
    by_cases hp : Wm.Prime k
    · rw [Wm.isp_true hp] at C2
      go_wp2_with fail
      refine (unhide C2 _).mono ?_
      rintro e w2 ⟨rfl, j, rfl⟩
      go_wp2
      go_ret
      exact ⟨⟨⟨k, hp⟩, hk, rfl⟩, by first | exact ⟨_, rfl⟩ | exact ⟨0, rfl⟩ | exact ⟨_, by rw [World.drewN_drewN]⟩⟩
    · rw [Wm.isp_false hp] at C2
      have hk7 : k < 997 := by
        rcases Nat.lt_or_ge k 997 with h | h
        · exact h
        · obtain rfl : k = 997 := by omega
          exact absurd Wm.prime_997 hp
      clear hp
      go_wp2_with fail
      refine (unhide C2 _).mono ?_
      rintro e w2 ⟨rfl, j, rfl⟩
      go_wp2
      go_roundw
      case rel => exact ⟨k + 1, by omega, by go_num, by first | exact ⟨_, rfl⟩ | exact ⟨0, rfl⟩ | exact ⟨_, by rw [World.drewN_drewN]⟩⟩
      case measure => simp [intOf]; omega

set_option maxRecDepth 100000 in
set_option maxHeartbeats 1000000 in
theorem Short_ok (A : Option Addr) (n c : Nat) (l : List Nat) (w : World) (R : Pv w A n c l) (hn : n ≤ 100000) :
    Calls Try.prog 27 #[.slice A n c] w fun e w' => (∃ v, e = .returned v ∧ Made w' w.heap.size 3 1 v (Wm.trimL l).length (nats .i64 (Wm.trimL l))) ∧ Ext w w' := by
  obtain ⟨F, hF⟩ : ∃ F, F = Wm.trimL l := ⟨_, rfl⟩
  rw [← hF]
  have HF := hide hF
  clear hF
  have hlen := R.len
  have HR := hide R
  have hc := R.cap
  have hnc := R.le
  clear R
  go_enter Try.func27, Try.ntmps27
  go_wp2
  go_loopw [3, 8] (fun a i wr => ∃ k t : Nat, k ≤ n ∧ t ≤ k ∧ i = .int .i64 k ∧ a = .int .i64 t ∧ Hid (Wm.trimN l k = l.take t) ∧ ∃ d, wr = w.drewN d) (fun _ i _ => n - (intOf i).toNat)
  case atStart => exact ⟨0, 0, Nat.zero_le _, Nat.le_refl _, rfl, rfl, hide (by simp [Wm.trimN]), 0, rfl⟩
  case round =>
    obtain ⟨k, t, hk, htk, rfl, rfl, ht, d, rfl⟩ := hrel
    by_cases hlt : k < n
    · obtain ⟨b, o, rfl, hb, hcell⟩ := (unhide HR).row.nat (k := k) hlt
      by_cases hz : l.getD k 0 = 0
      · have ht2 : Hid (Wm.trimN l (k + 1) = l.take t) := hide (by rw [← unhide ht]; simp only [Wm.trimN]; rw [if_pos hz])
        rw [hz] at hcell
        clear ht hz
        go_wp2
        go_roundw
        case rel => exact ⟨k + 1, t, by omega, by omega, by go_num, rfl, ht2, _, rfl⟩
        case measure => simp [intOf]; omega
      · have ht2 : Hid (Wm.trimN l (k + 1) = l.take (k + 1)) := hide (by simp only [Wm.trimN]; rw [if_neg hz])
        have hz' : (((l.getD k 0 : Nat) : Int) != 0) = true := by rw [bne_iff_ne]; omega
        generalize l.getD k 0 = x at *
        clear ht hz
        go_wp2
        go_roundw
        case rel => exact ⟨k + 1, k + 1, by omega, by omega, by go_num, by go_num, ht2, _, rfl⟩
        case measure => simp [intOf]; omega
    · obtain rfl : k = n := by omega
      have htr := hide (show F = l.take t by rw [unhide HF, ← unhide ht]; unfold Wm.trimL; rw [hlen])
      have hlt2 := hide (show (l.take t).length = t by rw [List.length_take]; omega)
      have CC := hide (fun (W : World) (E : Ext w W) => clone_q A t c (nats .i64 (l.take t)) W (by have := ((unhide HR).keep E).row.take (k := t) (by omega); rwa [nats_take, Nat.mul_one] at this) (nats_one _ _) (by omega) (fun hA => by have := (unhide HR).nil hA; omega))
      clear ht
      go_wp2_with fail
      refine (unhide CC _ (by repeat (first | exact Ext.refl w | refine Ext.alloc ?_ _ | refine Ext.drew ?_ | refine Ext.drewN ?_ _ | (refine Ext.trans ?_ (plus_ext _ _)) | (refine Ext.setCell ?_ (by have := Ext.size Ext.refl w; simp; omega) _)))).mono ?_
      rintro e w2 ⟨⟨v, rfl, hown⟩, E2⟩
      have HO := hide hown
      clear hown
      go_wp2
      go_ret
      exact ⟨⟨_, rfl, by rw [unhide htr, unhide hlt2]; exact ((Made.of_own (unhide HO)).keep (by repeat (first | exact Ext.refl _ | refine Ext.alloc ?_ _ | refine Ext.drew ?_ | refine Ext.drewN ?_ _ | (refine Ext.trans ?_ (plus_ext _ _)) | (refine Ext.setCell ?_ (by have := Ext.size Ext.refl _; simp; omega) _)))).mono (Ext.size ((Ext.refl w).drewN _))⟩, Ext.trans ((Ext.refl w).drewN _) (by repeat (first | exact E2 | refine Ext.alloc ?_ _ | refine Ext.drew ?_ | refine Ext.drewN ?_ _ | (refine Ext.trans ?_ (plus_ext _ _)) | (refine Ext.setCell ?_ (by have := Ext.size E2; simp; omega) _)))⟩

set_option maxRecDepth 100000 in
set_option maxHeartbeats 1000000 in
theorem polyOf_ok (P : Wm.Pr) (h9 : P.p ≤ 997) (A : Option Addr) (n c : Nat) (l : List Int) (most : Nat) (w : World) (R : Row w A n 1 (ints l)) (hnc : n ≤ c) (hcap : c ≤ 9223372036854775807) (hnil : A = none → n = 0 ∧ c = 0) (hm : most ≤ 40) :
    Calls Try.prog 13 #[.int .i64 P.p, .slice A n c, .int .i64 most] w fun e w' => (∃ v f, e = .returned v ∧ Wm.IsP P.p f ∧ f.length ≤ most ∧ Made w' w.heap.size 3 1 v f.length (nats .i64 f)) ∧ Ext w w' := by
  have hlen := R.num
  have hp := P.two
  have CW := hide (fun (x : Int) (w : World) => within_any x P.p w (by omega) (by omega))
  have HR := hide R
  obtain ⟨lm, hlm⟩ : ∃ lm : List Nat, lm = l.map fun x => (x % (P.p : Int)).toNat := ⟨_, rfl⟩
  have hlml : lm.length = n := by rw [hlm, List.length_map, hlen]
  have HLG := hide (show ∀ k, k < n → lm.getD k 0 = (l.getD k 0 % (P.p : Int)).toNat from fun k hk => by
    rw [hlm, List.getD_eq_getElem?_getD, List.getD_eq_getElem?_getD, List.getElem?_map, List.getElem?_eq_getElem (by omega)]; rfl)
  have HLM := hide (show ∀ x ∈ lm, ∃ y : Int, (y % (P.p : Int)).toNat = x from fun x hx => by
    rw [hlm] at hx
    obtain ⟨y, -, e⟩ := List.mem_map.1 hx
    exact ⟨y, e⟩)
  have hsn := hide (fun (k : Nat) (hk : k < n) => take_snoc lm (0 : Nat) (k := k) (by omega))
  clear hlm
  have hpi : (1 : Int) < (P.p : Int) := by omega
  have hpos := hide P.pos
  clear R
  rcases Nat.lt_or_ge most n with hmn | hmn
  · have hMI : (most : Int) < (n : Int) := by omega
    go_enter Try.func13, Try.ntmps13
    go_wp2
    go_loopw [7, 17] (fun v i wr => ∃ k : Nat, k ≤ most ∧ i = .int .i64 k ∧ Hid (wr.ownsRow w.heap.size 3 1 v k (nats .i64 (lm.take k))) ∧ Ext w wr) (fun _ i _ => most - (intOf i).toNat)
    case atStart => exact ⟨0, Nat.zero_le _, rfl, hide (World.ownsRow_nil _ _ _ _), (by repeat (first | exact Ext.refl w | refine Ext.alloc ?_ _ | refine Ext.drew ?_ | refine Ext.drewN ?_ _ | (refine Ext.trans ?_ (plus_ext _ _)) | (refine Ext.setCell ?_ (by have := Ext.size Ext.refl w; simp; omega) _)))⟩
    case round =>
      obtain ⟨k, hk, rfl, HOW, hext⟩ := hrel
      by_cases hlt : k < most
      · obtain ⟨b, o, rfl, hb, hcell⟩ := ((unhide HR).keep hext).int (k := k) (by omega)
        have hs := unhide hsn k (by omega)
        have hxb := Wm.emod_bound (l.getD k 0) (show (0 : Int) < (P.p : Int) by omega)
        obtain ⟨y, hy⟩ : ∃ y : Nat, (y : Int) = l.getD k 0 % (P.p : Int) := ⟨(l.getD k 0 % (P.p : Int)).toNat, by omega⟩
        have HT := hide (show nats .i64 (lm.take (k + 1)) = nats .i64 (lm.take k) ++ [.int .i64 (y : Int)] by
          rw [hs, ← nats_append]
          congr 1
          rw [unhide HLG k (by omega), ← hy]
          rfl)
        have hbd : (k + 1) * 8 ≤ 140737488355328 ∧ k + 1 ≤ 9223372036854775807 := by omega
        have C := hide (fun w : World => unhide CW (l.getD k 0) w)
        rw [← hy] at C
        generalize l.getD k 0 = x at *
        clear hs hxb hy
        go_wp2_with fail
        refine (unhide C _).mono ?_
        rintro e w2 ⟨rfl, rfl⟩
        go_wp2_with (at_builtin; refine wpList_app rfl _ _ 22 (by rfl) 3 intQ hext _ _ _ _ (by rfl) (unhide HOW) 1 1 (by rfl) rfl rfl hbd ?_)
        intro v' w3 hown' hext' _
        have hown2 : Hid (w3.ownsRow w.heap.size 3 1 v' (k + 1) (nats .i64 (lm.take (k + 1)))) := hide (by rw [unhide HT]; exact hown')
        clear hown'
        go_wp2
        go_roundw
        case rel => exact ⟨k + 1, by omega, by go_num, hown2, hext'⟩
        case measure => simp [intOf]; omega
      · obtain rfl : most = k := by omega
        have hM := (Made.of_own (unhide HOW)).pv
        obtain ⟨A2, c2, rfl, PV⟩ := hM
        have CS := hide (Short_ok A2 most c2 _ wr PV (by omega))
        have HF : Hid (Wm.IsP P.p (Wm.trimL (lm.take most)) ∧ (Wm.trimL (lm.take most)).length ≤ most) := hide ⟨Wm.trimL_isP (fun x hx => by
          obtain ⟨y, rfl⟩ := unhide HLM x (List.mem_of_mem_take hx)
          have := Wm.emod_bound y (show (0 : Int) < (P.p : Int) by have := unhide hpos; omega)
          omega), by
            refine Nat.le_trans (Wm.trimL_len _) ?_
            rw [List.length_take]; omega⟩
        generalize Wm.trimL (lm.take most) = F at *
        clear PV HOW
        go_wp2_with fail
        refine (unhide CS).mono ?_
        rintro e w2 ⟨⟨v, rfl, hM⟩, E2⟩
        have HM := hide (hM.mono (Ext.size hext))
        clear hM
        go_wp2
        go_ret
        exact ⟨⟨_, F, rfl, (unhide HF).1, (unhide HF).2, unhide HM⟩, Ext.trans (by repeat (first | exact hext | refine Ext.alloc ?_ _ | refine Ext.drew ?_ | refine Ext.drewN ?_ _ | (refine Ext.trans ?_ (plus_ext _ _)) | (refine Ext.setCell ?_ (by have := Ext.size hext; simp; omega) _))) (by repeat (first | exact E2 | refine Ext.alloc ?_ _ | refine Ext.drew ?_ | refine Ext.drewN ?_ _ | (refine Ext.trans ?_ (plus_ext _ _)) | (refine Ext.setCell ?_ (by have := Ext.size E2; simp; omega) _)))⟩

  · have hMI : ¬ (most : Int) < (n : Int) := by omega
    go_enter Try.func13, Try.ntmps13
    go_wp2
    go_loopw [7, 17] (fun v i wr => ∃ k : Nat, k ≤ n ∧ i = .int .i64 k ∧ Hid (wr.ownsRow w.heap.size 3 1 v k (nats .i64 (lm.take k))) ∧ Ext w wr) (fun _ i _ => n - (intOf i).toNat)
    case atStart => exact ⟨0, Nat.zero_le _, rfl, hide (World.ownsRow_nil _ _ _ _), (by repeat (first | exact Ext.refl w | refine Ext.alloc ?_ _ | refine Ext.drew ?_ | refine Ext.drewN ?_ _ | (refine Ext.trans ?_ (plus_ext _ _)) | (refine Ext.setCell ?_ (by have := Ext.size Ext.refl w; simp; omega) _)))⟩
    case round =>
      obtain ⟨k, hk, rfl, HOW, hext⟩ := hrel
      by_cases hlt : k < n
      · obtain ⟨b, o, rfl, hb, hcell⟩ := ((unhide HR).keep hext).int (k := k) (by omega)
        have hs := unhide hsn k (by omega)
        have hxb := Wm.emod_bound (l.getD k 0) (show (0 : Int) < (P.p : Int) by omega)
        obtain ⟨y, hy⟩ : ∃ y : Nat, (y : Int) = l.getD k 0 % (P.p : Int) := ⟨(l.getD k 0 % (P.p : Int)).toNat, by omega⟩
        have HT := hide (show nats .i64 (lm.take (k + 1)) = nats .i64 (lm.take k) ++ [.int .i64 (y : Int)] by
          rw [hs, ← nats_append]
          congr 1
          rw [unhide HLG k (by omega), ← hy]
          rfl)
        have hbd : (k + 1) * 8 ≤ 140737488355328 ∧ k + 1 ≤ 9223372036854775807 := by omega
        have C := hide (fun w : World => unhide CW (l.getD k 0) w)
        rw [← hy] at C
        generalize l.getD k 0 = x at *
        clear hs hxb hy
        go_wp2_with fail
        refine (unhide C _).mono ?_
        rintro e w2 ⟨rfl, rfl⟩
        go_wp2_with (at_builtin; refine wpList_app rfl _ _ 22 (by rfl) 3 intQ hext _ _ _ _ (by rfl) (unhide HOW) 1 1 (by rfl) rfl rfl hbd ?_)
        intro v' w3 hown' hext' _
        have hown2 : Hid (w3.ownsRow w.heap.size 3 1 v' (k + 1) (nats .i64 (lm.take (k + 1)))) := hide (by rw [unhide HT]; exact hown')
        clear hown'
        go_wp2
        go_roundw
        case rel => exact ⟨k + 1, by omega, by go_num, hown2, hext'⟩
        case measure => simp [intOf]; omega
      · obtain rfl : n = k := by omega
        have hM := (Made.of_own (unhide HOW)).pv
        obtain ⟨A2, c2, rfl, PV⟩ := hM
        have CS := hide (Short_ok A2 n c2 _ wr PV (by omega))
        have HF : Hid (Wm.IsP P.p (Wm.trimL (lm.take n)) ∧ (Wm.trimL (lm.take n)).length ≤ most) := hide ⟨Wm.trimL_isP (fun x hx => by
          obtain ⟨y, rfl⟩ := unhide HLM x (List.mem_of_mem_take hx)
          have := Wm.emod_bound y (show (0 : Int) < (P.p : Int) by have := unhide hpos; omega)
          omega), by
            refine Nat.le_trans (Wm.trimL_len _) ?_
            rw [List.length_take]; omega⟩
        generalize Wm.trimL (lm.take n) = F at *
        clear PV HOW
        go_wp2_with fail
        refine (unhide CS).mono ?_
        rintro e w2 ⟨⟨v, rfl, hM⟩, E2⟩
        have HM := hide (hM.mono (Ext.size hext))
        clear hM
        go_wp2
        go_ret
        exact ⟨⟨_, F, rfl, (unhide HF).1, (unhide HF).2, unhide HM⟩, Ext.trans (by repeat (first | exact hext | refine Ext.alloc ?_ _ | refine Ext.drew ?_ | refine Ext.drewN ?_ _ | (refine Ext.trans ?_ (plus_ext _ _)) | (refine Ext.setCell ?_ (by have := Ext.size hext; simp; omega) _))) (by repeat (first | exact E2 | refine Ext.alloc ?_ _ | refine Ext.drew ?_ | refine Ext.drewN ?_ _ | (refine Ext.trans ?_ (plus_ext _ _)) | (refine Ext.setCell ?_ (by have := Ext.size E2; simp; omega) _)))⟩

end Go.Proofs.Ytahchidghfeofaa
