/-
  The law PolyRoots returns true: the walk.
-/
import Derived.Test.YtkfdimofkkckeaaPoly7
import Derived.Test.YtkfdimofkkckeaaPolyAt
import Derived.Test.YtkfdimofkkckeaaZp3
set_option linter.unusedVariables false
set_option linter.unusedSimpArgs false
namespace Wm
/-- How many places below k are zeros. -/
def zeros (p : Nat) (f : List Nat) (k : Nat) : Nat := ((List.range k).filter fun x => decide (evN p f x = 0)).length
theorem zeros_succ (p : Nat) (f : List Nat) (k : Nat) : zeros p f (k + 1) = zeros p f k + if evN p f k = 0 then 1 else 0 := by
  unfold zeros
  rw [List.range_succ, List.filter_append, List.length_append]
  congr 1
  by_cases h : evN p f k = 0 <;> simp [h]
theorem zeros_le (p : Nat) (f : List Nat) (k : Nat) : zeros p f k ≤ k := by
  unfold zeros
  have := List.length_filter_le (fun x => decide (evN p f x = 0)) (List.range k)
  simpa using this
end Wm
namespace Go.Proofs.Ytkfdimofkkckeaa
open Go.RowKit Go.BigFrame

set_option maxRecDepth 100000 in
set_option maxHeartbeats 4000000 in
theorem roots_law (a : Int) (A1 : Option Addr) (n1 c1 : Nat) (l1 : List Int) (x : Int) (w : World)
    (S1 : SliceIn w A1 n1 c1 1 8 (ints l1)) (_ : ∀ x ∈ l1, -9223372036854775808 ≤ x ∧ x ≤ 9223372036854775807) :
    Calls Try.prog 7 #[.int .i64 a, .slice A1 n1 c1, .int .i64 x] w fun e w' => e = .returned (.bool true) ∧ Ext w w' := by
  have C0 := hide (polys_any w)
  have CF := hide (fun w : World => fieldOf_any a w)
  have CO1 := hide (fun (P : Wm.Pr) (h9 : P.p ≤ 997) (m : Nat) (hm : m ≤ 40) (W : World) (E : Ext w W) => polyOf_ok P h9 A1 n1 c1 l1 m W (S1.1.keep E) S1.2.1 (by have := S1.2.2.2.1; omega) S1.2.2.2.2 hm)
  clear S1
  go_enter Try.func7, Try.ntmps7
  go_wp2_with fail
  refine (unhide C0).mono ?_
  rintro e w1 ⟨rfl, Fw1⟩
  go_wp2_with fail
  refine (unhide CF _).mono ?_
  rintro e w2 ⟨⟨P, h9, rfl⟩, k2, rfl⟩

  go_wp2_with fail
  refine (unhide CO1 P h9 30 (by omega) _ (by repeat (first | exact Ext.refl _ | assumption | refine Ext.alloc ?_ _ | refine Ext.drew ?_ | refine Ext.drewN ?_ _ | refine Ext.trans ?_ ‹Ext _ _›))).mono ?_
  rintro e w3 ⟨⟨vN, f, rfl, hN, lf, MN⟩, EN⟩
  have Fw3 : Ext w1 w3 := Ext.trans (by repeat (first | exact Ext.refl _ | assumption | refine Ext.alloc ?_ _ | refine Ext.drew ?_ | refine Ext.drewN ?_ _ | refine Ext.trans ?_ ‹Ext _ _›)) EN
  obtain ⟨Af, cf, rfl, Pf⟩ := MN.pv
  have BPf := MN.blk
  have Hf := hide hN
  clear MN EN hN
  have hp := P.two
  have hxb := Wm.emod_bound x (show (0 : Int) < (P.p : Int) by omega)
  obtain ⟨y, hy⟩ : ∃ y : Nat, (y : Int) = x % (P.p : Int) := ⟨(x % (P.p : Int)).toNat, by omega⟩
  have CW := hide (fun w : World => within_any x P.p w (by omega) (by omega))
  rw [← hy] at CW hxb
  have hyp : y < P.p := by omega
  have hpI : (1 : Int) < (P.p : Int) := by omega
  clear hy CO1 C0 CF
  go_wp2_with fail
  refine (unhide CW _).mono ?_
  rintro e w3' ⟨rfl, rfl⟩
  have C1 := hide (fun (W : World) (E : Ext w3' W) => At_ok P h9 Af _ cf f y W (Pf.keep E) (BPf.keep E) (unhide Hf) (by omega) y (Int.emod_eq_of_lt (by omega) (by omega)))
  go_wp2_with fail
  refine (unhide C1 _ (by repeat (first | exact Ext.refl _ | assumption | refine Ext.alloc ?_ _ | refine Ext.drew ?_ | refine Ext.drewN ?_ _ | refine Ext.trans ?_ ‹Ext _ _›))).mono ?_
  rintro e w4 ⟨rfl, EN⟩
  have Fw4 : Ext w3' w4 := Ext.trans (by repeat (first | exact Ext.refl _ | assumption | refine Ext.alloc ?_ _ | refine Ext.drew ?_ | refine Ext.drewN ?_ _ | refine Ext.trans ?_ ‹Ext _ _›)) EN
  clear EN
  obtain ⟨s, hs⟩ : ∃ s : Nat, s = (P.p - y) % P.p := ⟨_, rfl⟩
  have hsI : ((P.p : Int) - (y : Int)) % (P.p : Int) = (s : Int) := by rw [hs, ← Int.natCast_sub (by omega)]; rfl
  have hsp : s < P.p := by rw [hs]; exact Nat.mod_lt _ P.pos
  have HS1 : Hid (Wm.IsP P.p [s, 1]) := hide ⟨fun z hz => by simp at hz; omega, fun _ => by simp⟩
  have C2 := hide (fun (W : World) (E : Ext w4 W) (b : Nat) (S : Pv W (some ⟨b, 0, none⟩) 2 2 [s, 1]) => Div_ok P h9 Af (some ⟨b, 0, none⟩) _ cf 2 2 f [s, 1] W ((Pf.keep (show Ext w3' w4 from (by repeat (first | exact Ext.refl _ | assumption | refine Ext.alloc ?_ _ | refine Ext.drew ?_ | refine Ext.drewN ?_ _ | refine Ext.trans ?_ ‹Ext _ _›)))).keep E) S (unhide Hf) (by omega) (unhide HS1) (by omega) (by omega))
  have HRV := hide (fun (q r : List Nat) (h : Wm.IsDiv P f [s, 1] q r) => Wm.rest_value (P := P) hyp (by rwa [← hs]))
  have HV := hide (Wm.evN_lt P.pos f y)
  clear hs
  generalize hev : Wm.evN P.p f y = v at *
  have HEV := hide hev
  clear hev
  go_wp2_with fail
  refine (unhide C2 _ (by repeat (first | exact Ext.refl _ | assumption | refine Ext.alloc ?_ _ | refine Ext.drew ?_ | refine Ext.drewN ?_ _ | refine Ext.trans ?_ ‹Ext _ _›)) _ ⟨row_new _ #[.int .i64 (s : Int), .int .i64 1] 3 2 1 rfl, Nat.le_refl _, by omega, fun h => by cases h⟩).mono ?_
  rintro e w5 ⟨⟨q, r, vN, uN, hD, rfl, MN, LN, neN⟩, EN⟩
  have Fw5 : Ext w4 w5 := Ext.trans (by repeat (first | exact Ext.refl _ | assumption | refine Ext.alloc ?_ _ | refine Ext.drew ?_ | refine Ext.drewN ?_ _ | refine Ext.trans ?_ ‹Ext _ _›)) EN
  obtain ⟨Ar, cr, rfl, Pr_⟩ := LN.pv
  have hrv := unhide HRV q r hD
  clear MN LN neN EN hD C2
  have HE := And.intro (show Ext w w5 from (by repeat (first | exact Ext.refl _ | assumption | refine Ext.alloc ?_ _ | refine Ext.drew ?_ | refine Ext.drewN ?_ _ | refine Ext.trans ?_ ‹Ext _ _›))) trivial
  have C3 := hide (fun (W : World) (E : Ext w5 W) (k : Nat) (hk : k < P.p) => At_ok P h9 Af _ cf f k W ((Pf.keep (show Ext w3' w5 from (by repeat (first | exact Ext.refl _ | assumption | refine Ext.alloc ?_ _ | refine Ext.drew ?_ | refine Ext.drewN ?_ _ | refine Ext.trans ?_ ‹Ext _ _›)))).keep E) ((BPf.keep (show Ext w3' w5 from (by repeat (first | exact Ext.refl _ | assumption | refine Ext.alloc ?_ _ | refine Ext.drew ?_ | refine Ext.drewN ?_ _ | refine Ext.trans ?_ ‹Ext _ _›)))).keep E) (unhide Hf) (by omega) k (Int.emod_eq_of_lt (by omega) (by omega)))
  have HLT := hide (fun (h : f ≠ []) => Wm.roots_lt (unhide Hf) h)
  have HVL := hide (fun k => Wm.evN_lt P.pos f k)
  rcases hrv with ⟨rfl, hv0⟩ | ⟨cc, rfl, hv0⟩
  · subst hv0
    clear HRV
    by_cases hf0 : f.length = 0
    · go_wp2_with (go_at_call 19; refine (good_made' [0, 0] _ _ _ _ _ rfl rfl (by decide) (by simp)).mono ?_; rintro e wg ⟨rfl, rfl⟩)
      go_ret
      exact ⟨rfl, (by repeat (first | exact HE.1 | refine Ext.alloc ?_ _ | refine Ext.drew ?_ | refine Ext.drewN ?_ _ | (refine Ext.trans ?_ (plus_ext _ _)) | (refine Ext.setCell ?_ (by have := Ext.size HE.1; simp; omega) _)))⟩
    · have hfI : ((f.length : Int) == 0) = false := by rw [beq_eq_false_iff_ne]; omega
      have hfn : f ≠ [] := fun e => hf0 (by rw [e]; rfl)
      have hlt := unhide HLT hfn
      go_wp2_with (go_at_call 19; refine (good_made' [0, 0] _ _ _ _ _ rfl rfl (by decide) (by simp)).mono ?_; rintro e wg ⟨rfl, rfl⟩)
      go_loopw [14, 84] (fun zc i wr => ∃ k : Nat, k ≤ P.p ∧ i = .int .i64 k ∧ zc = .int .i64 ((Wm.zeros P.p f k : Nat) : Int) ∧ (Ext w5 wr ∧ True)) (fun _ i _ => P.p - (intOf i).toNat)
      case atStart => exact ⟨0, Nat.zero_le _, rfl, rfl, (by repeat (first | exact Ext.refl _ | assumption | refine Ext.alloc ?_ _ | refine Ext.drew ?_ | refine Ext.drewN ?_ _ | refine Ext.trans ?_ ‹Ext _ _›)), trivial⟩
      case round =>
        obtain ⟨k, hk, rfl, rfl, E5, -⟩ := hrel
        by_cases hkp : k < P.p
        · have C4 := hide (fun W E => unhide C3 W E k hkp)
          have hzs := Wm.zeros_succ P.p f k
          have hzl := Wm.zeros_le P.p f k
          have HZS := hide hzs
          have hvl := unhide HVL k
          generalize Wm.evN P.p f k = u at *
          generalize hZ : Wm.zeros P.p f k = Z at *
          clear hzs
          go_wp2_with fail
          refine (unhide C4 _ (by repeat (first | exact Ext.refl _ | assumption | refine Ext.alloc ?_ _ | refine Ext.drew ?_ | refine Ext.drewN ?_ _ | refine Ext.trans ?_ ‹Ext _ _›))).mono ?_
          rintro e w6 ⟨rfl, EN⟩
          have Fw6 : Ext wr w6 := Ext.trans (by repeat (first | exact Ext.refl _ | assumption | refine Ext.alloc ?_ _ | refine Ext.drew ?_ | refine Ext.drewN ?_ _ | refine Ext.trans ?_ ‹Ext _ _›)) EN
          have E6 := And.intro (E5.trans Fw6) trivial
          clear EN
          by_cases hu : u = 0
          · subst hu
            have HZS2 : Hid (Wm.zeros P.p f (k + 1) = Z + 1) := hide (by rw [unhide HZS, if_pos rfl])
            clear HZS
            go_wp2
            go_roundw
            case rel => exact ⟨k + 1, by omega, by go_num, by rw [unhide HZS2]; go_num, E6⟩
            case measure => simp [intOf]; omega
          · have huI : ((u : Int) == 0) = false := by rw [beq_eq_false_iff_ne]; omega
            have HZS2 : Hid (Wm.zeros P.p f (k + 1) = Z) := hide (by rw [unhide HZS, if_neg hu, Nat.add_zero])
            clear HZS
            go_wp2
            go_roundw
            case rel => exact ⟨k + 1, by omega, by go_num, by rw [unhide HZS2], E6⟩
            case measure => simp [intOf]; omega
        · obtain rfl : k = P.p := by omega
          have hz : Wm.zeros P.p f P.p < f.length := hlt
          generalize Wm.zeros P.p f P.p = Z at *
          go_wp2
          go_ret
          exact ⟨ret_bool (by simp; omega), HE.1.trans E5⟩

  · subst hv0
    obtain ⟨br, or_, rfl, hbr, hcr⟩ := Pr_.row.nat (k := 0) (by simp)
    rw [Nat.add_zero] at hcr
    have hcr' : w5.cell? ⟨br, or_, none⟩ = some (.int .i64 (v : Int)) := hcr
    have hcrA : ∀ o, (w5.alloc o).cell? ⟨br, or_, none⟩ = some (.int .i64 (v : Int)) := fun o => (World.cell?_alloc_lt w5 o ⟨br, or_, none⟩ hbr).trans hcr'
    clear HRV hcr
    by_cases hf0 : f.length = 0
    · go_wp2_with (go_at_call 19; refine (good_made' [0, 0] _ _ _ _ _ rfl rfl (by decide) (by simp)).mono ?_; rintro e wg ⟨rfl, rfl⟩)
      go_ret
      exact ⟨rfl, (by repeat (first | exact HE.1 | refine Ext.alloc ?_ _ | refine Ext.drew ?_ | refine Ext.drewN ?_ _ | (refine Ext.trans ?_ (plus_ext _ _)) | (refine Ext.setCell ?_ (by have := Ext.size HE.1; simp; omega) _)))⟩
    · have hfI : ((f.length : Int) == 0) = false := by rw [beq_eq_false_iff_ne]; omega
      have hfn : f ≠ [] := fun e => hf0 (by rw [e]; rfl)
      have hlt := unhide HLT hfn
      go_wp2_with (go_at_call 19; refine (good_made' [0, 0] _ _ _ _ _ rfl rfl (by decide) (by simp)).mono ?_; rintro e wg ⟨rfl, rfl⟩)
      go_loopw [14, 84] (fun zc i wr => ∃ k : Nat, k ≤ P.p ∧ i = .int .i64 k ∧ zc = .int .i64 ((Wm.zeros P.p f k : Nat) : Int) ∧ (Ext w5 wr ∧ True)) (fun _ i _ => P.p - (intOf i).toNat)
      case atStart => exact ⟨0, Nat.zero_le _, rfl, rfl, (by repeat (first | exact Ext.refl _ | assumption | refine Ext.alloc ?_ _ | refine Ext.drew ?_ | refine Ext.drewN ?_ _ | refine Ext.trans ?_ ‹Ext _ _›)), trivial⟩
      case round =>
        obtain ⟨k, hk, rfl, rfl, E5, -⟩ := hrel
        by_cases hkp : k < P.p
        · have C4 := hide (fun W E => unhide C3 W E k hkp)
          have hzs := Wm.zeros_succ P.p f k
          have hzl := Wm.zeros_le P.p f k
          have HZS := hide hzs
          have hvl := unhide HVL k
          generalize Wm.evN P.p f k = u at *
          generalize hZ : Wm.zeros P.p f k = Z at *
          clear hzs
          go_wp2_with fail
          refine (unhide C4 _ (by repeat (first | exact Ext.refl _ | assumption | refine Ext.alloc ?_ _ | refine Ext.drew ?_ | refine Ext.drewN ?_ _ | refine Ext.trans ?_ ‹Ext _ _›))).mono ?_
          rintro e w6 ⟨rfl, EN⟩
          have Fw6 : Ext wr w6 := Ext.trans (by repeat (first | exact Ext.refl _ | assumption | refine Ext.alloc ?_ _ | refine Ext.drew ?_ | refine Ext.drewN ?_ _ | refine Ext.trans ?_ ‹Ext _ _›)) EN
          have E6 := And.intro (E5.trans Fw6) trivial
          clear EN
          by_cases hu : u = 0
          · subst hu
            have HZS2 : Hid (Wm.zeros P.p f (k + 1) = Z + 1) := hide (by rw [unhide HZS, if_pos rfl])
            clear HZS
            go_wp2
            go_roundw
            case rel => exact ⟨k + 1, by omega, by go_num, by rw [unhide HZS2]; go_num, E6⟩
            case measure => simp [intOf]; omega
          · have huI : ((u : Int) == 0) = false := by rw [beq_eq_false_iff_ne]; omega
            have HZS2 : Hid (Wm.zeros P.p f (k + 1) = Z) := hide (by rw [unhide HZS, if_neg hu, Nat.add_zero])
            clear HZS
            go_wp2
            go_roundw
            case rel => exact ⟨k + 1, by omega, by go_num, by rw [unhide HZS2], E6⟩
            case measure => simp [intOf]; omega
        · obtain rfl : k = P.p := by omega
          have hz : Wm.zeros P.p f P.p < f.length := hlt
          generalize Wm.zeros P.p f P.p = Z at *
          go_wp2
          go_ret
          exact ⟨ret_bool (by simp; omega), HE.1.trans E5⟩

end Go.Proofs.Ytkfdimofkkckeaa
