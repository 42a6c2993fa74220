/-
  The law PointsSums returns true: the walk.
-/
import Derived.Test.YtkfdimofkkckeaaPts4
import Derived.Test.YtkfdimofkkckeaaPoly7
import Derived.Test.YtkfdimofkkckeaaLaw
import Derived.Test.YtkfdimofkkckeaaHold
import Derived.Test.YtkfdimofkkckeaaMin
set_option linter.unusedVariables false
set_option linter.unusedSimpArgs false
namespace Go.Proofs.Ytkfdimofkkckeaa
open Go.RowKit Go.BigFrame

/-- The points (0, l 0), (1, l 1) .. -/
def ptL (l : Nat → Nat) (k : Nat) : List (Int × Int) := (List.range k).map fun (i : Nat) => ((i : Int), ((l i : Nat) : Int))
theorem ptL_len (l : Nat → Nat) (k : Nat) : (ptL l k).length = k := by simp [ptL]
theorem ptL_get (l : Nat → Nat) {k i : Nat} (h : i < k) : (ptL l k).getD i (0, 0) = ((i : Int), ((l i : Nat) : Int)) := by
  unfold ptL
  rw [List.getD_eq_getElem?_getD, List.getElem?_map, List.getElem?_range h]; rfl
theorem ptL_snoc (l : Nat → Nat) (k : Nat) : prs (ptL l (k + 1)) = prs (ptL l k) ++ [.int .i64 (k : Int), .int .i64 ((l k : Nat) : Int)] := by
  unfold ptL
  rw [List.range_succ, List.map_append, ← prs_append]; rfl
theorem ptL_ok {P : Wm.Pr} {l : Nat → Nat} {N : Nat} (h12 : N ≤ 12) (hp : N ≤ P.p) (hl : ∀ i, i < N → l i < P.p) : PtsOk P (ptL l N) := by
  refine ⟨by rw [ptL_len]; exact h12, fun x hx => ?_, fun i j hi hj e => ?_⟩
  · obtain ⟨i, hi, rfl⟩ := List.mem_map.1 hx
    have hi := List.mem_range.1 hi
    have := hl i hi
    dsimp only; omega
  · rw [ptL_len] at hi hj
    rw [ptL_get _ hi, ptL_get _ hj] at e
    dsimp only at e; omega
theorem ptL_ev {P : Wm.Pr} {l : Nat → Nat} {N : Nat} {F : List Nat} (h : ThruL P (ptL l N) F) : ∀ i, i < N → Wm.evN P.p F i = l i := fun i hi => by
  have := h.ev i (by rw [ptL_len]; exact hi)
  unfold pxN pyN at this
  rw [ptL_get _ hi] at this
  simpa using this
theorem ptL_thru {P : Wm.Pr} {l : Nat → Nat} {N : Nat} {F : List Nat} (hF : Wm.IsP P.p F) (hl : F.length ≤ N) (h : ∀ i, i < N → Wm.evN P.p F i = l i) : ThruL P (ptL l N) F := by
  refine ⟨hF, by rw [ptL_len]; exact hl, fun i hi => ?_⟩
  rw [ptL_len] at hi
  unfold pxN pyN
  rw [ptL_get _ hi]
  simpa using h i hi

set_option maxRecDepth 100000 in
set_option maxHeartbeats 2000000 in
theorem psums_law (a : Int) (A1 : Option Addr) (n1 c1 : Nat) (l1 : List Int) (A2 : Option Addr) (n2 c2 : Nat) (l2 : List Int) (x : Int) (w : World)
    (S1 : SliceIn w A1 n1 c1 1 8 (ints l1)) (_ : ∀ x ∈ l1, -9223372036854775808 ≤ x ∧ x ≤ 9223372036854775807) (S2 : SliceIn w A2 n2 c2 1 8 (ints l2)) (_ : ∀ x ∈ l2, -9223372036854775808 ≤ x ∧ x ≤ 9223372036854775807) :
    Calls Try.prog 11 #[.int .i64 a, .slice A1 n1 c1, .slice A2 n2 c2, .int .i64 x] w fun e w' => e = .returned (.bool true) ∧ Ext w w' := by
  have CL := hide (lines_any w)
  have C0 := hide (fun w : World => polys_any w)
  have CF := hide (fun w : World => fieldOf_any a w)
  have HR1 := hide S1.1
  have HR2 := hide S2.1
  clear S1 S2
  go_enter Try.func11, Try.ntmps11
  go_wp2_with fail
  refine (unhide CL).mono ?_
  rintro e w0 ⟨rfl, Fw0⟩
  go_wp2_with fail
  refine (unhide C0 _).mono ?_
  rintro e w1 ⟨rfl, Fw1⟩
  go_wp2_with fail
  refine (unhide CF _).mono ?_
  rintro e w2 ⟨⟨P, h9, rfl⟩, k2, rfl⟩
  have hp := P.two
  have CW := hide (fun (x : Int) (w : World) => within_any x P.p w (by omega) (by omega))
  obtain ⟨la, hla⟩ : ∃ la : Nat → Nat, ∀ k, (la k : Int) = l1.getD k 0 % (P.p : Int) := ⟨fun k => (l1.getD k 0 % (P.p : Int)).toNat, fun k => by
    have := Wm.emod_bound (l1.getD k 0) (show (0 : Int) < (P.p : Int) by omega)
    dsimp only; omega⟩
  obtain ⟨lb, hlb⟩ : ∃ lb : Nat → Nat, ∀ k, (lb k : Int) = l2.getD k 0 % (P.p : Int) := ⟨fun k => (l2.getD k 0 % (P.p : Int)).toNat, fun k => by
    have := Wm.emod_bound (l2.getD k 0) (show (0 : Int) < (P.p : Int) by omega)
    dsimp only; omega⟩
  have hba : ∀ k, la k < P.p := fun k => by
    have := Wm.emod_bound (l1.getD k 0) (show (0 : Int) < (P.p : Int) by omega)
    have := hla k; omega
  have hbb : ∀ k, lb k < P.p := fun k => by
    have := Wm.emod_bound (l2.getD k 0) (show (0 : Int) < (P.p : Int) by omega)
    have := hlb k; omega
  obtain ⟨lc, hlc⟩ : ∃ lc : Nat → Nat, ∀ k, lc k = (la k + lb k) % P.p := ⟨_, fun _ => rfl⟩
  have hbc : ∀ k, lc k < P.p := fun k => by rw [hlc]; exact Nat.mod_lt _ (by omega)
  have HGA := hide hla
  have HGB := hide hlb
  have HGC := hide hlc
  have HBA := hide hba
  have HBB := hide hbb
  have HBC := hide hbc
  obtain ⟨N, hN⟩ : ∃ N : Nat, (N : Int) = min (min (min (n1 : Int) (n2 : Int)) (P.p : Int)) 12 := ⟨(min (min (min (n1 : Int) (n2 : Int)) (P.p : Int)) 12).toNat, by omega⟩
  have hN1 : N ≤ n1 := by omega
  have hN2 : N ≤ n2 := by omega
  have hN12 : N ≤ 12 := by omega
  have hNp : N ≤ P.p := by omega
  have HNN := hide hN
  have E1 := And.intro (show Ext w w1 from (by repeat (first | exact Ext.refl _ | assumption | refine Ext.alloc ?_ _ | refine Ext.drew ?_ | refine Ext.drewN ?_ _ | refine Ext.trans ?_ ‹Ext _ _›))) trivial
  clear Fw0 Fw1 CL C0 CF hla hlb hlc hba hbb hbc hN
  go_wp2_with (refine wpList_min4 (o := ⟨some 43, _, _, _, _, _⟩) rfl _ _ _ _ _ (by rfl) _ _ _ _ (by rfl) (by rfl) (by rfl) (by rfl) (N : Int) (by have := unhide HNN; omega) ?_)
  go_wp2
  go_loopw [10, 11, 12, 44] (fun v u t i wr => ∃ k : Nat, k ≤ N ∧ i = .int .i64 k ∧ (Hid (Hold w wr [⟨49, 2, v, k, prs (ptL la k)⟩, ⟨49, 2, u, k, prs (ptL lb k)⟩, ⟨49, 2, t, k, prs (ptL lc k)⟩]) ∧ True)) (fun _ _ _ i _ => N - (intOf i).toNat)
  case atStart => exact ⟨0, Nat.zero_le _, rfl, hide (Hold.none_ (Hold.none_ (Hold.none_ (Hold.nil (by repeat (first | exact E1.1 | refine Ext.alloc ?_ _ | refine Ext.drew ?_ | refine Ext.drewN ?_ _ | (refine Ext.trans ?_ (plus_ext _ _)) | (refine Ext.setCell ?_ (by have := Ext.size E1.1; simp; omega) _)))) _ _) _ _) _ _), trivial⟩
  case round =>
    clear E1
    obtain ⟨k, hk, rfl, HT, -⟩ := hrel
    by_cases hlt : k < N
    · obtain ⟨b, o, rfl, hb, hcx⟩ := (unhide HR1).int (k := k) (by omega)
      obtain ⟨b2, o2, rfl, hb2, hcy⟩ := (unhide HR2).int (k := k) (by omega)
      have C1 := hide (fun w : World => unhide CW (l1.getD k 0) w)
      have C2 := hide (fun w : World => unhide CW (l2.getD k 0) w)
      rw [← unhide HGA k] at C1
      rw [← unhide HGB k] at C2
      generalize l1.getD k 0 = x1 at *
      generalize l2.getD k 0 = x2 at *
      have T0 := unhide HT
      have hcx1 := T0.1.keep hcx
      have hcy1 := T0.1.keep hcy
      have HS1 := hide (ptL_snoc la k)
      have HS2 := hide (ptL_snoc lb k)
      have HS3 := hide (ptL_snoc lc k)
      have hya := unhide HBA k
      have hyb := unhide HBB k
      have hyc := unhide HGC k
      generalize la k = y at *
      generalize lb k = z at *
      generalize hs : lc k = s at *
      have hkn1 : (k : Int) < (n1 : Int) := by omega
      have hkn2 : (k : Int) < (n2 : Int) := by omega
      have hk0 : (0 : Int) ≤ (k : Int) := by omega
      have wXY : IntKind.i64.wrap ((y : Int) + (z : Int)) = (y : Int) + (z : Int) := IntWalk.i64_in _ (by omega)
      have tXY : ((y : Int) + (z : Int)).tmod (P.p : Int) = (s : Int) := by rw [Int.tmod_eq_emod_of_nonneg (by omega), hyc]; push_cast; rfl
      have p0 : ((P.p : Int) == 0) = false := by rw [beq_eq_false_iff_ne]; omega
      have p0' : ¬ (P.p : Int) = 0 := by omega
      have p0n : ¬ P.p = 0 := by omega
      clear HT hyc hs hcx hcy
      go_wp2
      go_quiet ((first | (go_at_call 24; exact Calls.quiet_of_same (unhide C1 _)) | (go_at_call 24; exact Calls.quiet_of_same (unhide C2 _))))
      have T1 := T0.drewN nq
      clear T0 hcx1 hcy1 C1 C2
      go_wp2
      go_region_held3 (fun W => True) (trivial) (first
        | (refine step_app_rows rfl (.tmp 59) (.tmp 63) 43 rfl pairQ (Hold.push2 T1 _ _ _).drew 0 rfl rfl [.int .i64 (k : Int), .int .i64 (y : Int)] rfl ?hm rfl ?hb ?_; (case hm => simp); (case hb => omega); intro vx wx TX hgx)
        | (refine step_app_rows rfl (.tmp 59) (.tmp 63) 43 rfl pairQ (Hold.push2 (Hold.push2 T1 _ _ _) _ _ _).drew 0 rfl rfl [.int .i64 (k : Int), .int .i64 (y : Int)] rfl ?hm rfl ?hb ?_; (case hm => simp); (case hb => omega); intro vx wx TX hgx)
        | (refine step_app_rows rfl (.tmp 59) (.tmp 63) 43 rfl pairQ (Hold.push2 (Hold.push2 (Hold.push2 T1 _ _ _) _ _ _) _ _ _).drew 0 rfl rfl [.int .i64 (k : Int), .int .i64 (y : Int)] rfl ?hm rfl ?hb ?_; (case hm => simp); (case hb => omega); intro vx wx TX hgx)
        | (refine step_app_rows rfl (.tmp 65) (.tmp 69) 43 rfl pairQ TX 1 rfl rfl [.int .i64 (k : Int), .int .i64 (z : Int)] rfl ?hm rfl ?hb ?_; (case hm => simp); (case hb => omega); intro vy wy TY hgy)
        | (refine step_app_rows rfl (.tmp 65) (.tmp 69) 43 rfl pairQ (Hold.push2 TX _ _ _) 1 rfl rfl [.int .i64 (k : Int), .int .i64 (z : Int)] rfl ?hm rfl ?hb ?_; (case hm => simp); (case hb => omega); intro vy wy TY hgy)
        | (refine step_app_rows rfl (.tmp 65) (.tmp 69) 43 rfl pairQ (Hold.push2 (Hold.push2 TX _ _ _) _ _ _) 1 rfl rfl [.int .i64 (k : Int), .int .i64 (z : Int)] rfl ?hm rfl ?hb ?_; (case hm => simp); (case hb => omega); intro vy wy TY hgy)
        | (refine step_app_rows rfl (.tmp 71) (.tmp 79) 43 rfl pairQ TY 2 rfl rfl [.int .i64 (k : Int), .int .i64 (s : Int)] rfl ?hm rfl ?hb ?_; (case hm => simp); (case hb => omega); intro vz wz TZ hgz)
        | (refine step_app_rows rfl (.tmp 71) (.tmp 79) 43 rfl pairQ (Hold.push2 TY _ _ _) 2 rfl rfl [.int .i64 (k : Int), .int .i64 (s : Int)] rfl ?hm rfl ?hb ?_; (case hm => simp); (case hb => omega); intro vz wz TZ hgz)
        | (refine step_app_rows rfl (.tmp 71) (.tmp 79) 43 rfl pairQ (Hold.push2 (Hold.push2 TY _ _ _) _ _ _) 2 rfl rfl [.int .i64 (k : Int), .int .i64 (s : Int)] rfl ?hm rfl ?hb ?_; (case hm => simp); (case hb => omega); intro vz wz TZ hgz))
      all_goals
        have T2 : Hid (Hold w wz [⟨49, 2, vx, k + 1, prs (ptL la (k + 1))⟩, ⟨49, 2, vy, k + 1, prs (ptL lb (k + 1))⟩, ⟨49, 2, vz, k + 1, prs (ptL lc (k + 1))⟩]) := hide (by rw [unhide HS1, unhide HS2, unhide HS3]; exact TZ.fst_ 3)
        clear TX TY TZ T1 hgx hgy hgz
        go_wp2
        go_roundw
        case rel => exact ⟨k + 1, by omega, by go_num, T2, trivial⟩
        case measure => simp [intOf]; omega
    · obtain rfl : N = k := by omega
      have T0 := unhide HT
      have h1 := row_of_own (T0.own List.mem_cons_self)
      have h2 := row_of_own (T0.own (List.mem_cons_of_mem _ List.mem_cons_self))
      have h3 := row_of_own (T0.own (List.mem_cons_of_mem _ (List.mem_cons_of_mem _ List.mem_cons_self)))
      dsimp only at h1 h2 h3
      obtain ⟨Aa, ca, rfl, Ra, qa1, qa2, -⟩ := h1
      obtain ⟨Ab, cb, rfl, Rb, qb1, qb2, -⟩ := h2
      obtain ⟨Ac, cc, rfl, Rc, qc1, qc2, -⟩ := h3
      unfold maxLen at qa2 qb2 qc2
      have hoa := ptL_ok (P := P) hN12 hNp (fun i _ => unhide HBA i)
      have hob := ptL_ok (P := P) hN12 hNp (fun i _ => unhide HBB i)
      have hoc := ptL_ok (P := P) hN12 hNp (fun i _ => unhide HBC i)
      have CT1 := hide (fun (W : World) (E : Ext wr W) => Through_ok P h9 Aa N ca _ W (Ra.keep E) qa1 qa2 hoa)
      have CT2 := hide (fun (W : World) (E : Ext wr W) => Through_ok P h9 Ab N cb _ W (Rb.keep E) qb1 qb2 hob)
      have CT3 := hide (fun (W : World) (E : Ext wr W) => Through_ok P h9 Ac N cc _ W (Rc.keep E) qc1 qc2 hoc)
      have hxb := Wm.emod_bound x (show (0 : Int) < (P.p : Int) by omega)
      obtain ⟨xr, hxr⟩ : ∃ xr : Nat, x % (P.p : Int) = (xr : Int) := ⟨(x % (P.p : Int)).toNat, by omega⟩
      have CP1 := hide (fun (F : List Nat) (hF : ThruL P (ptL la N) F) (W : World) (E : Ext wr W) => PAt_ok P h9 Aa N ca _ x W (Ra.keep E) qa1 qa2 hoa F hF xr hxr)
      have CP2 := hide (fun (F : List Nat) (hF : ThruL P (ptL lb N) F) (W : World) (E : Ext wr W) => PAt_ok P h9 Ab N cb _ x W (Rb.keep E) qb1 qb2 hob F hF xr hxr)
      have CP3 := hide (fun (F : List Nat) (hF : ThruL P (ptL lc N) F) (W : World) (E : Ext wr W) => PAt_ok P h9 Ac N cc _ x W (Rc.keep E) qc1 qc2 hoc F hF xr hxr)
      have HU := hide (fun F G H (hF : ThruL P (ptL la N) F) (hG : ThruL P (ptL lb N) G) (hH : ThruL P (ptL lc N) H) => (show H = Wm.addL P.p F G from
        ThruL.unique hoc hH (ptL_thru (Wm.addL_isP (show 0 < P.p by omega) F G) (by
          have h1 := Wm.addL_len P.p F G
          have h2 := hF.len
          have h3 := hG.len
          rw [ptL_len] at h2 h3
          omega) (fun i hi => by rw [Wm.evN_add, ptL_ev hF i hi, ptL_ev hG i hi, unhide HGC]))))
      have E5 := And.intro T0.1 trivial
      clear T0 HT Ra Rb Rc hoa hob hoc hxr hxb
      go_wp2_with fail
      refine (unhide CT1 _ (by repeat (first | exact Ext.refl _ | refine Ext.alloc ?_ _ | refine Ext.drew ?_ | refine Ext.drewN ?_ _ | (refine Ext.trans ?_ (plus_ext _ _)) | (refine Ext.setCell ?_ (by have := Ext.size Ext.refl _; simp; omega) _)))).mono ?_
      rintro e w6 ⟨⟨F, v6, hF, rfl, M6⟩, EN⟩
      have F6 : Ext wr w6 ∧ True := ⟨Ext.trans (by repeat (first | exact Ext.refl wr | refine Ext.alloc ?_ _ | refine Ext.drew ?_ | refine Ext.drewN ?_ _ | (refine Ext.trans ?_ (plus_ext _ _)) | (refine Ext.setCell ?_ (by have := Ext.size Ext.refl wr; simp; omega) _))) EN, trivial⟩
      clear EN CT1
      go_wp2_with fail
      refine (unhide CT2 _ (by repeat (first | exact F6.1 | refine Ext.alloc ?_ _ | refine Ext.drew ?_ | refine Ext.drewN ?_ _ | (refine Ext.trans ?_ (plus_ext _ _)) | (refine Ext.setCell ?_ (by have := Ext.size F6.1; simp; omega) _)))).mono ?_
      rintro e w7 ⟨⟨G, v7, hG, rfl, M7⟩, EN⟩
      have E67 : Ext w6 w7 := Ext.trans (by repeat (first | exact Ext.refl w6 | refine Ext.alloc ?_ _ | refine Ext.drew ?_ | refine Ext.drewN ?_ _ | (refine Ext.trans ?_ (plus_ext _ _)) | (refine Ext.setCell ?_ (by have := Ext.size Ext.refl w6; simp; omega) _))) EN
      have F7 : Ext wr w7 ∧ True := ⟨F6.1.trans E67, trivial⟩
      clear EN CT2
      go_wp2_with fail
      refine (unhide CT3 _ (by repeat (first | exact F7.1 | refine Ext.alloc ?_ _ | refine Ext.drew ?_ | refine Ext.drewN ?_ _ | (refine Ext.trans ?_ (plus_ext _ _)) | (refine Ext.setCell ?_ (by have := Ext.size F7.1; simp; omega) _)))).mono ?_
      rintro e w8 ⟨⟨H, v8, hH, rfl, M8⟩, EN⟩
      have E78 : Ext w7 w8 := Ext.trans (by repeat (first | exact Ext.refl w7 | refine Ext.alloc ?_ _ | refine Ext.drew ?_ | refine Ext.drewN ?_ _ | (refine Ext.trans ?_ (plus_ext _ _)) | (refine Ext.setCell ?_ (by have := Ext.size Ext.refl w7; simp; omega) _))) EN
      have F8 : Ext wr w8 ∧ True := ⟨F7.1.trans E78, trivial⟩
      obtain rfl := unhide HU F G H hF hG hH
      have hp6 := (M6.keep (E67.trans E78)).pv
      have hp7 := (M7.keep E78).pv
      have hp8 := M8.pv
      obtain ⟨AF, cF, rfl, PF⟩ := hp6
      obtain ⟨AG, cG, rfl, PG⟩ := hp7
      obtain ⟨AH, cH, rfl, PH⟩ := hp8
      have hlF := hF.len
      have hlG := hG.len
      rw [ptL_len] at hlF hlG
      have CA := hide (fun (W : World) (E : Ext w8 W) => Add_ok P h9 AF AG _ cF _ cG F G W (PF.keep E) (PG.keep E) hF.isP (by omega) hG.isP (by omega))
      have CP1' := hide (unhide CP1 F hF)
      have CP2' := hide (unhide CP2 G hG)
      have CP3' := hide (unhide CP3 _ hH)
      have HEV := hide (Wm.evN_add P F G xr)
      rw [unhide HEV] at CP3'
      have hu := Wm.evN_lt (show 0 < P.p by omega) F xr
      have hv := Wm.evN_lt (show 0 < P.p by omega) G xr
      have HPH := hide PH
      clear EN CT3 M6 M7 M8 E67 E78 F6 F7 hF hG hH HU CP1 CP2 CP3 PF PG PH HEV
      go_wp2_with fail
      refine (unhide CA _ (by repeat (first | exact Ext.refl w8 | refine Ext.alloc ?_ _ | refine Ext.drew ?_ | refine Ext.drewN ?_ _ | (refine Ext.trans ?_ (plus_ext _ _)) | (refine Ext.setCell ?_ (by have := Ext.size Ext.refl w8; simp; omega) _)))).mono ?_
      rintro e w9 ⟨⟨v9, rfl, M9⟩, EN⟩
      have E89 : Ext w8 w9 := Ext.trans (by repeat (first | exact Ext.refl w8 | refine Ext.alloc ?_ _ | refine Ext.drew ?_ | refine Ext.drewN ?_ _ | (refine Ext.trans ?_ (plus_ext _ _)) | (refine Ext.setCell ?_ (by have := Ext.size Ext.refl w8; simp; omega) _))) EN
      have hp9 := M9.pv
      obtain ⟨AK, cK, rfl, PK⟩ := hp9
      have HE := hide (fun (W : World) (E : Ext w9 W) => equal_pv AH AK _ _ cH cK _ _ W ((unhide HPH).keep (E89.trans E)) (PK.keep E))
      rw [decide_eq_true rfl] at HE
      have F9 : Ext wr w9 ∧ True := ⟨F8.1.trans E89, trivial⟩
      clear EN CA M9 E89 PK HPH F8
      generalize Wm.evN P.p F xr = u at *
      generalize Wm.evN P.p G xr = v at *
      obtain ⟨Z, hZ⟩ : ∃ Z, Z = (u + v) % P.p := ⟨_, rfl⟩
      rw [← hZ] at CP3'
      go_wp2_with fail
      refine (unhide CP1' _ (by repeat (first | exact F9.1 | refine Ext.alloc ?_ _ | refine Ext.drew ?_ | refine Ext.drewN ?_ _ | (refine Ext.trans ?_ (plus_ext _ _)) | (refine Ext.setCell ?_ (by have := Ext.size F9.1; simp; omega) _)))).mono ?_
      rintro e w10 ⟨rfl, EN⟩
      have E10 : Ext w9 w10 ∧ True := ⟨Ext.trans (by repeat (first | exact Ext.refl w9 | refine Ext.alloc ?_ _ | refine Ext.drew ?_ | refine Ext.drewN ?_ _ | (refine Ext.trans ?_ (plus_ext _ _)) | (refine Ext.setCell ?_ (by have := Ext.size Ext.refl w9; simp; omega) _))) EN, trivial⟩
      clear EN CP1'
      go_wp2_with fail
      refine (unhide CP2' _ (F9.1.trans (by repeat (first | exact E10.1 | refine Ext.alloc ?_ _ | refine Ext.drew ?_ | refine Ext.drewN ?_ _ | (refine Ext.trans ?_ (plus_ext _ _)) | (refine Ext.setCell ?_ (by have := Ext.size E10.1; simp; omega) _))))).mono ?_
      rintro e w11 ⟨rfl, EN⟩
      have E11 : Ext w9 w11 ∧ True := ⟨E10.1.trans (Ext.trans (by repeat (first | exact Ext.refl w10 | refine Ext.alloc ?_ _ | refine Ext.drew ?_ | refine Ext.drewN ?_ _ | (refine Ext.trans ?_ (plus_ext _ _)) | (refine Ext.setCell ?_ (by have := Ext.size Ext.refl w10; simp; omega) _))) EN), trivial⟩
      clear EN CP2' E10
      go_wp2_with fail
      refine (unhide CP3' _ (F9.1.trans (by repeat (first | exact E11.1 | refine Ext.alloc ?_ _ | refine Ext.drew ?_ | refine Ext.drewN ?_ _ | (refine Ext.trans ?_ (plus_ext _ _)) | (refine Ext.setCell ?_ (by have := Ext.size E11.1; simp; omega) _))))).mono ?_
      rintro e w12 ⟨rfl, EN⟩
      have E12 : Ext w9 w12 ∧ True := ⟨E11.1.trans (Ext.trans (by repeat (first | exact Ext.refl w11 | refine Ext.alloc ?_ _ | refine Ext.drew ?_ | refine Ext.drewN ?_ _ | (refine Ext.trans ?_ (plus_ext _ _)) | (refine Ext.setCell ?_ (by have := Ext.size Ext.refl w11; simp; omega) _))) EN), trivial⟩
      have EF : Ext w w12 ∧ True := ⟨E5.1.trans (F9.1.trans E12.1), trivial⟩
      have wXY : IntKind.i64.wrap ((u : Int) + (v : Int)) = (u : Int) + (v : Int) := IntWalk.i64_in _ (by omega)
      have tXY : ((u : Int) + (v : Int)).tmod (P.p : Int) = (Z : Int) := by rw [Int.tmod_eq_emod_of_nonneg (by omega), hZ]; push_cast; rfl
      have p0 : ((P.p : Int) == 0) = false := by rw [beq_eq_false_iff_ne]; omega
      have p0' : ¬ (P.p : Int) = 0 := by omega
      have p0n : ¬ P.p = 0 := by omega
      clear EN CP3' E11 F9 E5 hZ hu hv
      go_wp2_with (go_at_call 19; refine (good_made' [0, 0, 0, 0, 0, 0, 0] _ _ _ _ _ rfl rfl (by decide) (by simp)).mono ?_; rintro e wg ⟨rfl, rfl⟩)
      refine (unhide HE _ (by repeat (first | exact E12.1 | refine Ext.alloc ?_ _ | refine Ext.drew ?_ | refine Ext.drewN ?_ _ | (refine Ext.trans ?_ (plus_ext _ _)) | (refine Ext.setCell ?_ (by have := Ext.size E12.1; simp; omega) _)))).mono ?_
      rintro e w13 ⟨rfl, q13, rfl⟩
      go_wp2
      go_ret
      exact ⟨rfl, (by repeat (first | exact EF.1 | refine Ext.alloc ?_ _ | refine Ext.drew ?_ | refine Ext.drewN ?_ _ | (refine Ext.trans ?_ (plus_ext _ _)) | (refine Ext.setCell ?_ (by have := Ext.size EF.1; simp; omega) _)))⟩
end Go.Proofs.Ytkfdimofkkckeaa
