/-
  The law NumbersOwn returns true: the walk.
-/
import Derived.Test.YtjlofcccijcanaaBack1
import Derived.Test.YtjlofcccijcanaaSpoil
import Derived.Test.YtjlofcccijcanaaChineseJ
import Derived.Test.YtjlofcccijcanaaDivs3
import Derived.Test.YtjlofcccijcanaaLaw
set_option linter.unusedVariables false
set_option linter.unusedSimpArgs false
namespace Go.Proofs.Ytjlofcccijcanaa
open Go.RowKit Go.BigFrame


set_option maxRecDepth 100000 in
set_option maxHeartbeats 1000000 in
theorem clone_rest (A : Option Addr) (n c : Nat) (xs : List Value) (w : World) (R : Row w A n 2 xs) (h1 : ∀ u ∈ xs, u.oneCell' = true) (hb : n * 16 ≤ 140737488355328) (hnil : A = none → n = 0 ∧ c = 0) :
    Calls Try.prog 31 #[.slice A n c] w fun e w' => (∃ v, e = .returned v ∧ w'.ownsRow w.heap.size 48 2 v n xs) ∧ Ext w w' := by
  have hi0 : (Try.prog.info? 48).map (fun i => (i.zero, i.size, i.bytes)) = some (some (.agg #[.int .i64 0, .int .i64 0]), 2, 16) := by kernel_rfl
  obtain ⟨i0, hi, hz0, hz1, hz2⟩ := info_parts hi0
  cases A with
  | none =>
    obtain ⟨rfl, rfl⟩ := hnil rfl
    obtain rfl := R.empty
    have heq := fun w : World => Lib.run_eql_slice_nil w 44 48 none 0 0 0 0 Try.underlying44
    go_enter Try.func31, Try.ntmps31
    go_wp2
    go_ret
    exact ⟨⟨_, rfl, World.ownsRow_nil _ _ _ _⟩, Ext.refl _⟩
  | some ad =>
    have heq := fun w : World => Lib.run_eql_slice_nil w 44 48 (some ad) n c 0 0 Try.underlying44
    have hr := R.2
    have hl := R.1
    have hown := World.ownsRow_lit (base := w.heap.size) (e := 48) (size := 2) w #[] 0 (Nat.le_refl _) (by unfold maxLen; omega) rfl
    have HR := hide hr
    have HL := hide hl
    clear R hnil hr hl
    go_enter Try.func31, Try.ntmps31
    go_wp2_with (at_builtin; refine wpList_append_own _ rfl _ _ 44 rfl w.heap.size 48 i0 (.agg #[.int .i64 0, .int .i64 0]) 2 16 Try.underlying44 hi hz0 hz1 hz2 rfl (by decide) _ _ _ rfl hown ad n c xs rfl (unhide HL) ?c1 h1 (by unfold maxLen; omega) (by omega) (by simp) ?_)
    case c1 =>
      intro j u hj
      have hjn : j < n * 2 := by
        have := (List.getElem?_eq_some_iff.1 hj).1
        have := unhide HL
        omega
      obtain ⟨b, o, e, hb, hc⟩ := unhide HR (by omega)
      injection e with e
      subst e
      have hj' := (hc j hjn).trans hj
      have : (⟨b, o, none⟩ : Addr).add j = ⟨b, o + j, none⟩ := by
        unfold Addr.add
        split
        · rename_i h0; simp [h0]
        · rfl
      rw [this]
      exact (World.cell?_alloc_lt _ _ _ hb).trans hj'
    intro v' w' hown' hgrow _
    have hown2 : w'.ownsRow w.heap.size 48 2 v' n xs := by simpa using hown'
    have E1 : Ext w w' := ((Ext.refl w).alloc _).grown hgrow (fun q hq => by simp [Value.ownBlock] at hq; omega)
    clear hgrow
    go_wp2
    go_ret
    exact ⟨⟨_, rfl, hown2⟩, E1⟩

set_option maxRecDepth 100000 in
set_option maxHeartbeats 1000000 in
theorem equal_rest (A B : Option Addr) (n c d : Nat) (l : List (Int × Int)) (w : World) (R : Row w A n 2 (prs l)) (S : Row w B n 2 (prs l)) (hn : (n : Int) ≤ 9223372036854775807) :
    Calls Try.prog 36 #[.slice A n c, .slice B n d] w fun e w' => e = .returned (.bool true) ∧ ∃ k, w' = w.drewN k := by
  have hne : ∀ (x y : Int) (w : World), (binOp .neq 48 (.agg #[.int .i64 x, .int .i64 y]) (.agg #[.int .i64 x, .int .i64 y])).run Try.prog w = .ok (.bool false) w := by
    intro x y w
    have h1 := Try.underlying48
    have h2 := Try.underlying3
    rw [run_neq_struct]
    simp [go_sem, h1, h2]
  have HR := hide R
  have HS := hide S
  clear R S
  go_enter Try.func36, Try.ntmps36
  go_wp2
  go_loopw [13] (fun i wr => ∃ k : Nat, k ≤ n ∧ i = .int .i64 k ∧ ∃ q, wr = w.drewN q) (fun i _ => n - (intOf i).toNat)
  case atStart => exact ⟨0, by omega, rfl, 0, rfl⟩
  case round =>
    obtain ⟨k, hk, rfl, q, rfl⟩ := hrel
    by_cases hlt : k < n
    · obtain ⟨b, o, rfl, hb, c1, c2⟩ := (unhide HR).pair hlt
      obtain ⟨b', o', rfl, hb', d1, d2⟩ := (unhide HS).pair hlt
      have hk0 : (0 : Int) ≤ (k : Int) := by omega
      have hk1 : (k : Int) < (n : Int) := by omega
      generalize (l.getD k (0, 0)).1 = x at *
      generalize (l.getD k (0, 0)).2 = y at *
      go_wp2
      go_quiet (fail)
      go_wp2
      go_roundw
      case rel => exact ⟨k + 1, by omega, by go_num, _, rfl⟩
      case measure => simp [intOf]; omega
    · obtain rfl : k = n := by omega
      go_wp2
      go_ret
      exact ⟨rfl, _, rfl⟩


theorem prs_one : ∀ l : List (Int × Int), ∀ u ∈ prs l, u.oneCell' = true
  | [], u, h => by simp [prs] at h
  | p :: l, u, h => by
    simp only [prs, List.mem_cons] at h
    rcases h with rfl | rfl | h
    · rfl
    · rfl
    · exact prs_one l u h
theorem ints_one' (l : List Int) : ∀ u ∈ ints l, u.oneCell' = true := by
  intro u hu
  obtain ⟨x, -, rfl⟩ := List.mem_map.1 hu
  rfl
theorem conv0 {l : List Int} {n : Nat} (h : 0 < n) : (Wm.conv l oneG n n).getD 0 0 = l.getD 0 0 := by
  unfold Wm.conv
  rw [List.getD_eq_getElem?_getD, List.getElem?_map, List.getElem?_range h]
  show Wm.cv l oneG 0 n = _
  rw [Wm.cv_sum, Wm.sumZ_more (m := 1) n h fun j hj => by rw [Wm.wt_gt _ (by omega), Int.zero_mul]]
  simp [Wm.sumZ, Wm.wt, oneG]
theorem own_row_ne {w w' : World} {base n c sz : Nat} {e : TypeId} {A : Option Addr} {xs : List Value} {v : Value} {base' n' sz' : Nat} {e' : TypeId} {ys : List Value} (R : Row w A n sz xs) (hlt : ∀ b o, A = some ⟨b, o, none⟩ → b < base')
    (M : Made w' base' e' sz' v n' ys) (hw : w.heap.size ≤ w'.heap.size) : ∀ b o, A = some ⟨b, o, none⟩ → v.ownBlock ≠ some b := fun b o h e => by
  have h1 := (M.lt b e).1
  have h2 := hlt b o h
  omega

set_option maxRecDepth 100000 in
set_option maxHeartbeats 2000000 in
theorem nown_law (A1 : Option Addr) (n1 c1 : Nat) (l1 : List Int) (A2 : Option Addr) (n2 c2 : Nat) (l2 : List (Int × Int)) (w : World)
    (S1 : SliceIn w A1 n1 c1 1 8 (ints l1)) (_ : ∀ x ∈ l1, -9223372036854775808 ≤ x ∧ x ≤ 9223372036854775807) (S2 : SliceIn w A2 n2 c2 2 16 (prs l2)) (_ : ∀ x ∈ l2, (-9223372036854775808 ≤ x.1 ∧ x.1 ≤ 9223372036854775807) ∧ (-9223372036854775808 ≤ x.2 ∧ x.2 ≤ 9223372036854775807)) :
    Calls Try.prog 8 #[.slice A1 n1 c1, .slice A2 n2 c2] w fun e w' => e = .returned (.bool true) ∧ Ext w w' := by
  have CD := hide (fun w : World => divides_any w)
  have CJ := hide (fun w : World => joins_any w)
  have hnc1 := S1.2.1
  have hcb1 := S1.2.2.1
  have hnc2 := S2.2.1
  have hcb2 := S2.2.2.1
  have hn1 : n1 ≤ 4611686018427387904 := by omega
  have hn2 : (n2 : Int) ≤ 9223372036854775807 := by omega
  have hlen1 := S1.1.num
  have HR1 := hide S1.1
  have HR2 := hide S2.1
  have CC1 := hide (fun (W : World) (E : Ext w W) => clone_int A1 n1 c1 (ints l1) W (S1.1.keep E) (ints_one' l1) (by omega) S1.2.2.2.2)
  have CC2 := hide (fun (W : World) (E : Ext w W) => clone_rest A2 n2 c2 (prs l2) W (S2.1.keep E) (prs_one l2) (by omega) S2.2.2.2.2)
  have CL := hide (fun (W : World) (E : Ext w W) => Lift_any A1 n1 c1 l1 W (S1.1.keep E) hn1)
  have CLo := hide (fun (W : World) (E : Ext w W) => Lower_any A1 n1 c1 l1 W (S1.1.keep E) hn1)
  have CJn := hide (fun (W : World) (E : Ext w W) => Join_any A2 n2 c2 l2 W (S2.1.keep E) hn2)
  clear S1 S2
  go_enter Try.func8, Try.ntmps8
  go_wp2_with fail
  refine (unhide CD _).mono ?_
  rintro e w1 ⟨rfl, Fw1⟩
  go_wp2_with fail
  refine (unhide CJ _).mono ?_
  rintro e w2 ⟨rfl, Fw2⟩
  go_wp2_with fail
  refine (unhide CC1 _ (by repeat (first | exact Ext.refl _ | assumption | refine Ext.alloc ?_ _ | refine Ext.drew ?_ | refine Ext.drewN ?_ _ | refine Ext.trans ?_ ‹Ext _ _›))).mono ?_
  rintro e w3 ⟨⟨v3, rfl, O3⟩, EN⟩
  have Fw3 : Ext w2 w3 := EN
  clear EN
  go_wp2_with fail
  refine (unhide CC2 _ (by repeat (first | exact Ext.refl _ | assumption | refine Ext.alloc ?_ _ | refine Ext.drew ?_ | refine Ext.drewN ?_ _ | refine Ext.trans ?_ ‹Ext _ _›))).mono ?_
  rintro e w4 ⟨⟨v4, rfl, O4⟩, EN⟩
  have Fw4 : Ext w3 w4 := EN
  clear EN
  obtain ⟨A3, c3, rfl, R3, q31, q32, q33⟩ := row_of_own O3
  obtain ⟨A4, c4, rfl, R4, q41, q42, q43⟩ := row_of_own O4
  have hb3 : ∀ b o, A3 = some ⟨b, o, none⟩ → b < w4.heap.size := fun b o h => Nat.lt_of_lt_of_le (q33 b o h).2 (Ext.size Fw4)
  have hb4 : ∀ b o, A4 = some ⟨b, o, none⟩ → b < w4.heap.size := fun b o h => (q43 b o h).2
  have HR3 := hide (R3.keep Fw4)
  have HR4 := hide R4
  have HB3 := hide hb3
  have HB4 := hide hb4
  have E4 := And.intro (show Ext w w4 from (by repeat (first | exact Ext.refl _ | assumption | refine Ext.alloc ?_ _ | refine Ext.drew ?_ | refine Ext.drewN ?_ _ | refine Ext.trans ?_ ‹Ext _ _›))) trivial
  clear Fw1 Fw2 Fw3 Fw4 O3 O4 q33 q43 R3 R4 hb3 hb4 CD CJ CC1 CC2 q42 q32
  by_cases h0 : checkR n1 l1 = 0
  · go_wp2_with fail
    refine (unhide CL _ E4.1).mono ?_
    rintro e w5 ⟨⟨h1, rfl⟩ | ⟨h1, v5, M5, rfl⟩, F5⟩
    · exact absurd h0 h1
    clear h1
    go_wp2_with fail
    refine (unhide CLo _ (E4.1.trans (Ext.trans F5 (by repeat (first | exact Ext.refl w5 | refine Ext.alloc ?_ _ | refine Ext.drew ?_ | refine Ext.drewN ?_ _ | (refine Ext.trans ?_ (plus_ext _ _)) | (refine Ext.setCell ?_ (by have := Ext.size Ext.refl w5; simp; omega) _)))))).mono ?_
    rintro e w6 ⟨⟨h1, rfl⟩ | ⟨h1, v6, M6, rfl⟩, EN⟩
    · exact absurd h0 h1
    clear h1
    have F6 : Ext w5 w6 := Ext.trans (by repeat (first | exact Ext.refl w5 | refine Ext.alloc ?_ _ | refine Ext.drew ?_ | refine Ext.drewN ?_ _ | (refine Ext.trans ?_ (plus_ext _ _)) | (refine Ext.setCell ?_ (by have := Ext.size Ext.refl w5; simp; omega) _))) EN
    clear EN
    go_wp2_with fail
    refine (unhide CJn _ (E4.1.trans (F5.trans (Ext.trans F6 (by repeat (first | exact Ext.refl w6 | refine Ext.alloc ?_ _ | refine Ext.drew ?_ | refine Ext.drewN ?_ _ | (refine Ext.trans ?_ (plus_ext _ _)) | (refine Ext.setCell ?_ (by have := Ext.size Ext.refl w6; simp; omega) _))))))).mono ?_
    rintro e w7 ⟨⟨x, y, z, -, rfl⟩, EN⟩
    have F7 : Ext w6 w7 := Ext.trans (by repeat (first | exact Ext.refl w6 | refine Ext.alloc ?_ _ | refine Ext.drew ?_ | refine Ext.drewN ?_ _ | (refine Ext.trans ?_ (plus_ext _ _)) | (refine Ext.setCell ?_ (by have := Ext.size Ext.refl w6; simp; omega) _))) EN
    clear EN
    have M5' := (M5.keep (F6.trans F7))
    have M6' := M6.keep F7
    have h45 := Ext.size F5
    have h56 := Ext.size F6
    have hlt5 := M5.lt
    have hlt6 := M6.lt
    have hw4 := Ext.size E4.1
    have HM5 := hide M5'
    have HM6 := hide M6'
    have HF47 := hide (F5.trans (F6.trans F7))
    clear M5 M6 M5' M6' F5 F6 F7
    go_wp2_with fail
    refine (spoil_any _ v5 _ _ (-7) _ (unhide HM5)).mono ?_
    rintro e w8 ⟨⟨r8, rfl⟩, hg8⟩
    have HM68 := hide ((unhide HM6).grown_ hg8 (fun k hk hk' => by
      have h1 := (hlt6 k hk).1
      have h2 := (hlt5 k hk').2
      omega))
    go_wp2_with fail
    refine (spoil_any _ v6 _ _ (-7) _ (unhide HM68)).mono ?_
    rintro e w9 ⟨⟨r9, rfl⟩, hg9⟩
    have E9 : Ext w w9 ∧ True := ⟨((E4.1.trans (unhide HF47)).grown hg8 (fun k hk => by have := (hlt5 k hk).1; omega)).grown hg9 (fun k hk => by have := (hlt6 k hk).1; omega), trivial⟩
    have HR39 := hide ((((unhide HR3).keep (unhide HF47)).grown hg8 (fun b o h hk => by have h1 := (hlt5 b hk).1; have h2 := unhide HB3 b o h; omega)).grown hg9 (fun b o h hk => by have h1 := (hlt6 b hk).1; have h2 := unhide HB3 b o h; omega))
    have HR49 := hide ((((unhide HR4).keep (unhide HF47)).grown hg8 (fun b o h hk => by have h1 := (hlt5 b hk).1; have h2 := unhide HB4 b o h; omega)).grown hg9 (fun b o h hk => by have h1 := (hlt6 b hk).1; have h2 := unhide HB4 b o h; omega))
    clear hg8 hg9 hlt5 hlt6 HM5 HM6 HM68 HF47 h45 h56 hw4 E4 HR3 HR4 HB3 HB4
    have CE1 := hide (fun (W : World) (E : Ext w9 W) => equal_int A1 A3 n1 n1 c1 c3 l1 l1 W ((unhide HR1).keep (E9.1.trans E)) ((unhide HR39).keep E) (by omega) (by omega))
    rw [decide_eq_true rfl] at CE1
    have CE2 := hide (fun (W : World) (E : Ext w9 W) => equal_rest A2 A4 n2 c2 c4 l2 W ((unhide HR2).keep (E9.1.trans E)) ((unhide HR49).keep E) hn2)
    clear HR39 HR49
    go_wp2_with fail
    refine (unhide CE1 _ (by repeat (first | exact Ext.refl w9 | refine Ext.alloc ?_ _ | refine Ext.drew ?_ | refine Ext.drewN ?_ _ | (refine Ext.trans ?_ (plus_ext _ _)) | (refine Ext.setCell ?_ (by have := Ext.size Ext.refl w9; simp; omega) _)))).mono ?_
    rintro e w10 ⟨rfl, q10, rfl⟩
    go_wp2_with fail
    refine (unhide CE2 _ (by repeat (first | exact Ext.refl w9 | refine Ext.alloc ?_ _ | refine Ext.drew ?_ | refine Ext.drewN ?_ _ | (refine Ext.trans ?_ (plus_ext _ _)) | (refine Ext.setCell ?_ (by have := Ext.size Ext.refl w9; simp; omega) _)))).mono ?_
    rintro e w11 ⟨rfl, q11, rfl⟩
    go_wp2_with fail
    refine (unhide CL _ (by repeat (first | exact E9.1 | refine Ext.alloc ?_ _ | refine Ext.drew ?_ | refine Ext.drewN ?_ _ | (refine Ext.trans ?_ (plus_ext _ _)) | (refine Ext.setCell ?_ (by have := Ext.size E9.1; simp; omega) _)))).mono ?_
    rintro e w12 ⟨⟨h1, rfl⟩ | ⟨h1, v, M, rfl⟩, EN⟩
    · exact absurd h0 h1
    have E12 := And.intro (E9.1.trans (Ext.trans (by repeat (first | exact Ext.refl w9 | refine Ext.alloc ?_ _ | refine Ext.drew ?_ | refine Ext.drewN ?_ _ | (refine Ext.trans ?_ (plus_ext _ _)) | (refine Ext.setCell ?_ (by have := Ext.size Ext.refl w9; simp; omega) _))) EN) : Ext w w12) trivial
    clear EN h1
    obtain ⟨A, c, rfl, R, -⟩ := M.open_
    rcases Nat.eq_zero_or_pos n1 with hz | hz
    · subst hz
      clear M R h0
      go_wp2
      go_quiet (fail)
      go_wp2
      go_ret
      exact ⟨rfl, (by repeat (first | exact E12.1 | refine Ext.alloc ?_ _ | refine Ext.drew ?_ | refine Ext.drewN ?_ _ | (refine Ext.trans ?_ (plus_ext _ _)) | (refine Ext.setCell ?_ (by have := Ext.size E12.1; simp; omega) _)))⟩
    · obtain ⟨b, o, rfl, hb, hc⟩ := R.int (k := 0) hz
      obtain ⟨b', o', rfl, hb', hc'⟩ := ((unhide HR1).keep E12.1).int (k := 0) hz
      rw [conv0 hz, Nat.add_zero] at hc
      rw [Nat.add_zero] at hc'
      generalize l1.getD 0 0 = x0 at *
      have n0 : ((n1 : Int) == 0) = false := by rw [beq_eq_false_iff_ne]; omega
      have n0' : ¬ (n1 : Int) = 0 := by omega
      have n0n : ¬ n1 = 0 := by omega
      have n0p : (0 : Int) < (n1 : Int) := by omega
      clear M R h0
      go_wp2
      go_quiet (fail)
      go_wp2
      go_ret
      exact ⟨rfl, (by repeat (first | exact E12.1 | refine Ext.alloc ?_ _ | refine Ext.drew ?_ | refine Ext.drewN ?_ _ | (refine Ext.trans ?_ (plus_ext _ _)) | (refine Ext.setCell ?_ (by have := Ext.size E12.1; simp; omega) _)))⟩
  · go_wp2_with fail
    refine (unhide CL _ E4.1).mono ?_
    rintro e w5 ⟨⟨h1, rfl⟩ | ⟨h1, v5, M5, rfl⟩, F5⟩
    rotate_left
    · exact absurd h1 h0
    clear h1
    go_wp2_with fail
    refine (unhide CLo _ (E4.1.trans (Ext.trans F5 (by repeat (first | exact Ext.refl w5 | refine Ext.alloc ?_ _ | refine Ext.drew ?_ | refine Ext.drewN ?_ _ | (refine Ext.trans ?_ (plus_ext _ _)) | (refine Ext.setCell ?_ (by have := Ext.size Ext.refl w5; simp; omega) _)))))).mono ?_
    rintro e w6 ⟨⟨h1, rfl⟩ | ⟨h1, v6, M6, rfl⟩, EN⟩
    rotate_left
    · exact absurd h1 h0
    clear h1
    have F6 : Ext w5 w6 := Ext.trans (by repeat (first | exact Ext.refl w5 | refine Ext.alloc ?_ _ | refine Ext.drew ?_ | refine Ext.drewN ?_ _ | (refine Ext.trans ?_ (plus_ext _ _)) | (refine Ext.setCell ?_ (by have := Ext.size Ext.refl w5; simp; omega) _))) EN
    clear EN
    go_wp2_with fail
    refine (unhide CJn _ (E4.1.trans (F5.trans (Ext.trans F6 (by repeat (first | exact Ext.refl w6 | refine Ext.alloc ?_ _ | refine Ext.drew ?_ | refine Ext.drewN ?_ _ | (refine Ext.trans ?_ (plus_ext _ _)) | (refine Ext.setCell ?_ (by have := Ext.size Ext.refl w6; simp; omega) _))))))).mono ?_
    rintro e w7 ⟨⟨x, y, z, -, rfl⟩, EN⟩
    have F7 : Ext w6 w7 := Ext.trans (by repeat (first | exact Ext.refl w6 | refine Ext.alloc ?_ _ | refine Ext.drew ?_ | refine Ext.drewN ?_ _ | (refine Ext.trans ?_ (plus_ext _ _)) | (refine Ext.setCell ?_ (by have := Ext.size Ext.refl w6; simp; omega) _))) EN
    clear EN
    have HF47 := hide (F5.trans (F6.trans F7))
    clear F5 F6 F7
    go_wp2_with fail
    refine (spoil_any 0 _ _ _ (-7) _ (Made.nil (base := 0))).mono ?_
    rintro e w8 ⟨⟨r8, rfl⟩, hg8⟩
    go_wp2_with fail
    refine (spoil_any 0 _ _ _ (-7) _ (Made.nil (base := 0))).mono ?_
    rintro e w9 ⟨⟨r9, rfl⟩, hg9⟩
    have F79 : Ext w4 w9 := (((unhide HF47).grown hg8 (fun k hk => by cases hk)).grown hg9 (fun k hk => by cases hk))
    have E9 : Ext w w9 ∧ True := ⟨E4.1.trans F79, trivial⟩
    have HR39 := hide ((unhide HR3).keep F79)
    have HR49 := hide ((unhide HR4).keep F79)
    clear hg8 hg9 F79 HF47 E4 HR3 HR4 HB3 HB4
    have CE1 := hide (fun (W : World) (E : Ext w9 W) => equal_int A1 A3 n1 n1 c1 c3 l1 l1 W ((unhide HR1).keep (E9.1.trans E)) ((unhide HR39).keep E) (by omega) (by omega))
    rw [decide_eq_true rfl] at CE1
    have CE2 := hide (fun (W : World) (E : Ext w9 W) => equal_rest A2 A4 n2 c2 c4 l2 W ((unhide HR2).keep (E9.1.trans E)) ((unhide HR49).keep E) hn2)
    clear HR39 HR49
    go_wp2_with fail
    refine (unhide CE1 _ (by repeat (first | exact Ext.refl w9 | refine Ext.alloc ?_ _ | refine Ext.drew ?_ | refine Ext.drewN ?_ _ | (refine Ext.trans ?_ (plus_ext _ _)) | (refine Ext.setCell ?_ (by have := Ext.size Ext.refl w9; simp; omega) _)))).mono ?_
    rintro e w10 ⟨rfl, q10, rfl⟩
    go_wp2_with fail
    refine (unhide CE2 _ (by repeat (first | exact Ext.refl w9 | refine Ext.alloc ?_ _ | refine Ext.drew ?_ | refine Ext.drewN ?_ _ | (refine Ext.trans ?_ (plus_ext _ _)) | (refine Ext.setCell ?_ (by have := Ext.size Ext.refl w9; simp; omega) _)))).mono ?_
    rintro e w11 ⟨rfl, q11, rfl⟩
    go_wp2_with fail
    refine (unhide CL _ (by repeat (first | exact E9.1 | refine Ext.alloc ?_ _ | refine Ext.drew ?_ | refine Ext.drewN ?_ _ | (refine Ext.trans ?_ (plus_ext _ _)) | (refine Ext.setCell ?_ (by have := Ext.size E9.1; simp; omega) _)))).mono ?_
    rintro e w12 ⟨⟨h1, rfl⟩ | ⟨h1, v, M, rfl⟩, EN⟩
    rotate_left
    · exact absurd h1 h0
    have E12 := And.intro (E9.1.trans (Ext.trans (by repeat (first | exact Ext.refl w9 | refine Ext.alloc ?_ _ | refine Ext.drew ?_ | refine Ext.drewN ?_ _ | (refine Ext.trans ?_ (plus_ext _ _)) | (refine Ext.setCell ?_ (by have := Ext.size Ext.refl w9; simp; omega) _))) EN) : Ext w w12) trivial
    clear EN h1
    have hne : (checkR n1 l1 != 0) = true := by rw [bne_iff_ne]; exact h0
    have hne' : (checkR n1 l1 == 0) = false := by rw [beq_eq_false_iff_ne]; exact h0
    generalize checkR n1 l1 = r at *
    go_wp2
    go_quiet (fail)
    go_wp2
    go_ret
    exact ⟨rfl, (by repeat (first | exact E12.1 | refine Ext.alloc ?_ _ | refine Ext.drew ?_ | refine Ext.drewN ?_ _ | (refine Ext.trans ?_ (plus_ext _ _)) | (refine Ext.setCell ?_ (by have := Ext.size E12.1; simp; omega) _)))⟩
end Go.Proofs.Ytjlofcccijcanaa
