/-
  The walk of wholekeep.DeskCounts.
-/
import Derived.Test.YtpenkbhljkmliaaGreatDoorDeskM
import Derived.Lib.IndexLaws
set_option linter.unusedVariables false
set_option linter.unusedSimpArgs false
namespace Go.Proofs.YtpenkbhljkmliaaGreatDoor
open Go.RowKit Go.BigFrame

/-- A text that is empty or holds a newline. -/
def badp (s : ByteArray) : Bool := decide (s = ByteArray.empty) || decide (0 ≤ Lib.indexByte s.data.toList 10)
theorem badp_gd {s : ByteArray} (h : Gd s) : badp s = false := by
  have h1 : s ≠ ByteArray.empty := fun e => by
    have := h.1
    rw [e] at this
    exact absurd this (by decide)
  have h2 : decide (0 ≤ Lib.indexByte s.data.toList 10) = false := by
    rw [decide_eq_false_iff_not]
    intro h0
    obtain ⟨o, ho⟩ := Int.eq_ofNat_of_zero_le h0
    have := (Lib.indexByte_some ho).1
    exact h.2 10 (List.mem_of_getElem? this) rfl
  unfold badp
  rw [h2, decide_eq_false h1]; rfl
set_option maxRecDepth 100000 in
theorem badp_ok (s : ByteArray) (W : World) : Calls Tryz.prog 9 #[.string s] W fun e w' => e = .returned (.bool (badp s)) ∧ ∃ q, w' = W.drewN q := by
  by_cases h : s = ByteArray.empty
  · have hb : badp s = true := by unfold badp; rw [decide_eq_true h]; rfl
    rw [hb]
    have q1 : (s.toList == []) = true := by rw [h, ByteArray.toList_eq]; rfl
    clear h hb
    go_enter Tryz.func9, Tryz.ntmps9
    go_wp2
    go_ret
    exact ⟨rfl, 0, rfl⟩
  · have hb : badp s = decide (0 ≤ Lib.indexByte s.data.toList 10) := by unfold badp; rw [decide_eq_false h]; rfl
    rw [hb]
    have q1 : (s.toList == []) = false := ne_list (b := ByteArray.empty) rfl h
    have CC := hide (fun W => Tryz.strings_Contains_one s 10 W)
    generalize decide (0 ≤ Lib.indexByte s.data.toList 10) = r at *
    clear h hb
    go_enter Tryz.func9, Tryz.ntmps9
    go_wp2_with fail
    refine (unhide CC _).mono ?_
    rintro e w1 ⟨rfl, rfl⟩
    go_wp2
    go_ret
    exact ⟨rfl, 0, rfl⟩
theorem none_bad (A : Option Addr) (n c : Nat) (l : List ByteArray) (w : World) (R : Row w A n 1 (strs l)) (hn : n ≤ 9223372036854775807) (hg : ∀ b ∈ l, Gd b) :
    Calls Tryz.prog 8 #[.slice A n c, .func (.func 9) #[] #[]] w fun e w' => e = .returned (.bool false) ∧ ∃ q, w' = w.drewN q := by
  have hl := R.strN
  by_cases h0 : n = 0
  · subst h0
    refine (Tryz.slices_ContainsFunc_empty_f8 (α := ByteArray) A c _ w).mono ?_
    rintro e w'' ⟨rfl, rfl⟩
    exact ⟨rfl, 0, rfl⟩
  · obtain ⟨b, o, rfl, hb, hc⟩ := R.2 (by omega)
    have h := Tryz.slices_ContainsFunc_f8 Value.string badp 9 #[] (enters_of Tryz.func9 (by kernel_rfl) rfl) b o n c l w (fun W x _ => badp_ok x W) (by omega) hn (fun j hj => by
      rw [hc j (by omega), strs_get l j hj]
      simp [List.getD_eq_getElem?_getD, hj])
    have he : (l.take n).any badp = false := by
      rw [List.any_eq_false]
      intro x hx
      rw [badp_gd (hg x (List.mem_of_mem_take hx))]
      simp
    rw [he] at h
    exact h
def cntF (l : List ByteArray) : Nat := (l.filter fun x => decide (x ≠ ByteArray.empty)).length
theorem cnt_step (l : List ByteArray) (k : Nat) (h : k < l.length) : cntF (l.take (k + 1)) = if l.getD k ByteArray.empty = ByteArray.empty then cntF (l.take k) else cntF (l.take k) + 1 := by
  unfold cntF
  rw [take_snoc l ByteArray.empty h, List.filter_append, List.length_append]
  by_cases he : l.getD k ByteArray.empty = ByteArray.empty
  · rw [if_pos he, he]; simp
  · rw [if_neg he, List.filter_cons_of_pos (by simpa using he)]
    simp
theorem cnt_le (l : List ByteArray) (k : Nat) : cntF (l.take k) ≤ k := by
  unfold cntF
  have h1 := List.length_filter_le (fun x => decide (x ≠ ByteArray.empty)) (l.take k)
  have h2 := List.length_take_le k l
  omega

set_option maxRecDepth 100000 in
set_option maxHeartbeats 2000000 in
theorem deskCounts (s : ByteArray) (hs : s.size ≤ 1048576) (W : World) (hm : ∃ m : Int, W.cell? ⟨0, 0, none⟩ = some (.int .i64 m)) (HT : PowIs W) :
    Calls Tryz.prog 4 #[.string s] W fun e w' => e = .returned (.bool true) ∧ Ext W w' := by
  obtain ⟨mx, hm⟩ := hm
  have HR := hide (show ∀ (s : ByteArray) (w : World), s.size < 4294967281 → Ext W w → Calls Tryz.prog 5 #[.string s] w fun e w' => ((Okay s → ∃ v, e = .returned (.tuple #[v, .int .i64 0]) ∧ w'.ownsRow w.heap.size 9 1 v (run0 s).length (strs (run0 s))) ∧ (¬ Okay s → e = .returned (.tuple #[.slice none 0 0, .int .i64 2]))) ∧ Ext w w' from fun s w hs E =>
    run_any s hs w ⟨mx, E.keep hm⟩ (tab_ext HT E))
  have CL := hide (fun w (E : Ext W w) => lines_ok s (by omega) w ⟨mx, E.keep hm⟩)
  have CA : Hid (Calls Tryz.prog 5 #[.string ⟨#[103, 99, 100, 32, 49, 50, 32, 49, 56, 10, 10, 102, 97, 99, 116, 111, 114, 32, 49, 50]⟩] W fun e w' => (∃ v, e = .returned (.tuple #[v, .int .i64 0]) ∧ w'.ownsRow W.heap.size 9 1 v 2 (strs ansB)) ∧ Ext W w') :=
    hide ((unhide HR scrB W (by decide) (Ext.refl _)).mono fun e w' ⟨⟨h1, _⟩, hE⟩ => by
      obtain ⟨v, he, ho⟩ := h1 okay_B
      rw [run_B] at ho
      exact ⟨⟨v, he, ho⟩, hE⟩)
  have CB := hide (fun w E => unhide HR s w (by omega) E)
  obtain ⟨hgd0, hcnt0⟩ := gd_run (qe := qErr) (comp := compT) hq_new hc_comp (Wm.lines s) (Sto.new 4 2 3 3) (hq_new 4 2 3 3 (by decide)) (cl_lines s)
  have hcnt : (run0 s).length = cntF (Wm.lines s) := hcnt0
  have hgd : ∀ b ∈ run0 s, Gd b := hgd0
  clear hgd0 hcnt0
  have hl9 : (Wm.lines s).length ≤ 1048577 := by
    have h1 := Wm.lines_len s
    have h2 : Lib.countB s Wm.nl ≤ s.size := Lib.countB_le Wm.nl (by decide) s.size s (Nat.le_refl _)
    omega
  generalize Wm.lines s = l at *
  obtain ⟨n, hn⟩ : ∃ n, n = l.length := ⟨_, rfl⟩
  rw [← hn] at CL hl9
  have HN := hide hn
  have HCNT := hide hcnt
  have HGD := hide hgd
  clear hm HT HR hs hn hcnt hgd
  go_enter Tryz.func4, Tryz.ntmps4
  go_wp2_with fail
  refine (unhide CA).mono ?_
  rintro e w1 ⟨⟨v1, rfl, H1⟩, E1⟩
  obtain ⟨A1, c1, rfl, R1, -, -, -⟩ := row_of_own H1
  have HE1 := hide E1
  have CE := hide (equal_strs A1 (some ⟨w1.heap.size, 0, none⟩) 2 c1 2 ansB (w1.alloc (.cells #[.string ⟨#[50, 32, 45, 49, 32, 54, 32, 46]⟩, .string ⟨#[50, 32, 50, 32, 51, 32, 49, 32, 46]⟩] 9)) (R1.keep ((Ext.refl _).alloc _)) (row_new _ _ _ 2 1 rfl) (by decide))
  clear R1 H1 E1 CA
  go_wp2_with fail
  refine (unhide CE).mono ?_
  rintro e w2 ⟨rfl, q2, hw2⟩
  have HE2 := hide ((unhide HE1).trans (show Ext w1 w2 by rw [hw2]; exact ((Ext.refl _).alloc _).drewN _))
  clear hw2 CE HE1
  by_cases hO : Okay s
  · go_wp2_with fail
    refine (unhide CB _ (unhide HE2)).mono ?_
    rintro e w3 ⟨⟨h1, -⟩, E3⟩
    obtain ⟨v3, rfl, H3⟩ := h1 hO
    obtain ⟨A3, c3, rfl, R3, -, hcm3, -⟩ := row_of_own H3
    have HR3 := hide R3
    have HE3 := hide ((unhide HE2).trans E3)
    have hlen9 : (run0 s).length ≤ 1048577 := by
      have h := unhide HCNT
      have h2 := cnt_le l l.length
      rw [List.take_length] at h2
      have := unhide HN
      omega
    clear h1 H3 E3 R3
    go_wp2_with fail
    refine (unhide CL _ (unhide HE3)).mono ?_
    rintro e w4 ⟨⟨rfl, R4⟩, E4, hlt4⟩
    have HR4 := hide R4
    have HE4 := hide ((unhide HE3).trans E4)
    have CF := hide (fun W (E : Ext w4 W) => none_bad A3 (run0 s).length c3 (run0 s) W ((unhide HR3).keep (E4.trans E)) (by omega) (unhide HGD))
    have HCN := hide (show (run0 s).length = cntF (l.take n) from by rw [unhide HCNT, List.take_of_length_le (by have := unhide HN; omega)])
    clear R4 E4 HR3 HCNT HGD
    generalize (run0 s).length = n3 at *
    go_wp2
    go_loopw [7, 30] (fun v i wr => ∃ k : Nat, k ≤ n ∧ i = .int .i64 k ∧ v = .int .i64 (cntF (l.take k) : Nat) ∧ wr = w4) (fun _ i _ => n - (intOf i).toNat)
    case atStart => exact ⟨0, Nat.zero_le _, rfl, rfl, rfl⟩
    case round =>
      obtain ⟨k, hk, rfl, rfl, rfl⟩ := hrel
      by_cases hlt : k < n
      · have hkl : k < l.length := by have := unhide HN; omega
        obtain ⟨b1, o1, hA, hb, hc⟩ := (unhide HR4).str hlt
        injection hA with hA
        injection hA with h1 h2
        subst h1
        subst h2
        rw [Nat.zero_add] at hc
        have hst := cnt_step l k hkl
        have hcl := cnt_le l k
        obtain ⟨x, hx⟩ : ∃ x, l.getD k ByteArray.empty = x := ⟨_, rfl⟩
        rw [hx] at hc hst
        by_cases hxe : x = ByteArray.empty
        · rw [if_pos hxe] at hst
          have HST := hide hst
          have q1 : (x.toList == []) = true := by rw [hxe, ByteArray.toList_eq]; rfl
          clear hxe hx hst
          generalize cntF (l.take k) = cn at *
          go_wp2
          go_roundw
          case rel => exact ⟨k + 1, by omega, by go_num, by rw [unhide HST], by first | rfl | trivial⟩
          case measure => simp [intOf]; omega
        · rw [if_neg hxe] at hst
          have HST := hide hst
          have q1 : (x.toList == []) = false := ne_list (b := ByteArray.empty) rfl hxe
          clear hxe hx hst
          generalize cntF (l.take k) = cn at *
          go_wp2
          go_roundw
          case rel => exact ⟨k + 1, by omega, by go_num, by rw [unhide HST]; go_num, by first | rfl | trivial⟩
          case measure => simp [intOf]; omega
      · obtain rfl : n = k := by omega
        have hcn := unhide HCN
        generalize cntF (l.take n) = cn at *
        subst hcn
        go_wp2_with fail
        refine (unhide CF _ (Ext.refl _)).mono ?_
        rintro e w5 ⟨rfl, q5, hw5⟩
        have HE5 := hide ((unhide HE4).trans (show Ext wr w5 by rw [hw5]; exact (Ext.refl _).drewN _))
        clear hw5
        go_wp2
        go_ret
        exact ⟨rfl, unhide HE5⟩
  · go_wp2_with fail
    refine (unhide CB _ (unhide HE2)).mono ?_
    rintro e w3 ⟨⟨-, h1⟩, E3⟩
    obtain rfl := h1 hO
    have HE3 := hide ((unhide HE2).trans E3)
    clear h1 E3
    go_wp2_with fail
    refine (unhide CL _ (unhide HE3)).mono ?_
    rintro e w4 ⟨⟨rfl, R4⟩, E4, hlt4⟩
    have HR4 := hide R4
    have HE4 := hide ((unhide HE3).trans E4)
    clear R4 E4 HCNT HGD
    go_wp2
    go_loopw [7, 30] (fun v i wr => ∃ k : Nat, k ≤ n ∧ i = .int .i64 k ∧ v = .int .i64 (cntF (l.take k) : Nat) ∧ wr = w4) (fun _ i _ => n - (intOf i).toNat)
    case atStart => exact ⟨0, Nat.zero_le _, rfl, rfl, rfl⟩
    case round =>
      obtain ⟨k, hk, rfl, rfl, rfl⟩ := hrel
      by_cases hlt : k < n
      · have hkl : k < l.length := by have := unhide HN; omega
        obtain ⟨b1, o1, hA, hb, hc⟩ := (unhide HR4).str hlt
        injection hA with hA
        injection hA with h1 h2
        subst h1
        subst h2
        rw [Nat.zero_add] at hc
        have hst := cnt_step l k hkl
        have hcl := cnt_le l k
        obtain ⟨x, hx⟩ : ∃ x, l.getD k ByteArray.empty = x := ⟨_, rfl⟩
        rw [hx] at hc hst
        by_cases hxe : x = ByteArray.empty
        · rw [if_pos hxe] at hst
          have HST := hide hst
          have q1 : (x.toList == []) = true := by rw [hxe, ByteArray.toList_eq]; rfl
          clear hxe hx hst
          generalize cntF (l.take k) = cn at *
          go_wp2
          go_roundw
          case rel => exact ⟨k + 1, by omega, by go_num, by rw [unhide HST], by first | rfl | trivial⟩
          case measure => simp [intOf]; omega
        · rw [if_neg hxe] at hst
          have HST := hide hst
          have q1 : (x.toList == []) = false := ne_list (b := ByteArray.empty) rfl hxe
          clear hxe hx hst
          generalize cntF (l.take k) = cn at *
          go_wp2
          go_roundw
          case rel => exact ⟨k + 1, by omega, by go_num, by rw [unhide HST]; go_num, by first | rfl | trivial⟩
          case measure => simp [intOf]; omega
      · obtain rfl : n = k := by omega
        go_wp2
        go_ret
        exact ⟨rfl, unhide HE4⟩
end Go.Proofs.YtpenkbhljkmliaaGreatDoor
