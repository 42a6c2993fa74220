/-
  The walk of the law TreeProves.
-/
import Derived.Test.YtkcmlcomonfoiaaTree5
set_option linter.unusedVariables false
set_option linter.unusedSimpArgs false
namespace Go.Proofs.Ytkcmlcomonfoiaa
open Go.RowKit Go.BigFrame


set_option maxRecDepth 100000 in
set_option maxHeartbeats 1000000 in
theorem cloneL (A : Option Addr) (n c : Nat) (xs : List Value) (w : World) (R : Row w A n 1 xs) (h1 : ∀ u ∈ xs, u.oneCell' = true) (hb : n * 8 ≤ 140737488355328) (hnil : A = none → n = 0 ∧ c = 0) :
    Calls Try.prog 31 #[.slice A n c] w fun e w' => (∃ v, e = .returned v ∧ w'.ownsRow w.heap.size 48 1 v n xs) ∧ Ext w w' := by
  have hi0 : (Try.prog.info? 48).map (fun i => (i.zero, i.size, i.bytes)) = some (some (.int .u64 0), 1, 8) := by kernel_rfl
  obtain ⟨i0, hi, hz0, hz1, hz2⟩ := info_parts hi0
  cases A with
  | none =>
    obtain ⟨rfl, rfl⟩ := hnil rfl
    obtain rfl := R.empty
    have heq := fun w : World => Lib.run_eql_slice_nil w 49 48 none 0 0 0 0 Try.underlying49
    go_enter Try.func31, Try.ntmps31
    go_wp2
    go_ret
    exact ⟨⟨_, rfl, World.ownsRow_nil _ _ _ _⟩, Ext.refl _⟩
  | some ad =>
    have heq := fun w : World => Lib.run_eql_slice_nil w 49 48 (some ad) n c 0 0 Try.underlying49
    have hr := R.2
    have hl := R.1
    have hown := World.ownsRow_lit (base := w.heap.size) (e := 48) (size := 1) w #[] 0 (Nat.le_refl _) (by unfold maxLen; omega) rfl
    have HR := hide hr
    have HL := hide hl
    clear R hnil hr hl
    go_enter Try.func31, Try.ntmps31
    go_wp2_with (at_builtin; refine wpList_append_own _ rfl _ _ 49 rfl w.heap.size 48 i0 (.int .u64 0) 1 8 Try.underlying49 hi hz0 hz1 hz2 rfl (by decide) _ _ _ rfl hown ad n c xs rfl (unhide HL) ?c1 h1 (by unfold maxLen; omega) (by omega) (by simp) ?_)
    case c1 =>
      intro j u hj
      have hjn : j < n * 1 := by
        have := (List.getElem?_eq_some_iff.1 hj).1
        have := unhide HL
        omega
      obtain ⟨b, o, e, hb, hc⟩ := unhide HR (by omega)
      injection e with e
      subst e
      have hj' := (hc j hjn).trans hj
      have : (⟨b, o, none⟩ : Addr).add j = ⟨b, o + j, none⟩ := by
        unfold Addr.add
        split
        · rename_i h0; simp [h0]
        · rfl
      rw [this]
      exact (World.cell?_alloc_lt _ _ _ hb).trans hj'
    intro v' w' hown' hgrow _
    have hown2 : w'.ownsRow w.heap.size 48 1 v' n xs := by simpa using hown'
    have E1 : Ext w w' := ((Ext.refl w).alloc _).grown hgrow (fun q hq => by simp [Value.ownBlock] at hq; omega)
    clear hgrow
    go_wp2
    go_ret
    exact ⟨⟨_, rfl, hown2⟩, E1⟩


set_option maxRecDepth 100000 in
set_option maxHeartbeats 4000000 in
theorem proves_any (A : Option Addr) (n c : Nat) (l : List ByteArray) (k at' : Int) (bb : Nat) (w : World) (hl : Row w A n 1 (strs l)) (hnc : n ≤ c) (hc63 : c ≤ 9223372036854775807) (hs : ∀ s ∈ l, (s.size : Int) ≤ 9223372036854775807) :
    Calls Try.prog 10 #[.slice A n c, .int .i64 k, .int .i64 at', .int .u64 bb] w fun e w' => e = .returned (.bool true) ∧ Ext w w' := by
  have T0 := hide trees_any
  by_cases hn : n < 1 ∨ 16 < n
  · have CR := hide (fun w : World => Root_bad A n c w hn)
    clear hn hl
    go_enter Try.func10, Try.ntmps10
    go_wp2_with fail
    refine (unhide T0 _).mono ?_
    rintro e w1 ⟨rfl, E1⟩
    go_wp2_with fail
    refine (unhide CR _).mono ?_
    rintro e w2 ⟨rfl, rfl⟩
    go_wp2
    go_ret
    exact ⟨rfl, E1⟩
  · have hn1 : 1 ≤ n := by omega
    have hn16 : n ≤ 16 := by omega
    clear hn
    obtain ⟨K', k0, k1, -, cK⟩ := within_ex k n (by omega) (by omega)
    obtain ⟨K, rfl⟩ := Int.eq_ofNat_of_zero_le k0
    have hKn : K < n := by omega
    have hlen := hl.strN
    have CR := hide (fun (w' : World) (E : Ext w w') => Root_ok A n c l w' hn1 hn16 (hl.keep E) hs)
    have CP := hide (fun (w' : World) (E : Ext w w') => Prove_ok A n c K l w' hn1 hn16 hKn (hl.keep E) hs)
    obtain ⟨b, o, rfl, hb, hcell⟩ := hl.str hKn
    have hpv := Wm.proves nd n (l.map lf) K (by simpa using hlen) hKn
    have hg : (l.map lf).getD K 0 = lf (l.getD K ByteArray.empty) := by
      rw [List.getD_eq_getElem?_getD, List.getElem?_map, List.getD_eq_getElem?_getD, List.getElem?_eq_getElem (by omega), Option.map_some, Option.getD_some, Option.getD_some]
    rw [hg] at hpv
    have hsz := hs _ (getD_mem l ByteArray.empty (show K < l.length by omega))
    have hpl : ∀ t, n ≤ 2 ^ t → (Wm.proveL nd (l.map lf) K).length ≤ t := fun t h => Wm.proveL_length nd t _ _ K (by simpa using hlen) h
    generalize l.getD K ByteArray.empty = s at *
    unfold ProvePost at CP
    generalize Wm.proveL nd (l.map lf) K = P at *
    generalize Wm.rootL nd (l.map lf) = R at *
    have hsh := Wm.shows_iff.2 hpv
    have hp4 : P.length ≤ 4 := hpl 4 (by omega)
    have CC := hide (fun (A : Option Addr) (m c : Nat) (q : List Nat) (w : World) (h : Longs w A m c q) => check_any R n K s A m c q w hn1 hn16 hKn hsz h)
    have HSH := hide hsh
    have HPL := hide hpl
    clear hs hl hpv hg hsz hsh hpl
    go_enter Try.func10, Try.ntmps10
    go_wp2_with fail
    refine (unhide T0 _).mono ?_
    rintro e w1 ⟨rfl, E1⟩
    go_wp2_with fail
    refine (unhide CR _ E1).mono ?_
    rintro e w2 ⟨rfl, E2⟩
    have F2 := E1.trans E2
    clear k0 k1
    go_wp2_with fail
    refine (unhide cK _).mono ?_
    rintro e w3 ⟨rfl, rfl⟩
    go_wp2_with fail
    refine (unhide CP _ F2).mono ?_
    rintro e w4 ⟨⟨v, rfl, hown⟩, E4⟩
    have F4 := F2.trans E4
    have hcell := F4.keep hcell
    obtain ⟨PA, pc, rfl, hrow, hpc, hpm, hpb⟩ := row_of_own hown
    unfold maxLen at hpm
    have hlong : Longs w4 PA P.length pc P := ⟨hrow, hpc, by omega⟩
    have hcn := unhide CC PA P.length pc P w4 hlong
    rw [unhide HSH] at hcn
    have C1 := hide hcn
    have HL := hide hlong
    have HROW := hide hrow
    have HNIL : Hid (PA = none → P.length = 0 ∧ pc = 0) := hide fun e => by
      subst e
      rcases hown.2 with ⟨h1, h2⟩ | ⟨g, cap, cur, h1, _⟩
      · injection h1 with _ h1 h3
        exact ⟨h1, h3⟩
      · cases h1
    clear hcn hlong hrow hown hpb
    go_wp2_with fail
    refine (unhide C1).mono ?_
    rintro e w5 ⟨rfl, rfl⟩
    go_wp2
    go_loopw [15] (fun t wr => ∃ j : Nat, j ≤ 4 ∧ t = .int .i64 j ∧ wr = w5) (fun t _ => 10 - (intOf t).toNat)
    case atStart => exact ⟨0, by omega, rfl, rfl⟩
    case round =>
      obtain ⟨j, hj4, rfl, rfl⟩ := hrel
      by_cases hlt : 2 ^ j < n
      · have hj3 : j < 4 := by
          rcases Nat.lt_or_ge j 4 with h | h
          · exact h
          · obtain rfl : j = 4 := by omega
            omega
        have hcases : j = 0 ∨ j = 1 ∨ j = 2 ∨ j = 3 := by omega
        clear CP HPL CR C1
        rcases hcases with rfl | rfl | rfl | rfl
        · have h1 : (1 : Int) < (n : Int) := by simp at hlt; omega
          clear hlt
          go_wp2
          go_roundw
          case rel => exact ⟨1, by omega, rfl, by first | rfl | trivial⟩
          case measure => simp [intOf]
        · have h1 : (2 : Int) < (n : Int) := by simp at hlt; omega
          clear hlt
          go_wp2
          go_roundw
          case rel => exact ⟨2, by omega, rfl, by first | rfl | trivial⟩
          case measure => simp [intOf]
        · have h1 : (4 : Int) < (n : Int) := by simp at hlt; omega
          clear hlt
          go_wp2
          go_roundw
          case rel => exact ⟨3, by omega, rfl, by first | rfl | trivial⟩
          case measure => simp [intOf]
        · have h1 : (8 : Int) < (n : Int) := by simp at hlt; omega
          clear hlt
          go_wp2
          go_roundw
          case rel => exact ⟨4, by omega, rfl, by first | rfl | trivial⟩
          case measure => simp [intOf]
      · have hple := unhide HPL j (by omega)
        obtain ⟨J, hJ⟩ : ∃ J : Nat, J = j := ⟨_, rfl⟩
        have hcases : j = 0 ∨ j = 1 ∨ j = 2 ∨ j = 3 ∨ j = 4 := by omega
        clear CP HPL CR C1
        have CCL := hide (fun (w' : World) (E : Ext wr w') => cloneL PA P.length pc (nats .u64 P) w' ((unhide HROW).keep E) (nats_one' _) (by omega) (unhide HNIL))
        have hmore : Wm.shows nd R n K (lf s) (P ++ [bb]) = false := Wm.shows_more (unhide HSH) bb
        have CX := hide (fun (A : Option Addr) (m c : Nat) (w : World) (h : Longs w A m c (P ++ [bb])) => by have := unhide CC A m c (P ++ [bb]) w h; rw [hmore] at this; exact this)
        obtain ⟨ht0, ⟨i0, hi0, hz0, hz1, hz2⟩, -, -⟩ := longI
        have hbr := cell_lt hcell
        simp only at hbr
        have hwn := World.new_ne wr ⟨b, o + K, none⟩ hcell
        have hless : 0 < P.length → Wm.shows nd R n K (lf s) P.tail = false := fun h => Wm.shows_less (unhide HSH) (fun e => by subst e; simp at h)
        have HLESS := hide hless
        clear hless
        clear hcases
        have hpw : ((2 ^ j : Nat) : Int) = (2 : Int) ^ j := by push_cast; rfl
        have hp16 : 2 ^ j ≤ 2 ^ 4 := Nat.pow_le_pow_right (by omega) hj4
        have hsh1 : IntKind.i64.wrap ((2 : Int) ^ j) = (2 : Int) ^ j := by rw [← hpw]; exact IntWalk.i64_in _ (by omega)
        have hsh2 : decide ((2 : Int) ^ j < (n : Int)) = false := by rw [← hpw]; exact decide_eq_false (by omega)
        have hsh3 : ¬ (2 : Int) ^ j < (n : Int) := by rw [← hpw]; omega
        have hq : ¬ (j : Int) < (P.length : Int) := by omega
        clear hpw hp16 hlt
        go_upto_region 12 with fail
        go_region_held3 (fun w' => w'.cell? ⟨b, o + K, none⟩ = some (.string s)) (go_keep)
            (first
              | (go_at_call 31; refine (unhide CCL _ (by first | exact Ext.drew (Ext.refl _) | exact (Ext.drew (Ext.refl _)).alloc _)).mono ?_; rintro e wq ⟨⟨vq, rfl, hownq⟩, EQ⟩
                 have kq := EQ.keep (a := ⟨b, o + K, none⟩) (v := .string s) (by simp [*])
                 have hvq : ∀ q, vq.ownBlock = some q → wr.heap.size ≤ q := fun q hq => by
                   have := (hownq.lt q hq).1
                   simp at this
                   omega)
              | (refine step_append_own rfl _ _ 49 rfl wr.heap.size 48 i0 (.int .u64 0) 1 8 ht0 hi0 hz0 hz1 hz2 rfl (by decide) _ P.length (nats .u64 P) rfl ?o _ 1 1 [.int .u64 (bb : Int)] rfl rfl ?c1 ?c2 ?c3 ?c4 ?c5 ?h
                 case o => first | exact World.ownsRow.alloc (row_mono hownq (by simp)) _ | exact row_mono hownq (by simp)
                 case c1 =>
                   intro j u hj
                   match j, hj with
                   | 0, hj => simp at hj; subst hj; first | exact (World.cell?_alloc_at _ _ _ _ rfl).trans rfl | exact EQ.keep ((World.cell?_alloc_at _ _ _ _ rfl).trans rfl)
                 case c2 => intro u hu; simp at hu; subst hu; rfl
                 case c3 => unfold maxLen; omega
                 case c4 => omega
                 case c5 => have := EQ.size; simp at this; simp; omega
                 intro v' w' hown' hgrow _
                 have k1 := hgrow.cell (a := ⟨b, o + K, none⟩) (v := .string s) (by simp [*]) (by intro hq; first | (have := hvq b hq; omega) | (have := hvq b hq.symm; omega))
                 have FX : Ext wr w' := (by first | exact (((Ext.refl wr).drew.trans EQ).alloc _).grown hgrow hvq | exact (((Ext.refl wr).alloc _).drew.trans EQ).grown hgrow hvq | exact (((Ext.refl wr).drew.alloc _).trans EQ).grown hgrow hvq)
                 obtain ⟨A2, c2, rfl, hrow2, hpc2, hpm2, -⟩ := row_of_own hown'
                 have hlong2 : Longs w' A2 (P.length + 1) c2 (P ++ [bb]) := ⟨by rw [nats_snoc]; exact hrow2, hpc2, by unfold maxLen at hpm2; omega⟩)
              | (go_at_call 26; refine (unhide CX _ _ _ _ hlong2).mono ?_; rintro e wx ⟨rfl, rfl⟩))
        all_goals
          have F6 : Ext w wx := F4.trans FX
          clear hple hJ
          go_wp2_with fail
          refine (good_made [0, 0, 0] _ _ _ _ rfl rfl (by decide)).mono ?_
          rintro e w' ⟨rfl, rfl⟩
          by_cases hP : P.length = 0
          · have hP2 : ((P.length : Int) == 0) = true := by rw [beq_iff_eq]; omega
            go_wp2
            go_ret
            exact ⟨rfl, F6.alloc _⟩
          · have hP2 : ((P.length : Int) == 0) = false := by rw [beq_eq_false_iff_ne]; omega
            have hP3 : ¬ (P.length : Int) = 0 := by omega
            have hP4 : 0 < P.length := by omega
            obtain ⟨b1, o1, rfl, hb1, hc1⟩ := (unhide HROW).nat (k := 0) hP4
            have CT := hide (fun (w' : World) (E : Ext wr w') => by have := unhide CC _ _ _ _ w' (((unhide HL).tail' hP4).keep E); rw [unhide HLESS hP4] at this; exact this)
            have k2 := ((Ext.refl wx).alloc (.cells #[.int .i64 0, .int .i64 0, .int .i64 0] 25)).keep k1
            go_upto_region 17 with fail
            go_quiet ((go_at_call 26; exact Calls.quiet_of (drew_of_same (unhide CT _ ((FX.alloc _).drewN _)))))
            go_wp2
            all_goals
              go_ret
              exact ⟨rfl, (F6.alloc _).drewN _⟩

theorem proves_law (A : Option Addr) (n c : Nat) (l : List ByteArray) (k at' : Int) (bb : Nat) (_ : bb < 18446744073709551616) (w : World) (hl : SliceIn w A n c 1 16 (strs l)) (hs : ∀ s ∈ l, (s.size : Int) ≤ 9223372036854775807) :
    Calls Try.prog 10 #[.slice A n c, .int .i64 k, .int .i64 at', .int .u64 bb] w fun e w' => e = .returned (.bool true) ∧ Ext w w' :=
  proves_any A n c l k at' bb w hl.1 hl.2.1 hl.2.2.2.1 hs
end Go.Proofs.Ytkcmlcomonfoiaa
