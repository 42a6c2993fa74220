/-
  The walks of the laws ChineseOne and ChineseOrder.
-/
import Derived.Test.YticphnjljnhlcaaChinese4
namespace Go.Proofs.Yticphnjljnhlcaa
open Go.RowKit Go.BigFrame

def misses (t : Int) (p : Int × Int) : Bool := if p.2 < 1 then true else t.tmod p.2 != p.1

set_option maxRecDepth 100000 in
set_option maxHeartbeats 1000000 in
theorem miss_any (r m t : Int) (q : Addr) (w : World) (hq : w.cell? q = some (.int .i64 t)) :
    Calls Try.prog 37 #[.agg #[.int .i64 r, .int .i64 m], .pointer (some q)] w fun e w' => e = .returned (.bool (misses t (r, m))) ∧ Ext w w' := by
  have hq2 := fun o : Obj => (World.cell?_alloc_lt w o q (World.block_lt_of_cell? w q (by rw [hq]))).trans hq
  by_cases h1 : m < 1
  · have hv : misses t (r, m) = true := by simp [misses, h1]
    rw [hv]
    clear hv
    go_enter Try.func37, Try.ntmps37
    go_wp2
    go_quiet (fail)
    go_wp2
    go_ret
    exact ⟨rfl, ((Ext.refl _).alloc _).drewN _⟩
  · have hv : misses t (r, m) = (t.tmod m != r) := by simp [misses, h1]
    have m0 : (m == 0) = false := by rw [beq_eq_false_iff_ne]; omega
    have m0' : ¬ m = 0 := by omega
    have m1 : decide (m < 1) = false := decide_eq_false h1
    have HV := hide hv
    clear hv
    generalize hT : t.tmod m = z at *
    go_enter Try.func37, Try.ntmps37
    go_wp2
    go_quiet (fail)
    go_wp2
    go_ret
    exact ⟨ret_boolv (unhide HV).symm, ((Ext.refl _).alloc _).drewN _⟩

/-- 'fits', of a number that is not below 0 and a right system. -/
theorem misses_nat (t : Nat) (l : List (Int × Int)) (hall : ∀ p ∈ l, RestOk p) : (!l.any (misses (t : Int))) = true ↔ Wm.Fits t (natl l) := by
  rw [Bool.not_eq_true', List.any_eq_false]
  unfold Wm.Fits natl
  constructor
  · intro h p hp
    obtain ⟨q, hq, rfl⟩ := List.mem_map.1 hp
    obtain ⟨⟨v1, v2⟩, v3, v4⟩ := hall q hq
    have := h q hq
    unfold misses at this
    rw [if_neg (by omega)] at this
    obtain ⟨x, y⟩ := q
    obtain ⟨X, rfl⟩ := Int.eq_ofNat_of_zero_le v3
    obtain ⟨Y, rfl⟩ := Int.eq_ofNat_of_zero_le (show 0 ≤ y by have : 1 ≤ y := v1; omega)
    simp only [bne_iff_ne, ne_eq, Decidable.not_not] at this
    have e : ((t % Y : Nat) : Int) = (X : Int) := this
    show t % (Y : Int).toNat = (X : Int).toNat
    rw [Int.toNat_natCast, Int.toNat_natCast]
    omega
  · intro h q hq
    obtain ⟨⟨v1, v2⟩, v3, v4⟩ := hall q hq
    have := h _ (List.mem_map.2 ⟨q, hq, rfl⟩)
    unfold misses
    rw [if_neg (by omega)]
    obtain ⟨x, y⟩ := q
    obtain ⟨X, rfl⟩ := Int.eq_ofNat_of_zero_le v3
    obtain ⟨Y, rfl⟩ := Int.eq_ofNat_of_zero_le (show 0 ≤ y by have : 1 ≤ y := v1; omega)
    have e : t % (Y : Int).toNat = (X : Int).toNat := this
    rw [Int.toNat_natCast, Int.toNat_natCast] at e
    simp only [bne_iff_ne, ne_eq, Decidable.not_not]
    show ((t % Y : Nat) : Int) = (X : Int)
    omega

set_option maxRecDepth 100000 in
set_option maxHeartbeats 1000000 in
theorem fit_any (t : Int) (q : Addr) (A : Option Addr) (n c : Nat) (l : List (Int × Int)) (w : World) (hq : w.cell? q = some (.slice A n c)) (R : Row w A n 2 (prs l)) (hn : n ≤ 6) :
    Calls Try.prog 35 #[.int .i64 t, .pointer (some q)] w fun e w' => e = .returned (.bool (!l.any (misses t))) ∧ Ext w w' := by
  have hq2 := fun o : Obj => (World.cell?_alloc_lt w o q (World.block_lt_of_cell? w q (by rw [hq]))).trans hq
  have hc := hide (fun (w : World) (A : Option Addr) (R : Row w A n 2 (prs l)) (p : Addr) (hp : w.cell? p = some (.int .i64 t)) =>
    fits_contains A n c l p w R (misses t) (fun k hk W E => miss_any _ _ t p W (E.keep hp)) (by omega))
  have HR := hide R
  clear R
  generalize l.any (misses t) = v at *
  have hq0 : (w.alloc (.cells #[.int .i64 t] 3)).cell? ⟨w.heap.size, 0, none⟩ = some (.int .i64 t) := by simp
  have HQ0 := hide hq0
  clear hq0
  go_enter Try.func35, Try.ntmps35
  go_wp2_with fail
  refine (unhide hc _ A ((unhide HR).alloc _) ⟨w.heap.size, 0, none⟩ (unhide HQ0)).mono ?_
  rintro e w' ⟨rfl, E1⟩
  go_wp2
  go_ret
  exact ⟨rfl, ((Ext.refl _).alloc _).trans E1⟩

set_option maxRecDepth 100000 in
set_option maxHeartbeats 2000000 in
theorem cone_any (A : Option Addr) (n c : Nat) (l : List (Int × Int)) (x : Int) (w : World) (S : SliceIn w A n c 2 16 (prs l)) (_hb : ∀ x ∈ l, (-9223372036854775808 ≤ x.1 ∧ x.1 ≤ 9223372036854775807) ∧ (-9223372036854775808 ≤ x.2 ∧ x.2 ≤ 9223372036854775807)) :
    Calls Try.prog 11 #[.slice A n c, .int .i64 x] w fun e w' => e = .returned (.bool true) ∧ Ext w w' := by
  obtain ⟨R, hnc, -, hcm, -⟩ := S
  have hn : (n : Int) ≤ 9223372036854775807 := by omega
  have HR := hide R
  obtain ⟨X, x0, x1, -, cX⟩ := within_ex x 1099511627776 (by omega) (by omega)
  obtain ⟨T, rfl⟩ := Int.eq_ofNat_of_zero_le x0
  have cj := hide (fun w (R : Row w A n 2 (prs l)) => Join_any A n c l w R hn)
  clear hcm hnc R
  go_enter Try.func11, Try.ntmps11
  go_wp2_with fail
  refine (joins_any _).mono ?_
  rintro e w' ⟨rfl, E0⟩
  have hq := E0.keep (a := ⟨w.heap.size, 0, none⟩) (v := .slice A n c) (by simp)
  have HR1 := hide ((unhide HR).keep (((Ext.refl w).alloc _).trans E0))
  have F0 := ((Ext.refl w).alloc _).trans E0
  clear E0
  go_wp2_with fail
  refine (unhide cj _ (unhide HR1)).mono ?_
  rintro e w1 ⟨⟨a, b, z, hres, rfl⟩, E1⟩
  have hq := E1.keep hq
  have HR2 := hide ((unhide HR1).keep E1)
  have F1 := F0.trans E1
  clear E1 F0 HR1
  rcases hres with ⟨-, rfl, rfl, rfl⟩ | ⟨-, -, rfl, rfl, rfl⟩ | ⟨-, -, -, rfl, rfl, rfl⟩ | ⟨h6, hall, N, M, hJ, hM, rfl, rfl, rfl⟩
  · go_wp2
    go_ret
    exact ⟨rfl, F1⟩
  · go_wp2
    go_ret
    exact ⟨rfl, F1⟩
  · go_wp2
    go_ret
    exact ⟨rfl, F1⟩
  · have hm0 := hJ.pos
    have hNM := hJ.1
    have f1 : (!l.any (misses (N : Int))) = true := (misses_nat N l hall).2 hJ.fits
    have f2 : (!l.any (misses (T : Int))) = decide (T % M = N) := by
      rw [Bool.eq_iff_iff, decide_eq_true_iff, ← hJ.2 T]
      exact misses_nat T l hall
    have cf := hide (fun (W : World) (E : Ext w1 W) (t : Int) => fit_any t ⟨w.heap.size, 0, none⟩ A n c l W (E.keep hq) ((unhide HR2).keep E) h6)
    have c1 := hide (fun (W : World) (E : Ext w1 W) => by have := unhide cf W E (N : Int); rw [f1] at this; exact this)
    have c2 := hide (fun (W : World) (E : Ext w1 W) => by have := unhide cf W E (T : Int); rw [f2] at this; exact this)
    have hmf : ∀ (fn : Fn) (first cap : Array Value) (w : World), (Instr.makeFunc fn first cap).run Try.prog w = .ok (.func fn first cap) w := fun _ _ _ _ => rfl
    have M0 : ((M : Int) == 0) = false := by rw [beq_eq_false_iff_ne]; omega
    have M0' : ¬ (M : Int) = 0 := by omega
    have d1 : decide (0 < (M : Int)) = true := decide_eq_true (by omega)
    have d2 : decide (N < M) = true := decide_eq_true hNM
    have tm : (T : Int).tmod (M : Int) = ((T % M : Nat) : Int) := rfl
    have tm' : (T : Int) % (M : Int) = ((T % M : Nat) : Int) := rfl
    clear hJ hall f1 f2 cf
    generalize T % M = Z at *
    go_wp2_with fail
    refine (unhide cX _).mono ?_
    rintro e w2 ⟨rfl, rfl⟩
    go_wp2
    refine wp_region_ext (by kernel_rfl) (by kernel_rfl) ?_
    repeat (go_big_quiet_step ((go_at_call 35; first | (with_reducible exact ext_call (unhide c1 _ (plus_ext _ _))) | (with_reducible exact ext_call (unhide c2 _ (plus_ext _ _))))))
    refine wpQuiet_nil ?_
    rintro w3 ⟨x3, rfl⟩
    go_wp2
    go_ret
    refine ⟨ret_bool ?_, F1.trans (plus_ext _ _)⟩
    by_cases h : Z = N
    · subst h; simp
    · have h' : ((Z : Int) == (N : Int)) = false := by rw [beq_eq_false_iff_ne]; omega
      simp [h, h']

theorem joinRes_len {n : Nat} {l : List (Int × Int)} {a b c : Int} (h : JoinRes n l a b c) : c = 0 ∨ (a = 0 ∧ b = 0 ∧ c ≠ 0) := by
  rcases h with ⟨-, rfl, rfl, rfl⟩ | ⟨-, -, rfl, rfl, rfl⟩ | ⟨-, -, -, rfl, rfl, rfl⟩ | ⟨-, -, N, M, -, -, rfl, rfl, rfl⟩
  · exact .inr ⟨rfl, rfl, by omega⟩
  · exact .inr ⟨rfl, rfl, by omega⟩
  · exact .inr ⟨rfl, rfl, by omega⟩
  · exact .inl rfl
theorem fits_reverse {t : Nat} {l : List (Int × Int)} : Wm.Fits t (natl l) ↔ Wm.Fits t (natl l.reverse) := by
  unfold Wm.Fits natl
  simp
/-- Whatever order. -/
theorem joinRes_reverse {n : Nat} {l : List (Int × Int)} {a b c x y z : Int} (h : JoinRes n l a b c) (k : JoinRes n l.reverse x y z) : a = x ∧ b = y ∧ c = z := by
  have hall : (∀ p ∈ l.reverse, RestOk p) ↔ ∀ p ∈ l, RestOk p := by simp
  have hfit : (∃ t, Wm.Fits t (natl l.reverse)) ↔ ∃ t, Wm.Fits t (natl l) := ⟨fun ⟨t, h⟩ => ⟨t, fits_reverse.2 h⟩, fun ⟨t, h⟩ => ⟨t, fits_reverse.1 h⟩⟩
  unfold JoinRes at k
  rw [hall, hfit] at k
  rcases h with ⟨h1, rfl, rfl, rfl⟩ | ⟨h1, h2, rfl, rfl, rfl⟩ | ⟨h1, h2, h3, rfl, rfl, rfl⟩ | ⟨h1, h2, N, M, hJ, -, rfl, rfl, rfl⟩
  all_goals rcases k with ⟨k1, rfl, rfl, rfl⟩ | ⟨k1, k2, rfl, rfl, rfl⟩ | ⟨k1, k2, k3, rfl, rfl, rfl⟩ | ⟨k1, k2, N', M', kJ, -, rfl, rfl, rfl⟩
  all_goals first
    | exact ⟨rfl, rfl, rfl⟩
    | omega
    | exact absurd h2 k2
    | exact absurd k2 h2
    | exact absurd ⟨N', fits_reverse.2 kJ.fits⟩ h3
    | exact absurd ⟨N, hJ.fits⟩ k3
    | skip
  obtain ⟨rfl, rfl⟩ := hJ.unique (kJ.of_same (fun t => fits_reverse.symm))
  exact ⟨rfl, rfl, rfl⟩
/-- A part of what can be joined. -/
theorem joinRes_take {n k : Nat} {l : List (Int × Int)} {a b x y z : Int} (h : JoinRes n l a b 0) (hl : l.length = n) (hk : k ≤ n) (j : JoinRes k (l.take k) x y z) :
    ∃ N M X Y : Nat, a = N ∧ b = M ∧ x = X ∧ y = Y ∧ z = 0 ∧ 0 < Y ∧ M % Y = 0 ∧ N % Y = X ∧ M ≤ 1000000000000000000 ∧ N < M ∧ Y ≤ 1000000000000000000 ∧ X < Y := by
  rcases h with ⟨-, -, -, h⟩ | ⟨-, -, -, -, h⟩ | ⟨-, -, -, -, -, h⟩ | ⟨h1, h2, N, M, hJ, hM, rfl, rfl, -⟩
  · cases h
  · cases h
  · cases h
  · have hall : ∀ p ∈ l.take k, RestOk p := fun p hp => h2 p (List.mem_of_mem_take hp)
    have hsub : ∀ q ∈ natl (l.take k), q ∈ natl l := fun q hq => by rw [← natl_take] at hq; exact List.mem_of_mem_take hq
    rcases j with ⟨j1, -, -, -⟩ | ⟨-, j2, -, -, -⟩ | ⟨-, -, j3, -, -, -⟩ | ⟨-, -, X, Y, jJ, jM, rfl, rfl, rfl⟩
    · omega
    · exact absurd hall j2
    · exact absurd ⟨N, hJ.fits.mono hsub⟩ j3
    · have := hJ.part jJ hsub
      exact ⟨N, M, X, Y, rfl, rfl, rfl, rfl, rfl, jJ.pos, this.1, this.2, hM, hJ.1, jM, jJ.1⟩

theorem prs_one (l : List (Int × Int)) : ∀ u ∈ prs l, u.oneCell' = true := by
  intro u hu
  induction l with
  | nil => simp [prs] at hu
  | cons p l ih =>
    simp only [prs, List.mem_cons] at hu
    rcases hu with rfl | rfl | hu
    · rfl
    · rfl
    · exact ih hu

set_option maxRecDepth 100000 in
set_option maxHeartbeats 4000000 in
theorem corder_any (A : Option Addr) (n c : Nat) (l : List (Int × Int)) (x : Int) (w : World) (S : SliceIn w A n c 2 16 (prs l)) (_hb : ∀ x ∈ l, (-9223372036854775808 ≤ x.1 ∧ x.1 ≤ 9223372036854775807) ∧ (-9223372036854775808 ≤ x.2 ∧ x.2 ≤ 9223372036854775807)) :
    Calls Try.prog 12 #[.slice A n c, .int .i64 x] w fun e w' => e = .returned (.bool true) ∧ Ext w w' := by
  obtain ⟨R, hnc, hre, hcm, hnil⟩ := S
  have hn : (n : Int) ≤ 9223372036854775807 := by omega
  have hn2 : n ≤ 1000000000000000 := by omega
  have HR := hide R
  have hln := hide R.prn
  obtain ⟨K', k0, k1, -, cK⟩ := within_ex x ((n : Int) + 1) (by omega) (by omega)
  obtain ⟨K, rfl⟩ := Int.eq_ofNat_of_zero_le k0
  have cj := hide (fun (A : Option Addr) (c : Nat) (l : List (Int × Int)) w (R : Row w A n 2 (prs l)) => Join_any A n c l w R hn)
  have cj2 := hide (fun w (R : Row w A K 2 (prs (l.take K))) => Join_any A K c (l.take K) w R (by omega))
  have cc := hide (fun w (R : Row w A n 2 (prs l)) => clone_rest A n c (prs l) w R (prs_one l) (by omega) hnil)
  have hKn : K ≤ n := by omega
  have hKc : K ≤ c := by omega
  clear hre hnil R hcm
  go_enter Try.func12, Try.ntmps12
  go_wp2_with fail
  refine (joins_any _).mono ?_
  rintro e w1 ⟨rfl, E0⟩
  go_wp2_with fail
  refine (unhide cj A c l _ ((unhide HR).keep E0)).mono ?_
  rintro e w2 ⟨⟨a, b, z, hres, rfl⟩, E1⟩
  have F1 := E0.trans E1
  clear E0 E1
  have HRES := hide hres
  clear hres
  go_wp2_with fail
  refine (unhide cc _ ((unhide HR).keep F1)).mono ?_
  rintro e w3 ⟨⟨v, rfl, hown⟩, E2⟩
  obtain ⟨A', c', rfl, -⟩ := row_of_own hown
  have cr := hide (reverse_rest w2 w3 A' n c' l E2 (Made.of_own hown) hn2)
  clear hown E2
  go_wp2_with fail
  refine (unhide cr).mono ?_
  rintro e w4 ⟨rfl, hmade, E3⟩
  obtain ⟨A'', c'', hv, R4, -⟩ := hmade.open_
  simp only [Value.slice.injEq] at hv
  obtain ⟨rfl, -, rfl⟩ := hv
  have HR4 := hide R4
  have F3 := F1.trans E3
  clear cr hmade R4 E3 F1
  go_wp2_with fail
  refine (unhide cj A' c' l.reverse _ (unhide HR4)).mono ?_
  rintro e w5 ⟨⟨a', b', z', hres', rfl⟩, E5⟩
  obtain ⟨rfl, rfl, rfl⟩ := joinRes_reverse (unhide HRES) hres'
  have F5 := F3.trans E5
  clear hres' E5 F3 HR4
  go_wp2_with fail
  refine (unhide cK _).mono ?_
  rintro e w6 ⟨rfl, rfl⟩
  go_wp2_with fail
  refine (unhide cj2 _ (by have := ((unhide HR).keep F5).take hKn; rwa [prs_take] at this)).mono ?_
  rintro e w7 ⟨⟨x', y', z', hres', rfl⟩, E7⟩
  have F7 := F5.trans E7
  clear F5 E7
  have hz := joinRes_len (unhide HRES)
  by_cases hz0 : z = 0
  · subst hz0
    obtain ⟨N, M, X, Y, rfl, rfl, rfl, rfl, rfl, hY, h1, h2, hM, hN, hY2, hX⟩ := joinRes_take (unhide HRES) (unhide hln) hKn hres'
    have e1 : (M : Int) % (Y : Int) = 0 := by omega
    have e2 : (N : Int) % (Y : Int) = (X : Int) := by omega
    have Y0 : ¬ (Y : Int) = 0 := by omega
    have d0 : decide (0 < (Y : Int)) = true := decide_eq_true (by omega)
    clear hres' hz h1 h2
    go_wp2
    go_ret
    exact ⟨rfl, F7⟩
  · have hzb : (z != 0) = true := by rw [bne_iff_ne]; exact hz0
    clear hres' hz hz0
    go_wp2
    go_ret
    exact ⟨rfl, F7⟩

end Go.Proofs.Yticphnjljnhlcaa
