/-
  The law TopFractions returns true: the walk.
-/
import Derived.Test.YtdcpijodoppncaaWorks
import Derived.Test.YtdcpijodoppncaaTop0
import Derived.Test.YtdcpijodoppncaaSides2
import Derived.Test.YtdcpijodoppncaaFrac2
import Derived.Test.YtdcpijodoppncaaEuclid1
import Derived.Test.YtdcpijodoppncaaRest1
import Derived.Test.YtdcpijodoppncaaLaw
set_option linter.unusedVariables false
set_option linter.unusedSimpArgs false
namespace Go.Proofs.Ytdcpijodoppncaa
open Go.RowKit Go.BigFrame

theorem eql_frac (x y : Int) (w : World) : (binOp .eql 24 (.agg #[.int .i64 x, .int .i64 y]) (.agg #[.int .i64 x, .int .i64 y])).run Try.prog w = .ok (.bool true) w := by
  have h1 := Try.underlying24
  have h2 := Try.underlying3
  rw [run_eql_struct]
  simp [go_sem, h1, h2]
theorem neq_frac (x y x' y' : Int) (w : World) (h : ¬ (x = x' ∧ y = y')) : (binOp .neq 24 (.agg #[.int .i64 x, .int .i64 y]) (.agg #[.int .i64 x', .int .i64 y'])).run Try.prog w = .ok (.bool true) w := by
  have h1 := Try.underlying24
  have h2 := Try.underlying3
  rw [run_neq_struct]
  by_cases e : x = x'
  · subst e
    have hy : ¬ y = y' := fun e => h ⟨rfl, e⟩
    simp [go_sem, h1, h2, hy]
  · simp [go_sem, h1, h2, e]

set_option maxRecDepth 100000 in
set_option maxHeartbeats 2000000 in
theorem tfracs_law (p q most : Int) (w : World) :
    Calls Try.prog 3 #[.int .i64 p, .int .i64 q, .int .i64 most] w fun e w' => e = .returned (.bool true) ∧ Ext w w' := by
  obtain ⟨P', p0, p1, -, cP⟩ := within_ex p 10000 (by omega) (by omega)
  obtain ⟨P, rfl⟩ := Int.eq_ofNat_of_zero_le p0
  obtain ⟨Q', q0, q1, -, cQ⟩ := within_ex q 10000 (by omega) (by omega)
  obtain ⟨Q', rfl⟩ := Int.eq_ofNat_of_zero_le q0
  obtain ⟨M', m0, m1, -, cM⟩ := within_ex most 10000 (by omega) (by omega)
  obtain ⟨M', rfl⟩ := Int.eq_ofNat_of_zero_le m0
  obtain ⟨Q, hQ⟩ : ∃ Q, Q = 1 + Q' := ⟨_, rfl⟩
  obtain ⟨M, hM⟩ : ∃ M, M = 1 + M' := ⟨_, rfl⟩
  have hQI : (1 : Int) + (Q' : Int) = (Q : Int) := by omega
  have hMI : (1 : Int) + (M' : Int) = (M : Int) := by omega
  have Q1 : 1 ≤ Q := by omega
  have Q4 : Q ≤ 10000 := by omega
  have M1 : 1 ≤ M := by omega
  have M4 : M ≤ 10000 := by omega
  have P4 : P < 10000 := by omega
  have CO := hide (fun w : World => Of_ok P Q w (by omega) (by omega) (by omega))
  have CS := hide (fun w : World => steps_ok P Q w (by omega) (by omega))
  rw [← Wm.cf_steps Q P] at CS
  have CN := hide (fun w : World => Near_ok P Q M w (by omega) (by omega) (by omega) (by omega) (by omega))
  have CG := hide (fun w : World => Gcd_ok (P : Int) (Q : Int) w (by omega) (by omega))
  have CW := hide (fun w : World => works_any w)
  obtain ⟨g, hg⟩ : ∃ g, g = Nat.gcd P Q := ⟨_, rfl⟩
  obtain ⟨a, ha⟩ : ∃ a, a = P / g := ⟨_, rfl⟩
  obtain ⟨b, hb⟩ : ∃ b, b = Q / g := ⟨_, rfl⟩
  have hgI : Int.gcd (P : Int) (Q : Int) = g := by rw [Int.gcd_natCast_natCast, hg]
  rw [hgI] at CG
  have HN := hide (fun s t u v hl hh => Wm.top_near (p := P) (q := Q) (m := M) (g := g) (a := a) (b := b) (s := s) (t := t) (u := u) (v := v) Q1 hg ha hb hl hh)
  have hga : a ≤ P := by rw [ha]; exact Nat.div_le_self _ _
  have hgb : b ≤ Q := by rw [hb]; exact Nat.div_le_self _ _
  have g0 : 0 < g := by rw [hg]; exact Nat.gcd_pos_of_pos_right _ (by omega)
  have gQ : g ≤ Q := by rw [hg]; exact Nat.gcd_le_right _ (by omega)
  have hcl := Wm.cf_length Q P
  have hPt : (P : Int).tdiv (g : Int) = (a : Int) := by rw [ha, Int.tdiv_eq_ediv_of_nonneg (by omega)]; rfl
  have hQt : (Q : Int).tdiv (g : Int) = (b : Int) := by rw [hb, Int.tdiv_eq_ediv_of_nonneg (by omega)]; rfl
  clear hQ hM hg ha hb hgI
  have gI1 : ¬ (g : Int) < 1 := by omega
  have gI0 : ((g : Int) == 0) = false := by rw [beq_eq_false_iff_ne]; omega
  have gI0' : ¬ (g : Int) = 0 := by omega
  have gN0 : ¬ g = 0 := by omega
  go_enter Try.func3, Try.ntmps3
  go_wp2_with fail
  refine (unhide cP _).mono ?_
  rintro e w1 ⟨rfl, rfl⟩
  go_wp2_with fail
  refine (unhide cQ _).mono ?_
  rintro e w1 ⟨rfl, rfl⟩
  go_wp2_with fail
  refine (unhide cM _).mono ?_
  rintro e w1 ⟨rfl, rfl⟩
  go_wp2_with fail
  refine (unhide CO _).mono ?_
  rintro e w2 ⟨⟨A, rfl, R⟩, E2⟩
  have hcell2 : w2.cell? ⟨w1.heap.size, 0, none⟩ = some (.int .i64 (P : Int)) ∧ w2.cell? ⟨w1.heap.size, 1, none⟩ = some (.int .i64 (Q : Int)) := ⟨E2.keep (by simp [go_sem]), E2.keep (by simp [go_sem])⟩
  have F2 := And.intro (Ext.trans (by repeat (first | exact Ext.refl w1 | refine Ext.alloc ?_ _ | refine Ext.drew ?_ | refine Ext.drewN ?_ _ | (refine Ext.trans ?_ (plus_ext _ _)) | (refine Ext.setCell ?_ (by have := Ext.size Ext.refl w1; simp; omega) _))) E2 : Ext w1 w2) trivial
  clear E2 R
  obtain ⟨hc1, hc2⟩ := hcell2
  go_wp2_with fail
  refine (unhide CS _).mono ?_
  rintro e w3 ⟨rfl, k3, rfl⟩
  go_wp2_with fail
  refine (unhide CN _).mono ?_
  rintro e w4 ⟨⟨s, t, u, v, hl, hh, rfl⟩, E4⟩
  have F4 := And.intro (F2.1.trans (Ext.trans (by repeat (first | exact Ext.refl w2 | refine Ext.alloc ?_ _ | refine Ext.drew ?_ | refine Ext.drewN ?_ _ | (refine Ext.trans ?_ (plus_ext _ _)) | (refine Ext.setCell ?_ (by have := Ext.size Ext.refl w2; simp; omega) _))) E4) : Ext w1 w4) trivial
  clear E4 hc1 hc2 F2
  obtain ⟨-, b1, hgab, hin, hout⟩ := unhide HN s t u v hl hh
  have hlq := hl.2.1
  have hhq := hh.2.1
  have hlo := hl.2.2.2.1
  have CI := hide (fun w : World => Inverse_ok (a : Int) (b : Int) w (by omega) (by rw [Int.gcd_natCast_natCast, hgab]))
  have hiv := inv_is w4 (a : Int) (b : Int) (by omega) (by omega) (by rw [Int.gcd_natCast_natCast, hgab])
  have hie := Wm.emod_one_of_dvd hiv.2
  have hib := hiv.1
  clear hiv hl hh hgab
  generalize Wm.inv (a : Int) (b : Int) = iv at *
  obtain ⟨iv, rfl⟩ := Int.eq_ofNat_of_zero_le hib.1
  obtain ⟨-, hib2⟩ := hib
  have hsz := Ext.size F4.1
  go_wp2_with fail
  refine (unhide CG _).mono ?_
  rintro e w5 ⟨rfl, k5, rfl⟩
  go_wp2
  go_quiet ((first | (go_at_call 10; exact quiet_in (unhide CI)) | (go_at_call 10; exact quiet_in_add (unhide CI))))
  by_cases hbm : b ≤ M
  · obtain ⟨rfl, rfl, rfl, rfl⟩ := hin hbm
    have hbmI : (v : Int) ≤ (M : Int) := by omega
    have hzz : iv * u ≤ 10000 * 10000 := Nat.mul_le_mul (by omega) (by omega)
    have hzI : ((iv * u : Nat) : Int) = (iv : Int) * (u : Int) := Int.natCast_mul _ _
    have hw := IntWalk.i64_in ((iv : Int) * (u : Int)) (by omega)
    have ht1 : ((iv : Int) * (u : Int)).tmod (v : Int) = 1 % (v : Int) := by rw [Int.tmod_eq_emod_of_nonneg (by omega)]; exact hie
    have ht2 : (1 : Int).tmod (v : Int) = 1 % (v : Int) := Int.tmod_eq_emod_of_nonneg (by omega)
    have v0 : ((v : Int) == 0) = false := by rw [beq_eq_false_iff_ne]; omega
    have v0' : ¬ (v : Int) = 0 := by omega
    have v0n : ¬ v = 0 := by omega
    clear hie hzI hzz hin hout HN
    generalize 1 % (v : Int) = Z at *
    have HFIN := hide (show (IntKind.i64.wrap ((iv : Int) * (u : Int))).tmod (v : Int) = Z by rw [hw]; exact ht1)
    go_wp2_with fail
    refine (unhide CW _).mono ?_
    rintro e w6 ⟨rfl, E6⟩
    have hA0 : w6.cell? ⟨w4.heap.size, 0, none⟩ = some (.int .i64 (u : Int)) := E6.keep (by simp [go_sem])
    have qA0 := fun o : Obj => (World.cell?_alloc_lt w6 o ⟨w4.heap.size, 0, none⟩ (cell_lt hA0)).trans hA0
    have hA1 : w6.cell? ⟨w4.heap.size, 1, none⟩ = some (.int .i64 (v : Int)) := E6.keep (by simp [go_sem])
    have qA1 := fun o : Obj => (World.cell?_alloc_lt w6 o ⟨w4.heap.size, 1, none⟩ (cell_lt hA1)).trans hA1
    have hB0 : w6.cell? ⟨w4.heap.size + 1, 0, none⟩ = some (.int .i64 (u : Int)) := E6.keep (by simp [go_sem])
    have qB0 := fun o : Obj => (World.cell?_alloc_lt w6 o ⟨w4.heap.size + 1, 0, none⟩ (cell_lt hB0)).trans hB0
    have hB1 : w6.cell? ⟨w4.heap.size + 1, 1, none⟩ = some (.int .i64 (v : Int)) := E6.keep (by simp [go_sem])
    have qB1 := fun o : Obj => (World.cell?_alloc_lt w6 o ⟨w4.heap.size + 1, 1, none⟩ (cell_lt hB1)).trans hB1
    have F6 := And.intro (F4.1.trans (Ext.trans (by repeat (first | exact Ext.refl w4 | refine Ext.alloc ?_ _ | refine Ext.drew ?_ | refine Ext.drewN ?_ _ | (refine Ext.trans ?_ (plus_ext _ _)) | (refine Ext.setCell ?_ (by have := Ext.size Ext.refl w4; simp; omega) _))) E6) : Ext w1 w6) trivial
    have heq := eql_frac (u : Int) (v : Int)
    clear E6 F4
    go_wp2_with (go_at_call 12; refine (tgood_made' [0, 0, 0, 0, 0] _ _ _ _ _ rfl rfl (by decide) (by simp)).mono ?_; rintro e wg ⟨rfl, rfl⟩)
    go_quiet (fail)
    go_wp2
    go_ret
    simp [go_sem]
    exact (by repeat (first | exact F6.1 | refine Ext.alloc ?_ _ | refine Ext.drew ?_ | refine Ext.drewN ?_ _ | (refine Ext.trans ?_ (plus_ext _ _)) | (refine Ext.setCell ?_ (by have := Ext.size F6.1; simp; omega) _)))
  · obtain ⟨hne, hdet⟩ := hout hbm
    have hbmI : ¬ (b : Int) ≤ (M : Int) := by omega
    have hsP : s ≤ P * t := by
      have h1 := hlo
      exact Nat.le_trans (Nat.le_mul_of_pos_right s (show 0 < Q by omega)) h1
    have h2 : P * t ≤ 10000 * 10000 := Nat.mul_le_mul (by omega) (by omega)
    have h3 : s * v ≤ 100000000 * 10000 := Nat.mul_le_mul (by omega) (by omega)
    have hX : ((u * t : Nat) : Int) = (u : Int) * (t : Int) := Int.natCast_mul _ _
    have hY : ((s * v : Nat) : Int) = (s : Int) * (v : Int) := Int.natCast_mul _ _
    have hw1 := IntWalk.i64_in ((u : Int) * (t : Int)) (by omega)
    have hw2 := IntWalk.i64_in ((s : Int) * (v : Int)) (by omega)
    have hw3 : IntKind.i64.wrap ((u : Int) * (t : Int) - (s : Int) * (v : Int)) = 1 := by
      rw [show (u : Int) * (t : Int) - (s : Int) * (v : Int) = 1 by omega]; rfl
    have hnq := neq_frac (s : Int) (t : Int) (u : Int) (v : Int) (h := fun h => hne ⟨by omega, by omega⟩)
    clear hie hin hout HN hX hY hdet hne h2 h3 hsP hlo
    have HFIN := hide (show IntKind.i64.wrap (IntKind.i64.wrap ((u : Int) * (t : Int)) - IntKind.i64.wrap ((s : Int) * (v : Int))) = 1 by rw [hw1, hw2]; exact hw3)
    clear hw1 hw2 hw3
    go_wp2_with fail
    refine (unhide CW _).mono ?_
    rintro e w6 ⟨rfl, E6⟩
    have hA0 : w6.cell? ⟨w4.heap.size, 0, none⟩ = some (.int .i64 (s : Int)) := E6.keep (by simp [go_sem])
    have qA0 := fun o : Obj => (World.cell?_alloc_lt w6 o ⟨w4.heap.size, 0, none⟩ (cell_lt hA0)).trans hA0
    have hA1 : w6.cell? ⟨w4.heap.size, 1, none⟩ = some (.int .i64 (t : Int)) := E6.keep (by simp [go_sem])
    have qA1 := fun o : Obj => (World.cell?_alloc_lt w6 o ⟨w4.heap.size, 1, none⟩ (cell_lt hA1)).trans hA1
    have hB0 : w6.cell? ⟨w4.heap.size + 1, 0, none⟩ = some (.int .i64 (u : Int)) := E6.keep (by simp [go_sem])
    have qB0 := fun o : Obj => (World.cell?_alloc_lt w6 o ⟨w4.heap.size + 1, 0, none⟩ (cell_lt hB0)).trans hB0
    have hB1 : w6.cell? ⟨w4.heap.size + 1, 1, none⟩ = some (.int .i64 (v : Int)) := E6.keep (by simp [go_sem])
    have qB1 := fun o : Obj => (World.cell?_alloc_lt w6 o ⟨w4.heap.size + 1, 1, none⟩ (cell_lt hB1)).trans hB1
    have F6 := And.intro (F4.1.trans (Ext.trans (by repeat (first | exact Ext.refl w4 | refine Ext.alloc ?_ _ | refine Ext.drew ?_ | refine Ext.drewN ?_ _ | (refine Ext.trans ?_ (plus_ext _ _)) | (refine Ext.setCell ?_ (by have := Ext.size Ext.refl w4; simp; omega) _))) E6) : Ext w1 w6) trivial
    clear E6 F4
    go_wp2_with (go_at_call 12; refine (tgood_made' [0, 0, 0, 0, 0] _ _ _ _ _ rfl rfl (by decide) (by simp)).mono ?_; rintro e wg ⟨rfl, rfl⟩)
    go_ret
    simp [go_sem]
    exact ⟨(by have h := unhide HFIN; simp only [IntWalk.i64_left] at h; exact h), (by repeat (first | exact F6.1 | refine Ext.alloc ?_ _ | refine Ext.drew ?_ | refine Ext.drewN ?_ _ | (refine Ext.trans ?_ (plus_ext _ _)) | (refine Ext.setCell ?_ (by have := Ext.size F6.1; simp; omega) _)))⟩
end Go.Proofs.Ytdcpijodoppncaa
