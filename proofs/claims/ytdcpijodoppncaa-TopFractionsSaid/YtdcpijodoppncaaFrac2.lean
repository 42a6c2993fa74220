/-
  The contract of frac.Of, and of the laws' own trial.
-/
import Derived.Test.YtdcpijodoppncaaFrac1
import Derived.Test.YtdcpijodoppncaaSides1
import Derived.Test.YtdcpijodoppncaaApp
import Derived.Test.YtdcpijodoppncaaArith1
import Derived.Test.YtdcpijodoppncaaEuclid1
import Derived.Deep.AppendLies
import Derived.BigRegion
import Derived.Deep.Cut
import Derived.Deep.CutRange
import Derived.Deep.RegionHeld3
import Derived.Deep.RegionLaw
set_option linter.unusedVariables false
set_option linter.unusedSimpArgs false
namespace Wm
theorem cf_length : ∀ q p : Nat, (cf p q).length ≤ q := by
  intro q
  induction q using Nat.strongRecOn with
  | ind q ih =>
    intro p
    rcases Nat.eq_zero_or_pos q with h | h
    · subst h; rw [cf_zero]; simp
    · rw [cf_pos h, List.length_cons]
      have h1 := Nat.mod_lt p h
      have := ih _ h1 q
      omega
end Wm
namespace Go.Proofs.Ytdcpijodoppncaa
open Go.RowKit Go.BigFrame

theorem intI : EInfo Try.prog 25 3 (.int .i64 0) 1 8 := EInfo.mk_ Try.underlying25 (by kernel_rfl) rfl (by omega)
theorem clip_int (A : Option Addr) (n c : Nat) (w : World) (h1 : n ≤ c) (h2 : (c : Int) ≤ 9223372036854775807) (hA : A = none → n = 0 ∧ c = 0) :
    Calls Try.prog 23 #[.slice A n c] w fun e w' => e = .returned (.slice A n n) ∧ w' = w := by
  have h3 : (n : Int) ≤ (c : Int) := by omega
  cases A with
  | none =>
    obtain ⟨rfl, rfl⟩ := hA rfl
    go_enter Try.func23, Try.ntmps23
    go_wp2
    go_ret
    exact ⟨rfl, rfl⟩
  | some a =>
    clear hA
    go_enter Try.func23, Try.ntmps23
    go_wp2
    go_ret
    exact ⟨rfl, rfl⟩
theorem nats_snoc (K : IntKind) (l : List Nat) (x : Nat) : nats K (l ++ [x]) = nats K l ++ [.int K (x : Int)] := by simp [nats]


theorem own_setCell {w : World} {base e size n : Nat} {v : Value} {xs : List Value} (h : w.ownsRow base e size v n xs) {p : Addr} (hne : v.ownBlock ≠ some p.block) (u : Value) : (w.setCell p u).ownsRow base e size v n xs := by
  obtain ⟨h1, h2⟩ := h
  refine ⟨h1, ?_⟩
  rcases h2 with h2 | ⟨g, cap, cur, rfl, hg, hh, r⟩
  · exact .inl h2
  · have hgp : g ≠ p.block := fun e => hne (by rw [← e]; rfl)
    exact .inr ⟨g, cap, cur, rfl, hg, by simp [World.setCell, Array.getElem?_modify, Ne.symm hgp, hh], r⟩

def OfPost (p q : Nat) (w w' : World) (e : Ending) : Prop := ∃ (A : Option Addr), e = .returned (.tuple #[.slice A (Wm.cf p q).length (Wm.cf p q).length, .int .i64 0]) ∧ Row w' A (Wm.cf p q).length 1 (nats .i64 (Wm.cf p q))

set_option maxRecDepth 100000 in
set_option maxHeartbeats 2000000 in
theorem Of_ok (p q : Nat) (w : World) (hp : p ≤ 1000000) (hq1 : 1 ≤ q) (hq : q ≤ 1000000) :
    Calls Try.prog 6 #[.agg #[.int .i64 p, .int .i64 q]] w fun e w' => OfPost p q w w' e ∧ Ext w w' := by
  have hr : rightB (p : Int) (q : Int) = true := by unfold rightB; rw [if_pos (by omega)]
  have CR := hide (fun w : World => right_any (p : Int) (q : Int) w)
  rw [hr] at CR
  have hlen := Wm.cf_length q p
  clear hr
  go_enter Try.func6, Try.ntmps6
  go_wp2_with fail
  refine (unhide CR _).mono ?_
  rintro e w1 ⟨rfl, E1⟩
  have x0 := E1.keep (a := ⟨w.heap.size, 0, none⟩) (v := .int .i64 p) (by simp [go_sem])
  have x1 := E1.keep (a := ⟨w.heap.size, 1, none⟩) (v := .int .i64 q) (by simp [go_sem])
  have f0 := (E1.frozen (p := ⟨w.heap.size, 0, none⟩) (by simp)).trans (show _ = false by simp [go_sem])
  have f1 := (E1.frozen (p := ⟨w.heap.size, 1, none⟩) (by simp)).trans (show _ = false by simp [go_sem])
  have F1 : Ext w w1 := ((Ext.refl w).alloc _).trans E1
  have S1 : w.heap.size < w1.heap.size := by have := E1.size; simp at this; omega
  clear E1
  go_wp2
  go_loopw [4] (fun v wr => ∃ (pre : List Nat) (p' q' : Nat), Hid (Wm.cf p q = pre ++ Wm.cf p' q') ∧ p' ≤ 1000000 ∧ q' ≤ 1000000 ∧ wr.ownsRow w.heap.size 3 1 v pre.length (nats .i64 pre) ∧ v.ownBlock ≠ some w.heap.size ∧ (pre = [] → v = .slice none 0 0) ∧
    wr.cell? ⟨w.heap.size, 0, none⟩ = some (.int .i64 p') ∧ wr.cell? ⟨w.heap.size, 1, none⟩ = some (.int .i64 q') ∧ wr.frozen? ⟨w.heap.size, 0, none⟩ = false ∧ wr.frozen? ⟨w.heap.size, 1, none⟩ = false ∧ Ext w wr ∧ w.heap.size < wr.heap.size) (fun _ wr => match wr.cell? ⟨w.heap.size, 1, none⟩ with | some v => (intOf v).toNat | none => 0)
  case atStart => exact ⟨[], p, q, hide rfl, hp, hq, World.ownsRow_nil _ _ _ _, by simp [Value.ownBlock], fun _ => rfl, x0, x1, f0, f1, F1, S1⟩
  case round =>
    clear x0 x1 f0 f1 F1 S1
    obtain ⟨pre, p', q', hcf, hp', hq', hown, hap, hnil, x0, x1, f0, f1, hext, hsz⟩ := hrel
    have hpl : pre.length + (Wm.cf p' q').length ≤ q := by
      have := congrArg List.length (unhide hcf)
      rw [List.length_append] at this
      omega
    by_cases hlt : 0 < q'
    · have hst := Wm.cf_pos (p := p') hlt
      have hpre : Wm.cf p q = (pre ++ [p' / q']) ++ Wm.cf q' (p' % q') := by rw [unhide hcf, hst]; simp
      have HC := hide hpre
      have hdv : (p' : Int) / (q' : Int) = ((p' / q' : Nat) : Int) := rfl
      have hdv2 : (p' : Int).tdiv (q' : Int) = ((p' / q' : Nat) : Int) := rfl
      have hmd : (p' : Int).tmod (q' : Int) = ((p' % q' : Nat) : Int) := rfl
      have hmd2 : (p' : Int) % (q' : Int) = ((p' % q' : Nat) : Int) := rfl
      have hm1 := Nat.mod_lt p' hlt
      have hz6 : p' / q' ≤ 1000000 := Nat.le_trans (Nat.div_le_self _ _) hp'
      generalize p' / q' = z at *
      generalize p' % q' = y at *
      have hbd : (pre.length + 1) * 8 ≤ 140737488355328 ∧ pre.length + 1 ≤ 9223372036854775807 := by omega
      have q0 : ((q' : Int) == 0) = false := by rw [beq_eq_false_iff_ne]; omega
      have q0' : ¬ (q' : Int) = 0 := by omega
      have q0N : ¬ q' = 0 := by omega
      have hI := intI
      have HO := hide hown
      clear hown hcf hst hpre
      go_wp2_with (at_builtin; refine wpList_apx rfl _ _ 25 (by rfl) 3 intI hext _ _ _ _ (by rfl) (unhide HO) 1 1 (by rfl) rfl rfl hbd (OutOf.refl _ _) ?_)
      intro v' w2 hown2 hext2 hout
      have y0 := (hout.cell (a := ⟨w.heap.size, 0, none⟩) hsz hap).trans x0
      have y1 := (hout.cell (a := ⟨w.heap.size, 1, none⟩) hsz hap).trans x1
      have hbk := hout.1.block w.heap.size hsz (fun e => hap e.symm)
      have g0 := (World.frozen?_of_block (a := ⟨w.heap.size, 0, none⟩) hbk).trans f0
      have g1 := (World.frozen?_of_block (a := ⟨w.heap.size, 1, none⟩) hbk).trans f1
      have hap2 : v'.ownBlock ≠ some w.heap.size := by
        rcases hout.2 with e | ⟨k, e, hk⟩
        · rw [e]; exact hap
        · rw [e]; intro e2; injection e2 with e2; omega
      have hown3 : w2.ownsRow w.heap.size 3 1 v' (pre ++ [z]).length (nats .i64 (pre ++ [z])) := by rw [nats_snoc, List.length_append]; exact hown2
      have hsz2 : w.heap.size < w2.heap.size := by have := hout.1.size; omega
      have H3 := hide hown3
      clear hown2 hown3 hout hbk x0 f0 f1 hext hap hnil HO hI
      go_upto_region 6 with fail
      obtain ⟨w3, hw3⟩ : ∃ w3, w3 = ((w2.setCell ⟨w.heap.size, 0, none⟩ (.int .i64 q')).setCell ⟨w.heap.size, 1, none⟩ (.int .i64 y)).drew := ⟨_, rfl⟩
      have n1 : w3.ownsRow w.heap.size 3 1 v' (pre ++ [z]).length (nats .i64 (pre ++ [z])) := by
        rw [hw3]; exact World.ownsRow.drew (own_setCell (own_setCell (unhide H3) hap2 _) hap2 _)
      have n2 : w3.cell? ⟨w.heap.size, 0, none⟩ = some (.int .i64 q') := by
        rw [hw3]; exact (World.cell?_setCell_other _ _ _ _ (by simp)).trans (World.cell?_setCell_same' _ _ _ (by rw [y0]; rfl))
      have n3 : w3.cell? ⟨w.heap.size, 1, none⟩ = some (.int .i64 y) := by
        rw [hw3]; exact World.cell?_setCell_same' _ _ _ (by rw [World.cell?_setCell_other _ _ _ _ (by simp), y1]; rfl)
      have n4 : w3.frozen? ⟨w.heap.size, 0, none⟩ = false := by
        rw [hw3]; exact (by rw [World.frozen?_setCell, World.frozen?_setCell]; exact g0 : ((w2.setCell ⟨w.heap.size, 0, none⟩ (.int .i64 q')).setCell ⟨w.heap.size, 1, none⟩ (.int .i64 y)).frozen? ⟨w.heap.size, 0, none⟩ = false)
      have n5 : w3.frozen? ⟨w.heap.size, 1, none⟩ = false := by
        rw [hw3]; exact (by rw [World.frozen?_setCell, World.frozen?_setCell]; exact g1 : ((w2.setCell ⟨w.heap.size, 0, none⟩ (.int .i64 q')).setCell ⟨w.heap.size, 1, none⟩ (.int .i64 y)).frozen? ⟨w.heap.size, 1, none⟩ = false)
      have n6 : Ext w w3 := by
        rw [hw3]; exact ((hext2.setCell (p := ⟨w.heap.size, 0, none⟩) (Nat.le_refl _) _).setCell (p := ⟨w.heap.size, 1, none⟩) (Nat.le_refl _) _).drew
      have n7 : w.heap.size < w3.heap.size := by rw [hw3]; simpa using hsz2
      have N := hide (⟨n1, n2, n3, n4, n5, n6, n7⟩ : _ ∧ _ ∧ _ ∧ _ ∧ _ ∧ _ ∧ _)
      have HW := hide hw3
      clear n1 n2 n3 n4 n5 n6 n7 hw3
      go_region_law (fail)
      all_goals
        obtain ⟨n1, n2, n3, n4, n5, n6, n7⟩ := unhide N
        rw [← unhide HW]
        go_wp2
        go_roundw
        case rel => exact ⟨pre ++ [z], q', y, HC, by omega, by omega, n1, hap2, fun h => by simp at h, n2, n3, n4, n5, n6, n7⟩
        case measure => simp [n3, x1, intOf]; omega
    · obtain rfl : q' = 0 := by omega
      have hcf' := unhide hcf
      rw [Wm.cf_zero, List.append_nil] at hcf'
      obtain ⟨A, c, rfl, hrow, hc, hcm, -⟩ := row_of_own hown
      have hA : A = none → pre.length = 0 ∧ c = 0 := fun e => by
        subst e
        rcases hown.2 with ⟨h1, h2⟩ | ⟨g, cap, cur, h1, _⟩
        · injection h1 with _ h1 h3
          exact ⟨h1, h3⟩
        · cases h1
      unfold maxLen at hcm
      have CC := hide (fun w : World => clip_int A pre.length c w hc (by omega) hA)
      have HR := hide hrow
      have HC := hide hcf'
      clear hown hrow hcf hcf' hA
      go_wp2_with fail
      refine (unhide CC _).mono ?_
      rintro e w2 ⟨rfl, rfl⟩
      go_wp2
      go_ret2
      exact ⟨⟨A, by rw [unhide HC]; rfl, by rw [unhide HC]; exact unhide HR⟩, hext⟩
end Go.Proofs.Ytdcpijodoppncaa
