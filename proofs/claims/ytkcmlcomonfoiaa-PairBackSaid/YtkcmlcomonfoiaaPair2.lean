/-
  The contract of pair.sums.
-/
import Derived.Test.YtkcmlcomonfoiaaPair1
import Derived.Test.YtkcmlcomonfoiaaBits1
import Derived.Deep.RegionHeld3
import Derived.Deep.RegionLaw
import Derived.StillTailTactics
set_option linter.unusedVariables false
set_option linter.unusedSimpArgs false
namespace Go.Proofs.Ytkcmlcomonfoiaa
open Go.RowKit Go.BigFrame

theorem byteI : EInfo Try.prog 22 5 (.int .u8 0) 1 1 := EInfo.mk_ Try.underlying22 (by kernel_rfl) rfl (by omega)
theorem Made.other {w : World} {base e sz n : Nat} {v : Value} {xs : List Value} (h : Made w base e sz v n xs) {p : Addr} (hne : v.ownBlock ≠ some p.block) (u : Value) : Made (w.setCell p u) base e sz v n xs := by
  obtain ⟨h1, h2⟩ := h
  refine ⟨h1, ?_⟩
  rcases h2 with h2 | ⟨g, cap, cur, rfl, hg, hh, r⟩
  · exact .inl h2
  · have hgp : g ≠ p.block := fun e => hne (by rw [← e]; rfl)
    exact .inr ⟨g, cap, cur, rfl, hg, by simp [World.setCell, Array.getElem?_modify, Ne.symm hgp, hh], r⟩
/-- Turned up to k. -/
def mix (f g : Nat → Nat) (m k : Nat) : List Nat := (List.range m).map fun j => if j < k then g j else f j
theorem mix_length (f g : Nat → Nat) (m k : Nat) : (mix f g m k).length = m := by simp [mix]
theorem mix_zero (f g : Nat → Nat) (m : Nat) : mix f g m 0 = (List.range m).map f := by simp [mix]
theorem mix_all (f g : Nat → Nat) (m : Nat) : mix f g m m = (List.range m).map g := by
  unfold mix
  apply List.map_congr_left
  intro j hj
  rw [if_pos (List.mem_range.1 hj)]
theorem mix_get (f g : Nat → Nat) {m k : Nat} (h : k < m) : (mix f g m k).getD k 0 = f k := by
  unfold mix
  rw [List.getD_eq_getElem?_getD, List.getElem?_map, List.getElem?_range h]
  simp
theorem mix_set (f g : Nat → Nat) {m k : Nat} (h : k < m) : (mix f g m k).set k (g k) = mix f g m (k + 1) := by
  unfold mix
  apply List.ext_getElem (by simp)
  intro j h1 h2
  rw [List.getElem_set]
  split
  · rename_i e; subst e; simp
  · rename_i e
    simp only [List.getElem_map, List.getElem_range]
    by_cases hj : j < k
    · rw [if_pos hj, if_pos (by omega)]
    · rw [if_neg hj, if_neg (by omega)]

theorem zerosP (m : Nat) (f : Nat → Nat) (h : ∀ k, f k = 0) : List.replicate m (Value.int .u8 0) = nats .u8 ((List.range m).map f) := by
  apply List.ext_getElem (by simp [nats])
  intro j h1 h2
  simp [nats, h]

def SumsPost (L : List ByteArray) (lost : List Int) (m : Nat) (w w' : World) (e : Ending) : Prop := ∃ gp gq : Nat, gp ≠ gq ∧ e = .returned (.tuple #[.slice (some ⟨gp, 0, none⟩) m m, .slice (some ⟨gq, 0, none⟩) m m]) ∧
  Made w' w.heap.size 5 1 (.slice (some ⟨gp, 0, none⟩) m m) m (nats .u8 ((List.range m).map fun k => pc L lost k L.length)) ∧ Made w' w.heap.size 5 1 (.slice (some ⟨gq, 0, none⟩) m m) m (nats .u8 ((List.range m).map fun k => qc L lost k L.length))

set_option maxRecDepth 100000 in
set_option maxHeartbeats 4000000 in
theorem sums_any (A : Option Addr) (n c m : Nat) (L : List ByteArray) (B : Option Addr) (nl cl : Nat) (lost : List Int) (w : World) (R : Row w A n 1 (strs L)) (RL : Row w B nl 1 (ints lost)) (hnl : nl ≤ 1000) (h1 : 1 ≤ n) (hn : n ≤ 10) (hm : m ≤ 64) (hs : ∀ i, i < n → (L.getD i ByteArray.empty).size = m) :
    Calls Try.prog 40 #[.slice A n c, .slice B nl cl] w fun e w' => SumsPost L lost m w w' e ∧ Ext w w' := by
  have hlen := R.strN
  obtain ⟨b, o, rfl, hb, hc0⟩ := R.str (k := 0) (by omega)
  have hs0 := hs 0 (by omega)
  rw [Nat.add_zero] at hc0
  have hmk : ∀ w : World, (Instr.makeSlice 22 (.int .i64 (m : Int)) (.int .i64 (m : Int))).run Try.prog w = .ok (.slice (some ⟨w.heap.size, 0, none⟩) m m) (w.alloc (.cells (madeCells #[.int .u8 0] m) 5)) := fun w => by
    have := make_run byteI m m (Nat.le_refl _) (by omega) (by omega) w
    rw [Nat.mul_one] at this
    exact this
  have CC := hide (fun (x : Int) (w' : World) (E : Ext w w') => contains_int B nl cl lost x w' (RL.keep E) hnl)
  have CW := hide weight_ok
  have CM := hide Mul_any
  have HS := hide hs
  have HR := hide R
  have hd := World.new_ne w ⟨b, o, none⟩ hc0
  have hn0 : (0 : Int) < (n : Int) := by omega
  have hn0N : 0 < n := by omega
  obtain ⟨C, hC⟩ : ∃ C : Obj, C = .cells (madeCells #[.int .u8 0] m) 5 := ⟨_, rfl⟩
  have M0 : Made ((w.alloc C).alloc C).drew w.heap.size 5 1 (.slice (some ⟨w.heap.size, 0, none⟩) m m) m (List.replicate m (.int .u8 0)) := by
    rw [hC]
    exact (Made.make (w := w) (base := w.heap.size) (e := 5) (.int .u8 0) m (Nat.le_refl _) (by omega)).keep (((Ext.refl _).alloc _).drew)
  have M1 : Made ((w.alloc C).alloc C).drew w.heap.size 5 1 (.slice (some ⟨w.heap.size + 1, 0, none⟩) m m) m (List.replicate m (.int .u8 0)) := by
    rw [hC]
    have := (Made.make (w := w.alloc (.cells (madeCells #[.int .u8 0] m) 5)) (base := w.heap.size) (e := 5) (.int .u8 0) m (by simp) (by omega)).keep ((Ext.refl _).drew)
    simpa using this
  have HZ : Hid (List.replicate m (Value.int .u8 0) = nats .u8 ((List.range m).map fun k => pc L lost k 0) ∧ List.replicate m (Value.int .u8 0) = nats .u8 ((List.range m).map fun k => qc L lost k 0)) := hide ⟨zerosP m _ (fun _ => rfl), zerosP m _ (fun _ => rfl)⟩
  have HM0 := hide M0
  have HM1 := hide M1
  have HC := hide hC
  have EW : Ext w ((w.alloc C).alloc C).drew := (((Ext.refl w).alloc _).alloc _).drew
  clear R RL hs M0 M1 hC
  generalize L.getD 0 ByteArray.empty = s0 at *
  subst hs0
  go_enter Try.func40, Try.ntmps40
  go_upto_region 1 with fail
  go_region_held3 (fun w' => w'.cell? ⟨b, o, none⟩ = some (.string s0)) (go_keep) (fail)
  all_goals rw [← unhide HC]
  · obtain ⟨gq, hgq⟩ : ∃ g, g = w.heap.size + 1 := ⟨_, rfl⟩
    obtain ⟨gp, hgp⟩ : ∃ g, g = w.heap.size := ⟨_, rfl⟩
    have hgb : w.heap.size ≤ gp ∧ w.heap.size ≤ gq ∧ gp ≠ gq := by omega
    have MP : Made ((w.alloc C).alloc C).drew w.heap.size 5 1 (.slice (some ⟨gp, 0, none⟩) s0.size s0.size) s0.size (nats .u8 ((List.range s0.size).map fun k => pc L lost k 0)) := by
      rw [hgp, ← (unhide HZ).1]; exact unhide HM0
    have MQ : Made ((w.alloc C).alloc C).drew w.heap.size 5 1 (.slice (some ⟨gq, 0, none⟩) s0.size s0.size) s0.size (nats .u8 ((List.range s0.size).map fun k => qc L lost k 0)) := by
      rw [hgq, ← (unhide HZ).2]; exact unhide HM1
    rw [← hgq, ← hgp]
    generalize ((w.alloc C).alloc C).drew = W at *
    have HMP := hide MP
    have HMQ := hide MQ
    clear hgp hgq HM0 HM1 HZ HC MP MQ hd hc0
    obtain ⟨m, hmm⟩ : ∃ m, m = s0.size := ⟨_, rfl⟩
    rw [← hmm] at hm HS HMP HMQ ⊢
    have HMM := hide hmm
    clear hmm
    go_wp2
    go_loopw [23] (fun i wr => ∃ k : Nat, k ≤ n ∧ i = .int .i64 k ∧ Hid (Made wr w.heap.size 5 1 (.slice (some ⟨gp, 0, none⟩) m m) m (nats .u8 ((List.range m).map fun j => pc L lost j k))) ∧
      Hid (Made wr w.heap.size 5 1 (.slice (some ⟨gq, 0, none⟩) m m) m (nats .u8 ((List.range m).map fun j => qc L lost j k))) ∧ Ext w wr) (fun i _ => n - (intOf i).toNat)
    case atStart => exact ⟨0, Nat.zero_le _, rfl, HMP, HMQ, EW⟩
    case round =>
      clear HMP HMQ EW
      obtain ⟨i, hi, rfl, HMP, HMQ, hext⟩ := hrel
      by_cases hlt : i < n
      · obtain ⟨b', o', e', hb', hcs⟩ := ((unhide HR).keep hext).str hlt
        injection e' with e'
        injection e' with e1 e2
        subst e1; subst e2
        have hsz := unhide HS i hlt
        have hst : ∀ k, (pc L lost k (i + 1) = if (i : Int) ∈ lost then pc L lost k i else pc L lost k i ^^^ byt (L.getD i ByteArray.empty) k) ∧ (qc L lost k (i + 1) = if (i : Int) ∈ lost then qc L lost k i else qc L lost k i ^^^ Wm.fmul (byt (L.getD i ByteArray.empty) k) (Wm.fpow 2 i)) := fun k => ⟨rfl, rfl⟩
        have hpl := fun k => pc_lt L lost k i
        have hql := fun k => qc_lt L lost k i
        generalize L.getD i ByteArray.empty = s at *
        have C1 := hide (unhide CC (i : Int) wr hext)
        have hszI : (s.size : Int) = (m : Int) := by omega
        by_cases hin : (i : Int) ∈ lost
        · have hsP : ((List.range m).map fun j => pc L lost j i) = (List.range m).map fun j => pc L lost j (i + 1) := List.map_congr_left fun j _ => by rw [(hst j).1, if_pos hin]
          have hsQ : ((List.range m).map fun j => qc L lost j i) = (List.range m).map fun j => qc L lost j (i + 1) := List.map_congr_left fun j _ => by rw [(hst j).2, if_pos hin]
          rw [hsP] at HMP
          rw [hsQ] at HMQ
          rw [decide_eq_true hin] at C1
          clear hst hpl hql hsP hsQ hin
          go_wp2_with fail
          refine (unhide C1).mono ?_
          rintro e w' ⟨rfl, rfl⟩
          go_wp2
          go_roundw
          case rel => exact ⟨i + 1, by omega, num_eqP (by omega), HMP, HMQ, hext⟩
          case measure => simp [intOf]; omega
        · rw [decide_eq_false hin] at C1
          have hP : ∀ j, pc L lost j (i + 1) = pc L lost j i ^^^ byt s j := fun j => by rw [(hst j).1, if_neg hin]
          have hQ : ∀ j, qc L lost j (i + 1) = qc L lost j i ^^^ Wm.fmul (byt s j) (Wm.fpow 2 i) := fun j => by rw [(hst j).2, if_neg hin]
          have HPP := hide hP
          have HQQ := hide hQ
          have HPL := hide hpl
          have HQL := hide hql
          clear hst hP hQ hpl hql hin
          go_wp2_with fail
          refine (unhide C1).mono ?_
          rintro e w' ⟨rfl, rfl⟩
          go_wp2
          obtain ⟨wo, hwo⟩ : ∃ wo : World, wo = w' := ⟨_, rfl⟩
          go_loopw [33] (fun k wi => ∃ j : Nat, j ≤ m ∧ k = .int .i64 j ∧ Hid (Made wi w.heap.size 5 1 (.slice (some ⟨gp, 0, none⟩) m m) m (nats .u8 (mix (fun k => pc L lost k i) (fun k => pc L lost k (i + 1)) m j))) ∧
            Hid (Made wi w.heap.size 5 1 (.slice (some ⟨gq, 0, none⟩) m m) m (nats .u8 (mix (fun k => qc L lost k i) (fun k => qc L lost k (i + 1)) m j))) ∧ Ext w wi) (fun k _ => m - (intOf k).toNat)
          case atStart => exact ⟨0, Nat.zero_le _, rfl, by rw [mix_zero]; exact HMP, by rw [mix_zero]; exact HMQ, hext⟩
          case round =>
            clear HMP HMQ hext hwo
            obtain ⟨j, hj, rfl, HMP, HMQ, hext⟩ := hrel
            by_cases hjm : j < m
            · have MP := unhide HMP
              have MQ := unhide HMQ
              have hcp := MP.nat hjm
              have hcq := MQ.nat hjm
              have hfp := MP.frozen j
              have hfq := MQ.frozen j
              rw [mix_get _ _ hjm] at hcp hcq
              have hjs : j < s.size := by omega
              have hbyt := byt_get s j hjs
              have hpv := unhide HPP j
              have hqv := unhide HQQ j
              have hpl := unhide HPL j
              have hql := unhide HQL j
              have hvl := byt_lt s j
              have hsetP := mix_set (fun k => pc L lost k i) (fun k => pc L lost k (i + 1)) hjm
              have hsetQ := mix_set (fun k => qc L lost k i) (fun k => qc L lost k (i + 1)) hjm
              try dsimp only at hcp
              try dsimp only at hcq
              try dsimp only at hsetP
              try dsimp only at hsetQ
              rw [hpv] at hsetP
              rw [hqv] at hsetQ
              have hX1 := u8_xor_nat (pc L lost j i) (byt s j) hpl hvl
              have hwl : Wm.fpow 2 i < 256 := Wm.fpow_lt (by omega) _
              have hml := Wm.fmul_lt hvl hwl
              have hX2 := u8_xor_nat (qc L lost j i) (Wm.fmul (byt s j) (Wm.fpow 2 i)) hql hml
              have C2 := hide (fun w : World => unhide CW i (by omega) w)
              have C3 := hide (fun w : World => unhide CM (byt s j) (Wm.fpow 2 i) hvl hwl w)
              have hSP := hide hsetP
              have hSQ := hide hsetQ
              have HPM := hide MP
              have HQM := hide MQ
              clear hsetP hsetQ MP MQ hpv hqv HMP HMQ
              generalize Wm.fmul (byt s j) (Wm.fpow 2 i) = pr at *
              generalize Wm.fpow 2 i = we at *
              generalize byt s j = v at *
              generalize pc L lost j i = f0 at *
              generalize qc L lost j i = h0 at *
              have hj0 : (0 : Int) ≤ (j : Int) := by omega
              have hjm2 : (j : Int) < (m : Int) := by omega
              have hjs2 : (j : Int) < (s.size : Int) := by omega
              go_upto_region 9 with fail
              go_still_tail 9, (by kernel_rfl)
              have hne1 : ¬ gp = gq := hgb.2.2
              have hne2 : ¬ gq = gp := fun e => hgb.2.2 e.symm
              obtain ⟨W9, hW9⟩ : ∃ W9, W9 = (wr.setCell ⟨gp, j, none⟩ (.int .u8 ((f0 ^^^ v : Nat) : Int))).drew := ⟨_, rfl⟩
              have P9 : Made W9 w.heap.size 5 1 (.slice (some ⟨gp, 0, none⟩) m m) m (nats .u8 (mix (fun k => pc L lost k i) (fun k => pc L lost k (i + 1)) m (j + 1))) := by
                rw [hW9, ← unhide hSP, ← nats_set]
                exact ((unhide HPM).set (by omega) _).keep ((Ext.refl _).drew)
              have Q9 : Made W9 w.heap.size 5 1 (.slice (some ⟨gq, 0, none⟩) m m) m (nats .u8 (mix (fun k => qc L lost k i) (fun k => qc L lost k (i + 1)) m j)) := by
                rw [hW9]
                exact ((unhide HQM).other (by simp [Value.ownBlock]; exact hne2) _).keep ((Ext.refl _).drew)
              have q9 : W9.cell? ⟨gq, j, none⟩ = some (.int .u8 (h0 : Int)) := by
                rw [hW9]
                exact (World.cell?_setCell_other _ _ _ _ (by simp [hne1])).trans hcq
              have E9 : Ext w W9 := by
                rw [hW9]
                exact (hext.setCell (p := ⟨gp, j, none⟩) hgb.1 _).drew
              have HP9 := hide P9
              have HQ9 := hide Q9
              have HW9 := hide hW9
              clear P9 Q9 hW9 HPM HQM hSP
              go_upto_region 10 with fail
              rw [← unhide HW9]
              clear HW9 hcp hcq hfp hfq hX1
              have x9 := fun x' => plus_keep (w := W9.drew) (a := ⟨gq, j, none⟩) q9 x'
              refine wp_region_tail 12 (fun w w' => ∃ x, w' = plus w x) (fun w => Ext.plus (Ext.refl w)) (fun _ _ d _ _ h => by cases d <;> exact h) (by kernel_rfl) (by kernel_rfl) ?_
              show wpQuiet _ _ _ _ (_ :: _ :: _ :: _ :: _ :: _ :: _ :: _ :: _ :: _ :: _ :: _ :: []) _
              repeat (go_big_quiet_step ((first | (go_at_call 42; with_reducible exact ext_call_same (unhide C2 _)) | (go_at_call 38; with_reducible exact ext_call_same (unhide C3 _)))))
              refine wpQuiet_nil ?_
              rintro wq ⟨xq, rfl⟩
              show wpList _ _ _ (_ :: []) _ _
              have EX : Ext W9 (plus W9.drew xq) := (Ext.refl W9).drew.trans (plus_ext _ _)
              have q10 := x9 xq
              have P10 := (unhide HP9).keep EX
              have Q10 := (unhide HQ9).keep EX
              have f10 := Q10.frozen j
              have E10 := E9.trans EX
              clear x9 EX HP9 HQ9 E9 q9 hcs
              generalize plus W9.drew xq = W10 at *
              have P11 : Made (W10.setCell ⟨gq, j, none⟩ (.int .u8 ((h0 ^^^ pr : Nat) : Int))) w.heap.size 5 1 (.slice (some ⟨gp, 0, none⟩) m m) m (nats .u8 (mix (fun k => pc L lost k i) (fun k => pc L lost k (i + 1)) m (j + 1))) :=
                P10.other (by simp [Value.ownBlock]; exact hne1) _
              have Q11 : Made (W10.setCell ⟨gq, j, none⟩ (.int .u8 ((h0 ^^^ pr : Nat) : Int))) w.heap.size 5 1 (.slice (some ⟨gq, 0, none⟩) m m) m (nats .u8 (mix (fun k => qc L lost k i) (fun k => qc L lost k (i + 1)) m (j + 1))) := by
                rw [← unhide hSQ, ← nats_set]
                exact Q10.set (by omega) _
              have E11 := E10.setCell (p := ⟨gq, j, none⟩) hgb.2.1 (.int .u8 ((h0 ^^^ pr : Nat) : Int))
              have HP11 := hide P11
              have HQ11 := hide Q11
              clear P10 Q10 P11 Q11 E10 hSQ
              go_wp2
              go_roundw
              case rel => exact ⟨j + 1, by omega, num_eqP (by omega), HP11, HQ11, E11⟩
              case measure => simp [intOf]; omega
            · obtain rfl : j = m := by omega
              rw [mix_all] at HMP HMQ
              go_wp2
              go_roundw
              case rel => exact ⟨i + 1, by omega, num_eqP (by omega), HMP, HMQ, hext⟩
              case measure => simp [intOf]; omega
      · obtain rfl : i = n := by omega
        go_wp2
        go_ret2
        exact ⟨⟨gp, gq, hgb.2.2, by rw [← unhide HMM]; rfl, by rw [hlen, ← unhide HMM]; exact unhide HMP, by rw [hlen, ← unhide HMM]; exact unhide HMQ⟩, hext⟩

  · obtain ⟨gp, hgp⟩ : ∃ g, g = w.heap.size + 1 := ⟨_, rfl⟩
    obtain ⟨gq, hgq⟩ : ∃ g, g = w.heap.size := ⟨_, rfl⟩
    have hgb : w.heap.size ≤ gp ∧ w.heap.size ≤ gq ∧ gp ≠ gq := by omega
    have MP : Made ((w.alloc C).alloc C).drew w.heap.size 5 1 (.slice (some ⟨gp, 0, none⟩) s0.size s0.size) s0.size (nats .u8 ((List.range s0.size).map fun k => pc L lost k 0)) := by
      rw [hgp, ← (unhide HZ).1]; exact unhide HM1
    have MQ : Made ((w.alloc C).alloc C).drew w.heap.size 5 1 (.slice (some ⟨gq, 0, none⟩) s0.size s0.size) s0.size (nats .u8 ((List.range s0.size).map fun k => qc L lost k 0)) := by
      rw [hgq, ← (unhide HZ).2]; exact unhide HM0
    rw [← hgp, ← hgq]
    generalize ((w.alloc C).alloc C).drew = W at *
    have HMP := hide MP
    have HMQ := hide MQ
    clear hgp hgq HM0 HM1 HZ HC MP MQ hd hc0
    obtain ⟨m, hmm⟩ : ∃ m, m = s0.size := ⟨_, rfl⟩
    rw [← hmm] at hm HS HMP HMQ ⊢
    have HMM := hide hmm
    clear hmm
    go_wp2
    go_loopw [23] (fun i wr => ∃ k : Nat, k ≤ n ∧ i = .int .i64 k ∧ Hid (Made wr w.heap.size 5 1 (.slice (some ⟨gp, 0, none⟩) m m) m (nats .u8 ((List.range m).map fun j => pc L lost j k))) ∧
      Hid (Made wr w.heap.size 5 1 (.slice (some ⟨gq, 0, none⟩) m m) m (nats .u8 ((List.range m).map fun j => qc L lost j k))) ∧ Ext w wr) (fun i _ => n - (intOf i).toNat)
    case atStart => exact ⟨0, Nat.zero_le _, rfl, HMP, HMQ, EW⟩
    case round =>
      clear HMP HMQ EW
      obtain ⟨i, hi, rfl, HMP, HMQ, hext⟩ := hrel
      by_cases hlt : i < n
      · obtain ⟨b', o', e', hb', hcs⟩ := ((unhide HR).keep hext).str hlt
        injection e' with e'
        injection e' with e1 e2
        subst e1; subst e2
        have hsz := unhide HS i hlt
        have hst : ∀ k, (pc L lost k (i + 1) = if (i : Int) ∈ lost then pc L lost k i else pc L lost k i ^^^ byt (L.getD i ByteArray.empty) k) ∧ (qc L lost k (i + 1) = if (i : Int) ∈ lost then qc L lost k i else qc L lost k i ^^^ Wm.fmul (byt (L.getD i ByteArray.empty) k) (Wm.fpow 2 i)) := fun k => ⟨rfl, rfl⟩
        have hpl := fun k => pc_lt L lost k i
        have hql := fun k => qc_lt L lost k i
        generalize L.getD i ByteArray.empty = s at *
        have C1 := hide (unhide CC (i : Int) wr hext)
        have hszI : (s.size : Int) = (m : Int) := by omega
        by_cases hin : (i : Int) ∈ lost
        · have hsP : ((List.range m).map fun j => pc L lost j i) = (List.range m).map fun j => pc L lost j (i + 1) := List.map_congr_left fun j _ => by rw [(hst j).1, if_pos hin]
          have hsQ : ((List.range m).map fun j => qc L lost j i) = (List.range m).map fun j => qc L lost j (i + 1) := List.map_congr_left fun j _ => by rw [(hst j).2, if_pos hin]
          rw [hsP] at HMP
          rw [hsQ] at HMQ
          rw [decide_eq_true hin] at C1
          clear hst hpl hql hsP hsQ hin
          go_wp2_with fail
          refine (unhide C1).mono ?_
          rintro e w' ⟨rfl, rfl⟩
          go_wp2
          go_roundw
          case rel => exact ⟨i + 1, by omega, num_eqP (by omega), HMP, HMQ, hext⟩
          case measure => simp [intOf]; omega
        · rw [decide_eq_false hin] at C1
          have hP : ∀ j, pc L lost j (i + 1) = pc L lost j i ^^^ byt s j := fun j => by rw [(hst j).1, if_neg hin]
          have hQ : ∀ j, qc L lost j (i + 1) = qc L lost j i ^^^ Wm.fmul (byt s j) (Wm.fpow 2 i) := fun j => by rw [(hst j).2, if_neg hin]
          have HPP := hide hP
          have HQQ := hide hQ
          have HPL := hide hpl
          have HQL := hide hql
          clear hst hP hQ hpl hql hin
          go_wp2_with fail
          refine (unhide C1).mono ?_
          rintro e w' ⟨rfl, rfl⟩
          go_wp2
          obtain ⟨wo, hwo⟩ : ∃ wo : World, wo = w' := ⟨_, rfl⟩
          go_loopw [33] (fun k wi => ∃ j : Nat, j ≤ m ∧ k = .int .i64 j ∧ Hid (Made wi w.heap.size 5 1 (.slice (some ⟨gp, 0, none⟩) m m) m (nats .u8 (mix (fun k => pc L lost k i) (fun k => pc L lost k (i + 1)) m j))) ∧
            Hid (Made wi w.heap.size 5 1 (.slice (some ⟨gq, 0, none⟩) m m) m (nats .u8 (mix (fun k => qc L lost k i) (fun k => qc L lost k (i + 1)) m j))) ∧ Ext w wi) (fun k _ => m - (intOf k).toNat)
          case atStart => exact ⟨0, Nat.zero_le _, rfl, by rw [mix_zero]; exact HMP, by rw [mix_zero]; exact HMQ, hext⟩
          case round =>
            clear HMP HMQ hext hwo
            obtain ⟨j, hj, rfl, HMP, HMQ, hext⟩ := hrel
            by_cases hjm : j < m
            · have MP := unhide HMP
              have MQ := unhide HMQ
              have hcp := MP.nat hjm
              have hcq := MQ.nat hjm
              have hfp := MP.frozen j
              have hfq := MQ.frozen j
              rw [mix_get _ _ hjm] at hcp hcq
              have hjs : j < s.size := by omega
              have hbyt := byt_get s j hjs
              have hpv := unhide HPP j
              have hqv := unhide HQQ j
              have hpl := unhide HPL j
              have hql := unhide HQL j
              have hvl := byt_lt s j
              have hsetP := mix_set (fun k => pc L lost k i) (fun k => pc L lost k (i + 1)) hjm
              have hsetQ := mix_set (fun k => qc L lost k i) (fun k => qc L lost k (i + 1)) hjm
              try dsimp only at hcp
              try dsimp only at hcq
              try dsimp only at hsetP
              try dsimp only at hsetQ
              rw [hpv] at hsetP
              rw [hqv] at hsetQ
              have hX1 := u8_xor_nat (pc L lost j i) (byt s j) hpl hvl
              have hwl : Wm.fpow 2 i < 256 := Wm.fpow_lt (by omega) _
              have hml := Wm.fmul_lt hvl hwl
              have hX2 := u8_xor_nat (qc L lost j i) (Wm.fmul (byt s j) (Wm.fpow 2 i)) hql hml
              have C2 := hide (fun w : World => unhide CW i (by omega) w)
              have C3 := hide (fun w : World => unhide CM (byt s j) (Wm.fpow 2 i) hvl hwl w)
              have hSP := hide hsetP
              have hSQ := hide hsetQ
              have HPM := hide MP
              have HQM := hide MQ
              clear hsetP hsetQ MP MQ hpv hqv HMP HMQ
              generalize Wm.fmul (byt s j) (Wm.fpow 2 i) = pr at *
              generalize Wm.fpow 2 i = we at *
              generalize byt s j = v at *
              generalize pc L lost j i = f0 at *
              generalize qc L lost j i = h0 at *
              have hj0 : (0 : Int) ≤ (j : Int) := by omega
              have hjm2 : (j : Int) < (m : Int) := by omega
              have hjs2 : (j : Int) < (s.size : Int) := by omega
              go_upto_region 9 with fail
              go_still_tail 9, (by kernel_rfl)
              have hne1 : ¬ gp = gq := hgb.2.2
              have hne2 : ¬ gq = gp := fun e => hgb.2.2 e.symm
              obtain ⟨W9, hW9⟩ : ∃ W9, W9 = (wr.setCell ⟨gp, j, none⟩ (.int .u8 ((f0 ^^^ v : Nat) : Int))).drew := ⟨_, rfl⟩
              have P9 : Made W9 w.heap.size 5 1 (.slice (some ⟨gp, 0, none⟩) m m) m (nats .u8 (mix (fun k => pc L lost k i) (fun k => pc L lost k (i + 1)) m (j + 1))) := by
                rw [hW9, ← unhide hSP, ← nats_set]
                exact ((unhide HPM).set (by omega) _).keep ((Ext.refl _).drew)
              have Q9 : Made W9 w.heap.size 5 1 (.slice (some ⟨gq, 0, none⟩) m m) m (nats .u8 (mix (fun k => qc L lost k i) (fun k => qc L lost k (i + 1)) m j)) := by
                rw [hW9]
                exact ((unhide HQM).other (by simp [Value.ownBlock]; exact hne2) _).keep ((Ext.refl _).drew)
              have q9 : W9.cell? ⟨gq, j, none⟩ = some (.int .u8 (h0 : Int)) := by
                rw [hW9]
                exact (World.cell?_setCell_other _ _ _ _ (by simp [hne1])).trans hcq
              have E9 : Ext w W9 := by
                rw [hW9]
                exact (hext.setCell (p := ⟨gp, j, none⟩) hgb.1 _).drew
              have HP9 := hide P9
              have HQ9 := hide Q9
              have HW9 := hide hW9
              clear P9 Q9 hW9 HPM HQM hSP
              go_upto_region 10 with fail
              rw [← unhide HW9]
              clear HW9 hcp hcq hfp hfq hX1
              have x9 := fun x' => plus_keep (w := W9.drew) (a := ⟨gq, j, none⟩) q9 x'
              refine wp_region_tail 12 (fun w w' => ∃ x, w' = plus w x) (fun w => Ext.plus (Ext.refl w)) (fun _ _ d _ _ h => by cases d <;> exact h) (by kernel_rfl) (by kernel_rfl) ?_
              show wpQuiet _ _ _ _ (_ :: _ :: _ :: _ :: _ :: _ :: _ :: _ :: _ :: _ :: _ :: _ :: []) _
              repeat (go_big_quiet_step ((first | (go_at_call 42; with_reducible exact ext_call_same (unhide C2 _)) | (go_at_call 38; with_reducible exact ext_call_same (unhide C3 _)))))
              refine wpQuiet_nil ?_
              rintro wq ⟨xq, rfl⟩
              show wpList _ _ _ (_ :: []) _ _
              have EX : Ext W9 (plus W9.drew xq) := (Ext.refl W9).drew.trans (plus_ext _ _)
              have q10 := x9 xq
              have P10 := (unhide HP9).keep EX
              have Q10 := (unhide HQ9).keep EX
              have f10 := Q10.frozen j
              have E10 := E9.trans EX
              clear x9 EX HP9 HQ9 E9 q9 hcs
              generalize plus W9.drew xq = W10 at *
              have P11 : Made (W10.setCell ⟨gq, j, none⟩ (.int .u8 ((h0 ^^^ pr : Nat) : Int))) w.heap.size 5 1 (.slice (some ⟨gp, 0, none⟩) m m) m (nats .u8 (mix (fun k => pc L lost k i) (fun k => pc L lost k (i + 1)) m (j + 1))) :=
                P10.other (by simp [Value.ownBlock]; exact hne1) _
              have Q11 : Made (W10.setCell ⟨gq, j, none⟩ (.int .u8 ((h0 ^^^ pr : Nat) : Int))) w.heap.size 5 1 (.slice (some ⟨gq, 0, none⟩) m m) m (nats .u8 (mix (fun k => qc L lost k i) (fun k => qc L lost k (i + 1)) m (j + 1))) := by
                rw [← unhide hSQ, ← nats_set]
                exact Q10.set (by omega) _
              have E11 := E10.setCell (p := ⟨gq, j, none⟩) hgb.2.1 (.int .u8 ((h0 ^^^ pr : Nat) : Int))
              have HP11 := hide P11
              have HQ11 := hide Q11
              clear P10 Q10 P11 Q11 E10 hSQ
              go_wp2
              go_roundw
              case rel => exact ⟨j + 1, by omega, num_eqP (by omega), HP11, HQ11, E11⟩
              case measure => simp [intOf]; omega
            · obtain rfl : j = m := by omega
              rw [mix_all] at HMP HMQ
              go_wp2
              go_roundw
              case rel => exact ⟨i + 1, by omega, num_eqP (by omega), HMP, HMQ, hext⟩
              case measure => simp [intOf]; omega
      · obtain rfl : i = n := by omega
        go_wp2
        go_ret2
        exact ⟨⟨gp, gq, hgb.2.2, by rw [← unhide HMM]; rfl, by rw [hlen, ← unhide HMM]; exact unhide HMP, by rw [hlen, ← unhide HMM]; exact unhide HMQ⟩, hext⟩

end Go.Proofs.Ytkcmlcomonfoiaa
