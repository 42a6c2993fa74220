/-
  The contracts of poly.Add, Product and Mul.
-/
import Derived.Test.YtkfdimofkkckeaaPoly1
import Derived.Laws.CopyOwn
set_option linter.unusedVariables false
set_option linter.unusedSimpArgs false
namespace Go.Proofs.Ytkfdimofkkckeaa
open Go.RowKit Go.BigFrame

theorem mk_int (n : Nat) (hn : n ≤ 100000) (w : World) : (Instr.makeSlice 22 (.int .i64 (n : Int)) (.int .i64 (n : Int))).run Try.prog w = .ok (.slice (some ⟨w.heap.size, 0, none⟩) n n) (w.alloc (.cells (madeCells #[.int .i64 0] n) 3)) := by
  have := make_run intQ n n (Nat.le_refl _) (by omega) (by omega) w
  rw [Nat.mul_one] at this
  exact this
/-- make, as numbers. -/
theorem Made.mkq {w : World} {base : Nat} (n : Nat) (hb : base ≤ w.heap.size) (hn : n ≤ 100000) (f : Nat → Nat) (h : ∀ k, k < n → f k = 0) :
    Made (w.alloc (.cells (madeCells #[.int .i64 0] n) 3)) base 3 1 (.slice (some ⟨w.heap.size, 0, none⟩) n n) n (nats .i64 (Wm.mkL n f)) := by
  have := Made.make (w := w) (base := base) (e := 3) (.int .i64 0) n hb (by omega)
  have e : nats .i64 (Wm.mkL n f) = List.replicate n (Value.int .i64 0) := by
    apply List.ext_getElem (by simp [nats, Wm.mkL])
    intro j h1 h2
    have hj : j < n := by simpa using h2
    simp [nats, Wm.mkL, h j hj]
  rw [e]
  exact this
/-- What is set at one place. -/
theorem Made.setq {w : World} {base : Nat} {g n c : Nat} {f : Nat → Nat} (h : Made w base 3 1 (.slice (some ⟨g, 0, none⟩) n c) n (nats .i64 (Wm.mkL n f))) {k : Nat} (hk : k < n) (x : Nat) (f' : Nat → Nat) (hf : ∀ j, j < n → f' j = if j = k then x else f j) :
    Made (w.setCell ⟨g, k, none⟩ (.int .i64 (x : Int))) base 3 1 (.slice (some ⟨g, 0, none⟩) n c) n (nats .i64 (Wm.mkL n f')) := by
  have := h.set (j := k) (by omega) (.int .i64 (x : Int))
  rw [nats_set, Wm.mkL_set f hk x] at this
  rwa [Wm.mkL_congr hf]
theorem Made.getq {w : World} {base : Nat} {g n c : Nat} {f : Nat → Nat} (h : Made w base 3 1 (.slice (some ⟨g, 0, none⟩) n c) n (nats .i64 (Wm.mkL n f))) {k : Nat} (hk : k < n) : w.cell? ⟨g, k, none⟩ = some (.int .i64 ((f k : Nat) : Int)) := by
  rw [h.nat hk, Wm.mkL_get f hk]
theorem Made.pvq {w : World} {base : Nat} {g n c : Nat} {l : List Nat} (h : Made w base 3 1 (.slice (some ⟨g, 0, none⟩) n c) n (nats .i64 l)) : Pv w (some ⟨g, 0, none⟩) n c l := by
  obtain ⟨A, c', e, P⟩ := h.pv
  injection e with e1 e2 e3
  subst e1; subst e3
  exact P
theorem Made.spl {w : World} {base g L : Nat} {f : List Nat} (h : w.heap[g]? = some (.cells (splice (List.replicate L (Value.int .i64 0)) 0 (nats .i64 f)).toArray 3 (0, 0))) (hb : base ≤ g) (hf : f.length ≤ L) (hL : L ≤ 100000) :
    Made w base 3 1 (.slice (some ⟨g, 0, none⟩) L L) L (nats .i64 (Wm.mkL L fun k => f.getD k 0)) := by
  refine ⟨by rw [nats_length, Wm.mkL_length, Nat.mul_one], .inr ⟨g, L, _, rfl, hb, h, Nat.le_refl _, by unfold maxLen; omega, ?_, ?_⟩⟩
  · rw [List.size_toArray, length_splice _ _ _ (by rw [nats_length]; simp; omega)]; simp
  · apply List.ext_getElem?
    intro j
    rw [Nat.mul_one]
    by_cases hj : j < L
    · rw [List.getElem?_take_of_lt hj, nats_get _ _ _ (by rw [Wm.mkL_length]; exact hj), Wm.mkL_get _ hj]
      show (splice _ 0 _)[j]? = _
      simp only [splice, List.take_zero, List.nil_append, Nat.zero_add]
      by_cases hjf : j < f.length
      · rw [List.getElem?_append_left (by rw [nats_length]; exact hjf), nats_get _ _ _ hjf]
      · rw [List.getElem?_append_right (by rw [nats_length]; omega), nats_length, List.drop_replicate, List.getElem?_replicate, if_pos (by omega), Wm.getD_big (by omega)]; rfl
    · rw [List.getElem?_eq_none (by rw [List.length_take]; omega), List.getElem?_eq_none (by rw [nats_length, Wm.mkL_length]; omega)]

set_option maxRecDepth 100000 in
set_option maxHeartbeats 2000000 in
theorem Add_ok (P : Wm.Pr) (h9 : P.p ≤ 997) (A B : Option Addr) (n c m d : Nat) (f g : List Nat) (w : World) (R : Pv w A n c f) (S : Pv w B m d g) (hf : Wm.IsP P.p f) (hn : n ≤ 40) (hg : Wm.IsP P.p g) (hm : m ≤ 40) :
    Calls Try.prog 18 #[.int .i64 P.p, .slice A n c, .slice B m d] w fun e w' => (∃ v, e = .returned (.tuple #[v, .int .i64 0]) ∧ Made w' w.heap.size 3 1 v (Wm.addL P.p f g).length (nats .i64 (Wm.addL P.p f g))) ∧ Ext w w' := by
  have h1 := R.len
  have h2 := S.len
  have CK := hide (fun (W : World) (E : Ext w W) => checks_ok P h9 A B n c m d f g W (R.keep E) (S.keep E) hf hn hg hm)
  obtain ⟨F, hF⟩ : ∃ F, F = Wm.addL P.p f g := ⟨_, rfl⟩
  rw [← hF]
  have HF := hide hF
  have hp := P.pos
  have hlf := hide (hf.lt hp)
  have hlg := hide (hg.lt hp)
  have HR := hide R
  have HS := hide S
  have HL1 := hide h1
  have HL2 := hide h2
  clear R S h1 h2 hf hg hF
  rcases Nat.lt_or_ge n m with hnm | hnm
  · have HA : Hid (F = Wm.trimL (Wm.mkL m (Wm.addF P.p f g))) := hide (by rw [unhide HF]; unfold Wm.addL; rw [unhide HL1, unhide HL2, Nat.max_eq_right (by omega)])
    go_enter Try.func18, Try.ntmps18
    go_wp2_with fail
    refine (unhide CK _ (by repeat (first | exact Ext.refl w | refine Ext.alloc ?_ _ | refine Ext.drew ?_ | refine Ext.drewN ?_ _ | (refine Ext.trans ?_ (plus_ext _ _)) | (refine Ext.setCell ?_ (by have := Ext.size Ext.refl w; simp; omega) _)))).mono ?_
    rintro e w1 ⟨rfl, E1'⟩
    have E1 : Ext w w1 := Ext.trans (by repeat (first | exact Ext.refl w | refine Ext.alloc ?_ _ | refine Ext.drew ?_ | refine Ext.drewN ?_ _ | (refine Ext.trans ?_ (plus_ext _ _)) | (refine Ext.setCell ?_ (by have := Ext.size Ext.refl w; simp; omega) _))) E1'
    clear E1'
    have HK := hide (mk_int m (by omega))
    have hmk := unhide HK
    go_wp2_with (refine wpList_copy_splice (o := ⟨some 27, _, _, _, _, _⟩) rfl _ _ 22 22 rfl 3 Try.underlying22 (by kernel_rfl) (some ⟨w1.heap.size, 0, none⟩) A m m n c (by rfl) (by rfl) w1.heap.size 0 (List.replicate m (.int .i64 0)) 3 ?c1 (nats .i64 f) ?c2 ?c3 ?c4 (nats_one _ _) w.heap.size w ?c5 (Ext.size E1) ?_)
    case c1 => rw [← madeCells_one, Array.toArray_toList, ← World.alloc_eq]; simp
    case c2 => rw [nats_length, unhide HL1]; show n = min n m; omega
    case c3 =>
      intro h0
      rw [nats_length, unhide HL1] at h0
      obtain ⟨b, o, rfl, hb, hc⟩ := (unhide HR).row.2 (by omega)
      refine ⟨⟨b, o, none⟩, rfl, fun j v hj => ?_⟩
      have hjn : j < n * 1 := by
        have := (List.getElem?_eq_some_iff.1 hj).1
        rw [nats_length, unhide HL1] at this
        omega
      have : (⟨b, o, none⟩ : Addr).add j = ⟨b, o + j, none⟩ := by
        unfold Addr.add
        split
        · rename_i h0; simp [h0]
        · rfl
      rw [this]
      exact (Ext.cell ((by repeat (first | exact E1 | refine Ext.alloc ?_ _ | refine Ext.drew ?_ | refine Ext.drewN ?_ _ | (refine Ext.trans ?_ (plus_ext _ _)) | (refine Ext.setCell ?_ (by have := Ext.size E1; simp; omega) _))) : Ext w _) hb).trans ((hc j hjn).trans hj)
    case c4 => rw [nats_length, unhide HL1, List.length_replicate]; omega
    case c5 => exact (by repeat (first | exact E1 | refine Ext.alloc ?_ _ | refine Ext.drew ?_ | refine Ext.drewN ?_ _ | (refine Ext.trans ?_ (plus_ext _ _)) | (refine Ext.setCell ?_ (by have := Ext.size E1; simp; omega) _)))
    intro w2 hh E2
    have HM : Hid (Made w2 w.heap.size 3 1 (.slice (some ⟨w1.heap.size, 0, none⟩) m m) m (nats .i64 (Wm.mkL m fun k => if k < 0 then Wm.addF P.p f g k else f.getD k 0))) := hide (by
      rw [Wm.mkL_congr (g := fun k => f.getD k 0) (fun k _ => if_neg (by omega))]
      exact Made.spl (unhide hh) (Ext.size E1) (by rw [unhide HL1]; omega) (by omega))
    have E2 : Ext w w2 := E2
    obtain ⟨g0, hg0⟩ : ∃ g0, g0 = w1.heap.size := ⟨_, rfl⟩
    rw [← hg0] at HM
    have hgw : w.heap.size ≤ g0 := by have := Ext.size E1; omega
    rw [← hg0]
    clear hh hg0 hmk
    go_wp2
    go_loopw [30] (fun i wr => ∃ k : Nat, k ≤ m ∧ i = .int .i64 k ∧ Hid (Made wr w.heap.size 3 1 (.slice (some ⟨g0, 0, none⟩) m m) m (nats .i64 (Wm.mkL m fun j => if j < k then Wm.addF P.p f g j else f.getD j 0))) ∧ Ext w wr) (fun i _ => m - (intOf i).toNat)
    case atStart => exact ⟨0, Nat.zero_le _, rfl, HM, E2⟩
    case round =>
      clear HM E2
      obtain ⟨k, hk, rfl, HM, hext⟩ := hrel
      by_cases hlt : k < m
      · obtain ⟨b, o, rfl, hb, hc⟩ := ((unhide HS).keep hext).row.nat (k := k) hlt
        have hcell := (unhide HM).getq (k := k) (by omega)
        try dsimp only at hcell
        rw [if_neg (by omega)] at hcell
        have hfr := (unhide HM).frozen k
        have HM2 : Hid (Made (wr.setCell ⟨g0, k, none⟩ (.int .i64 ((Wm.addF P.p f g k : Nat) : Int))) w.heap.size 3 1 (.slice (some ⟨g0, 0, none⟩) m m) m (nats .i64 (Wm.mkL m fun j => if j < k + 1 then Wm.addF P.p f g j else f.getD j 0))) := hide ((unhide HM).setq (by omega) _ _ fun j _ => by
          by_cases e : j = k
          · subst e; rw [if_pos rfl, if_pos (by omega)]
          · rw [if_neg e]
            by_cases h' : j < k
            · rw [if_pos h', if_pos (by omega)]
            · rw [if_neg h', if_neg (by omega)])
        have E2 := hext.setCell (p := ⟨g0, k, none⟩) hgw (.int .i64 ((Wm.addF P.p f g k : Nat) : Int))
        have hx := unhide hlf k
        have hy := unhide hlg k
        obtain ⟨z, hz⟩ : ∃ z, z = Wm.addF P.p f g k := ⟨_, rfl⟩
        have hz2 : ((f.getD k 0 : Nat) : Int) + ((g.getD k 0 : Nat) : Int) = ((f.getD k 0 + g.getD k 0 : Nat) : Int) := by omega
        have hz3 : ((f.getD k 0 : Nat) : Int) + ((g.getD k 0 : Nat) : Int) ≤ 2000 := by omega
        have HZ : (((f.getD k 0 : Nat) : Int) + ((g.getD k 0 : Nat) : Int)) % (P.p : Int) = (z : Int) := by rw [hz2, hz]; rfl
        rw [← hz] at HM2 E2
        clear HM hz hz2
        generalize f.getD k 0 = x at *
        generalize g.getD k 0 = y at *
        go_wp2
        go_roundw
        case rel => exact ⟨k + 1, by omega, by go_num, HM2, by first | exact E2 | exact E2.drew | exact E2.drewN _⟩
        case measure => simp [intOf]; omega
      · obtain rfl : m = k := by omega
        have hM2 : Made wr w.heap.size 3 1 (.slice (some ⟨g0, 0, none⟩) m m) m (nats .i64 (Wm.mkL m (Wm.addF P.p f g))) := by
          have h2 := unhide HM
          rwa [Wm.mkL_congr (g := Wm.addF P.p f g) fun j hj => by
            by_cases h' : j < m
            · rw [if_pos h']
            · rw [if_neg h']
              unfold Wm.addF
              rw [Wm.getD_big (l := g) (by have := unhide HL2; omega), Nat.add_zero, Nat.mod_eq_of_lt (unhide hlf j)]] at h2
        have CT := hide (Trim_ok (some ⟨g0, 0, none⟩) m m _ wr hM2.pvq (by omega))
        rw [← unhide HA] at CT
        clear hM2 HM
        go_wp2_with fail
        refine (unhide CT).mono ?_
        rintro e w3 ⟨⟨v, rfl, hM⟩, E3⟩
        have HM3 := hide (hM.mono (Ext.size hext))
        clear hM
        go_wp2
        go_ret2
        exact ⟨⟨_, rfl, unhide HM3⟩, Ext.trans hext E3⟩

  · have HA : Hid (F = Wm.trimL (Wm.mkL n (Wm.addF P.p f g))) := hide (by rw [unhide HF]; unfold Wm.addL; rw [unhide HL1, unhide HL2, Nat.max_eq_left (by omega)])
    go_enter Try.func18, Try.ntmps18
    go_wp2_with fail
    refine (unhide CK _ (by repeat (first | exact Ext.refl w | refine Ext.alloc ?_ _ | refine Ext.drew ?_ | refine Ext.drewN ?_ _ | (refine Ext.trans ?_ (plus_ext _ _)) | (refine Ext.setCell ?_ (by have := Ext.size Ext.refl w; simp; omega) _)))).mono ?_
    rintro e w1 ⟨rfl, E1'⟩
    have E1 : Ext w w1 := Ext.trans (by repeat (first | exact Ext.refl w | refine Ext.alloc ?_ _ | refine Ext.drew ?_ | refine Ext.drewN ?_ _ | (refine Ext.trans ?_ (plus_ext _ _)) | (refine Ext.setCell ?_ (by have := Ext.size Ext.refl w; simp; omega) _))) E1'
    clear E1'
    have HK := hide (mk_int n (by omega))
    have hmk := unhide HK
    go_wp2_with (refine wpList_copy_splice (o := ⟨some 27, _, _, _, _, _⟩) rfl _ _ 22 22 rfl 3 Try.underlying22 (by kernel_rfl) (some ⟨w1.heap.size, 0, none⟩) A n n n c (by rfl) (by rfl) w1.heap.size 0 (List.replicate n (.int .i64 0)) 3 ?c1 (nats .i64 f) ?c2 ?c3 ?c4 (nats_one _ _) w.heap.size w ?c5 (Ext.size E1) ?_)
    case c1 => rw [← madeCells_one, Array.toArray_toList, ← World.alloc_eq]; simp
    case c2 => rw [nats_length, unhide HL1]; show n = min n n; omega
    case c3 =>
      intro h0
      rw [nats_length, unhide HL1] at h0
      obtain ⟨b, o, rfl, hb, hc⟩ := (unhide HR).row.2 (by omega)
      refine ⟨⟨b, o, none⟩, rfl, fun j v hj => ?_⟩
      have hjn : j < n * 1 := by
        have := (List.getElem?_eq_some_iff.1 hj).1
        rw [nats_length, unhide HL1] at this
        omega
      have : (⟨b, o, none⟩ : Addr).add j = ⟨b, o + j, none⟩ := by
        unfold Addr.add
        split
        · rename_i h0; simp [h0]
        · rfl
      rw [this]
      exact (Ext.cell ((by repeat (first | exact E1 | refine Ext.alloc ?_ _ | refine Ext.drew ?_ | refine Ext.drewN ?_ _ | (refine Ext.trans ?_ (plus_ext _ _)) | (refine Ext.setCell ?_ (by have := Ext.size E1; simp; omega) _))) : Ext w _) hb).trans ((hc j hjn).trans hj)
    case c4 => rw [nats_length, unhide HL1, List.length_replicate]; omega
    case c5 => exact (by repeat (first | exact E1 | refine Ext.alloc ?_ _ | refine Ext.drew ?_ | refine Ext.drewN ?_ _ | (refine Ext.trans ?_ (plus_ext _ _)) | (refine Ext.setCell ?_ (by have := Ext.size E1; simp; omega) _)))
    intro w2 hh E2
    have HM : Hid (Made w2 w.heap.size 3 1 (.slice (some ⟨w1.heap.size, 0, none⟩) n n) n (nats .i64 (Wm.mkL n fun k => if k < 0 then Wm.addF P.p f g k else f.getD k 0))) := hide (by
      rw [Wm.mkL_congr (g := fun k => f.getD k 0) (fun k _ => if_neg (by omega))]
      exact Made.spl (unhide hh) (Ext.size E1) (by rw [unhide HL1]; omega) (by omega))
    have E2 : Ext w w2 := E2
    obtain ⟨g0, hg0⟩ : ∃ g0, g0 = w1.heap.size := ⟨_, rfl⟩
    rw [← hg0] at HM
    have hgw : w.heap.size ≤ g0 := by have := Ext.size E1; omega
    rw [← hg0]
    clear hh hg0 hmk
    go_wp2
    go_loopw [30] (fun i wr => ∃ k : Nat, k ≤ m ∧ i = .int .i64 k ∧ Hid (Made wr w.heap.size 3 1 (.slice (some ⟨g0, 0, none⟩) n n) n (nats .i64 (Wm.mkL n fun j => if j < k then Wm.addF P.p f g j else f.getD j 0))) ∧ Ext w wr) (fun i _ => m - (intOf i).toNat)
    case atStart => exact ⟨0, Nat.zero_le _, rfl, HM, E2⟩
    case round =>
      clear HM E2
      obtain ⟨k, hk, rfl, HM, hext⟩ := hrel
      by_cases hlt : k < m
      · obtain ⟨b, o, rfl, hb, hc⟩ := ((unhide HS).keep hext).row.nat (k := k) hlt
        have hcell := (unhide HM).getq (k := k) (by omega)
        try dsimp only at hcell
        rw [if_neg (by omega)] at hcell
        have hfr := (unhide HM).frozen k
        have HM2 : Hid (Made (wr.setCell ⟨g0, k, none⟩ (.int .i64 ((Wm.addF P.p f g k : Nat) : Int))) w.heap.size 3 1 (.slice (some ⟨g0, 0, none⟩) n n) n (nats .i64 (Wm.mkL n fun j => if j < k + 1 then Wm.addF P.p f g j else f.getD j 0))) := hide ((unhide HM).setq (by omega) _ _ fun j _ => by
          by_cases e : j = k
          · subst e; rw [if_pos rfl, if_pos (by omega)]
          · rw [if_neg e]
            by_cases h' : j < k
            · rw [if_pos h', if_pos (by omega)]
            · rw [if_neg h', if_neg (by omega)])
        have E2 := hext.setCell (p := ⟨g0, k, none⟩) hgw (.int .i64 ((Wm.addF P.p f g k : Nat) : Int))
        have hx := unhide hlf k
        have hy := unhide hlg k
        obtain ⟨z, hz⟩ : ∃ z, z = Wm.addF P.p f g k := ⟨_, rfl⟩
        have hz2 : ((f.getD k 0 : Nat) : Int) + ((g.getD k 0 : Nat) : Int) = ((f.getD k 0 + g.getD k 0 : Nat) : Int) := by omega
        have hz3 : ((f.getD k 0 : Nat) : Int) + ((g.getD k 0 : Nat) : Int) ≤ 2000 := by omega
        have HZ : (((f.getD k 0 : Nat) : Int) + ((g.getD k 0 : Nat) : Int)) % (P.p : Int) = (z : Int) := by rw [hz2, hz]; rfl
        rw [← hz] at HM2 E2
        clear HM hz hz2
        generalize f.getD k 0 = x at *
        generalize g.getD k 0 = y at *
        go_wp2
        go_roundw
        case rel => exact ⟨k + 1, by omega, by go_num, HM2, by first | exact E2 | exact E2.drew | exact E2.drewN _⟩
        case measure => simp [intOf]; omega
      · obtain rfl : m = k := by omega
        have hM2 : Made wr w.heap.size 3 1 (.slice (some ⟨g0, 0, none⟩) n n) n (nats .i64 (Wm.mkL n (Wm.addF P.p f g))) := by
          have h2 := unhide HM
          rwa [Wm.mkL_congr (g := Wm.addF P.p f g) fun j hj => by
            by_cases h' : j < m
            · rw [if_pos h']
            · rw [if_neg h']
              unfold Wm.addF
              rw [Wm.getD_big (l := g) (by have := unhide HL2; omega), Nat.add_zero, Nat.mod_eq_of_lt (unhide hlf j)]] at h2
        have CT := hide (Trim_ok (some ⟨g0, 0, none⟩) n n _ wr hM2.pvq (by omega))
        rw [← unhide HA] at CT
        clear hM2 HM
        go_wp2_with fail
        refine (unhide CT).mono ?_
        rintro e w3 ⟨⟨v, rfl, hM⟩, E3⟩
        have HM3 := hide (hM.mono (Ext.size hext))
        clear hM
        go_wp2
        go_ret2
        exact ⟨⟨_, rfl, unhide HM3⟩, Ext.trans hext E3⟩

end Go.Proofs.Ytkfdimofkkckeaa
