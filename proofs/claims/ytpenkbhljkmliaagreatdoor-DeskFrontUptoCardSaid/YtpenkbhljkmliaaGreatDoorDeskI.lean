import Derived.Test.YtpenkbhljkmliaaGreatDoorTri
import Derived.Defers
import Derived.Test.YtpenkbhljkmliaaGreatDoorDeskF
import Derived.Test.YtpenkbhljkmliaaGreatDoorShelfF13
import Derived.Recover
/-
  A region that draws its order, in two parts: operations that only read, and operations that have one order alone (or are moves and parts of tuples); the post of a panic may hang on the slots that the region does not write.
-/
set_option linter.unusedVariables false
set_option linter.unusedSimpArgs false
namespace Go.Proofs.YtpenkbhljkmliaaGreatDoor
open Go.RowKit

def isPlain (ops : Array Oper) (i : Nat) : Bool := match ops[i]? with
  | some o => (match o.op with | .move _ => true | .assign _ => true | .extract _ _ => true | _ => false)
  | none => false
theorem plain_runs {P : Program} {ops : Array Oper} {o : Oper} {i : Nat} (a : Act) (h0 : ops[i]? = some o) (hm : isPlain ops i = true) :
    (∃ v, execOp a.eval o = pure (.value v)) ∨ ∀ w, (∀ K Q, ¬ o.wp P a w K Q) ∧ ¬ o.asks P a w := by
  unfold isPlain at hm
  simp only [h0] at hm
  split at hm
  · rename_i x hx; exact .inl ⟨a.eval x, by simp [execOp, hx]⟩
  · rename_i x hx; exact .inl ⟨a.eval x, by simp [execOp, hx]⟩
  · rename_i x ix hx
    have he : execOp a.eval o = (do pure (.value (← Instr.extract (a.eval x) ix))) := by simp [execOp, hx]
    cases hv : a.eval x with
    | tuple vs =>
      cases hi : vs[ix]? with
      | some v =>
        left
        refine ⟨v, ?_⟩
        rw [he, hv]
        simp only [Instr.extract, hi]
        rfl
      | none =>
        right
        intro w
        have hst : execOp a.eval o = stuck "Extract: no such component" := by
          rw [he, hv]
          simp only [Instr.extract, hi]
          rfl
        refine ⟨fun K Q h => ?_, fun h => ?_⟩
        · unfold Oper.wp at h
          rw [hst] at h
          exact h
        · have h1 := h.1
          rw [hst] at h1
          simp [stuck, Sem.runT, Sem.events] at h1
    | _ =>
      right
      intro w
      have hst : execOp a.eval o = stuck "Extract: tuple expected" := by
        rw [he, hv]
        rfl
      refine ⟨fun K Q h => ?_, fun h => ?_⟩
      · unfold Oper.wp at h
        rw [hst] at h
        exact h
      · have h1 := h.1
        rw [hst] at h1
        simp [stuck, Sem.runT, Sem.events] at h1
  · simp at hm

section
variable {P : Program} {ops : Array Oper} {md : Region.Mode} {C : World → Prop}
def forcedD (md : Region.Mode) (ops : Array Oper) : Nat → Nat → Array Bool → Bool
  | 0, _, _ => true
  | h + 1, i, listed => (Region.ready md ops listed == [i] || (isPlain ops i && (Region.ready md ops listed).contains i && Region.free md ops listed i)) && forcedD md ops h (i + 1) (listed.setIfInBounds i true)

theorem forced_any4 {Q : Exit → Act → World → Prop} {K : Act → World → Prop} (hs : Region.noSelect ops = true) (hQ : ∀ (c : List PanicEntry) (a : Act) (o : Oper) (v : Value) (w : World), o ∈ ops.toList → Q (.panic c) (a.put o.dst v) w → Q (.panic c) a w)
    (n e n' : Nat) (hK : ∀ a w, K a w → wpAny P md ops Q n' (LA n e) a w) : ∀ (l : List Oper) (i : Nat) (a : Act) (w : World),
    i + l.length = e → (∀ j, j < l.length → l[j]? = ops[i + j]?) → forcedD md ops l.length i (LA n i) = true → wpList P ops (HeadPost Q K) l a w → wpAny P md ops Q (l.length + n') (LA n i) a w
  | [], i, a, w, he, _, _, h => by
    have h' : K a w := h
    simp only [List.length_nil, Nat.zero_add, Nat.add_zero] at he ⊢
    rw [he]
    exact hK _ _ h'
  | o :: l, i, a, w, he, hl, hB, h => by
    have h0 : ops[i]? = some o := by simpa using (hl 0 (by simp)).symm
    simp only [List.length_cons, forcedD, Bool.and_eq_true, Bool.or_eq_true, beq_iff_eq] at hB
    obtain ⟨hr, hB'⟩ := hB
    have hmem : o ∈ ops.toList := by
      obtain ⟨hlt, he⟩ := Array.getElem?_eq_some_iff.1 h0
      rw [← he]
      exact Array.mem_toList_iff.2 (Array.getElem_mem hlt)
    have hnext : ∀ a w, wpList P ops (HeadPost Q K) l a w → wpAny P md ops Q (l.length + n') ((LA n i).setIfInBounds i true) a w := fun a w =>
      forced_any4 hs hQ n e n' hK l (i + 1) a w (by simp only [List.length_cons] at he; omega) (fun j hj => by have := hl (j + 1) (by simpa using hj); simpa [Nat.add_assoc, Nat.add_comm 1 j] using this) hB'
    rw [show (o :: l).length + n' = (l.length + n') + 1 by simp; omega]
    rcases hr with hr | ⟨⟨hmv, hrc⟩, hfr⟩
    case inr =>
      simp only [wpList] at h
      by_cases hw : Region.wanted o (yielded ops a.tmps) = true
      · simp only [hw, if_true] at h
        rcases plain_runs (P := P) a h0 hmv with ⟨v, hv⟩ | hbad
        case inr =>
          exfalso
          rcases h with h | ⟨h1, h2⟩
          · exact (hbad w).1 _ _ h
          · exact (hbad w).2 h1
        have hrun : ∀ w, (execOp a.eval o).run P w = .ok (.value v) w := fun w => by rw [hv]; rfl
        have hk : wpList P ops (HeadPost Q K) l (a.put o.dst v) w := by
          rcases h with h | ⟨h1, h2⟩
          · unfold Oper.wp at h
            rw [hrun w] at h
            exact h
          · exact absurd h1.1 (by rw [hv]; simp [Sem.runT, pure, Sem.events])
        exact wpAny_first h0 (Region.noSelect_spec hs) (fun c a w => hQ c a o _ w hmem) _ _ _ _ (Region.free_spec h0 hfr) (by simpa using hrc) (.inl ⟨hw, hrun⟩) (hnext _ _ hk)
      · have hw' : Region.wanted o (yielded ops a.tmps) = false := by simpa using hw
        simp only [hw'] at h
        exact wpAny_first h0 (Region.noSelect_spec hs) (fun c a w => hQ c a o _ w hmem) _ _ _ _ (Region.free_spec h0 hfr) (by simpa using hrc) (.inr ⟨hw', rfl⟩) (hnext _ _ h)
    refine wpAny_all hr (by simp) fun j hj => ?_
    obtain rfl : j = i := by simpa using hj
    unfold wpOp
    simp only [h0]
    simp only [wpList] at h
    split
    · rename_i hw
      simp only [hw, if_true] at h
      rcases h with h | ⟨h1, h2⟩
      · exact .inl (Oper.wp_mono hnext (head_wp h))
      · exact .inr ⟨h1, h2⟩
    · rename_i hw
      simp only [hw] at h
      exact hnext _ _ h

def triD (ops : Array Oper) (k m : Nat) : Bool :=
  Region.noSelect ops && decide (k ≤ m) && decide (m ≤ ops.size) && forcedD .any ops k 0 (LA ops.size 0) && lexR .any ops m (m - k) k (LA ops.size k) && lateB .any ops m && closedB .any ops (LA ops.size k) && forcedD .any ops (ops.size - m) m (LA ops.size m) && (Region.ready .any ops (LA ops.size ops.size)).isEmpty

theorem wp_region_tri4 {id : Nat} {Q : Exit → Act → World → Prop} {a : Act} {w : World} (k m : Nat) (CC : World → World → Prop) (hC : ∀ w, CC w w) {l : List Oper}
    (hQ : ∀ (c : List PanicEntry) (a : Act) (o : Oper) (v : Value) (w : World), o ∈ l → Q (.panic c) (a.put o.dst v) w → Q (.panic c) a w) (hm : P.follows .mixedOrders = true) (hB : triD l.toArray k m = true)
    (h : wpList P l.toArray (HeadPost Q fun a1 w1 => wpQuiet P l.toArray (CC w1) (fun a2 => ∀ w2, CC w1 w2 → wpList P l.toArray Q (l.drop m) a2 w2) ((l.take m).drop k) a1) (l.take k) a w.drew) :
    (Code.region id l.toArray true).wp P Q a w := by
  simp only [triD, Bool.and_eq_true, decide_eq_true_eq, List.size_toArray, List.isEmpty_iff] at hB
  obtain ⟨⟨⟨⟨⟨⟨⟨⟨hs, hkm⟩, hml⟩, hF1⟩, hL⟩, hlate⟩, hcl⟩, hF2⟩, hend⟩ := hB
  refine wp_region_any hm ?_
  have h1 : (l.take k).length = k := by rw [List.length_take]; omega
  have h2 : ((l.take m).drop k).length = m - k := by rw [List.length_drop, List.length_take]; omega
  have h3 : (l.drop m).length = l.length - m := List.length_drop
  have step3 : ∀ a w, wpList P l.toArray Q (l.drop m) a w → wpAny P .any l.toArray Q (l.length - m + 0) (LA l.length m) a w := fun a w hh => by
    have := forced_any4 (P := P) (ops := l.toArray) (md := .any) (Q := Q) (K := fun a3 w3 => Q .normal a3 w3) hs (by simpa using hQ) l.length l.length 0 (fun a w hq => ⟨hend, hq⟩) (l.drop m) m a w (by rw [h3]; omega)
      (fun j _ => by simp) (by rw [h3]; exact hF2) (by rw [headPost_self]; exact hh)
    rwa [h3] at this
  have step2 : ∀ a1 w1, wpQuiet P l.toArray (CC w1) (fun a2 => ∀ w2, CC w1 w2 → wpList P l.toArray Q (l.drop m) a2 w2) ((l.take m).drop k) a1 →
      wpAny P .any l.toArray Q ((m - k) + (l.length - m + 0)) (LA l.length k) a1 w1 := fun a1 w1 hh => by
    have hr := wpAnyR_lex (P := P) (ops := l.toArray) (md := .any) (C := CC w1) hs (m := m) (n := l.length) ((l.take m).drop k) k a1
      (fun j hj => by rw [h2] at hj; simp [List.getElem?_take_of_lt (show k + j < m by omega)]) (by rw [h2]; exact hL) hh
    rw [h2] at hr
    refine wpAny_of_R (by exact hlate) _ (fun L a w hw hq => ?_) _ _ _ _ (hC w1) (fun j hj => by have := LA_inv _ _ _ hj; omega) (closed_of hcl) hr
    obtain ⟨rfl, hq⟩ := hq
    rw [show k + (m - k) = m by omega]
    exact step3 a w (hq w hw)
  have := forced_any4 (P := P) (ops := l.toArray) (md := .any) (Q := Q) hs (by simpa using hQ) l.length k ((m - k) + (l.length - m + 0)) step2 (l.take k) 0 a w.drew (by rw [h1]; omega)
    (fun j hj => by rw [h1] at hj; simp [List.getElem?_take_of_lt hj]) (by rw [h1]; exact hF1) h
  rw [h1, show k + (m - k + (l.length - m + 0)) = l.length by omega] at this
  simpa [LA] using this
theorem wp_region_tail4 {id : Nat} {Q : Exit → Act → World → Prop} {a : Act} {w : World} (m : Nat) (CC : World → World → Prop) (hC : ∀ w, CC w w) {l : List Oper}
    (hQ : ∀ (c : List PanicEntry) (a : Act) (o : Oper) (v : Value) (w : World), o ∈ l → Q (.panic c) (a.put o.dst v) w → Q (.panic c) a w) (hm : P.follows .mixedOrders = true) (hB : triD l.toArray 0 m = true)
    (h : wpQuiet P l.toArray (CC w.drew) (fun a2 => ∀ w2, CC w.drew w2 → wpList P l.toArray Q (l.drop m) a2 w2) (l.take m) a) :
    (Code.region id l.toArray true).wp P Q a w :=
  wp_region_tri4 0 m CC hC hQ hm hB h
end

/-! ### Calls that are deferred: what is left does not hang on other slots than the results -/
theorem leaves_eq {P : Program} {fn : Func} {t1 t2 : Array Value} {R : Ending → World → Prop} (h : results fn t1 = results fn t2) : ∀ (ds : List Deferred) (u : FrameMode) (w : World), Leaves P fn t1 R ds u w = Leaves P fn t2 R ds u w := by
  intro ds
  induction ds with
  | nil =>
    intro u w
    cases u <;> simp only [Leaves, h]
  | cons d ds ih =>
    intro u w
    simp only [Leaves, ih]
end Go.Proofs.YtpenkbhljkmliaaGreatDoor

/-
  The closures of (*desk).line: what parts words, and what catches a failure.
-/
set_option linter.unusedVariables false
set_option linter.unusedSimpArgs false
namespace Go.Proofs.YtpenkbhljkmliaaGreatDoor
open Go.RowKit Go.BigFrame

theorem errB_size (er : Int) (h0 : -9223372036854775808 ≤ er) (h1 : er ≤ 9223372036854775807) : (itoaB er).size ≤ 20 := by
  have := Wm.itoa_len h0 h1
  unfold itoaB
  show (List.toArray _).size ≤ 20
  simpa using this

set_option maxRecDepth 100000 in
set_option maxHeartbeats 1000000 in
theorem catch_fail (p : Nat) (u0 : ByteArray) (er : Int) (h0 : -9223372036854775808 ≤ er) (h1 : er ≤ 9223372036854775807) (older : List PanicEntry) (w : World) (hc : w.cell? ⟨p, 0, none⟩ = some (.string u0)) (hz : w.frozen? ⟨p, 0, none⟩ = false) (HT : PowIs w) :
    CallsD Tryz.prog 17 #[.pointer (some ⟨p, 0, none⟩)] (.panicking ({ v := .iface 48 (.agg #[.int .i64 er]), recovered := false } :: older)) w fun e u' w' =>
      e = .returned (.tuple #[]) ∧ u' = .panicking ({ v := .iface 48 (.agg #[.int .i64 er]), recovered := true } :: older) ∧ ∃ w1, Ext w w1 ∧ w' = w1.setCell ⟨p, 0, none⟩ (.string (errB er)) := by
  have CI := hide (fun W (T : PowIs W) => itoa_D er h0 h1 W T)
  have HTT := hide HT
  have hsz := errB_size er h0 h1
  have hEB : errB er = ⟨#[101, 114, 114, 111, 114, 32]⟩ ++ itoaB er := rfl
  rw [hEB]
  obtain ⟨ti, hti⟩ : ∃ ti, ti = itoaB er := ⟨_, rfl⟩
  rw [← hti] at CI hsz ⊢
  have n1 : ¬ 9223372036854775807 < ({ data := #[101, 114, 114, 111, 114, 32] } : ByteArray).size + ti.size := by show ¬ 9223372036854775807 < 6 + ti.size; omega
  clear hEB hti HT
  refine callsD_of_wpS Tryz.func17 rfl fun c₀ cs hu => ?_
  apply wpS_seq
  apply wpS_region
  simp [wpOpsS, go_sem, recoverD, hu, Tryz.ntmps17, Exit.thenS]
  refine wpS_of_wp ?_
  have hb : p < w.heap.size := cell_lt hc
  have hta : ∀ w, (Instr.typeAssert (.iface 48 (.agg #[.int .i64 er])) 20 48 true).run Tryz.prog w = .ok (.tuple #[.agg #[.int .i64 er], .bool true]) w := fun w => by kernel_rfl
  have hne : ∀ w, (binOp .neq 20 (.iface 48 (.agg #[.int .i64 er])) .nilIface).run Tryz.prog w = .ok (.bool true) w := fun w => by kernel_rfl
  refine Code.wp_mono (Q := fun e a' w' => e = .normal ∧ a'.defers = [] ∧ ∃ w1, Ext w w1 ∧ w' = w1.setCell ⟨p, 0, none⟩ (.string (⟨#[101, 114, 114, 111, 114, 32]⟩ ++ ti))) ?_ ?_
  · rintro e a' w' ⟨rfl, hd, w1, hE, rfl⟩
    simp [bodyPostS, results, Tryz.results17, hd]
    exact ⟨w1, hE, rfl⟩
  have hT : (#[Value.pointer (some ⟨p, 0, none⟩)] ++ ((Array.replicate 18 undef).setIfInBounds 3 (.iface 48 (.agg #[.int .i64 er]))).setIfInBounds 0 (.iface 48 (.agg #[.int .i64 er])) : Array Value) =
      #[.pointer (some ⟨p, 0, none⟩), .iface 48 (.agg #[.int .i64 er]), undef, undef, .iface 48 (.agg #[.int .i64 er]), undef, undef, undef, undef, undef, undef, undef, undef, undef, undef, undef, undef, undef, undef] := rfl
  rw [hT]
  clear hu hT
  go_wp2_with fail
  refine (unhide CI _ (tab_ext (unhide HTT) ((Ext.refl _).alloc _))).mono ?_
  rintro e w3 ⟨rfl, E3⟩
  have E13 := ((Ext.refl w).alloc _).trans E3
  have hc3 := E13.keep hc
  have hz3 : w3.frozen? ⟨p, 0, none⟩ = false := (E13.frozen (p := ⟨p, 0, none⟩) hb).trans hz
  have HE := hide E13
  clear E13 E3
  go_wp2
  exact ⟨w3, unhide HE, rfl⟩

theorem catch_idle (p : Addr) (w : World) :
    CallsD Tryz.prog 17 #[.pointer (some p)] .returning w fun e u' w' => e = .returned (.tuple #[]) ∧ u' = .returning ∧ w' = w := by
  refine callsD_of_wpS Tryz.func17 rfl fun c₀ cs hu => ?_
  apply wpS_seq
  apply wpS_region
  simp [wpOpsS, go_sem, recoverD, hu, Tryz.ntmps17, Exit.thenS]
  apply wpS_seq
  apply wpS_region
  simp [wpOpsS, go_sem, Exit.thenS]
  refine wpS_cond (t := false) (by simp [Act.eval, Array.replicate]) ?_
  simp only [Bool.false_eq_true, if_false]
  refine wpS_of_wp (wp_skip ?_)
  cases c₀
  simp_all [bodyPostS, results, Tryz.results17]

set_option maxRecDepth 100000 in
theorem sp_pred (W : World) (x : Nat) : Calls Tryz.prog 20 #[.int .i32 (x : Int)] W fun e w' => e = .returned (.bool (x == 32)) ∧ ∃ q, w' = W.drewN q := by
  go_enter Tryz.func20, Tryz.ntmps20
  go_wp2
  go_ret
  exact ⟨ret_boolv (by rw [Bool.eq_iff_iff, beq_iff_eq, beq_iff_eq]; omega), 0, rfl⟩
end Go.Proofs.YtpenkbhljkmliaaGreatDoor

/-
  The contract of (*desk).line: its tools, and the line without a word.
-/
set_option linter.unusedVariables false
set_option linter.unusedSimpArgs false
namespace Go.Proofs.YtpenkbhljkmliaaGreatDoor
open Go.RowKit Go.BigFrame

/-! ### Errors are small numbers -/
def SmE (e : Int) : Prop := 0 ≤ e ∧ e ≤ 12
section
variable {σ : Sto}
theorem splitE_sm (σ : Sto) (s : ByteArray) : SmE (σ.splitE s) := by unfold Sto.splitE SmE; split <;> (try split) <;> (try split) <;> omega
theorem tornE_sm (σ : Sto) (k : Nat) (n : Int) (s : ByteArray) : SmE (σ.tornE k n s) := by
  unfold Sto.tornE
  split
  · exact splitE_sm σ s
  · split
    · unfold SmE; omega
    · split <;> (unfold SmE; omega)
theorem readE_sm (σ : Sto) (k : Nat) : SmE (σ.readE k) := by unfold Sto.readE SmE; split <;> (try split) <;> omega
theorem err_sm (σ : Sto) (kind key n : Int) (s : ByteArray) : SmE (σ.doS kind key n s).1.err := by
  have z : SmE 0 := by unfold SmE; omega
  have o : SmE 1 := by unfold SmE; omega
  have f : SmE 4 := by unfold SmE; omega
  unfold Sto.doS
  split
  · exact o
  · split
    · unfold Sto.putS; split
      · exact splitE_sm _ _
      · exact z
    · split
      · unfold Sto.tornS; split
        · exact tornE_sm _ _ _ _
        · exact z
      · split
        · unfold Sto.getS; split
          · exact readE_sm _ _
          · exact z
        · split
          · unfold Sto.scrubS; split
            · exact readE_sm _ _
            · exact z
          · unfold Sto.atS
            split
            · exact o
            · split
              · exact z
              · split
                · exact z
                · split
                  · exact z
                  · split
                    · exact f
                    · exact z
theorem qErr_sm (n k x y : Int) : SmE (qErr n k x y) := by unfold qErr SmE; split <;> (try split) <;> omega
end
/-- The error of what comes out, if any, is a small number. -/
def SmR (r : Except Int ByteArray × Sto) : Prop := ∀ e, r.1 = .error e → SmE e
theorem smR_with {σ : Sto} {ws : List ByteArray} {f : List Bool} {k : List Nat → ByteArray → Except Int ByteArray × Sto} (hk : ∀ ns x, SmR (k ns x)) : SmR (withT σ (formT ws f) k) := by
  cases h : formT ws f with
  | error e =>
    intro e' he
    have : e = e' := by simpa [withT] using he
    rw [← this, formT_err h]
    unfold SmE; omega
  | ok r => exact hk r.1 r.2
theorem smR_ans (σ : Sto) (kind key n : Int) (s : ByteArray) (f : Ans → ByteArray) : SmR (ansT (σ.doS kind key n s) f) := by
  intro e he
  unfold ansT at he
  by_cases h : (σ.doS kind key n s).1.err = 0
  · simp [h] at he
  · have : (σ.doS kind key n s).1.err = e := by simpa [h] using he
    rw [← this]; exact err_sm σ kind key n s
theorem smR_stored {σ : Sto} {cmd : ByteArray} {ws : List ByteArray} {r : Except Int ByteArray × Sto} (h : storedT qErr σ cmd ws = some r) : SmR r := by
  unfold storedT at h
  split at h
  · obtain rfl := Option.some.inj h
    exact smR_with fun ns x => smR_ans _ _ _ _ _ _
  split at h
  · obtain rfl := Option.some.inj h
    exact smR_with fun ns x => smR_ans _ _ _ _ _ _
  split at h
  · obtain rfl := Option.some.inj h
    exact smR_with fun ns x => smR_ans _ _ _ _ _ _
  split at h
  · obtain rfl := Option.some.inj h
    exact smR_with fun ns x => smR_ans _ _ _ _ _ _
  split at h
  · obtain rfl := Option.some.inj h
    exact smR_with fun ns x => smR_ans _ _ _ _ _ _
  split at h
  · obtain rfl := Option.some.inj h
    exact smR_with fun ns x => smR_ans _ _ _ _ _ _
  split at h
  · obtain rfl := Option.some.inj h
    exact smR_with fun ns x => smR_ans _ _ _ _ _ _
  split at h
  · obtain rfl := Option.some.inj h
    exact smR_with fun ns x => smR_ans _ _ _ _ _ _
  split at h
  · obtain rfl := Option.some.inj h
    refine smR_with fun ns x => ?_
    split
    · intro e he; cases he
    · intro e he
      have : qErr (ns.getD 0 0 : Nat) (ns.getD 1 0 : Nat) (ns.getD 2 0 : Nat) (ns.getD 3 0 : Nat) = e := by simpa using he
      rw [← this]; exact qErr_sm _ _ _ _
  · cases h
theorem rootV_sm (a p : Nat) : SmE (rootV a p).2 := by
  unfold rootV SmE
  by_cases h : Wm.Prime p ∧ p ≤ 1000000
  · rw [if_pos h]
    cases rootF a p with
    | none => show (0 : Int) ≤ 4 ∧ (4 : Int) ≤ 12; omega
    | some x => show (0 : Int) ≤ 0 ∧ (0 : Int) ≤ 12; omega
  · rw [if_neg h]
    show (0 : Int) ≤ 1 ∧ (1 : Int) ≤ 12; omega
theorem sm_comp {cmd : ByteArray} {ws : List ByteArray} {e : Int} (h : compT cmd ws = .error e) : SmE e := by
  have s12 : SmE 12 := by unfold SmE; omega
  have s1 : SmE 1 := by unfold SmE; omega
  have s4 : SmE 4 := by unfold SmE; omega
  have bd : ∀ (f : List Bool) (k : List Nat × ByteArray → Except Int ByteArray), (∀ r e, k r = .error e → SmE e) → (formT ws f).bind k = .error e → SmE e := fun f k hk hb => by
    cases hf : formT ws f with
    | error e' =>
      rw [hf] at hb
      have : e' = e := by simpa [Except.bind] using hb
      rw [← this, formT_err hf]; exact s12
    | ok r => rw [hf] at hb; exact hk r e hb
  unfold compT at h
  split at h
  · exact bd _ _ (fun r e h => by cases h) h
  split at h
  · exact bd _ _ (fun r e h => by
      split at h
      · have : (1 : Int) = e := by simpa using h
        rw [← this]; exact s1
      · cases h) h
  split at h
  · exact bd _ _ (fun r e h => by
      rw [(rootV_T _ _).1] at h
      have hs := rootV_sm (r.1.getD 0 0) (r.1.getD 1 0)
      generalize rootV (r.1.getD 0 0) (r.1.getD 1 0) = V at *
      by_cases hv : V.2 = 0
      · rw [if_pos hv] at h
        cases h
      · rw [if_neg hv] at h
        have h : V.2 = e := by simpa using h
        rw [← h]; exact hs) h
  split at h
  · exact bd _ _ (fun r e h => by
      split at h
      · have : (1 : Int) = e := by simpa using h
        rw [← this]; exact s1
      · cases h) h
  · have : (12 : Int) = e := by simpa using h
    rw [← this]; exact s12

/-! ### The variable that the result lies in -/
theorem line_hQ {R : Ending → World → Prop} {l : List Oper} (hl : (l.all fun o => o.dst != some 4) = true) (c : List PanicEntry) (a : Act) (o : Oper) (v : Value) (w : World) (ho : o ∈ l)
    (h : bodyPostD Tryz.prog Tryz.f12 R (.panic c) (a.put o.dst v) w) : bodyPostD Tryz.prog Tryz.f12 R (.panic c) a w := by
  have hd : o.dst ≠ some 4 := by
    have := List.all_eq_true.1 hl o ho
    simpa using this
  have ht : (a.put o.dst v).tmps[4]?.getD undef = a.tmps[4]?.getD undef := by
    cases hdd : o.dst with
    | none => rfl
    | some d =>
      have hne : d ≠ 4 := fun e => hd (by rw [hdd, e])
      show (a.tmps.setIfInBounds d v)[4]?.getD undef = _
      rw [Array.getElem?_setIfInBounds_ne hne]
  have hr : results Tryz.f12 (a.put o.dst v).tmps = results Tryz.f12 a.tmps := by
    simp only [results, Tryz.results12]
    simp [ht]
  have hdf : (a.put o.dst v).defers = a.defers := by cases o.dst <;> rfl
  have h : Leaves Tryz.prog Tryz.f12 (a.put o.dst v).tmps R (a.put o.dst v).defers (.panicking c) w := h
  rw [leaves_eq hr, hdf] at h
  exact h

section
variable {w w2 w3 w4 : World} {q : Nat} {σ τ : Sto} {X : Nat → Prop} {o : Obj}
/-- The blocks X and the result's variable. -/
def X1 (X : Nat → Prop) (w : World) (x : Nat) : Prop := X x ∨ (w.heap.size ≤ x ∧ x < w.heap.size + 1)
theorem X1.dk (D : Dk w q σ X) (o : Obj) : Dk (w.alloc o) q σ (X1 X w) := (D.grow ((Ext.refl w).alloc o)).less fun x h => by
  rcases h with h | h
  · exact .inl h
  · exact .inr (by simpa using h)
theorem X1.cell (cs : Array Value) (T : TypeId) (E : Ext (w.alloc (.cells cs T)) w2) (K : Kx (X1 X w) w2 w3) {u : Value} (hu : cs[0]? = some u) : w3.cell? ⟨w.heap.size, 0, none⟩ = some u ∧ w3.frozen? ⟨w.heap.size, 0, none⟩ = false := by
  have h1 := E.keep ((new_cell w cs T 0).trans hu)
  have hlt : w.heap.size < (w.alloc (.cells cs T)).heap.size := by simp
  have f1 : w2.frozen? ⟨w.heap.size, 0, none⟩ = false := (E.frozen (p := ⟨w.heap.size, 0, none⟩) hlt).trans (new_frozen w cs T 0)
  have hb := K.block (k := w.heap.size) (Nat.lt_of_lt_of_le hlt E.size) (.inr ⟨Nat.le_refl _, by omega⟩)
  exact ⟨(World.cell?_of_block (a := ⟨w.heap.size, 0, none⟩) hb).trans h1, (World.frozen?_of_block (a := ⟨w.heap.size, 0, none⟩) hb).trans f1⟩
theorem X1.fin (hX : ∀ x, X x → x < w.heap.size) (E : Ext (w.alloc o) w2) (K : Kx (X1 X w) w2 w3) (D : Dk w3 q τ (X1 X w)) (E4 : Ext w3 w4) (u : Value) :
    Dk (w4.setCell ⟨w.heap.size, 0, none⟩ u) q τ X ∧ Kx X w (w4.setCell ⟨w.heap.size, 0, none⟩ u) := by
  have hO : Only (fun x => x = w.heap.size) w4 (w4.setCell ⟨w.heap.size, 0, none⟩ u) := Only.set (F := fun x => x = w.heap.size) (w := w4) (a := ⟨w.heap.size, 0, none⟩) Only.refl (.inl rfl) _
  refine ⟨((D.keep E4).turn hO fun x h => .inr ⟨(by have h2 : x = w.heap.size := h; omega), (by have h2 : x = w.heap.size := h; omega)⟩).less fun x h => .inl (.inl h), ?_⟩
  have h1 : Kx X w w4 := (Kx.of_ext (((Ext.refl w).alloc o).trans E)).trans ((K.less fun x h => .inl h).trans (Kx.of_ext E4))
  exact Only.set (w := w) (a := ⟨w.heap.size, 0, none⟩) h1 (.inr (Nat.le_refl _)) _
end
theorem Dk.below {w : World} {q : Nat} {σ : Sto} {X : Nat → Prop} (D : Dk w q σ X) : ∀ x, X x → x < w.heap.size := by
  obtain ⟨b0, p, g, v, S, cq, fq, nX, hx⟩ := D
  exact fun x h => (hx x (.inl h)).2

/-- What a line answers. -/
def LinePost (r : ByteArray × Sto) (q : Nat) (X : Nat → Prop) (w : World) (e : Ending) (w' : World) : Prop := e = .returned (.string r.1) ∧ Dk w' q r.2 X ∧ Kx X w w'
theorem fields_ok (s : ByteArray) (hs : s.size ≤ 4096) (w : World) : Calls Tryz.prog 19 #[.string s, .func (.func 20) #[] #[]] w fun e w' =>
    (∃ A, e = .returned (.slice (some ⟨A, 0, none⟩) (Lib.goFieldsP (fun c => c == 32) s).length (Lib.goFieldsP (fun c => c == 32) s).length) ∧ Row w' (some ⟨A, 0, none⟩) (Lib.goFieldsP (fun c => c == 32) s).length 1 (strs (Lib.goFieldsP (fun c => c == 32) s))) ∧ Ext w w' :=
  (Tryz.strings_FieldsFunc 20 #[] (enters_of Tryz.func20 (by kernel_rfl) rfl) (fun c => c == 32) s w (by omega) (fun W x _ => sp_pred W x)).mono fun e w' ⟨A, he, _, ho, hE⟩ => by
    obtain ⟨A', c', hv, hR, -, -, -⟩ := row_of_own ho
    injection hv with h1 h2 h3
    subst h1
    exact ⟨⟨A, he, hR⟩, hE⟩

set_option maxRecDepth 100000 in
set_option maxHeartbeats 1000000 in
theorem line_no (w : World) (q : Nat) (σ : Sto) (X : Nat → Prop) (W0 : World) (D : Dk w q σ X) (HT : PowIs W0) (E0 : Ext W0 w) (s : ByteArray) (hs : s.size ≤ 4096) (hL : Lib.goFieldsP (fun c => c == 32) s = []) :
    Calls Tryz.prog 12 #[.pointer (some ⟨q, 0, none⟩), .string s] w (LinePost (errB 12, σ) q X w) := by
  have CF := hide (fun W => fields_ok s hs W)
  rw [hL] at CF
  have hX := D.below
  have HD := hide (X1.dk D (.cells #[.string ⟨#[]⟩] 9))
  have HTX := hide (show ∀ W, Ext w W → PowIs W from fun W E => tab_ext HT (E0.trans E))
  have hmf : ∀ (fn : Fn) (first cap : Array Value) (w : World), (Instr.makeFunc fn first cap).run Tryz.prog w = .ok (.func fn first cap) w := fun _ _ _ _ => rfl
  have HX := hide hX
  clear D hX HT E0 hL
  go_enter_defers Tryz.func12, Tryz.ntmps12
  go_wp2_with fail
  refine (unhide CF _).mono ?_
  rintro e w2 ⟨⟨A, rfl, R2⟩, E2⟩
  have HE2 := hide E2
  have HC := hide (X1.cell (X := X) _ _ E2 Kx.refl (u := .string ⟨#[]⟩) rfl)
  clear R2 E2
  go_wp2
  obtain ⟨hc, hz⟩ := unhide HC
  refine leaves_cons (f := 17) (args := #[.pointer (some ⟨w.heap.size, 0, none⟩)]) (by simp) (by simp [go_sem]) ?_
  refine (catch_fail w.heap.size _ 12 (by omega) (by omega) [] _ hc hz (unhide HTX _ (((Ext.refl w).alloc _).trans (unhide HE2)))).mono ?_
  rintro e u' w'' ⟨rfl, rfl, w4, E4, rfl⟩
  obtain ⟨hD, hK⟩ := X1.fin (unhide HX) (unhide HE2) Kx.refl ((unhide HD).keep (unhide HE2)) E4 (.string (errB 12))
  have hc4 := E4.keep hc
  simp [Leaves, settle, results, Tryz.results12, go_sem, World.cell?_setCell_same', hc4]
  exact ⟨rfl, hD, hK⟩
end Go.Proofs.YtpenkbhljkmliaaGreatDoor

/-
  The contract of (*desk).line.
-/
set_option linter.unusedVariables false
set_option linter.unusedSimpArgs false
namespace Go.Proofs.YtpenkbhljkmliaaGreatDoor
open Go.RowKit Go.BigFrame

theorem row_if {W : World} {A n : Nat} {ws : List ByteArray} (h : Row W (some ⟨A, 1, none⟩) (n - 1) 1 (strs ws)) : Row W (if n = 1 then some ⟨A, 0, none⟩ else some ⟨A, 1, none⟩) (n - 1) 1 (strs ws) := by
  by_cases hn : n = 1
  · rw [if_pos hn]
    exact ⟨h.1, fun h0 => by omega⟩
  · rw [if_neg hn]; exact h
set_option maxRecDepth 100000 in
set_option maxHeartbeats 2000000 in
theorem line_ok (w : World) (q : Nat) (σ : Sto) (X : Nat → Prop) (W0 : World) (D : Dk w q σ X) (O : ∃ H, Sto.Ok σ H) (HT : PowIs W0) (E0 : Ext W0 w) (hXW : ∀ x, x < W0.heap.size → X x) (s : ByteArray) (hs : s.size ≤ 4096) (cmd : ByteArray) (ws : List ByteArray)
    (hL : Lib.goFieldsP (fun c => c == 32) s = cmd :: ws) (hlen : ws.length ≤ 4096) (hws : ∀ y ∈ ws, y.size ≤ 4611686018427387904) (b : ByteArray) (τ : Sto) (hst : storedT qErr σ cmd ws = some (.ok b, τ)) :
    Calls Tryz.prog 12 #[.pointer (some ⟨q, 0, none⟩), .string s] w (LinePost (b, τ) q X w) := by
  have CF := hide (fun W => fields_ok s hs W)
  rw [hL] at CF
  have HX := hide D.below
  have HD := hide (X1.dk D (.cells #[.string ⟨#[]⟩] 9))
  have HTX := hide (show ∀ W, Ext w W → PowIs W from fun W E => tab_ext HT (E0.trans E))
  obtain ⟨n, hn⟩ : ∃ n, n = (cmd :: ws).length := ⟨_, rfl⟩
  have hn1 : n - 1 = ws.length := by rw [hn]; rfl
  have CS := hide (show ∀ (W : World) (A : Option Addr) (m c : Nat), Ext (w.alloc (.cells #[.string ⟨#[]⟩] 9)) W → Row W A m 1 (strs ws) → Calls Tryz.prog 21 #[.pointer (some ⟨q, 0, none⟩), .string cmd, .slice A m c] W fun e w' => StoredR (storedT qErr σ cmd ws) q σ (X1 X w) W e w' from fun W A m c E R =>
    stored_any A m c ws W q σ (X1 X w) W0 cmd R (by have := R.strN; omega) hws ((unhide HD).keep E) O HT (E0.trans (((Ext.refl w).alloc _).trans E)) (fun x hx => .inl (hXW x hx)))
  have CS := hide (fun W A m c E R => (unhide CS W A m c E R).mono (R' := fun e w' => e = .returned (.tuple #[.string b, .bool true]) ∧ Dk w' q τ (X1 X w) ∧ Kx (X1 X w) W w') fun e w' h => by
    rw [hst] at h
    exact h)
  clear hst
  have hmf : ∀ (fn : Fn) (first cap : Array Value) (w : World), (Instr.makeFunc fn first cap).run Tryz.prog w = .ok (.func fn first cap) w := fun _ _ _ _ => rfl
  have hHd := hide (show ∀ (W : World) (A : Nat), Row W (some ⟨A, 0, none⟩) (cmd :: ws).length 1 (strs (cmd :: ws)) → W.cell? ⟨A, 0, none⟩ = some (.string cmd) ∧ Row W (some ⟨A, 1, none⟩) (n - 1) 1 (strs ws) from fun W A R => by
    obtain ⟨b1, o1, hA, hb1, hc⟩ := R.2 (by simp)
    injection hA with hA
    injection hA with h1 h2
    subst h1
    subst h2
    refine ⟨(hc 0 (by simp)).trans rfl, by rw [strs_length, hn1]; omega, fun hn0 => ⟨A, 1, rfl, hb1, fun j hj => ?_⟩⟩
    have h := hc (j + 1) (by rw [List.length_cons]; omega)
    rw [show 0 + (j + 1) = 1 + j by omega] at h
    rw [h]
    rfl)
  rw [← hn] at CF hHd
  have hpos : 1 ≤ n := by rw [hn, List.length_cons]; omega
  have hn4 : n ≤ 4097 := by rw [hn, List.length_cons]; omega
  clear D O HT E0 hXW hL hws hn hlen hn1
  have hne : ((n : Int) == 0) = false := by rw [beq_eq_false_iff_ne]; omega
  by_cases hone : n = 1
  · subst hone
    have hne : ((1 : Int) == 0) = false := by decide
    go_enter_defers Tryz.func12, Tryz.ntmps12
    go_wp2_with fail
    refine (unhide CF _).mono ?_
    rintro e w2 ⟨⟨A, rfl, R2⟩, E2⟩
    obtain ⟨c0, R1⟩ := unhide hHd _ _ R2
    have HE2 := hide E2
    have HR1 := hide (show Row w2 (some ⟨A, 0, none⟩) 0 1 (strs ws) from ⟨R1.1, fun h => absurd h (Nat.lt_irrefl _)⟩)
    have HTX := hide (fun W (E : Ext w2 W) => unhide HTX W ((((Ext.refl w).alloc _).trans (unhide HE2)).trans E))
    clear R2 E2 R1
    go_upto_region 5 with fail
    refine wp_region_tail4 6 (fun w w' => w' = w) (fun w => rfl) (fun c a o v w ho h => line_hQ (by kernel_rfl) c a o v w ho h) (by kernel_rfl) (by kernel_rfl) ?_
    show wpQuiet _ _ _ _ (_ :: _ :: _ :: _ :: _ :: _ :: []) _
    repeat (go_big_quiet_step (fail))
    refine wpQuiet_nil ?_
    rintro wq rfl
    show wpList _ _ _ (_ :: _ :: _ :: _ :: _ :: _ :: []) _ _
    go_wp2_with fail
    refine (unhide CS _ _ _ _ ((unhide HE2).drew) ((unhide HR1).keep (Ext.refl _).drew)).mono ?_
    rintro e w3 ⟨rfl, D3, K3'⟩
    have K3 : Kx (X1 X w) w2 w3 := (Kx.of_ext (Ext.refl _).drew).trans K3'
    obtain ⟨hc, hz⟩ := X1.cell _ _ (unhide HE2) K3 (u := .string ⟨#[]⟩) rfl
    have HF := hide (X1.fin (unhide HX) (unhide HE2) K3 D3 (Ext.refl _) (.string b))
    clear D3 K3 K3'
    go_wp2
    refine leaves_cons (f := 17) (args := #[.pointer (some ⟨w.heap.size, 0, none⟩)]) (by simp) (by simp [go_sem]) ?_
    refine (catch_idle ⟨w.heap.size, 0, none⟩ _).mono ?_
    rintro e u' w'' ⟨rfl, rfl, rfl⟩
    simp [Leaves, settle, results, Tryz.results12, go_sem, World.cell?_setCell_same', hc]
    exact ⟨rfl, unhide HF⟩
  · have hn2 : 2 ≤ n := by omega
    have hone2 : ¬ n = 1 := hone
    go_enter_defers Tryz.func12, Tryz.ntmps12
    go_wp2_with fail
    refine (unhide CF _).mono ?_
    rintro e w2 ⟨⟨A, rfl, R2⟩, E2⟩
    obtain ⟨c0, R1⟩ := unhide hHd _ _ R2
    have HE2 := hide E2
    have HR1 := hide (show Row w2 (some ⟨A, 1, none⟩) (n - 1) 1 (strs ws) from R1)
    have HTX := hide (fun W (E : Ext w2 W) => unhide HTX W ((((Ext.refl w).alloc _).trans (unhide HE2)).trans E))
    clear R2 E2 R1
    go_upto_region 5 with fail
    refine wp_region_tail4 6 (fun w w' => w' = w) (fun w => rfl) (fun c a o v w ho h => line_hQ (by kernel_rfl) c a o v w ho h) (by kernel_rfl) (by kernel_rfl) ?_
    show wpQuiet _ _ _ _ (_ :: _ :: _ :: _ :: _ :: _ :: []) _
    repeat (go_big_quiet_step (fail))
    refine wpQuiet_nil ?_
    rintro wq rfl
    show wpList _ _ _ (_ :: _ :: _ :: _ :: _ :: _ :: []) _ _
    go_wp2_with fail
    refine (unhide CS _ _ _ _ ((unhide HE2).drew) ((unhide HR1).keep (Ext.refl _).drew)).mono ?_
    rintro e w3 ⟨rfl, D3, K3'⟩
    have K3 : Kx (X1 X w) w2 w3 := (Kx.of_ext (Ext.refl _).drew).trans K3'
    obtain ⟨hc, hz⟩ := X1.cell _ _ (unhide HE2) K3 (u := .string ⟨#[]⟩) rfl
    have HF := hide (X1.fin (unhide HX) (unhide HE2) K3 D3 (Ext.refl _) (.string b))
    clear D3 K3 K3'
    go_wp2
    refine leaves_cons (f := 17) (args := #[.pointer (some ⟨w.heap.size, 0, none⟩)]) (by simp) (by simp [go_sem]) ?_
    refine (catch_idle ⟨w.heap.size, 0, none⟩ _).mono ?_
    rintro e u' w'' ⟨rfl, rfl, rfl⟩
    simp [Leaves, settle, results, Tryz.results12, go_sem, World.cell?_setCell_same', hc]
    exact ⟨rfl, unhide HF⟩
set_option maxRecDepth 100000 in
set_option maxHeartbeats 2000000 in
theorem line_er (w : World) (q : Nat) (σ : Sto) (X : Nat → Prop) (W0 : World) (D : Dk w q σ X) (O : ∃ H, Sto.Ok σ H) (HT : PowIs W0) (E0 : Ext W0 w) (hXW : ∀ x, x < W0.heap.size → X x) (s : ByteArray) (hs : s.size ≤ 4096) (cmd : ByteArray) (ws : List ByteArray)
    (hL : Lib.goFieldsP (fun c => c == 32) s = cmd :: ws) (hlen : ws.length ≤ 4096) (hws : ∀ y ∈ ws, y.size ≤ 4611686018427387904) (er : Int) (τ : Sto) (hst : storedT qErr σ cmd ws = some (.error er, τ)) :
    Calls Tryz.prog 12 #[.pointer (some ⟨q, 0, none⟩), .string s] w (LinePost (errB er, τ) q X w) := by
  have CF := hide (fun W => fields_ok s hs W)
  rw [hL] at CF
  have HX := hide D.below
  have HD := hide (X1.dk D (.cells #[.string ⟨#[]⟩] 9))
  have HTX := hide (show ∀ W, Ext w W → PowIs W from fun W E => tab_ext HT (E0.trans E))
  obtain ⟨n, hn⟩ : ∃ n, n = (cmd :: ws).length := ⟨_, rfl⟩
  have hn1 : n - 1 = ws.length := by rw [hn]; rfl
  have CS := hide (show ∀ (W : World) (A : Option Addr) (m c : Nat), Ext (w.alloc (.cells #[.string ⟨#[]⟩] 9)) W → Row W A m 1 (strs ws) → Calls Tryz.prog 21 #[.pointer (some ⟨q, 0, none⟩), .string cmd, .slice A m c] W fun e w' => StoredR (storedT qErr σ cmd ws) q σ (X1 X w) W e w' from fun W A m c E R =>
    stored_any A m c ws W q σ (X1 X w) W0 cmd R (by have := R.strN; omega) hws ((unhide HD).keep E) O HT (E0.trans (((Ext.refl w).alloc _).trans E)) (fun x hx => .inl (hXW x hx)))
  have hsm0 : -9223372036854775808 ≤ er := by have := (smR_stored hst er rfl : SmE er).1; omega
  have hsm1 : er ≤ 9223372036854775807 := by have := (smR_stored hst er rfl : SmE er).2; omega
  have HKT := hide (show ∀ (w2 w3 : World), Ext (w.alloc (.cells #[.string ⟨#[]⟩] 9)) w2 → Kx (X1 X w) w2 w3 → PowIs w3 from fun w2 w3 E K => tab_ext HT (K.ext (E0.trans (((Ext.refl w).alloc _).trans E)) fun x hx => .inl (hXW x hx)))
  have CS := hide (fun W A m c E R => (unhide CS W A m c E R).mono (R' := fun e w' => e = thrown er ∧ Dk w' q τ (X1 X w) ∧ Kx (X1 X w) W w') fun e w' h => by
    rw [hst] at h
    exact h)
  clear hst
  have hmf : ∀ (fn : Fn) (first cap : Array Value) (w : World), (Instr.makeFunc fn first cap).run Tryz.prog w = .ok (.func fn first cap) w := fun _ _ _ _ => rfl
  have hHd := hide (show ∀ (W : World) (A : Nat), Row W (some ⟨A, 0, none⟩) (cmd :: ws).length 1 (strs (cmd :: ws)) → W.cell? ⟨A, 0, none⟩ = some (.string cmd) ∧ Row W (some ⟨A, 1, none⟩) (n - 1) 1 (strs ws) from fun W A R => by
    obtain ⟨b1, o1, hA, hb1, hc⟩ := R.2 (by simp)
    injection hA with hA
    injection hA with h1 h2
    subst h1
    subst h2
    refine ⟨(hc 0 (by simp)).trans rfl, by rw [strs_length, hn1]; omega, fun hn0 => ⟨A, 1, rfl, hb1, fun j hj => ?_⟩⟩
    have h := hc (j + 1) (by rw [List.length_cons]; omega)
    rw [show 0 + (j + 1) = 1 + j by omega] at h
    rw [h]
    rfl)
  rw [← hn] at CF hHd
  have hpos : 1 ≤ n := by rw [hn, List.length_cons]; omega
  have hn4 : n ≤ 4097 := by rw [hn, List.length_cons]; omega
  clear D O HT E0 hXW hL hws hn hlen hn1
  have hne : ((n : Int) == 0) = false := by rw [beq_eq_false_iff_ne]; omega
  by_cases hone : n = 1
  · subst hone
    have hne : ((1 : Int) == 0) = false := by decide
    go_enter_defers Tryz.func12, Tryz.ntmps12
    go_wp2_with fail
    refine (unhide CF _).mono ?_
    rintro e w2 ⟨⟨A, rfl, R2⟩, E2⟩
    obtain ⟨c0, R1⟩ := unhide hHd _ _ R2
    have HE2 := hide E2
    have HR1 := hide (show Row w2 (some ⟨A, 0, none⟩) 0 1 (strs ws) from ⟨R1.1, fun h => absurd h (Nat.lt_irrefl _)⟩)
    have HTX := hide (fun W (E : Ext w2 W) => unhide HTX W ((((Ext.refl w).alloc _).trans (unhide HE2)).trans E))
    clear R2 E2 R1
    go_upto_region 5 with fail
    refine wp_region_tail4 6 (fun w w' => w' = w) (fun w => rfl) (fun c a o v w ho h => line_hQ (by kernel_rfl) c a o v w ho h) (by kernel_rfl) (by kernel_rfl) ?_
    show wpQuiet _ _ _ _ (_ :: _ :: _ :: _ :: _ :: _ :: []) _
    repeat (go_big_quiet_step (fail))
    refine wpQuiet_nil ?_
    rintro wq rfl
    show wpList _ _ _ (_ :: _ :: _ :: _ :: _ :: _ :: []) _ _
    go_wp2_with fail
    refine (unhide CS _ _ _ _ ((unhide HE2).drew) ((unhide HR1).keep (Ext.refl _).drew)).mono ?_
    rintro e w3 ⟨rfl, D3, K3'⟩
    have K3 : Kx (X1 X w) w2 w3 := (Kx.of_ext (Ext.refl _).drew).trans K3'
    obtain ⟨hc, hz⟩ := X1.cell _ _ (unhide HE2) K3 (u := .string ⟨#[]⟩) rfl
    have HFF := hide (fun w4 E4 => X1.fin (w4 := w4) (unhide HX) (unhide HE2) K3 D3 E4 (.string (errB er)))
    have hT3 : PowIs w3 := unhide HKT _ _ (unhide HE2) K3
    clear D3 K3 K3'
    unfold thrown
    go_wp2
    refine leaves_cons (f := 17) (args := #[.pointer (some ⟨w.heap.size, 0, none⟩)]) (by simp) (by simp [go_sem]) ?_
    refine (catch_fail w.heap.size _ er hsm0 hsm1 [] _ hc hz hT3).mono ?_
    rintro e u' w'' ⟨rfl, rfl, w4, E4, rfl⟩
    have hF := unhide HFF w4 E4
    have hc4 := E4.keep hc
    simp [Leaves, settle, results, Tryz.results12, go_sem, World.cell?_setCell_same', hc4]
    exact ⟨rfl, hF⟩
  · have hn2 : 2 ≤ n := by omega
    have hone2 : ¬ n = 1 := hone
    go_enter_defers Tryz.func12, Tryz.ntmps12
    go_wp2_with fail
    refine (unhide CF _).mono ?_
    rintro e w2 ⟨⟨A, rfl, R2⟩, E2⟩
    obtain ⟨c0, R1⟩ := unhide hHd _ _ R2
    have HE2 := hide E2
    have HR1 := hide (show Row w2 (some ⟨A, 1, none⟩) (n - 1) 1 (strs ws) from R1)
    have HTX := hide (fun W (E : Ext w2 W) => unhide HTX W ((((Ext.refl w).alloc _).trans (unhide HE2)).trans E))
    clear R2 E2 R1
    go_upto_region 5 with fail
    refine wp_region_tail4 6 (fun w w' => w' = w) (fun w => rfl) (fun c a o v w ho h => line_hQ (by kernel_rfl) c a o v w ho h) (by kernel_rfl) (by kernel_rfl) ?_
    show wpQuiet _ _ _ _ (_ :: _ :: _ :: _ :: _ :: _ :: []) _
    repeat (go_big_quiet_step (fail))
    refine wpQuiet_nil ?_
    rintro wq rfl
    show wpList _ _ _ (_ :: _ :: _ :: _ :: _ :: _ :: []) _ _
    go_wp2_with fail
    refine (unhide CS _ _ _ _ ((unhide HE2).drew) ((unhide HR1).keep (Ext.refl _).drew)).mono ?_
    rintro e w3 ⟨rfl, D3, K3'⟩
    have K3 : Kx (X1 X w) w2 w3 := (Kx.of_ext (Ext.refl _).drew).trans K3'
    obtain ⟨hc, hz⟩ := X1.cell _ _ (unhide HE2) K3 (u := .string ⟨#[]⟩) rfl
    have HFF := hide (fun w4 E4 => X1.fin (w4 := w4) (unhide HX) (unhide HE2) K3 D3 E4 (.string (errB er)))
    have hT3 : PowIs w3 := unhide HKT _ _ (unhide HE2) K3
    clear D3 K3 K3'
    unfold thrown
    go_wp2
    refine leaves_cons (f := 17) (args := #[.pointer (some ⟨w.heap.size, 0, none⟩)]) (by simp) (by simp [go_sem]) ?_
    refine (catch_fail w.heap.size _ er hsm0 hsm1 [] _ hc hz hT3).mono ?_
    rintro e u' w'' ⟨rfl, rfl, w4, E4, rfl⟩
    have hF := unhide HFF w4 E4
    have hc4 := E4.keep hc
    simp [Leaves, settle, results, Tryz.results12, go_sem, World.cell?_setCell_same', hc4]
    exact ⟨rfl, hF⟩
set_option maxRecDepth 100000 in
set_option maxHeartbeats 2000000 in
theorem line_comp (w : World) (q : Nat) (σ : Sto) (X : Nat → Prop) (W0 : World) (D : Dk w q σ X) (O : ∃ H, Sto.Ok σ H) (HT : PowIs W0) (E0 : Ext W0 w) (hXW : ∀ x, x < W0.heap.size → X x) (s : ByteArray) (hs : s.size ≤ 4096) (cmd : ByteArray) (ws : List ByteArray)
    (hL : Lib.goFieldsP (fun c => c == 32) s = cmd :: ws) (hlen : ws.length ≤ 4096) (hws : ∀ y ∈ ws, y.size ≤ 4611686018427387904) (b : ByteArray) (hst : storedT qErr σ cmd ws = none) (hcp : compT cmd ws = .ok b) :
    Calls Tryz.prog 12 #[.pointer (some ⟨q, 0, none⟩), .string s] w (LinePost (b, σ) q X w) := by
  have CF := hide (fun W => fields_ok s hs W)
  rw [hL] at CF
  have HX := hide D.below
  have HD := hide (X1.dk D (.cells #[.string ⟨#[]⟩] 9))
  have HTX := hide (show ∀ W, Ext w W → PowIs W from fun W E => tab_ext HT (E0.trans E))
  obtain ⟨n, hn⟩ : ∃ n, n = (cmd :: ws).length := ⟨_, rfl⟩
  have hn1 : n - 1 = ws.length := by rw [hn]; rfl
  have CS := hide (show ∀ (W : World) (A : Option Addr) (m c : Nat), Ext (w.alloc (.cells #[.string ⟨#[]⟩] 9)) W → Row W A m 1 (strs ws) → Calls Tryz.prog 21 #[.pointer (some ⟨q, 0, none⟩), .string cmd, .slice A m c] W fun e w' => StoredR (storedT qErr σ cmd ws) q σ (X1 X w) W e w' from fun W A m c E R =>
    stored_any A m c ws W q σ (X1 X w) W0 cmd R (by have := R.strN; omega) hws ((unhide HD).keep E) O HT (E0.trans (((Ext.refl w).alloc _).trans E)) (fun x hx => .inl (hXW x hx)))
  have CS := hide (fun W A m c E R => (unhide CS W A m c E R).mono (R' := fun e w' => e = .returned (.tuple #[.string ⟨#[]⟩, .bool false]) ∧ w' = W) fun e w' h => by
    rw [hst] at h
    exact h)
  have CC := hide (show ∀ (W : World) (A : Option Addr) (m c : Nat), PowIs W → Row W A m 1 (strs ws) → Calls Tryz.prog 22 #[.string cmd, .slice A m c] W fun e w' => e = .returned (.string b) ∧ Ext W w' from fun W A m c T R =>
    (comp_any A m c ws W cmd R (by have := R.strN; omega) T).mono fun e w' h => by
      rw [hcp] at h
      exact h)
  have HTX2 := hide (show ∀ W, Ext w W → PowIs W from fun W E => tab_ext HT (E0.trans E))
  clear hst hcp
  have hmf : ∀ (fn : Fn) (first cap : Array Value) (w : World), (Instr.makeFunc fn first cap).run Tryz.prog w = .ok (.func fn first cap) w := fun _ _ _ _ => rfl
  have hHd := hide (show ∀ (W : World) (A : Nat), Row W (some ⟨A, 0, none⟩) (cmd :: ws).length 1 (strs (cmd :: ws)) → W.cell? ⟨A, 0, none⟩ = some (.string cmd) ∧ Row W (some ⟨A, 1, none⟩) (n - 1) 1 (strs ws) from fun W A R => by
    obtain ⟨b1, o1, hA, hb1, hc⟩ := R.2 (by simp)
    injection hA with hA
    injection hA with h1 h2
    subst h1
    subst h2
    refine ⟨(hc 0 (by simp)).trans rfl, by rw [strs_length, hn1]; omega, fun hn0 => ⟨A, 1, rfl, hb1, fun j hj => ?_⟩⟩
    have h := hc (j + 1) (by rw [List.length_cons]; omega)
    rw [show 0 + (j + 1) = 1 + j by omega] at h
    rw [h]
    rfl)
  rw [← hn] at CF hHd
  have hpos : 1 ≤ n := by rw [hn, List.length_cons]; omega
  have hn4 : n ≤ 4097 := by rw [hn, List.length_cons]; omega
  clear D O HT E0 hXW hL hws hn hlen hn1
  have hne : ((n : Int) == 0) = false := by rw [beq_eq_false_iff_ne]; omega
  by_cases hone : n = 1
  · subst hone
    have hne : ((1 : Int) == 0) = false := by decide
    go_enter_defers Tryz.func12, Tryz.ntmps12
    go_wp2_with fail
    refine (unhide CF _).mono ?_
    rintro e w2 ⟨⟨A, rfl, R2⟩, E2⟩
    obtain ⟨c0, R1⟩ := unhide hHd _ _ R2
    have HE2 := hide E2
    have HR1 := hide (show Row w2 (some ⟨A, 0, none⟩) 0 1 (strs ws) from ⟨R1.1, fun h => absurd h (Nat.lt_irrefl _)⟩)
    have HTX := hide (fun W (E : Ext w2 W) => unhide HTX W ((((Ext.refl w).alloc _).trans (unhide HE2)).trans E))
    clear R2 E2 R1
    go_upto_region 5 with fail
    refine wp_region_tail4 6 (fun w w' => w' = w) (fun w => rfl) (fun c a o v w ho h => line_hQ (by kernel_rfl) c a o v w ho h) (by kernel_rfl) (by kernel_rfl) ?_
    show wpQuiet _ _ _ _ (_ :: _ :: _ :: _ :: _ :: _ :: []) _
    repeat (go_big_quiet_step (fail))
    refine wpQuiet_nil ?_
    rintro wq rfl
    show wpList _ _ _ (_ :: _ :: _ :: _ :: _ :: _ :: []) _ _
    go_wp2_with fail
    refine (unhide CS _ _ _ _ ((unhide HE2).drew) ((unhide HR1).keep (Ext.refl _).drew)).mono ?_
    rintro e w3 ⟨rfl, rfl⟩
    have hT3 : PowIs w2.drew.drew := unhide HTX _ ((Ext.refl _).drew.drew)
    have HCB := hide (X1.cell (X := X) _ _ (unhide HE2) Kx.refl (u := .string ⟨#[]⟩) rfl)
    go_upto_region 8 with fail
    refine wp_region_tail4 5 (fun w w' => w' = w) (fun w => rfl) (fun c a o v w ho h => line_hQ (by kernel_rfl) c a o v w ho h) (by kernel_rfl) (by kernel_rfl) ?_
    show wpQuiet _ _ _ _ (_ :: _ :: _ :: _ :: _ :: []) _
    repeat (go_big_quiet_step (fail))
    refine wpQuiet_nil ?_
    rintro wq rfl
    show wpList _ _ _ (_ :: _ :: []) _ _
    go_wp2_with fail
    refine (unhide CC _ _ _ _ hT3 ((unhide HR1).keep ((Ext.refl _).drew.drew))).mono ?_
    rintro e w4 ⟨rfl, E4'⟩
    have E4 : Ext w2 w4 := ((Ext.refl w2).drew.drew).trans E4'
    obtain ⟨hc0, hz0⟩ := unhide HCB
    have hlt : w.heap.size < w2.heap.size := cell_lt hc0
    have hc := E4.keep hc0
    have hz : w4.frozen? ⟨w.heap.size, 0, none⟩ = false := (E4.frozen (p := ⟨w.heap.size, 0, none⟩) hlt).trans hz0
    have HF := hide (X1.fin (unhide HX) (unhide HE2) Kx.refl ((unhide HD).keep (unhide HE2)) E4 (.string b))
    clear E4 E4' hc0 hz0 hT3
    go_wp2
    refine leaves_cons (f := 17) (args := #[.pointer (some ⟨w.heap.size, 0, none⟩)]) (by simp) (by simp [go_sem]) ?_
    refine (catch_idle ⟨w.heap.size, 0, none⟩ _).mono ?_
    rintro e u' w'' ⟨rfl, rfl, rfl⟩
    simp [Leaves, settle, results, Tryz.results12, go_sem, World.cell?_setCell_same', hc]
    exact ⟨rfl, unhide HF⟩
  · have hn2 : 2 ≤ n := by omega
    have hone2 : ¬ n = 1 := hone
    go_enter_defers Tryz.func12, Tryz.ntmps12
    go_wp2_with fail
    refine (unhide CF _).mono ?_
    rintro e w2 ⟨⟨A, rfl, R2⟩, E2⟩
    obtain ⟨c0, R1⟩ := unhide hHd _ _ R2
    have HE2 := hide E2
    have HR1 := hide (show Row w2 (some ⟨A, 1, none⟩) (n - 1) 1 (strs ws) from R1)
    have HTX := hide (fun W (E : Ext w2 W) => unhide HTX W ((((Ext.refl w).alloc _).trans (unhide HE2)).trans E))
    clear R2 E2 R1
    go_upto_region 5 with fail
    refine wp_region_tail4 6 (fun w w' => w' = w) (fun w => rfl) (fun c a o v w ho h => line_hQ (by kernel_rfl) c a o v w ho h) (by kernel_rfl) (by kernel_rfl) ?_
    show wpQuiet _ _ _ _ (_ :: _ :: _ :: _ :: _ :: _ :: []) _
    repeat (go_big_quiet_step (fail))
    refine wpQuiet_nil ?_
    rintro wq rfl
    show wpList _ _ _ (_ :: _ :: _ :: _ :: _ :: _ :: []) _ _
    go_wp2_with fail
    refine (unhide CS _ _ _ _ ((unhide HE2).drew) ((unhide HR1).keep (Ext.refl _).drew)).mono ?_
    rintro e w3 ⟨rfl, rfl⟩
    have hT3 : PowIs w2.drew.drew := unhide HTX _ ((Ext.refl _).drew.drew)
    have HCB := hide (X1.cell (X := X) _ _ (unhide HE2) Kx.refl (u := .string ⟨#[]⟩) rfl)
    go_upto_region 8 with fail
    refine wp_region_tail4 5 (fun w w' => w' = w) (fun w => rfl) (fun c a o v w ho h => line_hQ (by kernel_rfl) c a o v w ho h) (by kernel_rfl) (by kernel_rfl) ?_
    show wpQuiet _ _ _ _ (_ :: _ :: _ :: _ :: _ :: []) _
    repeat (go_big_quiet_step (fail))
    refine wpQuiet_nil ?_
    rintro wq rfl
    show wpList _ _ _ (_ :: _ :: []) _ _
    go_wp2_with fail
    refine (unhide CC _ _ _ _ hT3 ((unhide HR1).keep ((Ext.refl _).drew.drew))).mono ?_
    rintro e w4 ⟨rfl, E4'⟩
    have E4 : Ext w2 w4 := ((Ext.refl w2).drew.drew).trans E4'
    obtain ⟨hc0, hz0⟩ := unhide HCB
    have hlt : w.heap.size < w2.heap.size := cell_lt hc0
    have hc := E4.keep hc0
    have hz : w4.frozen? ⟨w.heap.size, 0, none⟩ = false := (E4.frozen (p := ⟨w.heap.size, 0, none⟩) hlt).trans hz0
    have HF := hide (X1.fin (unhide HX) (unhide HE2) Kx.refl ((unhide HD).keep (unhide HE2)) E4 (.string b))
    clear E4 E4' hc0 hz0 hT3
    go_wp2
    refine leaves_cons (f := 17) (args := #[.pointer (some ⟨w.heap.size, 0, none⟩)]) (by simp) (by simp [go_sem]) ?_
    refine (catch_idle ⟨w.heap.size, 0, none⟩ _).mono ?_
    rintro e u' w'' ⟨rfl, rfl, rfl⟩
    simp [Leaves, settle, results, Tryz.results12, go_sem, World.cell?_setCell_same', hc]
    exact ⟨rfl, unhide HF⟩
set_option maxRecDepth 100000 in
set_option maxHeartbeats 2000000 in
theorem line_cerr (w : World) (q : Nat) (σ : Sto) (X : Nat → Prop) (W0 : World) (D : Dk w q σ X) (O : ∃ H, Sto.Ok σ H) (HT : PowIs W0) (E0 : Ext W0 w) (hXW : ∀ x, x < W0.heap.size → X x) (s : ByteArray) (hs : s.size ≤ 4096) (cmd : ByteArray) (ws : List ByteArray)
    (hL : Lib.goFieldsP (fun c => c == 32) s = cmd :: ws) (hlen : ws.length ≤ 4096) (hws : ∀ y ∈ ws, y.size ≤ 4611686018427387904) (er : Int) (hst : storedT qErr σ cmd ws = none) (hcp : compT cmd ws = .error er) :
    Calls Tryz.prog 12 #[.pointer (some ⟨q, 0, none⟩), .string s] w (LinePost (errB er, σ) q X w) := by
  have CF := hide (fun W => fields_ok s hs W)
  rw [hL] at CF
  have HX := hide D.below
  have HD := hide (X1.dk D (.cells #[.string ⟨#[]⟩] 9))
  have HTX := hide (show ∀ W, Ext w W → PowIs W from fun W E => tab_ext HT (E0.trans E))
  obtain ⟨n, hn⟩ : ∃ n, n = (cmd :: ws).length := ⟨_, rfl⟩
  have hn1 : n - 1 = ws.length := by rw [hn]; rfl
  have CS := hide (show ∀ (W : World) (A : Option Addr) (m c : Nat), Ext (w.alloc (.cells #[.string ⟨#[]⟩] 9)) W → Row W A m 1 (strs ws) → Calls Tryz.prog 21 #[.pointer (some ⟨q, 0, none⟩), .string cmd, .slice A m c] W fun e w' => StoredR (storedT qErr σ cmd ws) q σ (X1 X w) W e w' from fun W A m c E R =>
    stored_any A m c ws W q σ (X1 X w) W0 cmd R (by have := R.strN; omega) hws ((unhide HD).keep E) O HT (E0.trans (((Ext.refl w).alloc _).trans E)) (fun x hx => .inl (hXW x hx)))
  have hsm0 : -9223372036854775808 ≤ er := by have := (sm_comp hcp : SmE er).1; omega
  have hsm1 : er ≤ 9223372036854775807 := by have := (sm_comp hcp : SmE er).2; omega
  have CS := hide (fun W A m c E R => (unhide CS W A m c E R).mono (R' := fun e w' => e = .returned (.tuple #[.string ⟨#[]⟩, .bool false]) ∧ w' = W) fun e w' h => by
    rw [hst] at h
    exact h)
  have CC := hide (show ∀ (W : World) (A : Option Addr) (m c : Nat), PowIs W → Row W A m 1 (strs ws) → Calls Tryz.prog 22 #[.string cmd, .slice A m c] W fun e w' => e = thrown er ∧ Ext W w' from fun W A m c T R =>
    (comp_any A m c ws W cmd R (by have := R.strN; omega) T).mono fun e w' h => by
      rw [hcp] at h
      exact h)
  have HTX2 := hide (show ∀ W, Ext w W → PowIs W from fun W E => tab_ext HT (E0.trans E))
  clear hst hcp
  have hmf : ∀ (fn : Fn) (first cap : Array Value) (w : World), (Instr.makeFunc fn first cap).run Tryz.prog w = .ok (.func fn first cap) w := fun _ _ _ _ => rfl
  have hHd := hide (show ∀ (W : World) (A : Nat), Row W (some ⟨A, 0, none⟩) (cmd :: ws).length 1 (strs (cmd :: ws)) → W.cell? ⟨A, 0, none⟩ = some (.string cmd) ∧ Row W (some ⟨A, 1, none⟩) (n - 1) 1 (strs ws) from fun W A R => by
    obtain ⟨b1, o1, hA, hb1, hc⟩ := R.2 (by simp)
    injection hA with hA
    injection hA with h1 h2
    subst h1
    subst h2
    refine ⟨(hc 0 (by simp)).trans rfl, by rw [strs_length, hn1]; omega, fun hn0 => ⟨A, 1, rfl, hb1, fun j hj => ?_⟩⟩
    have h := hc (j + 1) (by rw [List.length_cons]; omega)
    rw [show 0 + (j + 1) = 1 + j by omega] at h
    rw [h]
    rfl)
  rw [← hn] at CF hHd
  have hpos : 1 ≤ n := by rw [hn, List.length_cons]; omega
  have hn4 : n ≤ 4097 := by rw [hn, List.length_cons]; omega
  clear D O HT E0 hXW hL hws hn hlen hn1
  have hne : ((n : Int) == 0) = false := by rw [beq_eq_false_iff_ne]; omega
  by_cases hone : n = 1
  · subst hone
    have hne : ((1 : Int) == 0) = false := by decide
    go_enter_defers Tryz.func12, Tryz.ntmps12
    go_wp2_with fail
    refine (unhide CF _).mono ?_
    rintro e w2 ⟨⟨A, rfl, R2⟩, E2⟩
    obtain ⟨c0, R1⟩ := unhide hHd _ _ R2
    have HE2 := hide E2
    have HR1 := hide (show Row w2 (some ⟨A, 0, none⟩) 0 1 (strs ws) from ⟨R1.1, fun h => absurd h (Nat.lt_irrefl _)⟩)
    have HTX := hide (fun W (E : Ext w2 W) => unhide HTX W ((((Ext.refl w).alloc _).trans (unhide HE2)).trans E))
    clear R2 E2 R1
    go_upto_region 5 with fail
    refine wp_region_tail4 6 (fun w w' => w' = w) (fun w => rfl) (fun c a o v w ho h => line_hQ (by kernel_rfl) c a o v w ho h) (by kernel_rfl) (by kernel_rfl) ?_
    show wpQuiet _ _ _ _ (_ :: _ :: _ :: _ :: _ :: _ :: []) _
    repeat (go_big_quiet_step (fail))
    refine wpQuiet_nil ?_
    rintro wq rfl
    show wpList _ _ _ (_ :: _ :: _ :: _ :: _ :: _ :: []) _ _
    go_wp2_with fail
    refine (unhide CS _ _ _ _ ((unhide HE2).drew) ((unhide HR1).keep (Ext.refl _).drew)).mono ?_
    rintro e w3 ⟨rfl, rfl⟩
    have hT3 : PowIs w2.drew.drew := unhide HTX _ ((Ext.refl _).drew.drew)
    have HCB := hide (X1.cell (X := X) _ _ (unhide HE2) Kx.refl (u := .string ⟨#[]⟩) rfl)
    go_upto_region 8 with fail
    refine wp_region_tail4 5 (fun w w' => w' = w) (fun w => rfl) (fun c a o v w ho h => line_hQ (by kernel_rfl) c a o v w ho h) (by kernel_rfl) (by kernel_rfl) ?_
    show wpQuiet _ _ _ _ (_ :: _ :: _ :: _ :: _ :: []) _
    repeat (go_big_quiet_step (fail))
    refine wpQuiet_nil ?_
    rintro wq rfl
    show wpList _ _ _ (_ :: _ :: []) _ _
    go_wp2_with fail
    refine (unhide CC _ _ _ _ hT3 ((unhide HR1).keep ((Ext.refl _).drew.drew))).mono ?_
    rintro e w4 ⟨rfl, E4'⟩
    have E4 : Ext w2 w4 := ((Ext.refl w2).drew.drew).trans E4'
    obtain ⟨hc0, hz0⟩ := unhide HCB
    have hlt : w.heap.size < w2.heap.size := cell_lt hc0
    have hc := E4.keep hc0
    have hz : w4.frozen? ⟨w.heap.size, 0, none⟩ = false := (E4.frozen (p := ⟨w.heap.size, 0, none⟩) hlt).trans hz0
    have hT4 : PowIs w4 := unhide HTX _ E4
    have HFF := hide (fun w5 E5 => X1.fin (w4 := w5) (unhide HX) (unhide HE2) Kx.refl ((unhide HD).keep (unhide HE2)) (E4.trans E5) (.string (errB er)))
    clear E4 E4' hc0 hz0 hT3
    unfold thrown
    go_wp2
    refine leaves_cons (f := 17) (args := #[.pointer (some ⟨w.heap.size, 0, none⟩)]) (by simp) (by simp [go_sem]) ?_
    refine (catch_fail w.heap.size _ er hsm0 hsm1 [] _ hc hz hT4).mono ?_
    rintro e u' w'' ⟨rfl, rfl, w5, E5, rfl⟩
    have hF := unhide HFF w5 E5
    have hc5 := E5.keep hc
    simp [Leaves, settle, results, Tryz.results12, go_sem, World.cell?_setCell_same', hc5]
    exact ⟨rfl, hF⟩
  · have hn2 : 2 ≤ n := by omega
    have hone2 : ¬ n = 1 := hone
    go_enter_defers Tryz.func12, Tryz.ntmps12
    go_wp2_with fail
    refine (unhide CF _).mono ?_
    rintro e w2 ⟨⟨A, rfl, R2⟩, E2⟩
    obtain ⟨c0, R1⟩ := unhide hHd _ _ R2
    have HE2 := hide E2
    have HR1 := hide (show Row w2 (some ⟨A, 1, none⟩) (n - 1) 1 (strs ws) from R1)
    have HTX := hide (fun W (E : Ext w2 W) => unhide HTX W ((((Ext.refl w).alloc _).trans (unhide HE2)).trans E))
    clear R2 E2 R1
    go_upto_region 5 with fail
    refine wp_region_tail4 6 (fun w w' => w' = w) (fun w => rfl) (fun c a o v w ho h => line_hQ (by kernel_rfl) c a o v w ho h) (by kernel_rfl) (by kernel_rfl) ?_
    show wpQuiet _ _ _ _ (_ :: _ :: _ :: _ :: _ :: _ :: []) _
    repeat (go_big_quiet_step (fail))
    refine wpQuiet_nil ?_
    rintro wq rfl
    show wpList _ _ _ (_ :: _ :: _ :: _ :: _ :: _ :: []) _ _
    go_wp2_with fail
    refine (unhide CS _ _ _ _ ((unhide HE2).drew) ((unhide HR1).keep (Ext.refl _).drew)).mono ?_
    rintro e w3 ⟨rfl, rfl⟩
    have hT3 : PowIs w2.drew.drew := unhide HTX _ ((Ext.refl _).drew.drew)
    have HCB := hide (X1.cell (X := X) _ _ (unhide HE2) Kx.refl (u := .string ⟨#[]⟩) rfl)
    go_upto_region 8 with fail
    refine wp_region_tail4 5 (fun w w' => w' = w) (fun w => rfl) (fun c a o v w ho h => line_hQ (by kernel_rfl) c a o v w ho h) (by kernel_rfl) (by kernel_rfl) ?_
    show wpQuiet _ _ _ _ (_ :: _ :: _ :: _ :: _ :: []) _
    repeat (go_big_quiet_step (fail))
    refine wpQuiet_nil ?_
    rintro wq rfl
    show wpList _ _ _ (_ :: _ :: []) _ _
    go_wp2_with fail
    refine (unhide CC _ _ _ _ hT3 ((unhide HR1).keep ((Ext.refl _).drew.drew))).mono ?_
    rintro e w4 ⟨rfl, E4'⟩
    have E4 : Ext w2 w4 := ((Ext.refl w2).drew.drew).trans E4'
    obtain ⟨hc0, hz0⟩ := unhide HCB
    have hlt : w.heap.size < w2.heap.size := cell_lt hc0
    have hc := E4.keep hc0
    have hz : w4.frozen? ⟨w.heap.size, 0, none⟩ = false := (E4.frozen (p := ⟨w.heap.size, 0, none⟩) hlt).trans hz0
    have hT4 : PowIs w4 := unhide HTX _ E4
    have HFF := hide (fun w5 E5 => X1.fin (w4 := w5) (unhide HX) (unhide HE2) Kx.refl ((unhide HD).keep (unhide HE2)) (E4.trans E5) (.string (errB er)))
    clear E4 E4' hc0 hz0 hT3
    unfold thrown
    go_wp2
    refine leaves_cons (f := 17) (args := #[.pointer (some ⟨w.heap.size, 0, none⟩)]) (by simp) (by simp [go_sem]) ?_
    refine (catch_fail w.heap.size _ er hsm0 hsm1 [] _ hc hz hT4).mono ?_
    rintro e u' w'' ⟨rfl, rfl, w5, E5, rfl⟩
    have hF := unhide HFF w5 E5
    have hc5 := E5.keep hc
    simp [Leaves, settle, results, Tryz.results12, go_sem, World.cell?_setCell_same', hc5]
    exact ⟨rfl, hF⟩
theorem line_any (w : World) (q : Nat) (σ : Sto) (X : Nat → Prop) (W0 : World) (D : Dk w q σ X) (O : ∃ H, Sto.Ok σ H) (HT : PowIs W0) (E0 : Ext W0 w) (hXW : ∀ x, x < W0.heap.size → X x) (s : ByteArray) (hs : s.size ≤ 4096)
    (hf : ∀ L, Lib.goFieldsP (fun c => c == 32) s = L → L.length ≤ 4097 ∧ ∀ y ∈ L, y.size ≤ 4611686018427387904) :
    Calls Tryz.prog 12 #[.pointer (some ⟨q, 0, none⟩), .string s] w (LinePost (lineT qErr compT σ s) q X w) := by
  unfold lineT
  cases hL : Lib.goFieldsP (fun c => c == 32) s with
  | nil => exact line_no w q σ X W0 D HT E0 s hs hL
  | cons cmd ws =>
    show Calls _ _ _ _ (LinePost (match ((storedT qErr σ cmd ws).getD (compT cmd ws, σ)).1 with | .ok b => b | .error e => errB e, ((storedT qErr σ cmd ws).getD (compT cmd ws, σ)).2) q X w)
    obtain ⟨h1, h2⟩ := hf _ hL
    have h1 : ws.length ≤ 4096 := by rw [List.length_cons] at h1; omega
    have h2 : ∀ y ∈ ws, y.size ≤ 4611686018427387904 := fun y hy => h2 y (List.mem_cons_of_mem _ hy)
    cases hst : storedT qErr σ cmd ws with
    | some r =>
      obtain ⟨r, τ⟩ := r
      cases r with
      | ok b => rw [Option.getD_some]; exact line_ok w q σ X W0 D O HT E0 hXW s hs cmd ws hL h1 h2 b τ hst
      | error er => rw [Option.getD_some]; exact line_er w q σ X W0 D O HT E0 hXW s hs cmd ws hL h1 h2 er τ hst
    | none =>
      cases hcp : compT cmd ws with
      | ok b =>
        rw [Option.getD_none]
        exact line_comp w q σ X W0 D O HT E0 hXW s hs cmd ws hL h1 h2 b hst hcp
      | error er =>
        rw [Option.getD_none]
        exact line_cerr w q σ X W0 D O HT E0 hXW s hs cmd ws hL h1 h2 er hst hcp
end Go.Proofs.YtpenkbhljkmliaaGreatDoor
