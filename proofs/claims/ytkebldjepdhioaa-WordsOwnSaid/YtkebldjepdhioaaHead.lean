/-
  A region that draws its order, whose first operations have one order alone and may make memory, and whose other operations only read: one walk of the text's order serves.
-/
import Derived.Test.YtkebldjepdhioaaBase
set_option linter.unusedVariables false
set_option linter.unusedSimpArgs false
namespace Go.Proofs.Ytkebldjepdhioaa
open Go.RowKit

def HeadPost (Q : Exit → Act → World → Prop) (R : Act → World → Prop) : Exit → Act → World → Prop
  | .normal, a, w => R a w
  | e, a, w => Q e a w

def isMove (ops : Array Oper) (i : Nat) : Bool := match ops[i]? with
  | some o => (match o.op with | .move _ => true | .assign _ => true | _ => false)
  | none => false

def forcedB (md : Region.Mode) (ops : Array Oper) (r : Nat) : Nat → Nat → Array Bool → Bool
  | 0, i, listed => Region.lexFrom md ops r i listed
  | h + 1, i, listed => (Region.ready md ops listed == [i] || (isMove ops i && (Region.ready md ops listed).contains i && Region.free md ops listed i)) && forcedB md ops r h (i + 1) (listed.setIfInBounds i true)

def headB (ops : Array Oper) (k : Nat) : Bool := Region.noSelect ops && decide (k ≤ ops.size) && forcedB .any ops (ops.size - k) k 0 (Array.replicate ops.size false)

section
variable {P : Program} {ops : Array Oper} {Q : Exit → Act → World → Prop} {R : Act → World → Prop}

theorem head_wp {o : Oper} {a : Act} {w : World} {K : Act → World → Prop} (hh : o.wp P a w K (HeadPost Q R)) : o.wp P a w K Q := by
  unfold Oper.wp at *
  generalize (execOp a.eval o).run P w = r at *
  cases r with
  | ok n w' =>
    cases n <;> simp only [Oper.upon] at hh ⊢ <;> first | exact hh | exact hh.mono fun e w'' h => by cases e <;> exact h
  | halt h w' =>
    cases h <;> simp only [Oper.upon] at hh ⊢ <;> exact hh

theorem yields_move {o : Oper} {i : Nat} (a : Act) (h0 : ops[i]? = some o) (hm : isMove ops i = true) : ∃ v, execOp a.eval o = pure (.value v) := by
  unfold isMove at hm
  simp only [h0] at hm
  split at hm
  · rename_i x hx; exact ⟨a.eval x, by simp [execOp, hx]⟩
  · rename_i x hx; exact ⟨a.eval x, by simp [execOp, hx]⟩
  · simp at hm

theorem head_any {md : Region.Mode} (rest : List Oper) (C : World → World → Prop) (hC : ∀ w, C w w) (hs : Region.noSelect ops = true) (hQ : ∀ (c : List PanicEntry) (a : Act) (d : Option Tmp) (v : Value) (w : World), Q (.panic c) (a.put d v) w → Q (.panic c) a w) : ∀ (l : List Oper) (i : Nat) (listed : Array Bool) (a : Act) (w : World),
    (∀ j, (l ++ rest)[j]? = ops[i + j]?) → forcedB md ops rest.length l.length i listed = true →
    wpList P ops (HeadPost Q fun a' w' => wpQuiet P ops (C w') (fun a'' => ∀ w'', C w' w'' → Q .normal a'' w'') rest a') l a w →
    wpAny P md ops Q (l ++ rest).length listed a w
  | [], i, listed, a, w, hl, hB, h => by
    simp only [List.nil_append]
    have h' : wpQuiet P ops (C w) (fun a'' => ∀ w'', C w w'' → Q .normal a'' w'') rest a := h
    exact wpAny_of_quiet (C := C w) (Q := fun a'' => ∀ w'', C w w'' → Q .normal a'' w'') (fun _ w'' hw h => h w'' hw) _ _ _ _ (hC w) (wpAnyQ_lex hs rest i listed a (by simpa using hl) hB h')
  | o :: l, i, listed, a, w, hl, hB, h => by
    have h0 : ops[i]? = some o := by simpa using (hl 0).symm
    simp only [List.length_cons, forcedB, Bool.and_eq_true, Bool.or_eq_true, beq_iff_eq] at hB
    obtain ⟨hr, hB'⟩ := hB
    have hnext : ∀ a w, wpList P ops (HeadPost Q fun a' w' => wpQuiet P ops (C w') (fun a'' => ∀ w'', C w' w'' → Q .normal a'' w'') rest a') l a w → wpAny P md ops Q (l ++ rest).length (listed.setIfInBounds i true) a w := fun a w =>
      head_any rest C hC hs hQ l (i + 1) _ a w (fun j => by have := hl (j + 1); simpa [Nat.add_assoc, Nat.add_comm 1 j] using this) hB'
    simp only [List.cons_append, List.length_cons]
    rcases hr with hr | ⟨⟨hmv, hrc⟩, hfr⟩
    case inr =>
      simp only [wpList] at h
      by_cases hw : Region.wanted o (yielded ops a.tmps) = true
      · obtain ⟨v, hv⟩ := yields_move a h0 hmv
        have hrun : ∀ w, (execOp a.eval o).run P w = .ok (.value v) w := fun w => by rw [hv]; rfl
        simp only [hw, if_true] at h
        have hk : wpList P ops (HeadPost Q fun a' w' => wpQuiet P ops (C w') (fun a'' => ∀ w'', C w' w'' → Q .normal a'' w'') rest a') l (a.put o.dst v) w := by
          rcases h with h | ⟨h1, h2⟩
          · unfold Oper.wp at h
            rw [hrun w] at h
            exact h
          · exact absurd h1.1 (by rw [hv]; simp [Sem.runT, pure, Sem.events])
        exact wpAny_first h0 (Region.noSelect_spec hs) (fun c a w => hQ c a _ _ w) _ _ _ _ (Region.free_spec h0 hfr) (by simpa using hrc) (.inl ⟨hw, hrun⟩) (hnext _ _ hk)
      · have hw' : Region.wanted o (yielded ops a.tmps) = false := by simpa using hw
        simp only [hw'] at h
        exact wpAny_first h0 (Region.noSelect_spec hs) (fun c a w => hQ c a _ _ w) _ _ _ _ (Region.free_spec h0 hfr) (by simpa using hrc) (.inr ⟨hw', rfl⟩) (hnext _ _ h)
    refine wpAny_all hr (by simp) fun j hj => ?_
    obtain rfl : j = i := by simpa using hj
    unfold wpOp
    simp only [h0]
    simp only [wpList] at h
    split
    · rename_i hw
      simp only [hw, if_true] at h
      rcases h with h | ⟨h1, h2⟩
      · exact .inl (Oper.wp_mono hnext (head_wp h))
      · exact .inr ⟨h1, h2⟩
    · rename_i hw
      simp only [hw] at h
      exact hnext _ _ h

theorem wp_region_head {id : Nat} {a : Act} {w : World} (k : Nat) {l : List Oper} (hQ : ∀ (c : List PanicEntry) (a : Act) (d : Option Tmp) (v : Value) (w : World), Q (.panic c) (a.put d v) w → Q (.panic c) a w) (hm : P.follows .mixedOrders = true) (hB : headB l.toArray k = true)
    (h : wpList P l.toArray (HeadPost Q fun a' w' => wpQuiet P l.toArray (fun w'' => ∃ n, w'' = w'.drewN n) (fun a'' => ∀ w'', (∃ n, w'' = w'.drewN n) → Q .normal a'' w'') (l.drop k) a') (l.take k) a w.drew) :
    (Code.region id l.toArray true).wp P Q a w := by
  simp only [headB, Bool.and_eq_true, decide_eq_true_eq, List.size_toArray] at hB
  obtain ⟨⟨hs, hk⟩, hB⟩ := hB
  refine wp_region_any hm ?_
  have h1 : (l.take k).length = k := by rw [List.length_take]; omega
  have h2 : (l.drop k).length = l.length - k := List.length_drop
  have := head_any (P := P) (ops := l.toArray) (Q := Q) (md := .any) (l.drop k) (fun w' w'' => ∃ n, w'' = w'.drewN n) (fun w' => ⟨0, rfl⟩) hs hQ (l.take k) 0 (Array.replicate l.length false) a w.drew
    (fun j => by simp) (by rw [h1, h2]; exact hB) h
  rw [List.take_append_drop] at this
  simpa using this
end

end Go.Proofs.Ytkebldjepdhioaa
