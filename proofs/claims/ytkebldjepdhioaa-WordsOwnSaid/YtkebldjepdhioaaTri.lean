/-
  A region that draws its order, in three parts: operations that have one order alone, operations that only read (or call what at most makes memory), operations that have one order alone again: one walk serves.
-/
import Derived.Test.YtkebldjepdhioaaHead
import Derived.Test.YtkebldjepdhioaaPlus
set_option linter.unusedVariables false
set_option linter.unusedSimpArgs false
namespace Go.Proofs.Ytkebldjepdhioaa
open Go.RowKit

def LA (n : Nat) : Nat → Array Bool
  | 0 => Array.replicate n false
  | k + 1 => (LA n k).setIfInBounds k true
theorem LA_inv (n : Nat) : ∀ k j, (LA n k).getD j false = true → j < k
  | 0, j, h => by
    simp only [LA, Array.getD_eq_getD_getElem?, Array.getElem?_replicate] at h
    split at h <;> simp at h
  | k + 1, j, h => by
    by_cases e : k = j
    · omega
    · have : (LA n (k + 1)).getD j false = (LA n k).getD j false := by
        rw [show LA n (k + 1) = (LA n k).setIfInBounds k true from rfl, Array.getD_eq_getD_getElem?, Array.getElem?_setIfInBounds_ne e, Array.getD_eq_getD_getElem?]
      rw [this] at h
      have := LA_inv n k j h
      omega

section
variable {P : Program} {ops : Array Oper} {md : Region.Mode} {C : World → Prop}

/-- Whatever order the operations below m are picked in. -/
def wpAnyR (P : Program) (md : Region.Mode) (ops : Array Oper) (C : World → Prop) (m : Nat) (Q : Array Bool → Act → Prop) : Nat → Array Bool → Act → Prop
  | 0, listed, a => (∀ j ∈ Region.ready md ops listed, m ≤ j) ∧ Q listed a
  | fuel + 1, listed, a => (∃ k ∈ Region.ready md ops listed, k < m) ∧ ∀ i ∈ Region.ready md ops listed, i < m → qOp P ops C i (wpAnyR P md ops C m Q fuel (listed.setIfInBounds i true)) a

theorem wpAnyR_first {Q : Array Bool → Act → Prop} {m i : Nat} {oi : Oper} {v : Value} (hi : ops[i]? = some oi) (him : i < m) (hsel : ∀ (j : Nat) (o : Oper) cs b, ops[j]? = some o → o.op ≠ .select cs b) :
    ∀ (fuel : Nat) (listed : Array Bool) (a : Act),
      (∀ j oj, ops[j]? = some oj → j ≠ i → listed.getD j true = false → (∀ e ∈ oj.after, Region.binds md e = true → e.on ≠ i) → oi.apart ops oj = true) →
      i ∈ Region.ready md ops listed → YieldsIn P ops C oi v a →
      wpAnyR P md ops C m Q fuel (listed.setIfInBounds i true) (a.put oi.dst v) → wpAnyR P md ops C m Q (fuel + 1) listed a := by
  intro fuel
  induction fuel with
  | zero =>
    intro listed a _ hr hy H
    refine ⟨⟨i, hr, him⟩, fun j hj hjm => ?_⟩
    by_cases hji : j = i
    · subst hji; exact hy.qOp hi H
    · exact absurd (H.1 j (ready_mono hj hji)) (by omega)
  | succ fuel ih =>
    intro listed a hfree hr hy H
    refine ⟨⟨i, hr, him⟩, fun j hj hjm => ?_⟩
    by_cases hji : j = i
    · subst hji; exact hy.qOp hi H
    · have h1 := H.2 j (ready_mono hj hji) hjm
      obtain ⟨hjun, oj, hoj, hall⟩ := mem_ready.1 hj
      have hnot : ∀ e ∈ oj.after, Region.binds md e = true → e.on ≠ i := fun e he hb heq => by
        have h1 := hall e he hb
        have h0 := (mem_ready.1 hr).1
        rw [heq] at h1
        rcases Nat.lt_or_ge i listed.size with h' | h'
        · simp [h'] at h0 h1; rw [h0] at h1; cases h1
        · simp [Array.getElem?_eq_none h'] at h1
      have h2 := qOp_put hoj (hfree j oj hoj hji hjun hnot) (fun cs b => hsel i oi cs b hi) (fun cs b => hsel j oj cs b hoj) hy h1
      have hfree' : ∀ k ok, ops[k]? = some ok → k ≠ i → (listed.setIfInBounds j true).getD k true = false →
          (∀ e ∈ ok.after, Region.binds md e = true → e.on ≠ i) → oi.apart ops ok = true := fun k ok hk hki hun hno => by
        refine hfree k ok hk hki ?_ hno
        by_cases hjk : j = k
        · subst hjk; exact hjun
        · rw [getD_set_ne true hjk] at hun; exact hun
      refine qOp_mono (fun a' h3 => ih (listed.setIfInBounds j true) a' hfree' (ready_mono hr (Ne.symm hji)) h3.1 ?_) h2
      rw [Array.setIfInBounds_comm _ _ hji]
      exact h3.2

def lexR (md : Region.Mode) (ops : Array Oper) (m : Nat) : Nat → Nat → Array Bool → Bool
  | 0, _, listed => (Region.ready md ops listed).all fun j => decide (m ≤ j)
  | fuel + 1, k, listed => (Region.ready md ops listed).contains k && Region.free md ops listed k && decide (k < m) && lexR md ops m fuel (k + 1) (listed.setIfInBounds k true)

theorem wpAnyR_lex {Q : Act → Prop} (hs : Region.noSelect ops = true) {m n : Nat} : ∀ (l : List Oper) (k : Nat) (a : Act), (∀ j, j < l.length → l[j]? = ops[k + j]?) →
    lexR md ops m l.length k (LA n k) = true → wpQuiet P ops C Q l a → wpAnyR P md ops C m (fun L a => L = LA n (k + l.length) ∧ Q a) l.length (LA n k) a
  | [], k, _, _, hB, h => ⟨fun j hj => by
      simp only [List.length_nil, lexR, List.all_eq_true, decide_eq_true_eq] at hB
      exact hB j hj, by simp, h⟩
  | o :: l, k, a, hl, hB, h => by
    have h0 : ops[k]? = some o := by simpa using (hl 0 (by simp)).symm
    simp only [List.length_cons, lexR, Bool.and_eq_true, decide_eq_true_eq] at hB
    obtain ⟨⟨⟨hr, hf⟩, hkm⟩, hB'⟩ := hB
    have hst : qOp P ops C k (wpQuiet P ops C Q l) a := by unfold qOp; simp only [h0]; exact h
    obtain ⟨v, hy, hK⟩ := yieldsIn_of_qOp h0 hst
    have ih := wpAnyR_lex hs l (k + 1) (a.put o.dst v) (fun j hj => by have := hl (j + 1) (by simpa using hj); simpa [Nat.add_assoc, Nat.add_comm 1 j] using this) hB' hK
    rw [show k + 1 + l.length = k + (o :: l).length by simp; omega] at ih
    exact wpAnyR_first h0 hkm (Region.noSelect_spec hs) l.length (LA n k) a (Region.free_spec h0 hf) (by simpa using hr) hy ih

/-- What is not listed where k is not: what waits for it, at one or more removes. -/
def unL (md : Region.Mode) (ops : Array Oper) (k : Nat) : Nat → List Bool
  | 0 => []
  | i + 1 => unL md ops k i ++ [decide (i = k) || (match ops[i]? with | some o => o.after.any (fun e => Region.binds md e && (unL md ops k i).getD e.on false) | none => false)]
theorem unL_length (md : Region.Mode) (ops : Array Oper) (k : Nat) : ∀ i, (unL md ops k i).length = i
  | 0 => rfl
  | i + 1 => by simp [unL, unL_length md ops k i]
def Closed (md : Region.Mode) (ops : Array Oper) (listed : Array Bool) : Prop :=
  ∀ j o, ops[j]? = some o → listed.getD j false = true → ∀ e ∈ o.after, Region.binds md e = true → listed.getD e.on false = true
theorem unL_spec {listed : Array Bool} {k : Nat} (hc : Closed md ops listed) (hk : listed.getD k false = false) : ∀ i j, (unL md ops k i).getD j false = true → listed.getD j false = false
  | 0, j, h => by simp [unL] at h
  | i + 1, j, h => by
    have hl := unL_length md ops k i
    rcases Nat.lt_or_ge j i with hj | hj
    · refine unL_spec hc hk i j ?_
      rw [List.getD_eq_getElem?_getD] at h ⊢
      rwa [unL, List.getElem?_append_left (by omega)] at h
    · rcases Nat.lt_or_ge i j with hj2 | hj2
      · rw [List.getD_eq_getElem?_getD, List.getElem?_eq_none (by rw [unL_length]; omega)] at h
        simp at h
      · obtain rfl : j = i := by omega
        rw [List.getD_eq_getElem?_getD, unL, List.getElem?_append_right (by omega), hl, Nat.sub_self] at h
        simp only [List.getElem?_cons_zero, Option.getD_some, Bool.or_eq_true, decide_eq_true_eq] at h
        rcases h with h | h
        · rw [h]; exact hk
        · cases ho : ops[j]? with
          | none => rw [ho] at h; simp at h
          | some o =>
            rw [ho] at h
            simp only [Array.any_eq_true'] at h
            obtain ⟨e, he, hb⟩ := h
            simp only [Bool.and_eq_true] at hb
            have h1 := unL_spec hc hk j e.on hb.2
            cases hx : listed.getD j false with
            | false => rfl
            | true =>
              have := hc j o ho hx e he hb.1
              rw [h1] at this
              cases this
def AB (md : Region.Mode) (ops : Array Oper) (n m k : Nat) : Array Bool := (Array.range n).map fun j => decide (j < m) && !((unL md ops k m).getD j false)
def lateB (md : Region.Mode) (ops : Array Oper) (m : Nat) : Bool := decide (m ≤ ops.size) && (List.range m).all fun k => (Region.ready md ops (AB md ops ops.size m k)).all fun j => decide (j < m)

theorem wpAny_of_R {m : Nat} {QQ : Array Bool → Act → Prop} {Q' : Exit → Act → World → Prop} (hst : lateB md ops m = true) (rest : Nat) (hK : ∀ L a w, C w → QQ L a → wpAny P md ops Q' rest L a w) :
    ∀ (fuel : Nat) (listed : Array Bool) (a : Act) (w : World), C w → (∀ k, listed.getD k false = true → k < m) → Closed md ops listed → wpAnyR P md ops C m QQ fuel listed a → wpAny P md ops Q' (fuel + rest) listed a w
  | 0, listed, a, w, hw, _, _, h => by
    have h' : (∀ j ∈ Region.ready md ops listed, m ≤ j) ∧ QQ listed a := h
    rw [Nat.zero_add]; exact hK _ _ _ hw h'.2
  | fuel + 1, listed, a, w, hw, hinv, hcl, h => by
    have h : (∃ k ∈ Region.ready md ops listed, k < m) ∧ ∀ i ∈ Region.ready md ops listed, i < m → qOp P ops C i (wpAnyR P md ops C m QQ fuel (listed.setIfInBounds i true)) a := h
    rw [show fuel + 1 + rest = (fuel + rest) + 1 by omega]
    obtain ⟨⟨k, hk, hkm⟩, h2⟩ := h
    simp only [lateB, Bool.and_eq_true, decide_eq_true_eq, List.all_eq_true, List.mem_range] at hst
    obtain ⟨hms, hst'⟩ := hst
    have hkf : listed.getD k false = false := by
      have h6 := (mem_ready.1 hk).1
      rcases Nat.lt_or_ge k listed.size with h' | h'
      · simp [h'] at h6 ⊢; exact h6
      · simp [Array.getElem?_eq_none h']
    refine ⟨fun h0 => absurd hk (by rw [h0]; simp), fun i hi => ?_⟩
    have him : i < m := by
      apply Classical.byContradiction
      intro hn
      apply hn
      refine hst' k hkm i ?_
      rw [mem_ready] at hi ⊢
      obtain ⟨h0, o, ho, hall⟩ := hi
      have hin : i < ops.size := (Array.getElem?_eq_some_iff.1 ho).1
      refine ⟨?_, o, ho, fun e he hb => ?_⟩
      · simp [AB, hin, hn]
      · have h3 := hall e he hb
        have h4 := hinv _ h3
        have h5 : (unL md ops k m).getD e.on false = false := by
          cases hx : (unL md ops k m).getD e.on false with
          | false => rfl
          | true =>
            have := unL_spec hcl hkf m e.on hx
            rw [h3] at this
            cases this
        have h6 : e.on < ops.size := by omega
        rw [List.getD_eq_getElem?_getD] at h5
        simp [AB, h6, h4, h5]
    have hready := mem_ready.1 hi
    refine wpOp_of_qOp hw (fun a' w' hw' => wpAny_of_R (by simp only [lateB, Bool.and_eq_true, decide_eq_true_eq, List.all_eq_true, List.mem_range]; exact ⟨hms, hst'⟩) rest hK fuel _ a' w' hw' (fun j hj => ?_) (fun j o ho hj e he hb => ?_)) (h2 i hi him)
    · by_cases e : i = j
      · omega
      · apply hinv j
        rwa [Array.getD_eq_getD_getElem?, Array.getElem?_setIfInBounds_ne e, ← Array.getD_eq_getD_getElem?] at hj
    · by_cases hij : i = j
      · subst hij
        obtain ⟨-, o', ho', hall⟩ := hready
        rw [ho] at ho'
        injection ho' with ho'
        subst ho'
        exact getD_set_true (hall e he hb)
      · rw [Array.getD_eq_getD_getElem?, Array.getElem?_setIfInBounds_ne hij, ← Array.getD_eq_getD_getElem?] at hj
        exact getD_set_true (hcl j o ho hj e he hb)

def closedB (md : Region.Mode) (ops : Array Oper) (listed : Array Bool) : Bool :=
  (List.range ops.size).all fun j => !listed.getD j false || (match ops[j]? with | some o => o.after.all (fun e => !Region.binds md e || listed.getD e.on false) | none => true)
theorem closed_of {listed : Array Bool} (h : closedB md ops listed = true) : Closed md ops listed := fun j o ho hj e he hb => by
  have hin : j < ops.size := (Array.getElem?_eq_some_iff.1 ho).1
  simp only [closedB, List.all_eq_true, List.mem_range] at h
  have h1 := h j hin
  rw [hj, ho] at h1
  simp only [Bool.not_true, Bool.false_or, Array.all_eq_true_iff_forall_mem] at h1
  have h2 := h1 e he
  rw [hb] at h2
  simpa using h2

def forcedC (md : Region.Mode) (ops : Array Oper) : Nat → Nat → Array Bool → Bool
  | 0, _, _ => true
  | h + 1, i, listed => (Region.ready md ops listed == [i] || (isMove ops i && (Region.ready md ops listed).contains i && Region.free md ops listed i)) && forcedC md ops h (i + 1) (listed.setIfInBounds i true)

theorem forced_any {Q : Exit → Act → World → Prop} {K : Act → World → Prop} (hs : Region.noSelect ops = true) (hQ : ∀ (c : List PanicEntry) (a : Act) (d : Option Tmp) (v : Value) (w : World), Q (.panic c) (a.put d v) w → Q (.panic c) a w)
    (n e n' : Nat) (hK : ∀ a w, K a w → wpAny P md ops Q n' (LA n e) a w) : ∀ (l : List Oper) (i : Nat) (a : Act) (w : World),
    i + l.length = e → (∀ j, j < l.length → l[j]? = ops[i + j]?) → forcedC md ops l.length i (LA n i) = true → wpList P ops (HeadPost Q K) l a w → wpAny P md ops Q (l.length + n') (LA n i) a w
  | [], i, a, w, he, _, _, h => by
    have h' : K a w := h
    simp only [List.length_nil, Nat.zero_add, Nat.add_zero] at he ⊢
    rw [he]
    exact hK _ _ h'
  | o :: l, i, a, w, he, hl, hB, h => by
    have h0 : ops[i]? = some o := by simpa using (hl 0 (by simp)).symm
    simp only [List.length_cons, forcedC, Bool.and_eq_true, Bool.or_eq_true, beq_iff_eq] at hB
    obtain ⟨hr, hB'⟩ := hB
    have hnext : ∀ a w, wpList P ops (HeadPost Q K) l a w → wpAny P md ops Q (l.length + n') ((LA n i).setIfInBounds i true) a w := fun a w =>
      forced_any hs hQ n e n' hK l (i + 1) a w (by simp only [List.length_cons] at he; omega) (fun j hj => by have := hl (j + 1) (by simpa using hj); simpa [Nat.add_assoc, Nat.add_comm 1 j] using this) hB'
    rw [show (o :: l).length + n' = (l.length + n') + 1 by simp; omega]
    rcases hr with hr | ⟨⟨hmv, hrc⟩, hfr⟩
    case inr =>
      simp only [wpList] at h
      by_cases hw : Region.wanted o (yielded ops a.tmps) = true
      · obtain ⟨v, hv⟩ := yields_move a h0 hmv
        have hrun : ∀ w, (execOp a.eval o).run P w = .ok (.value v) w := fun w => by rw [hv]; rfl
        simp only [hw, if_true] at h
        have hk : wpList P ops (HeadPost Q K) l (a.put o.dst v) w := by
          rcases h with h | ⟨h1, h2⟩
          · unfold Oper.wp at h
            rw [hrun w] at h
            exact h
          · exact absurd h1.1 (by rw [hv]; simp [Sem.runT, pure, Sem.events])
        exact wpAny_first h0 (Region.noSelect_spec hs) (fun c a w => hQ c a _ _ w) _ _ _ _ (Region.free_spec h0 hfr) (by simpa using hrc) (.inl ⟨hw, hrun⟩) (hnext _ _ hk)
      · have hw' : Region.wanted o (yielded ops a.tmps) = false := by simpa using hw
        simp only [hw'] at h
        exact wpAny_first h0 (Region.noSelect_spec hs) (fun c a w => hQ c a _ _ w) _ _ _ _ (Region.free_spec h0 hfr) (by simpa using hrc) (.inr ⟨hw', rfl⟩) (hnext _ _ h)
    refine wpAny_all hr (by simp) fun j hj => ?_
    obtain rfl : j = i := by simpa using hj
    unfold wpOp
    simp only [h0]
    simp only [wpList] at h
    split
    · rename_i hw
      simp only [hw, if_true] at h
      rcases h with h | ⟨h1, h2⟩
      · exact .inl (Oper.wp_mono hnext (head_wp h))
      · exact .inr ⟨h1, h2⟩
    · rename_i hw
      simp only [hw] at h
      exact hnext _ _ h

/-- k forced, those from k to m quiet, the others forced. -/
def triB (ops : Array Oper) (k m : Nat) : Bool :=
  Region.noSelect ops && decide (k ≤ m) && decide (m ≤ ops.size) && forcedC .any ops k 0 (LA ops.size 0) && lexR .any ops m (m - k) k (LA ops.size k) && lateB .any ops m && closedB .any ops (LA ops.size k) && forcedC .any ops (ops.size - m) m (LA ops.size m) && (Region.ready .any ops (LA ops.size ops.size)).isEmpty

theorem headPost_self (Q : Exit → Act → World → Prop) : (HeadPost Q fun a w => Q .normal a w) = Q := by funext e a w; cases e <;> rfl
theorem wp_region_tri {id : Nat} {Q : Exit → Act → World → Prop} {a : Act} {w : World} (k m : Nat) (CC : World → World → Prop) (hC : ∀ w, CC w w) {l : List Oper}
    (hQ : ∀ (c : List PanicEntry) (a : Act) (d : Option Tmp) (v : Value) (w : World), Q (.panic c) (a.put d v) w → Q (.panic c) a w) (hm : P.follows .mixedOrders = true) (hB : triB l.toArray k m = true)
    (h : wpList P l.toArray (HeadPost Q fun a1 w1 => wpQuiet P l.toArray (CC w1) (fun a2 => ∀ w2, CC w1 w2 → wpList P l.toArray Q (l.drop m) a2 w2) ((l.take m).drop k) a1) (l.take k) a w.drew) :
    (Code.region id l.toArray true).wp P Q a w := by
  simp only [triB, Bool.and_eq_true, decide_eq_true_eq, List.size_toArray, List.isEmpty_iff] at hB
  obtain ⟨⟨⟨⟨⟨⟨⟨⟨hs, hkm⟩, hml⟩, hF1⟩, hL⟩, hlate⟩, hcl⟩, hF2⟩, hend⟩ := hB
  refine wp_region_any hm ?_
  have h1 : (l.take k).length = k := by rw [List.length_take]; omega
  have h2 : ((l.take m).drop k).length = m - k := by rw [List.length_drop, List.length_take]; omega
  have h3 : (l.drop m).length = l.length - m := List.length_drop
  have step3 : ∀ a w, wpList P l.toArray Q (l.drop m) a w → wpAny P .any l.toArray Q (l.length - m + 0) (LA l.length m) a w := fun a w hh => by
    have := forced_any (P := P) (ops := l.toArray) (md := .any) (Q := Q) (K := fun a3 w3 => Q .normal a3 w3) hs hQ l.length l.length 0 (fun a w hq => ⟨hend, hq⟩) (l.drop m) m a w (by rw [h3]; omega)
      (fun j _ => by simp) (by rw [h3]; exact hF2) (by rw [headPost_self]; exact hh)
    rwa [h3] at this
  have step2 : ∀ a1 w1, wpQuiet P l.toArray (CC w1) (fun a2 => ∀ w2, CC w1 w2 → wpList P l.toArray Q (l.drop m) a2 w2) ((l.take m).drop k) a1 →
      wpAny P .any l.toArray Q ((m - k) + (l.length - m + 0)) (LA l.length k) a1 w1 := fun a1 w1 hh => by
    have hr := wpAnyR_lex (P := P) (ops := l.toArray) (md := .any) (C := CC w1) hs (m := m) (n := l.length) ((l.take m).drop k) k a1
      (fun j hj => by rw [h2] at hj; simp [List.getElem?_take_of_lt (show k + j < m by omega)]) (by rw [h2]; exact hL) hh
    rw [h2] at hr
    refine wpAny_of_R (by exact hlate) _ (fun L a w hw hq => ?_) _ _ _ _ (hC w1) (fun j hj => by have := LA_inv _ _ _ hj; omega) (closed_of hcl) hr
    obtain ⟨rfl, hq⟩ := hq
    rw [show k + (m - k) = m by omega]
    exact step3 a w (hq w hw)
  have := forced_any (P := P) (ops := l.toArray) (md := .any) (Q := Q) hs hQ l.length k ((m - k) + (l.length - m + 0)) step2 (l.take k) 0 a w.drew (by rw [h1]; omega)
    (fun j hj => by rw [h1] at hj; simp [List.getElem?_take_of_lt hj]) (by rw [h1]; exact hF1) h
  rw [h1, show k + (m - k + (l.length - m + 0)) = l.length by omega] at this
  simpa [LA] using this
theorem wp_region_tail {id : Nat} {Q : Exit → Act → World → Prop} {a : Act} {w : World} (m : Nat) (CC : World → World → Prop) (hC : ∀ w, CC w w) {l : List Oper}
    (hQ : ∀ (c : List PanicEntry) (a : Act) (d : Option Tmp) (v : Value) (w : World), Q (.panic c) (a.put d v) w → Q (.panic c) a w) (hm : P.follows .mixedOrders = true) (hB : triB l.toArray 0 m = true)
    (h : wpQuiet P l.toArray (CC w.drew) (fun a2 => ∀ w2, CC w.drew w2 → wpList P l.toArray Q (l.drop m) a2 w2) (l.take m) a) :
    (Code.region id l.toArray true).wp P Q a w :=
  wp_region_tri 0 m CC hC hQ hm hB h
end

end Go.Proofs.Ytkebldjepdhioaa
