import Derived.Lib.SplitLaws
import Derived.Test.YtpenkbhljkmliaaGreatDoorDeskB
/-
  Plain: the lines of a text that is joined of two by a newline are the lines of the one and then those of the other.
-/
set_option linter.unusedVariables false
set_option linter.unusedSimpArgs false
namespace Wm
open Go.Lib

/-- The lines of a text. -/
def spl : List UInt8 → List (List UInt8)
  | [] => [[]]
  | c :: l => if c = 10 then [] :: spl l else match spl l with
    | [] => [[c]]
    | h :: t => (c :: h) :: t
theorem spl_ne : ∀ l, spl l ≠ []
  | [] => by simp [spl]
  | c :: l => by
    simp only [spl]
    split
    · simp
    · split <;> simp
theorem spl_append (b : List UInt8) : ∀ a, spl (a ++ 10 :: b) = spl a ++ spl b
  | [] => by simp [spl]
  | c :: l => by
    have ih := spl_append b l
    simp only [List.cons_append, spl]
    split
    · rw [ih, List.cons_append]
    · rw [ih]
      have hn := spl_ne l
      cases h : spl l with
      | nil => exact absurd h hn
      | cons x t => simp
theorem spl_no : ∀ l, ∀ x ∈ spl l, ∀ c ∈ x, c ≠ 10
  | [], x, hx, c, hc => by
    simp only [spl, List.mem_singleton] at hx
    subst hx; cases hc
  | d :: l, x, hx, c, hc => by
    simp only [spl] at hx
    split at hx
    · rcases List.mem_cons.1 hx with rfl | h
      · cases hc
      · exact spl_no l x h c hc
    · rename_i hd
      have ih := spl_no l
      cases h : spl l with
      | nil =>
        rw [h] at hx
        simp only [List.mem_singleton] at hx
        subst hx
        simp only [List.mem_singleton] at hc
        subst hc; exact hd
      | cons y t =>
        rw [h] at hx ih
        rcases List.mem_cons.1 hx with rfl | h2
        · rcases List.mem_cons.1 hc with rfl | h3
          · exact hd
          · exact ih y List.mem_cons_self c h3
        · exact ih x (List.mem_cons_of_mem _ h2) c hc
theorem index_cons (b : UInt8) (l : List UInt8) : index (b :: l) [10] = if b = 10 then 0 else if index l [10] = -1 then -1 else index l [10] + 1 := by
  rw [index]
  by_cases h : b = 10
  · simp [h, List.isPrefixOf]
  · have h' : ¬ (10 : UInt8) = b := fun e => h e.symm
    simp [h, h', List.isPrefixOf]
theorem spl_miss : ∀ l, index l [10] = -1 → spl l = [l]
  | [], _ => rfl
  | b :: l, h => by
    rw [index_cons] at h
    split at h
    · cases h
    · rename_i hb
      split at h
      · rename_i h2
        simp only [spl]
        rw [if_neg hb, spl_miss l h2]
      · have := index_ge l [10]; omega
theorem spl_hit : ∀ (l : List UInt8) (i : Nat), index l [10] = (i : Int) → spl l = l.take i :: spl (l.drop (i + 1)) ∧ i < l.length
  | [], i, h => by simp [index] at h
  | b :: l, i, h => by
    rw [index_cons] at h
    split at h
    · rename_i hb
      obtain rfl : i = 0 := by omega
      simp [spl, hb]
    · rename_i hb
      split at h
      · omega
      · obtain ⟨k, rfl⟩ : ∃ k, i = k + 1 := ⟨i - 1, by have := index_ge l [10]; omega⟩
        obtain ⟨h1, h2⟩ := spl_hit l k (by omega)
        simp only [spl]
        rw [if_neg hb, h1]
        simp
        exact h2
theorem split_spl : ∀ (n : Nat) (l : List UInt8), l.length ≤ n → split l [10] = spl l ∧ count l [10] + 1 = (spl l).length
  | n, l, hn => by
    by_cases hm : index l [10] = -1
    · have h0 : count l [10] = 0 := count_miss hm
      refine ⟨?_, ?_⟩
      · unfold split
        rw [h0, spl_miss l hm]; rfl
      · rw [h0, spl_miss l hm]; rfl
    · obtain ⟨i, hi⟩ := Int.eq_ofNat_of_zero_le (show 0 ≤ index l [10] by have := index_ge l [10]; omega)
      obtain ⟨h1, h2⟩ := spl_hit l i hi
      have hc : count l [10] = 1 + count (l.drop (i + 1)) [10] := count_hit (by simp) hi
      cases n with
      | zero => omega
      | succ n =>
        obtain ⟨ih1, ih2⟩ := split_spl n (l.drop (i + 1)) (by rw [List.length_drop]; omega)
        refine ⟨?_, ?_⟩
        · unfold split
          rw [hc, Nat.add_comm 1, splitK, if_neg (by simpa using hm), h1, ← ih1, hi]
          simp [split]
        · rw [hc, h1, List.length_cons, ← ih2]; omega
/-- The lines of a text of bytes, as strings.Split makes them. -/
def nl : ByteArray := ⟨#[10]⟩
def lines (s : ByteArray) : List ByteArray := splitB nl 0 (countB s nl) s
theorem lines_data (s : ByteArray) : (lines s).map (·.data.toList) = spl s.data.toList := by
  unfold lines
  rw [splitB_data]
  exact (split_spl _ _ (Nat.le_refl _)).1
theorem lines_len (s : ByteArray) : (lines s).length = countB s nl + 1 := splitB_all nl (by decide) 0 _ s rfl
theorem data_inj {l m : List ByteArray} (h : l.map (·.data.toList) = m.map (·.data.toList)) : l = m := by
  refine List.map_inj_right (f := fun s : ByteArray => s.data.toList) (fun a b e => ?_) |>.1 h
  cases a; cases b
  congr 1
  exact Array.toList_inj.1 e
theorem lines_join (a b : ByteArray) : lines (a ++ nl ++ b) = lines a ++ lines b := by
  apply data_inj
  rw [List.map_append, lines_data, lines_data, lines_data, ← spl_append]
  congr 1
  simp [nl]
theorem lines_no (s : ByteArray) : ∀ x ∈ lines s, ∀ c ∈ x.data.toList, c ≠ 10 := fun x hx c hc => by
  have h : x.data.toList ∈ (lines s).map (·.data.toList) := List.mem_map.2 ⟨x, hx, rfl⟩
  rw [lines_data] at h
  exact spl_no _ _ h c hc
end Wm

/-
  Plain: each answer of the desk is a text that is not empty and holds no newline, where the line holds none.
-/
set_option linter.unusedVariables false
set_option linter.unusedSimpArgs false
namespace Go.Proofs.YtpenkbhljkmliaaGreatDoor

/-- A text without a newline. -/
def Cl (s : ByteArray) : Prop := ∀ c ∈ s.data.toList, c ≠ 10
/-- .. that is not empty. -/
def Gd (s : ByteArray) : Prop := 0 < s.size ∧ Cl s
theorem Cl.append {s t : ByteArray} (hs : Cl s) (ht : Cl t) : Cl (s ++ t) := fun c hc => by
  have e : (s ++ t).data.toList = s.data.toList ++ t.data.toList := by simp
  rw [e] at hc
  exact (List.mem_append.1 hc).elim (hs c) (ht c)
theorem cl_empty : Cl ByteArray.empty := fun c hc => by cases hc
theorem Gd.append {s t : ByteArray} (hs : Gd s) (ht : Cl t) : Gd (s ++ t) := ⟨by rw [ByteArray.size_append]; have := hs.1; omega, hs.2.append ht⟩
theorem digit_ne : ∀ d : Fin 10, UInt8.ofNat (48 + d.val) ≠ 10 := by decide
theorem cl_dec (n : Nat) : (∀ c ∈ Lib.decDigits n, c ≠ 10) ∧ Lib.decDigits n ≠ [] := by
  induction n using Nat.strongRecOn with
  | _ n ih =>
    rw [Lib.decDigits]
    split
    · rename_i h
      refine ⟨fun c hc => ?_, by simp⟩
      rw [List.mem_singleton] at hc
      subst hc
      exact digit_ne ⟨n, h⟩
    · rename_i h
      refine ⟨fun c hc => ?_, by simp⟩
      rcases List.mem_append.1 hc with h1 | h1
      · exact (ih (n / 10) (by omega)).1 c h1
      · rw [List.mem_singleton] at h1
        subst h1
        exact digit_ne ⟨n % 10, Nat.mod_lt _ (by omega)⟩
theorem gd_itoa (n : Int) : Gd (itoaB n) := by
  unfold itoaB Lib.itoa
  split
  · refine ⟨by show 0 < (List.toArray _).size; simp, fun c hc => ?_⟩
    have hc : c ∈ 45 :: Lib.decDigits n.natAbs := by simpa using hc
    rcases List.mem_cons.1 hc with rfl | h
    · decide
    · exact (cl_dec _).1 c h
  · have h2 := (cl_dec n.toNat).2
    refine ⟨by show 0 < (List.toArray _).size; simp only [List.size_toArray]; exact List.length_pos_iff.2 h2, fun c hc => ?_⟩
    exact (cl_dec _).1 c (by simpa using hc)
theorem cl_blank : Cl blank := by unfold Cl blank; decide
theorem gd_ok : Gd okB_ := ⟨by decide, by unfold Cl okB_; decide⟩
theorem gd_err (e : Int) : Gd (errB e) := Gd.append ⟨by decide, by unfold Cl; decide⟩ (gd_itoa e).2
theorem gd_nums (l : List Int) : Gd (numsB l) := by
  have h : ∀ (l : List Int) (s : ByteArray), Cl s → Cl (l.foldl (fun s n => s ++ (itoaB n ++ blank)) s) := fun l => by
    induction l with
    | nil => exact fun s hs => hs
    | cons n l ih => exact fun s hs => ih _ (hs.append ((gd_itoa n).2.append cl_blank))
  refine ⟨?_, (h l _ cl_empty).append (by unfold Cl; decide)⟩
  unfold numsB
  rw [ByteArray.size_append]
  have : (⟨#[46]⟩ : ByteArray).size = 1 := rfl
  omega
/-! ### Words -/
theorem cl_sub {s t : ByteArray} (h : Cl s) (hm : ∀ c ∈ t.data.toList, c ∈ s.data.toList) : Cl t := fun c hc => h c (hm c hc)
theorem cl_words {p : Nat → Bool} {s : ByteArray} (h : Cl s) : ∀ x ∈ Lib.goFieldsP p s, Cl x := fun x hx => by
  unfold Lib.goFieldsP at hx
  obtain ⟨y, -, rfl⟩ := List.mem_map.1 hx
  refine cl_sub h fun c hc => ?_
  rw [Lib.extract_data] at hc
  exact List.mem_of_mem_drop (List.mem_of_mem_take hc)
theorem cl_form : ∀ (ws : List ByteArray) (f : List Bool) (ns : List Nat) (x : ByteArray) (r : List Nat × ByteArray), (∀ y ∈ ws, Cl y) → Cl x → formGo ws f ns x = .ok r → Cl r.2
  | [], [], ns, x, r, _, hx, h => by
    simp only [formGo, Except.ok.injEq] at h
    subst h; exact hx
  | [], _ :: _, ns, x, r, _, hx, h => by
    simp only [formGo, Except.ok.injEq] at h
    subst h; exact hx
  | _ :: _, [], ns, x, r, _, hx, h => by
    simp only [formGo, Except.ok.injEq] at h
    subst h; exact hx
  | w :: ws, true :: fs, ns, x, r, hw, hx, h => by
    simp only [formGo] at h
    exact cl_form ws fs ns w r (fun y hy => hw y (List.mem_cons_of_mem _ hy)) (hw w List.mem_cons_self) h
  | w :: ws, false :: fs, ns, x, r, hw, hx, h => by
    simp only [formGo] at h
    cases hn : numT w with
    | error e => rw [hn] at h; cases h
    | ok n =>
      rw [hn] at h
      exact cl_form ws fs _ x r (fun y hy => hw y (List.mem_cons_of_mem _ hy)) hx h
/-! ### The store -/
/-- Each text that the store was ever given holds no newline. -/
def ClS (σ : Sto) : Prop := ∃ H, Sto.Ok σ H ∧ ∀ t, 1 ≤ t → t ≤ σ.wr → Cl (H t).2
theorem ClS.do_ {σ : Sto} (C : ClS σ) (kind key n : Int) {s : ByteArray} (hs : Cl s) : ClS (σ.doS kind key n s).2 := by
  obtain ⟨H, O, h⟩ := C
  refine ⟨Sto.hist σ H kind key n s, O.do_ kind key n s, fun t h1 h2 => ?_⟩
  unfold Sto.hist
  split
  · rename_i e
    exact h t h1 (by omega)
  · by_cases e : t = σ.wr + 1
    · subst e
      rw [Sto.ext_same]; exact hs
    · rw [Sto.ext_ne H _ _ e]
      by_cases ht : t ≤ σ.wr
      · exact h t h1 ht
      · exfalso
        rename_i hne
        by_cases k1 : kind = 1 ∨ kind = 2
        · by_cases he : (σ.doS kind key n s).1.err = 0
          · have := (Sto.put_told (σ := σ) kind key n s k1 he).2.1; omega
          · rw [Sto.doS_same σ kind key n s he] at hne
            exact hne rfl
        · exact hne (Sto.wr_same (σ := σ) kind key n s (fun e => k1 (.inl e)) (fun e => k1 (.inr e)))
theorem ClS.get {σ : Sto} (C : ClS σ) (key : Int) (s : ByteArray) (he : (σ.doS 3 key 0 s).1.err = 0) : Cl (σ.doS 3 key 0 s).1.text := by
  obtain ⟨H, O, h⟩ := C
  obtain ⟨-, h1, h2, h3, -⟩ := Sto.get_told O key 0 s he
  have := h _ h1 h2
  rwa [h3] at this
end Go.Proofs.YtpenkbhljkmliaaGreatDoor

/-
  Plain: a whole script: each line that is not empty has an answer that is not empty and holds no newline; the lines of a joined script.
-/
set_option linter.unusedVariables false
set_option linter.unusedSimpArgs false
namespace Go.Proofs.YtpenkbhljkmliaaGreatDoor

/-- What is asked of an answer on the way. -/
def Fit (r : Except Int ByteArray × Sto) : Prop := (∀ b, r.1 = .ok b → Gd b) ∧ ClS r.2
theorem fit_er {σ : Sto} (C : ClS σ) (e : Int) : Fit (.error e, σ) := ⟨(fun b h => by cases h), C⟩
theorem fit_with {σ : Sto} (C : ClS σ) {f : Except Int (List Nat × ByteArray)} {k : List Nat → ByteArray → Except Int ByteArray × Sto} (hk : ∀ ns x, f = .ok (ns, x) → Fit (k ns x)) : Fit (withT σ f k) := by
  cases f with
  | error e => exact fit_er C e
  | ok r => exact hk r.1 r.2 rfl
theorem fit_ans {σ : Sto} (C : ClS σ) (kind key n : Int) {s : ByteArray} (hs : Cl s) {f : Ans → ByteArray} (hf : (σ.doS kind key n s).1.err = 0 → Gd (f (σ.doS kind key n s).1)) : Fit (ansT (σ.doS kind key n s) f) := by
  refine ⟨fun b h => ?_, C.do_ kind key n hs⟩
  unfold ansT at h
  simp only at h
  split at h
  · rename_i e
    simp only [Except.ok.injEq] at h
    subst h; exact hf e
  · cases h
theorem cl_formT {ws : List ByteArray} {f : List Bool} {ns : List Nat} {x : ByteArray} (hw : ∀ y ∈ ws, Cl y) (h : formT ws f = .ok (ns, x)) : Cl x := by
  unfold formT at h
  split at h
  · cases h
  · exact cl_form ws f [] _ (ns, x) hw cl_empty h
theorem fit_stored {qe : Int → Int → Int → Int → Int} {σ : Sto} (C : ClS σ) (hq : ∀ N K W R : Nat, qe N K W R = 0 → ClS (Sto.new N K W R)) {cmd : ByteArray} {ws : List ByteArray} (hw : ∀ y ∈ ws, Cl y) : ∀ r, storedT qe σ cmd ws = some r → Fit r := by
  intro r h
  unfold storedT at h
  split at h
  · obtain rfl := Option.some.inj h
    exact fit_with C fun ns x hf => fit_ans C _ _ _ (cl_formT hw hf) fun _ => gd_itoa _
  split at h
  · obtain rfl := Option.some.inj h
    exact fit_with C fun ns x hf => fit_ans C _ _ _ (cl_formT hw hf) fun _ => gd_itoa _
  split at h
  · obtain rfl := Option.some.inj h
    exact fit_with C fun ns x hf => fit_ans C _ _ _ cl_empty fun he => ((gd_itoa _).append cl_blank).append (C.get _ _ he)
  split at h
  · obtain rfl := Option.some.inj h
    exact fit_with C fun ns x hf => fit_ans C _ _ _ cl_empty fun _ => gd_itoa _
  split at h
  · obtain rfl := Option.some.inj h
    exact fit_with C fun ns x hf => fit_ans C _ _ _ cl_empty fun _ => gd_ok
  split at h
  · obtain rfl := Option.some.inj h
    exact fit_with C fun ns x hf => fit_ans C _ _ _ cl_empty fun _ => gd_ok
  split at h
  · obtain rfl := Option.some.inj h
    exact fit_with C fun ns x hf => fit_ans C _ _ _ cl_empty fun _ => gd_ok
  split at h
  · obtain rfl := Option.some.inj h
    exact fit_with C fun ns x hf => fit_ans C _ _ _ cl_empty fun _ => gd_ok
  split at h
  · obtain rfl := Option.some.inj h
    refine fit_with C fun ns x hf => ?_
    split
    · rename_i e
      exact ⟨fun b h => by
        simp only [Except.ok.injEq] at h
        subst h; exact gd_ok, hq _ _ _ _ e⟩
    · exact fit_er C _
  · cases h
theorem gd_line {qe : Int → Int → Int → Int → Int} {comp : ByteArray → List ByteArray → Except Int ByteArray} {σ : Sto} (C : ClS σ) (hq : ∀ N K W R : Nat, qe N K W R = 0 → ClS (Sto.new N K W R)) (hc : ∀ cmd ws b, comp cmd ws = .ok b → Gd b) {s : ByteArray} (hs : Cl s) :
    Gd (lineT qe comp σ s).1 ∧ ClS (lineT qe comp σ s).2 := by
  unfold lineT
  have hw := cl_words (p := fun c => c == 32) hs
  generalize Lib.goFieldsP (fun c => c == 32) s = L at *
  cases L with
  | nil => exact ⟨gd_err _, C⟩
  | cons cmd ws =>
    simp only
    have hF : Fit ((storedT qe σ cmd ws).getD (comp cmd ws, σ)) := by
      cases h : storedT qe σ cmd ws with
      | none => exact ⟨fun b hb => hc cmd ws b hb, C⟩
      | some r => exact fit_stored C hq (fun y hy => hw y (List.mem_cons_of_mem _ hy)) r h
    generalize (storedT qe σ cmd ws).getD (comp cmd ws, σ) = r at *
    obtain ⟨r1, r2⟩ := r
    refine ⟨?_, hF.2⟩
    cases r1 with
    | error e => exact gd_err e
    | ok b => exact hF.1 b rfl
theorem gd_run {qe : Int → Int → Int → Int → Int} {comp : ByteArray → List ByteArray → Except Int ByteArray} (hq : ∀ N K W R : Nat, qe N K W R = 0 → ClS (Sto.new N K W R)) (hc : ∀ cmd ws b, comp cmd ws = .ok b → Gd b) : ∀ (l : List ByteArray) (σ : Sto), ClS σ → (∀ x ∈ l, Cl x) →
    (∀ b ∈ (runT qe comp σ l).1, Gd b) ∧ (runT qe comp σ l).1.length = (l.filter fun x => decide (x ≠ ByteArray.empty)).length
  | [], _, _, _ => ⟨(fun b h => by cases h), rfl⟩
  | x :: l, σ, C, hx => by
    simp only [runT]
    by_cases h : x = ByteArray.empty
    · rw [if_pos h, List.filter_cons, if_neg (by simpa using h)]
      exact gd_run hq hc l σ C fun y hy => hx y (List.mem_cons_of_mem _ hy)
    · rw [if_neg h, List.filter_cons, if_pos (by simpa using h)]
      obtain ⟨g1, g2⟩ := gd_line C hq hc (hx x List.mem_cons_self)
      obtain ⟨i1, i2⟩ := gd_run hq hc l _ g2 fun y hy => hx y (List.mem_cons_of_mem _ hy)
      refine ⟨fun b hb => ?_, by rw [List.length_cons, List.length_cons, i2]⟩
      rcases List.mem_cons.1 hb with rfl | hb
      · exact g1
      · exact i1 b hb
theorem cl_lines (s : ByteArray) : ∀ x ∈ Wm.lines s, Cl x := fun x hx => Wm.lines_no s x hx
/-- DeskFront's plain law: the answers to the first part come first. -/
theorem run_front (qe : Int → Int → Int → Int → Int) (comp : ByteArray → List ByteArray → Except Int ByteArray) (σ : Sto) (a b : ByteArray) : (runT qe comp σ (Wm.lines a)).1 = ((runT qe comp σ (Wm.lines (a ++ Wm.nl ++ b))).1).take (runT qe comp σ (Wm.lines a)).1.length := by
  rw [Wm.lines_join, runT_append, List.take_left]
theorem clS_new {N K W R : Nat} (h1 : 1 ≤ K ∧ K ≤ N) (h2 : N ≤ 10) (h3 : 1 ≤ W ∧ W ≤ N) (h4 : 1 ≤ R ∧ R ≤ N) (h5 : N + K ≤ W + R) : ClS (Sto.new N K W R) :=
  ⟨fun _ => (0, ByteArray.empty), Sto.Ok.start h1 h2 h3 h4 h5 _, fun t _ _ => cl_empty⟩
end Go.Proofs.YtpenkbhljkmliaaGreatDoor
