/-
  Plain: what is told of the newest; that each deed leaves the store true.
-/
import Derived.Test.YthmmofalepckgaaSto0
set_option linter.unusedVariables false
set_option linter.unusedSimpArgs false
namespace Go.Proofs.Ythmmofalepckgaa
namespace Sto

theorem len_le_sub_ : ∀ {l m : List Nat}, l.Nodup → (∀ x ∈ l, x ∈ m) → l.length ≤ m.length
  | [], _, _, _ => Nat.zero_le _
  | a :: l, m, hn, h => by
    rw [List.nodup_cons] at hn
    have ha : a ∈ m := h a List.mem_cons_self
    have := len_le_sub_ (l := l) (m := m.erase a) hn.2 fun x hx => (List.mem_erase_of_ne (fun e => hn.1 (by rw [← e]; exact hx))).2 (h x (List.mem_cons_of_mem _ hx))
    rw [List.length_erase_of_mem ha] at this
    have := List.length_pos_of_mem ha
    simp only [List.length_cons]
    omega
theorem cntR_same {f g : Nat → Bool} : ∀ n, (∀ i, i < n → f i = g i) → Wm.cntR f n = Wm.cntR g n
  | 0, _ => rfl
  | n + 1, h => by simp only [Wm.cntR]; rw [cntR_same n fun i hi => h i (by omega), h n (by omega)]
theorem rev_induct {α : Type} {P : List α → Prop} (h0 : P []) (h1 : ∀ l a, P l → P (l ++ [a])) (l : List α) : P l := by
  suffices h : ∀ m : List α, P m.reverse by simpa using h l.reverse
  intro m
  induction m with
  | nil => exact h0
  | cons a m ih => rw [List.reverse_cons]; exact h1 _ _ ih
theorem cntR_len (f : Nat → Bool) : ∀ n, Wm.cntR f n = ((List.range n).filter f).length
  | 0 => rfl
  | n + 1 => by
    rw [List.range_succ, List.filter_append, List.length_append, ← cntR_len f n]
    simp only [Wm.cntR, List.filter_cons, List.filter_nil]
    cases f n <;> rfl
/-- Two sets of places have so many in common. -/
theorem both_len (f g : Nat → Bool) : ∀ n, ((List.range n).filter f).length + ((List.range n).filter g).length ≤ n + ((List.range n).filter fun i => f i && g i).length
  | 0 => by simp
  | n + 1 => by
    have := both_len f g n
    simp only [List.range_succ, List.filter_append, List.length_append, List.filter_cons, List.filter_nil]
    cases f n <;> cases g n <;> simp <;> omega
theorem filter_le {f g : Nat → Bool} (n : Nat) (h : ∀ i, i < n → f i = true → g i = true) : ((List.range n).filter f).length ≤ ((List.range n).filter g).length := by
  induction n with
  | zero => simp
  | succ n ih =>
    have h0 := ih fun i hi => h i (by omega)
    have h1 := h n (by omega)
    simp only [List.range_succ, List.filter_append, List.length_append, List.filter_cons, List.filter_nil]
    cases hf : f n <;> cases hg : g n <;> simp_all <;> omega

/-! ### What a node tells by a stamp -/
theorem findP_of : ∀ {l : List (Nat × ByteArray)} {e : Nat × ByteArray}, (l.map (·.1)).Nodup → e ∈ l → findP l e.1 = e.2
  | [], e, _, h => by simp at h
  | x :: l, e, hn, h => by
    simp only [List.map_cons, List.nodup_cons] at hn
    rcases List.mem_cons.1 h with rfl | h
    · simp [findP]
    · have hne : x.1 ≠ e.1 := fun he => hn.1 (by rw [he]; exact List.mem_map_of_mem h)
      have := findP_of hn.2 h
      unfold findP at this ⊢
      rw [List.find?_cons_of_neg (by simpa using hne)]
      exact this
theorem findP_no {l : List (Nat × ByteArray)} {t : Nat} (h : t ∉ l.map (·.1)) : findP l t = ByteArray.empty := by
  unfold findP
  rw [List.find?_eq_none.2 (fun x hx hxe => h (by have : x.1 = t := by simpa using hxe
                                                  rw [← this]; exact List.mem_map_of_mem hx))]
  rfl
theorem colS_length (σ : Sto) (key t : Nat) : (σ.colS key t).length = σ.N := by simp [colS]
theorem colS_get (σ : Sto) (key t : Nat) {i : Nat} (h : i < σ.N) : (σ.colS key t).getD i ByteArray.empty = if σ.down i then ByteArray.empty else findP (σ.kept i key) t := by
  unfold colS
  rw [List.getD_eq_getElem?_getD, List.getElem?_map, List.getElem?_range h]; rfl

/-! ### A turned piece -/
theorem rot_bytes {s : ByteArray} (i : Nat) (h : i < s.size) : sby (rotP s) i = if i = 0 then sby s 0 ^^^ 1 else sby s i := by
  have hl : (((List.range s.size).map (sby s)).set 0 (sby s 0 ^^^ 1)).length = s.size := by simp
  have hb : ∀ x ∈ ((List.range s.size).map (sby s)).set 0 (sby s 0 ^^^ 1), x < 256 := by
    intro x hx
    rcases List.mem_or_eq_of_mem_set hx with hx | rfl
    · obtain ⟨t, -, rfl⟩ := List.mem_map.1 hx
      exact sby_lt s t
    · exact Nat.xor_lt_two_pow (n := 8) (sby_lt s 0) (by omega)
  unfold rotP
  rw [sby_strN _ hb (by rw [hl]; exact h)]
  unfold gd
  rw [List.getD_eq_getElem?_getD, List.getElem?_set]
  by_cases e : 0 = i
  · subst e
    rw [if_pos rfl, if_pos rfl]
    simp [h]
  · rw [if_neg e, if_neg (fun h => e h.symm)]
    simp [h]
theorem rot_size (s : ByteArray) : (rotP s).size = s.size := by unfold rotP; rw [strN_size]; simp
theorem xor_one_ne (x : Nat) : x ^^^ 1 ≠ x := by
  intro h
  have : x ^^^ (x ^^^ 1) = x ^^^ x := by rw [h]
  rw [← Nat.xor_assoc, Nat.xor_self, Nat.zero_xor] at this
  omega
theorem rot_rot {s : ByteArray} : rotP (rotP s) = s := by
  refine str_ext (by rw [rot_size, rot_size]) fun i hi => ?_
  rw [rot_size, rot_size] at hi
  rw [rot_bytes i (by rw [rot_size]; exact hi)]
  by_cases e : i = 0
  · subst e
    rw [if_pos rfl, rot_bytes 0 hi, if_pos rfl, Nat.xor_assoc, Nat.xor_self, Nat.xor_zero]
  · rw [if_neg e, rot_bytes i hi, if_neg e]
theorem rot_bad {s : ByteArray} {k : Nat} (h1 : 1 ≤ k) (h2 : k ≤ 10) (hg : chkErr s (k : Int) = 0) : chkErr (rotP s) (k : Int) = 8 := by
  have h5 := ((good_iff h1 h2).1 hg).1
  refine turned_bad (a := 0) h1 h2 hg (rot_size s) (by omega) ?_ fun i hi hne => ?_
  · rw [rot_bytes 0 (by omega), if_pos rfl]; exact xor_one_ne _
  · rw [rot_bytes i hi, if_neg hne]

section
variable {σ : Sto} {H : Nat → Nat × ByteArray}
theorem Ok.k10 (O : Ok σ H) : σ.K ≤ 10 := Nat.le_trans O.kn O.n10
theorem Ok.pce_good (O : Ok σ H) {s : ByteArray} (hs : s.size ≤ 60) {i : Nat} (hi : i < σ.N) : (σ.pce s i).size = 5 + sz s.size σ.K ∧ chkErr (σ.pce s i) (σ.K : Int) = 0 := by
  have := piece_parts hs O.k1 O.kn O.n10 hi
  exact ⟨this.1, this.2.1⟩
theorem Ok.pce_rot (O : Ok σ H) {s : ByteArray} (hs : s.size ≤ 60) {i : Nat} (hi : i < σ.N) : σ.pce s i ≠ rotP (σ.pce s i) := fun h => by
  have h1 := (O.pce_good hs hi).2
  have h2 := rot_bad O.k1 O.k10 h1
  rw [← h, h1] at h2
  exact absurd h2 (by decide)
theorem Ok.size (O : Ok σ H) {i k : Nat} (hi : i < σ.N) (hk : k < 3) {e : Nat × ByteArray} (he : e ∈ σ.kept i k) : 5 ≤ e.2.size ∧ e.2.size ≤ 65 := by
  obtain ⟨h1, h2, -, h4⟩ := O.true_ i k e hi hk he
  have hs := O.small e.1 h1 h2
  have := (O.pce_good hs hi).1
  have hz : sz (H e.1).2.size σ.K ≤ (H e.1).2.size := sz_le O.k1
  rcases h4 with h4 | h4
  · rw [h4]; omega
  · rw [h4, rot_size]; omega
theorem Ok.len (O : Ok σ H) {i k : Nat} (hi : i < σ.N) (hk : k < 3) : (σ.kept i k).length ≤ σ.wr := by
  have h1 := O.once i k hi hk
  have h2 : ∀ t ∈ (σ.kept i k).map (·.1), t ∈ List.range' 1 σ.wr := fun t ht => by
    obtain ⟨e, he, rfl⟩ := List.mem_map.1 ht
    have := O.true_ i k e hi hk he
    rw [List.mem_range'_1]; omega
  have h3 : ((σ.kept i k).map (·.1)).length ≤ (List.range' 1 σ.wr).length := len_le_sub_ h1 h2
  simpa using h3

/-- Which nodes tell the true piece by a stamp. -/
def has (σ : Sto) (key t : Nat) (s : ByteArray) (i : Nat) : Bool := (σ.kept i key).any fun e => decide (e = (t, σ.pce s i))
theorem has_iff {key t : Nat} {s : ByteArray} {i : Nat} : has σ key t s i = true ↔ (t, σ.pce s i) ∈ σ.kept i key := by
  unfold has
  rw [List.any_eq_true]
  constructor
  · rintro ⟨e, he, h⟩
    have : e = (t, σ.pce s i) := of_decide_eq_true h
    rw [← this]; exact he
  · intro h
    exact ⟨_, h, decide_eq_true rfl⟩
theorem Ok.usab_col (O : Ok σ H) {key t : Nat} (hk : key < 3) (ht : 1 ≤ t ∧ t ≤ σ.wr) {i : Nat} (hi : i < σ.N) :
    usab (σ.colS key t) σ.K i = (!σ.down i && has σ key t (H t).2 i) ∧ (usab (σ.colS key t) σ.K i = true → (σ.colS key t).getD i ByteArray.empty = σ.pce (H t).2 i) := by
  unfold usab
  rw [colS_get _ _ _ hi]
  by_cases hd : σ.down i = true
  · rw [if_pos hd, empty_bad O.k1 O.k10, hd]
    exact ⟨rfl, fun h => by simp at h⟩
  · rw [if_neg hd]
    have hd' : σ.down i = false := by simpa using hd
    rw [hd']
    by_cases hm : t ∈ (σ.kept i key).map (·.1)
    · obtain ⟨e, he, rfl⟩ := List.mem_map.1 hm
      have hf := findP_of (O.once i key hi hk) he
      obtain ⟨h1, h2, -, h4⟩ := O.true_ i key e hi hk he
      have hs := O.small e.1 h1 h2
      rw [hf]
      rcases h4 with h4 | h4
      · refine ⟨?_, fun _ => h4⟩
        have hh : has σ key e.1 (H e.1).2 i = true := has_iff.2 (by rw [← h4]; exact he)
        rw [hh, h4, (O.pce_good hs hi).2]
        rfl
      · have hb : chkErr e.2 (σ.K : Int) = 8 := by rw [h4]; exact rot_bad O.k1 O.k10 (O.pce_good hs hi).2
        have hh : has σ key e.1 (H e.1).2 i = false := by
          rw [← Bool.not_eq_true, has_iff]
          intro h
          have := findP_of (O.once i key hi hk) h
          rw [hf] at this
          simp only at this
          exact O.pce_rot hs hi (this.symm.trans h4)
        rw [hh, hb]
        exact ⟨rfl, fun h => by simp at h⟩
    · rw [findP_no hm, empty_bad O.k1 O.k10]
      have hh : has σ key t (H t).2 i = false := by
        rw [← Bool.not_eq_true, has_iff]
        intro h
        exact hm (List.mem_map_of_mem (f := (·.1)) h)
      rw [hh]
      exact ⟨rfl, fun h => by simp at h⟩
/-- How many nodes tell it. -/
def cnt (σ : Sto) (key t : Nat) (s : ByteArray) : Nat := ((List.range σ.N).filter fun i => !σ.down i && has σ key t s i).length
theorem Ok.join (O : Ok σ H) {key t : Nat} (hk : key < 3) (ht : 1 ≤ t ∧ t ≤ σ.wr) :
    joinErr (σ.colS key t) (σ.K : Int) = (if cnt σ key t (H t).2 < σ.K then 9 else 0) ∧ (σ.K ≤ cnt σ key t (H t).2 → strN (joinText (σ.colS key t) σ.K) = (H t).2) := by
  have h := join_true (L := σ.colS key t) (O.small t ht.1 ht.2) O.k1 O.kn O.n10 (colS_length ..) (fun j hj hu => (O.usab_col hk ht hj).2 hu)
  have hc : Wm.cntR (usab (σ.colS key t) σ.K) σ.N = cnt σ key t (H t).2 := by
    rw [cntR_same σ.N fun i hi => (O.usab_col hk ht hi).1, cntR_len]; rfl
  rw [hc] at h
  exact h
theorem mem_stampsOf {key : Nat} {l : List Nat} {t : Nat} : t ∈ σ.stampsOf key l ↔ ∃ i ∈ l, t ∈ (σ.kept i key).map (·.1) := by simp [stampsOf, List.mem_flatMap]
theorem mem_stamps {key t : Nat} : t ∈ σ.stamps key ↔ ∃ i, i < σ.N ∧ σ.down i = false ∧ t ∈ (σ.kept i key).map (·.1) := by
  unfold stamps
  rw [mem_stampsOf]
  constructor
  · rintro ⟨i, hi, h⟩
    exact ⟨i, ups_lt hi, ups_up hi, h⟩
  · rintro ⟨i, h1, h2, h⟩
    exact ⟨i, mem_ups.2 ⟨h1, h2⟩, h⟩
theorem Ok.stamp (O : Ok σ H) {key t : Nat} (hk : key < 3) (h : t ∈ σ.stamps key) : 1 ≤ t ∧ t ≤ σ.wr ∧ (H t).1 = key := by
  obtain ⟨i, hi, -, ht⟩ := mem_stamps.1 h
  obtain ⟨e, he, rfl⟩ := List.mem_map.1 ht
  have := O.true_ i key e hi hk he
  exact ⟨this.1, this.2.1, this.2.2.1⟩

/-! ### The newest -/
theorem newestOf_snoc (key : Nat) (l : List Nat) (t : Nat) : σ.newestOf key (l ++ [t]) = σ.newStep key (σ.newestOf key l) t := by simp [newestOf]
theorem newest_tells (key : Nat) : ∀ l : List Nat, (∀ t x, σ.newestOf key l = some (t, x) → t ∈ l ∧ joinErr (σ.colS key t) (σ.K : Int) = 0 ∧ x = strN (joinText (σ.colS key t) σ.K)) ∧
    (∀ t ∈ l, joinErr (σ.colS key t) (σ.K : Int) = 0 → ∃ u x, σ.newestOf key l = some (u, x) ∧ t ≤ u) := by
  intro l
  refine rev_induct (P := fun l => (∀ t x, σ.newestOf key l = some (t, x) → t ∈ l ∧ joinErr (σ.colS key t) (σ.K : Int) = 0 ∧ x = strN (joinText (σ.colS key t) σ.K)) ∧
    (∀ t ∈ l, joinErr (σ.colS key t) (σ.K : Int) = 0 → ∃ u x, σ.newestOf key l = some (u, x) ∧ t ≤ u)) ⟨fun t x h => by simp [newestOf] at h, fun t h => by simp at h⟩ ?_ l
  · intro l a ih
    obtain ⟨h1, h2⟩ := ih
    rw [newestOf_snoc]
    generalize σ.newestOf key l = b at *
    unfold newStep
    cases b with
    | none =>
      simp only [Bool.false_eq_true, if_false]
      by_cases c : joinErr (σ.colS key a) (σ.K : Int) = 0
      · rw [if_pos c]
        refine ⟨fun t x h => ?_, fun t ht h => ?_⟩
        · simp only [Option.some.injEq, Prod.mk.injEq] at h
          obtain ⟨rfl, rfl⟩ := h
          exact ⟨by simp, c, rfl⟩
        · rcases List.mem_append.1 ht with ht | ht
          · obtain ⟨u, x, h3, -⟩ := h2 t ht h
            cases h3
          · simp only [List.mem_singleton] at ht
            subst ht
            exact ⟨_, _, rfl, Nat.le_refl _⟩
      · rw [if_neg c]
        refine ⟨(fun t x h => by cases h), fun t ht h => ?_⟩
        rcases List.mem_append.1 ht with ht | ht
        · exact h2 t ht h
        · simp only [List.mem_singleton] at ht
          subst ht
          exact absurd h c
    | some p =>
      obtain ⟨u, y⟩ := p
      obtain ⟨m1, m2, m3⟩ := h1 u y rfl
      by_cases d : a ≤ u
      · simp only [decide_eq_true d, if_true]
        refine ⟨fun t x h => ?_, fun t ht h => ?_⟩
        · obtain ⟨q1, q2, q3⟩ := h1 t x h
          exact ⟨List.mem_append_left _ q1, q2, q3⟩
        · rcases List.mem_append.1 ht with ht | ht
          · exact h2 t ht h
          · simp only [List.mem_singleton] at ht
            subst ht
            exact ⟨u, y, rfl, d⟩
      · simp only [decide_eq_false d, Bool.false_eq_true, if_false]
        by_cases c : joinErr (σ.colS key a) (σ.K : Int) = 0
        · rw [if_pos c]
          refine ⟨fun t x h => ?_, fun t ht h => ?_⟩
          · simp only [Option.some.injEq, Prod.mk.injEq] at h
            obtain ⟨rfl, rfl⟩ := h
            exact ⟨by simp, c, rfl⟩
          · rcases List.mem_append.1 ht with ht | ht
            · obtain ⟨u', x, h3, h4⟩ := h2 t ht h
              simp only [Option.some.injEq, Prod.mk.injEq] at h3
              exact ⟨_, _, rfl, by omega⟩
            · simp only [List.mem_singleton] at ht
              subst ht
              exact ⟨_, _, rfl, Nat.le_refl _⟩
        · rw [if_neg c]
          refine ⟨fun t x h => ?_, fun t ht h => ?_⟩
          · obtain ⟨q1, q2, q3⟩ := h1 t x h
            exact ⟨List.mem_append_left _ q1, q2, q3⟩
          · rcases List.mem_append.1 ht with ht | ht
            · exact h2 t ht h
            · simp only [List.mem_singleton] at ht
              subst ht
              exact absurd h c
/-- The newest that enough nodes tell. -/
theorem Ok.newest_some (O : Ok σ H) {key t : Nat} (hk : key < 3) {x : ByteArray} (h : σ.newest key = some (t, x)) : t ∈ σ.stamps key ∧ σ.K ≤ cnt σ key t (H t).2 ∧ x = (H t).2 ∧ 1 ≤ t ∧ t ≤ σ.wr ∧ (H t).1 = key := by
  obtain ⟨h1, h2, h3⟩ := (newest_tells key (σ.stamps key)).1 t x h
  obtain ⟨q1, q2, q3⟩ := O.stamp hk h1
  have hj := O.join hk ⟨q1, q2⟩
  rw [hj.1] at h2
  have hc : σ.K ≤ cnt σ key t (H t).2 := by
    by_cases c : cnt σ key t (H t).2 < σ.K
    · rw [if_pos c] at h2; exact absurd h2 (by decide)
    · omega
  exact ⟨h1, hc, by rw [h3, hj.2 hc], q1, q2, q3⟩
theorem Ok.newest_ge (O : Ok σ H) {key t : Nat} (hk : key < 3) (ht : 1 ≤ t ∧ t ≤ σ.wr) (h : σ.K ≤ cnt σ key t (H t).2) : ∃ u x, σ.newest key = some (u, x) ∧ t ≤ u := by
  have hmem : t ∈ σ.stamps key := by
    have hpos : 0 < ((List.range σ.N).filter fun i => !σ.down i && has σ key t (H t).2 i).length := by
      have := O.k1
      unfold cnt at h
      omega
    have hm := List.getElem_mem hpos
    obtain ⟨h1, h2⟩ := List.mem_filter.1 hm
    rw [Bool.and_eq_true] at h2
    exact mem_stamps.2 ⟨_, List.mem_range.1 h1, by simpa using h2.1, List.mem_map_of_mem (f := (·.1)) (has_iff.1 h2.2)⟩
  refine (newest_tells key (σ.stamps key)).2 t hmem ?_
  rw [(O.join hk ht).1, if_neg (by omega)]
theorem Ok.readText_small (O : Ok σ H) {key : Nat} (hk : key < 3) (h : σ.readE key = 0) : ∃ t, σ.newest key = some (t, (H t).2) ∧ σ.readAt key = t ∧ σ.readText key = (H t).2 ∧ 1 ≤ t ∧ t ≤ σ.wr ∧ (H t).1 = key ∧ (H t).2.size ≤ 60 ∧ σ.R ≤ σ.ups.length ∧ σ.W ≤ σ.ups.length ∧ σ.K ≤ cnt σ key t (H t).2 := by
  unfold readE at h
  by_cases c : σ.ups.length < σ.R ∨ σ.ups.length < σ.W
  · rw [if_pos c] at h; exact absurd h (by decide)
  · rw [if_neg c] at h
    cases hn : σ.newest key with
    | none => rw [hn] at h; exact absurd h (by decide)
    | some p =>
      obtain ⟨t, x⟩ := p
      obtain ⟨-, h0, rfl, h1, h2, h3⟩ := O.newest_some hk hn
      exact ⟨t, rfl, by simp [readAt, hn], by simp [readText, hn], h1, h2, h3, O.small t h1 h2, by omega, by omega, h0⟩
end
end Sto
end Go.Proofs.Ythmmofalepckgaa
