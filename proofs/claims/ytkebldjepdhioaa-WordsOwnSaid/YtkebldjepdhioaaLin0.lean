/-
  Binary words as numbers, their sums, reduced bases: plain. No program in sight.
-/
import Derived.Test.YtkebldjepdhioaaSrt0
set_option linter.unusedVariables false
set_option linter.unusedSimpArgs false
namespace Wm
theorem snoc_ind {P : List Nat → Prop} (h0 : P []) (hs : ∀ l g, P l → P (l ++ [g])) : ∀ l, P l := by
  have : ∀ l : List Nat, P l.reverse := fun l => by
    induction l with
    | nil => exact h0
    | cons a l ih => rw [List.reverse_cons]; exact hs _ _ ih
  intro l
  have h := this l.reverse
  rwa [List.reverse_reverse] at h
theorem x_self (x : Nat) : x ^^^ x = 0 := Nat.xor_self x
theorem x_zero (x : Nat) : x ^^^ 0 = x := Nat.xor_zero x
theorem x_back (x y : Nat) : x ^^^ y ^^^ y = x := by rw [Nat.xor_assoc, Nat.xor_self, Nat.xor_zero]
theorem x_eq {x y : Nat} (h : x ^^^ y = 0) : x = y := by
  have := x_back x y
  rw [h, Nat.zero_xor] at this
  exact this.symm
/-- All sums of some words. -/
def ws (l : List Nat) : List Nat := l.foldl (fun o g => o ++ o.map (fun w => w ^^^ g)) [0]
theorem ws_nil : ws [] = [0] := rfl
theorem ws_snoc (l : List Nat) (g : Nat) : ws (l ++ [g]) = ws l ++ (ws l).map (fun w => w ^^^ g) := by simp [ws, List.foldl_append]
theorem ws_len : ∀ l, (ws l).length = 2 ^ l.length := snoc_ind rfl fun l g ih => by
  rw [ws_snoc, List.length_append, List.length_map, ih, List.length_append, List.length_singleton, Nat.pow_succ]; omega
theorem mem_snoc {l : List Nat} {g x : Nat} : x ∈ ws (l ++ [g]) ↔ x ∈ ws l ∨ x ^^^ g ∈ ws l := by
  rw [ws_snoc, List.mem_append, List.mem_map]
  constructor
  · rintro (h | ⟨y, hy, rfl⟩)
    · exact .inl h
    · exact .inr (by rw [x_back]; exact hy)
  · rintro (h | h)
    · exact .inl h
    · exact .inr ⟨_, h, x_back x g⟩
theorem ws_zero : ∀ l, 0 ∈ ws l := snoc_ind (by simp [ws]) fun l g ih => mem_snoc.2 (.inl ih)
theorem ws_min {P : Nat → Prop} (h0 : P 0) (hx : ∀ x y, P x → P y → P (x ^^^ y)) : ∀ l, (∀ g ∈ l, P g) → ∀ x ∈ ws l, P x := snoc_ind (fun _ x hx => by
  rw [ws_nil, List.mem_singleton] at hx; rw [hx]; exact h0) fun l g ih hg x hm => by
  rcases mem_snoc.1 hm with h | h
  · exact ih (fun g hg' => hg g (by simp [hg'])) x h
  · have := hx _ _ (ih (fun g hg' => hg g (by simp [hg'])) _ h) (hg g (by simp))
    rwa [x_back] at this
theorem ws_xor : ∀ (l : List Nat) (x y : Nat), x ∈ ws l → y ∈ ws l → x ^^^ y ∈ ws l := snoc_ind (fun x y hx hy => by
  rw [ws_nil, List.mem_singleton] at *; rw [hx, hy]; rfl) fun l g ih x y hx hy => by
  have e1 : x ^^^ y ^^^ g = x ^^^ (y ^^^ g) := Nat.xor_assoc _ _ _
  have e2 : x ^^^ y ^^^ g = x ^^^ g ^^^ y := by rw [Nat.xor_assoc, Nat.xor_comm y, ← Nat.xor_assoc]
  have e3 : x ^^^ y = (x ^^^ g) ^^^ (y ^^^ g) := by
    rw [Nat.xor_assoc, Nat.xor_comm g, Nat.xor_assoc y, Nat.xor_self, Nat.xor_zero]
  rw [mem_snoc]
  rcases mem_snoc.1 hx with h | h
  · rcases mem_snoc.1 hy with h' | h'
    · exact .inl (ih _ _ h h')
    · exact .inr (by rw [e1]; exact ih _ _ h h')
  · rcases mem_snoc.1 hy with h' | h'
    · exact .inr (by rw [e2]; exact ih _ _ h h')
    · exact .inl (by rw [e3]; exact ih _ _ h h')
theorem ws_gen : ∀ (l : List Nat) (g : Nat), g ∈ l → g ∈ ws l := snoc_ind (by simp) fun l g ih x hx => by
  rw [List.mem_append, List.mem_singleton] at hx
  rcases hx with h | rfl
  · exact mem_snoc.2 (.inl (ih x h))
  · exact mem_snoc.2 (.inr (by rw [Nat.xor_self]; exact ws_zero l))
/-- What is made of sums is a sum. -/
theorem ws_sub {l m : List Nat} (h : ∀ g ∈ l, g ∈ ws m) : ∀ x ∈ ws l, x ∈ ws m := ws_min (ws_zero m) (ws_xor m) l h
theorem ws_iff {l m : List Nat} (h : ∀ g ∈ l, g ∈ ws m) (k : ∀ g ∈ m, g ∈ ws l) (x : Nat) : x ∈ ws l ↔ x ∈ ws m := ⟨ws_sub h x, ws_sub k x⟩
theorem ws_perm {l m : List Nat} (h : l.Perm m) (x : Nat) : x ∈ ws l ↔ x ∈ ws m := ws_iff (fun g hg => ws_gen m g (h.mem_iff.1 hg)) (fun g hg => ws_gen l g (h.mem_iff.2 hg)) x
theorem ws_lt {n : Nat} {l : List Nat} (h : ∀ g ∈ l, g < 2 ^ n) : ∀ x ∈ ws l, x < 2 ^ n := ws_min (Nat.two_pow_pos n) (fun _ _ hx hy => Nat.xor_lt_two_pow hx hy) l h
theorem ws_bit {k : Nat} {l : List Nat} (h : ∀ g ∈ l, g.testBit k = false) : ∀ x ∈ ws l, x.testBit k = false := ws_min (Nat.zero_testBit k) (fun x y hx hy => by rw [Nat.testBit_xor, hx, hy]; rfl) l h

/-! ### The leading bit -/
theorem lead_bit {x : Nat} (h : x ≠ 0) : x.testBit x.log2 = true := by
  have h1 := Nat.log2_self_le h
  have h2 : x < 2 ^ (x.log2 + 1) := Nat.lt_log2_self
  rw [Nat.testBit_eq_decide_div_mod_eq]
  have : x / 2 ^ x.log2 = 1 := by
    rw [Nat.pow_succ] at h2
    exact Nat.div_eq_of_lt_le (by omega) (by omega)
  rw [this]; rfl
theorem lead_of {x k : Nat} (h : x.testBit k = true) (hl : x < 2 ^ (k + 1)) : x.log2 = k := by
  have hx : x ≠ 0 := fun e => by rw [e, Nat.zero_testBit] at h; cases h
  have h1 : 2 ^ k ≤ x := Nat.ge_two_pow_of_testBit h
  have h2 : k ≤ x.log2 := (Nat.le_log2 hx).2 h1
  have h3 : x.log2 < k + 1 := (Nat.log2_lt hx).2 hl
  omega
theorem lead_high {x k : Nat} (h : x.log2 < k) : x.testBit k = false := by
  by_cases hx : x = 0
  · rw [hx]; exact Nat.zero_testBit k
  · exact Nat.testBit_lt_two_pow ((Nat.log2_lt hx).1 h)
theorem lead_xor {x y : Nat} (hy : y ≠ 0) (h : x.log2 < y.log2) : (x ^^^ y).log2 = y.log2 := by
  apply lead_of
  · rw [Nat.testBit_xor, lead_high h, lead_bit hy]; rfl
  · refine Nat.xor_lt_two_pow ?_ Nat.lt_log2_self
    by_cases hx : x = 0
    · rw [hx]; exact Nat.two_pow_pos _
    · exact (Nat.log2_lt hx).1 (by omega)

/-! ### Reduced bases -/
structure Red (B : List Nat) : Prop where
  nodup : B.Nodup
  nz : ∀ b ∈ B, b ≠ 0
  off : ∀ b ∈ B, ∀ c ∈ B, b ≠ c → c.testBit b.log2 = false
theorem Red.nil : Red [] := ⟨List.nodup_nil, by simp, by simp⟩
theorem Red.perm {B C : List Nat} (R : Red B) (h : B.Perm C) : Red C :=
  ⟨h.nodup_iff.1 R.nodup, fun b hb => R.nz b (h.mem_iff.2 hb), fun b hb c hc => R.off b (h.mem_iff.2 hb) c (h.mem_iff.2 hc)⟩
theorem Red.init {B : List Nat} {g : Nat} (R : Red (B ++ [g])) : Red B :=
  ⟨(List.nodup_append.1 R.nodup).1, fun b hb => R.nz b (by simp [hb]), fun b hb c hc => R.off b (by simp [hb]) c (by simp [hc])⟩
theorem Red.last {B : List Nat} {g : Nat} (R : Red (B ++ [g])) : ∀ b ∈ B, b ≠ g := fun b hb e => by
  have := (List.nodup_append.1 R.nodup).2.2 b hb g (by simp)
  exact this e
theorem Red.lead_ne {B : List Nat} (R : Red B) {b c : Nat} (hb : b ∈ B) (hc : c ∈ B) (h : b ≠ c) : b.log2 ≠ c.log2 := fun e => by
  have := R.off b hb c hc h
  rw [e, lead_bit (R.nz c hc)] at this
  cases this
/-- A sum without leading bits is nothing. -/
theorem Red.zero : ∀ B : List Nat, Red B → ∀ x ∈ ws B, (∀ b ∈ B, x.testBit b.log2 = false) → x = 0 := snoc_ind (fun _ x hx _ => by
  rwa [ws_nil, List.mem_singleton] at hx) fun B g ih R x hx h => by
  rcases mem_snoc.1 hx with h1 | h1
  · exact ih R.init x h1 fun b hb => h b (by simp [hb])
  · exfalso
    have h2 : (x ^^^ g).testBit g.log2 = false := ws_bit (fun b hb => R.off g (by simp) b (by simp [hb]) (fun e => R.last b hb e.symm)) _ h1
    rw [Nat.testBit_xor, h g (by simp), lead_bit (R.nz g (by simp))] at h2
    cases h2
theorem Red.free : ∀ B : List Nat, Red B → (ws B).Nodup := snoc_ind (fun _ => by simp [ws]) fun B g ih R => by
  have h := ih R.init
  rw [ws_snoc, List.nodup_append]
  refine ⟨h, ?_, fun x hx y hy e => ?_⟩
  · rw [List.nodup_iff_pairwise_ne] at *
    rw [List.pairwise_map]
    exact h.imp fun {a b} hne he => hne (by have := congrArg (· ^^^ g) he; simpa [x_back] using this)
  · obtain ⟨z, hz, rfl⟩ := List.mem_map.1 hy
    have hb : ∀ b ∈ B, b.testBit g.log2 = false := fun b hb => R.off g (by simp) b (by simp [hb]) (fun e => R.last b hb e.symm)
    have h1 := ws_bit hb x hx
    rw [e, Nat.testBit_xor, ws_bit hb z hz, lead_bit (R.nz g (by simp))] at h1
    cases h1
/-- The leading bit of a sum is one of the basis. -/
theorem Red.lead : ∀ B : List Nat, Red B → ∀ x ∈ ws B, x ≠ 0 → ∃ b ∈ B, x.log2 = b.log2 := snoc_ind (fun _ x hx h0 => by
  rw [ws_nil, List.mem_singleton] at hx; exact absurd hx h0) fun B g ih R x hx h0 => by
  rcases mem_snoc.1 hx with h1 | h1
  · obtain ⟨b, hb, e⟩ := ih R.init x h1 h0
    exact ⟨b, by simp [hb], e⟩
  · by_cases hy : x ^^^ g = 0
    · exact ⟨g, by simp, by rw [x_eq hy]⟩
    · obtain ⟨b, hb, e⟩ := ih R.init _ h1 hy
      have hne := R.lead_ne (b := b) (c := g) (by simp [hb]) (by simp) (R.last b hb)
      have hg := R.nz g (by simp)
      have hx : x = (x ^^^ g) ^^^ g := (x_back x g).symm
      rcases Nat.lt_or_gt_of_ne hne with c | c
      · exact ⟨g, by simp, by rw [hx, lead_xor hg (by omega)]⟩
      · refine ⟨b, by simp [hb], ?_⟩
        rw [hx, Nat.xor_comm, lead_xor hy (by omega), e]
/-- There is but one reduced basis. -/
theorem Red.same {B C : List Nat} (R : Red B) (S : Red C) (h : ∀ x, x ∈ ws B ↔ x ∈ ws C) : ∀ b ∈ B, b ∈ C := fun b hb => by
  obtain ⟨c, hc, e⟩ := S.lead _ b ((h b).1 (ws_gen B b hb)) (R.nz b hb)
  have hx : b ^^^ c ∈ ws B := ws_xor B b c (ws_gen B b hb) ((h c).2 (ws_gen C c hc))
  have h0 : b ^^^ c = 0 := R.zero _ _ hx fun d hd => by
    rw [Nat.testBit_xor]
    by_cases e1 : d = b
    · subst e1
      rw [lead_bit (R.nz d hd), e, lead_bit (S.nz c hc)]; rfl
    · rw [R.off d hd b hb e1]
      obtain ⟨d', hd', e2⟩ := S.lead _ d ((h d).1 (ws_gen B d hd)) (R.nz d hd)
      have : d' ≠ c := fun e3 => by
        subst e3
        exact R.lead_ne hd hb e1 (e2.trans e.symm)
      rw [e2, S.off d' hd' c hc this]; rfl
  rw [x_eq h0]; exact hc
theorem Red.unique {B C : List Nat} (R : Red B) (S : Red C) (h : ∀ x, x ∈ ws B ↔ x ∈ ws C) : B.Perm C := by
  have h1 := R.same S h
  have h2 := S.same R fun x => (h x).symm
  rw [List.perm_iff_count]
  intro a
  by_cases ha : a ∈ B
  · rw [R.nodup.count, S.nodup.count, if_pos ha, if_pos (h1 a ha)]
  · rw [List.count_eq_zero_of_not_mem ha, List.count_eq_zero_of_not_mem fun h' => ha (h2 a h')]
theorem Red.length_le {n : Nat} {B : List Nat} (R : Red B) (h : ∀ b ∈ B, b < 2 ^ n) : B.length ≤ n := by
  have h1 : (B.map Nat.log2).Nodup := by
    rw [List.nodup_iff_pairwise_ne, List.pairwise_map]
    have := R.nodup
    rw [List.nodup_iff_pairwise_ne] at this
    exact this.imp_of_mem fun {a b} ha hb hne => R.lead_ne ha hb hne
  have := List.Nodup.length_le_of_subset (l₂ := List.range n) h1 fun x hx => by
    obtain ⟨b, hb, rfl⟩ := List.mem_map.1 hx
    exact List.mem_range.2 ((Nat.log2_lt (R.nz b hb)).2 (h b hb))
  simpa using this

/-! ### How the basis is made -/
def rd1 (g b : Nat) : Nat := if g.testBit b.log2 then g ^^^ b else g
def rd (out : List Nat) (g : Nat) : Nat := out.foldl rd1 g
def up1 (q b : Nat) : Nat := if b.testBit q.log2 then b ^^^ q else b
def st (out : List Nat) (g : Nat) : List Nat := if rd out g = 0 then out else out.map (up1 (rd out g)) ++ [rd out g]
def bs (l : List Nat) : List Nat := l.foldl st []
theorem rd_take (out : List Nat) (g : Nat) {k : Nat} (h : k < out.length) : rd (out.take (k + 1)) g = rd1 (rd (out.take k) g) (out.getD k 0) := by
  unfold rd
  rw [List.take_succ_eq_append_getElem h, List.foldl_append, List.getD_eq_getElem?_getD, List.getElem?_eq_getElem h]; rfl
theorem bs_take (l : List Nat) {k : Nat} (h : k < l.length) : bs (l.take (k + 1)) = st (bs (l.take k)) (l.getD k 0) := by
  unfold bs
  rw [List.take_succ_eq_append_getElem h, List.foldl_append, List.getD_eq_getElem?_getD, List.getElem?_eq_getElem h]; rfl
theorem ws_take (l : List Nat) {k : Nat} (h : k < l.length) : ws (l.take (k + 1)) = ws (l.take k) ++ (ws (l.take k)).map (fun w => w ^^^ l.getD k 0) := by
  rw [List.take_succ_eq_append_getElem h, ws_snoc, List.getD_eq_getElem?_getD, List.getElem?_eq_getElem h]; rfl
/-- What is left has none of the leading bits, and differs by a sum. -/
theorem rd_spec : ∀ (out : List Nat) (g : Nat), Red out → (∀ b ∈ out, (rd out g).testBit b.log2 = false) ∧ rd out g ^^^ g ∈ ws out := snoc_ind (fun g _ => by
  refine ⟨by simp, ?_⟩
  show g ^^^ g ∈ ws []
  rw [Nat.xor_self]; exact ws_zero []) fun out b ih g R => by
  obtain ⟨h1, h2⟩ := ih g R.init
  have e : rd (out ++ [b]) g = rd1 (rd out g) b := by unfold rd; rw [List.foldl_append]; rfl
  rw [e]
  unfold rd1
  by_cases hb : (rd out g).testBit b.log2 = true
  · rw [if_pos hb]
    refine ⟨fun c hc => ?_, mem_snoc.2 (.inr ?_)⟩
    · rw [Nat.testBit_xor]
      rw [List.mem_append, List.mem_singleton] at hc
      rcases hc with hc | rfl
      · rw [h1 c hc, R.off c (by simp [hc]) b (by simp) (R.last c hc)]; rfl
      · rw [hb, lead_bit (R.nz c (by simp))]; rfl
    · have : rd out g ^^^ b ^^^ g ^^^ b = rd out g ^^^ g := by
        rw [Nat.xor_assoc (rd out g) b g, Nat.xor_comm b g, ← Nat.xor_assoc, x_back]
      rw [this]; exact h2
  · rw [if_neg hb]
    refine ⟨fun c hc => ?_, mem_snoc.2 (.inl h2)⟩
    rw [List.mem_append, List.mem_singleton] at hc
    rcases hc with hc | rfl
    · exact h1 c hc
    · simpa using hb
theorem up1_lead {q b : Nat} (hb : b ≠ 0) (hq : q ≠ 0) (h : q.testBit b.log2 = false) : (up1 q b).log2 = b.log2 ∧ up1 q b ≠ 0 := by
  unfold up1
  by_cases hc : b.testBit q.log2 = true
  · rw [if_pos hc]
    have h1 : q.log2 ≤ b.log2 := by
      apply Classical.byContradiction
      intro hn
      rw [lead_high (by omega)] at hc; cases hc
    have h2 : q.log2 ≠ b.log2 := fun e => by rw [← e, lead_bit hq] at h; cases h
    have h3 : (b ^^^ q).log2 = b.log2 := by rw [Nat.xor_comm]; exact lead_xor hb (by omega)
    refine ⟨h3, fun e => ?_⟩
    rw [x_eq e] at h2
    exact h2 rfl
  · rw [if_neg hc]; exact ⟨rfl, hb⟩
theorem st_red {out : List Nat} (g : Nat) (R : Red out) : Red (st out g) := by
  unfold st
  split
  · exact R
  · rename_i hq
    obtain ⟨h1, -⟩ := rd_spec out g R
    generalize rd out g = q at *
    have hl : ∀ b ∈ out, (up1 q b).log2 = b.log2 ∧ up1 q b ≠ 0 := fun b hb => up1_lead (R.nz b hb) hq (h1 b hb)
    have hqb : ∀ b ∈ out, (up1 q b).testBit q.log2 = false := fun b hb => by
      unfold up1
      split
      · rename_i h; rw [Nat.testBit_xor, h, lead_bit hq]; rfl
      · rename_i h; simpa using h
    have hbit : ∀ b ∈ out, ∀ c ∈ out, b ≠ c → (up1 q c).testBit b.log2 = false := fun b hb c hc hne => by
      unfold up1
      split
      · rw [Nat.testBit_xor, R.off b hb c hc hne, h1 b hb]; rfl
      · exact R.off b hb c hc hne
    refine ⟨?_, fun x hx => ?_, fun x hx y hy hne => ?_⟩
    · rw [List.nodup_append]
      refine ⟨?_, by simp, fun x hx y hy e => ?_⟩
      · have hn := R.nodup
        rw [List.nodup_iff_pairwise_ne] at *
        rw [List.pairwise_map]
        refine hn.imp_of_mem fun {a b} ha hb hne e => R.lead_ne ha hb hne ?_
        rw [← (hl a ha).1, ← (hl b hb).1, e]
      · obtain ⟨b, hb, rfl⟩ := List.mem_map.1 hx
        rw [List.mem_singleton] at hy
        have := hqb b hb
        rw [e, hy, lead_bit hq] at this
        cases this
    · rw [List.mem_append, List.mem_map, List.mem_singleton] at hx
      rcases hx with ⟨b, hb, rfl⟩ | rfl
      · exact (hl b hb).2
      · exact hq
    · rw [List.mem_append, List.mem_map, List.mem_singleton] at hx hy
      rcases hx with ⟨b, hb, rfl⟩ | rfl
      · rw [(hl b hb).1]
        rcases hy with ⟨c, hc, rfl⟩ | rfl
        · exact hbit b hb c hc fun e => hne (by rw [e])
        · exact h1 b hb
      · rcases hy with ⟨c, hc, rfl⟩ | rfl
        · exact hqb c hc
        · exact absurd rfl hne
theorem st_ws {out : List Nat} (g : Nat) (R : Red out) (x : Nat) : x ∈ ws (st out g) ↔ x ∈ ws (out ++ [g]) := by
  obtain ⟨h1, h2⟩ := rd_spec out g R
  unfold st
  split
  · rename_i hq
    rw [hq, Nat.zero_xor] at h2
    refine ws_iff (fun b hb => ws_gen _ b (by simp [hb])) (fun b hb => ?_) x
    rw [List.mem_append, List.mem_singleton] at hb
    rcases hb with hb | rfl
    · exact ws_gen _ b hb
    · exact h2
  · generalize rd out g = q at *
    have hq : q ∈ ws (out ++ [g]) := mem_snoc.2 (.inr h2)
    have hq2 : q ∈ ws (out.map (up1 q) ++ [q]) := ws_gen _ q (by simp)
    have hb1 : ∀ b ∈ out, b ∈ ws (out.map (up1 q) ++ [q]) := fun b hb => by
      have h := ws_gen (out.map (up1 q) ++ [q]) (up1 q b) (by rw [List.mem_append]; exact .inl (List.mem_map.2 ⟨b, hb, rfl⟩))
      unfold up1 at h
      split at h
      · have := ws_xor _ _ _ h hq2
        rwa [x_back] at this
      · exact h
    refine ws_iff (fun b hb => ?_) (fun b hb => ?_) x
    · rw [List.mem_append, List.mem_map, List.mem_singleton] at hb
      rcases hb with ⟨c, hc, rfl⟩ | rfl
      · have hc' := ws_gen (out ++ [g]) c (by simp [hc])
        unfold up1
        split
        · exact ws_xor _ _ _ hc' hq
        · exact hc'
      · exact hq
    · rw [List.mem_append, List.mem_singleton] at hb
      rcases hb with hb | rfl
      · exact hb1 b hb
      · have h3 : q ^^^ b ∈ ws (out.map (up1 q) ++ [q]) := ws_sub hb1 _ h2
        have := ws_xor _ _ _ h3 hq2
        rwa [Nat.xor_comm q b, x_back] at this
theorem bs_snoc (l : List Nat) (g : Nat) : bs (l ++ [g]) = st (bs l) g := by unfold bs; rw [List.foldl_append]; rfl
theorem bs_red : ∀ l, Red (bs l) := snoc_ind Red.nil fun l g ih => by rw [bs_snoc]; exact st_red g ih
theorem bs_ws : ∀ (l : List Nat) (x : Nat), x ∈ ws (bs l) ↔ x ∈ ws l := snoc_ind (fun x => Iff.rfl) fun l g ih x => by
  rw [bs_snoc, st_ws g (bs_red l), mem_snoc, mem_snoc, ih, ih]
theorem bs_lt {n : Nat} {l : List Nat} (h : ∀ g ∈ l, g < 2 ^ n) : ∀ b ∈ bs l, b < 2 ^ n := fun b hb => ws_lt h b ((bs_ws l b).1 (ws_gen _ b hb))
theorem bs_len {n : Nat} {l : List Nat} (h : ∀ g ∈ l, g < 2 ^ n) : (bs l).length ≤ n := (bs_red l).length_le (bs_lt h)
end Wm
