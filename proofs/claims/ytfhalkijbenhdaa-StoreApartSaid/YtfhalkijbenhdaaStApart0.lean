/-
  Plain: what is done by one key makes no difference to what is read by another.
-/
import Derived.Test.YtfhalkijbenhdaaSto22
set_option linter.unusedVariables false
set_option linter.unusedSimpArgs false
namespace Go.Proofs.Ytfhalkijbenhdaa
namespace Sto
def mapK (φ : Nat → Nat) (l : List (Nat × ByteArray)) : List (Nat × ByteArray) := l.map fun e => (φ e.1, e.2)
theorem mapK_congr {φ ψ : Nat → Nat} {l : List (Nat × ByteArray)} (h : ∀ e ∈ l, φ e.1 = ψ e.1) : mapK φ l = mapK ψ l := by
  unfold mapK
  exact List.map_congr_left fun e he => by rw [h e he]
/-- The first did all, the second only what has to do with the one key. -/
structure Apart (σ τ : Sto) (key : Nat) (φ : Nat → Nat) : Prop where
  N : σ.N = τ.N
  K : σ.K = τ.K
  W : σ.W = τ.W
  R : σ.R = τ.R
  down : σ.down = τ.down
  mono : ∀ a b, a < b → φ a < φ b
  top : φ τ.wr ≤ σ.wr
  low : ∀ i e, e ∈ τ.kept i key → e.1 ≤ τ.wr
  kept : ∀ i, σ.kept i key = mapK φ (τ.kept i key)
section
variable {σ τ : Sto} {key : Nat} {φ : Nat → Nat}
theorem Apart.start (σ : Sto) (key : Nat) (h : ∀ i, σ.kept i key = []) : Apart σ σ key id :=
  ⟨rfl, rfl, rfl, rfl, rfl, fun _ _ h => h, Nat.le_refl _, fun i e he => by rw [h i] at he; simp at he, fun i => by simp [mapK]⟩
theorem mono_ge {φ : Nat → Nat} (h : ∀ a b, a < b → φ a < φ b) : ∀ n, n ≤ φ n
  | 0 => Nat.zero_le _
  | n + 1 => Nat.lt_of_le_of_lt (mono_ge h n) (h n (n + 1) (by omega))
theorem Apart.wr (A : Apart σ τ key φ) : τ.wr ≤ σ.wr := Nat.le_trans (mono_ge A.mono _) A.top
theorem Apart.lt (A : Apart σ τ key φ) (a b : Nat) : φ a < φ b ↔ a < b := by
  constructor
  · intro h
    rcases Nat.lt_trichotomy a b with h1 | h1 | h1
    · exact h1
    · rw [h1] at h; omega
    · have := A.mono _ _ h1; omega
  · exact A.mono a b
theorem Apart.inj (A : Apart σ τ key φ) (a b : Nat) : φ a = φ b ↔ a = b := by
  constructor
  · intro h
    rcases Nat.lt_trichotomy a b with h1 | h1 | h1
    · have := A.mono _ _ h1; omega
    · exact h1
    · have := A.mono _ _ h1; omega
  · intro h; rw [h]
theorem Apart.ups (A : Apart σ τ key φ) : σ.ups = τ.ups := by unfold Sto.ups; rw [A.N, A.down]
theorem Apart.pce (A : Apart σ τ key φ) (s : ByteArray) (i : Nat) : σ.pce s i = τ.pce s i := by unfold Sto.pce; rw [A.K, A.N]
theorem Apart.split (A : Apart σ τ key φ) (h : σ.wr < 1000000) (s : ByteArray) : σ.splitE s = τ.splitE s := by
  have := A.wr
  unfold splitE
  rw [A.ups, A.W, if_neg (show ¬ σ.wr = 1000000 by omega), if_neg (show ¬ τ.wr = 1000000 by omega)]
def bump (σ τ : Sto) (φ : Nat → Nat) : Nat → Nat := fun t => if t ≤ τ.wr then φ t else σ.wr + (t - τ.wr)
theorem bump_low (σ τ : Sto) (φ : Nat → Nat) {t : Nat} (h : t ≤ τ.wr) : bump σ τ φ t = φ t := if_pos h
theorem bump_new (σ τ : Sto) (φ : Nat → Nat) : bump σ τ φ (τ.wr + 1) = σ.wr + 1 := by unfold bump; rw [if_neg (by omega)]; omega
theorem Apart.bump_mono (A : Apart σ τ key φ) (a b : Nat) (h : a < b) : bump σ τ φ a < bump σ τ φ b := by
  have ht := A.top
  unfold bump
  by_cases h1 : b ≤ τ.wr
  · rw [if_pos h1, if_pos (by omega)]; exact A.mono _ _ h
  · rw [if_neg h1]
    by_cases h2 : a ≤ τ.wr
    · rw [if_pos h2]
      have : φ a ≤ φ τ.wr := by
        rcases Nat.lt_or_eq_of_le h2 with h3 | h3
        · exact Nat.le_of_lt (A.mono _ _ h3)
        · rw [h3]; exact Nat.le_refl _
      omega
    · rw [if_neg h2]; omega
/-- A write at both. -/
theorem Apart.grow (A : Apart σ τ key φ) {f g : Nat → Nat → List (Nat × ByteArray)}
    (h : ∀ i, f i key = mapK (bump σ τ φ) (g i key)) (hl : ∀ i e, e ∈ g i key → e.1 ≤ τ.wr + 1) : Apart { σ with wr := σ.wr + 1, kept := f } { τ with wr := τ.wr + 1, kept := g } key (bump σ τ φ) :=
  ⟨A.N, A.K, A.W, A.R, A.down, A.bump_mono, by show bump σ τ φ (τ.wr + 1) ≤ σ.wr + 1; rw [bump_new]; exact Nat.le_refl _, hl, h⟩
theorem Apart.keep (A : Apart σ τ key φ) {f g : Nat → Nat → List (Nat × ByteArray)} {d : Nat → Bool}
    (h : ∀ i, f i key = mapK φ (g i key)) (hl : ∀ i e, e ∈ g i key → e.1 ≤ τ.wr) : Apart { σ with kept := f, down := d } { τ with kept := g, down := d } key φ :=
  ⟨A.N, A.K, A.W, A.R, rfl, A.mono, A.top, hl, h⟩
theorem Apart.same (A : Apart σ τ key φ) {f g : Nat → Nat → List (Nat × ByteArray)}
    (h : ∀ i, f i key = mapK φ (g i key)) (hl : ∀ i e, e ∈ g i key → e.1 ≤ τ.wr) : Apart { σ with kept := f } { τ with kept := g } key φ :=
  ⟨A.N, A.K, A.W, A.R, A.down, A.mono, A.top, hl, h⟩
theorem Apart.one (A : Apart σ τ key φ) {f : Nat → Nat → List (Nat × ByteArray)} {n : Nat} (hn : σ.wr ≤ n) (h : ∀ i, f i key = σ.kept i key) : Apart { σ with wr := n, kept := f } τ key φ :=
  ⟨A.N, A.K, A.W, A.R, A.down, A.mono, Nat.le_trans A.top hn, A.low, fun i => (h i).trans (A.kept i)⟩
theorem Apart.keptB (A : Apart σ τ key φ) (i : Nat) : σ.kept i key = mapK (bump σ τ φ) (τ.kept i key) := by
  rw [A.kept i]
  exact mapK_congr fun e he => (bump_low σ τ φ (A.low i e he)).symm
theorem Apart.len (A : Apart σ τ key φ) (i : Nat) : (σ.kept i key).length = (τ.kept i key).length := by rw [A.kept i]; simp [mapK]

/-! ### The newest -/
theorem Apart.findP (A : Apart σ τ key φ) (i t : Nat) : findP (σ.kept i key) (φ t) = findP (τ.kept i key) t := by
  rw [A.kept i]
  unfold Sto.findP mapK
  rw [List.find?_map]
  have : ((fun e : Nat × ByteArray => e.1 == φ t) ∘ fun e : Nat × ByteArray => (φ e.1, e.2)) = fun e => e.1 == t := by
    funext e
    show (φ e.1 == φ t) = (e.1 == t)
    by_cases h : e.1 = t
    · rw [h, beq_self_eq_true, beq_self_eq_true]
    · rw [beq_eq_false_iff_ne.2 h, beq_eq_false_iff_ne.2 fun h2 => h ((A.inj _ _).1 h2)]
  rw [this]
  cases List.find? (fun e => e.1 == t) (τ.kept i key) <;> rfl
theorem Apart.colS (A : Apart σ τ key φ) (t : Nat) : σ.colS key (φ t) = τ.colS key t := by
  unfold Sto.colS
  rw [A.N, A.down]
  exact List.map_congr_left fun i _ => by rw [A.findP]
theorem Apart.stamps (A : Apart σ τ key φ) : σ.stamps key = (τ.stamps key).map φ := by
  unfold Sto.stamps stampsOf
  rw [A.ups, List.map_flatMap]
  refine congrArg (fun f => List.flatMap f τ.ups) (funext fun i => ?_)
  rw [A.kept i]
  simp [mapK]
def up1 (φ : Nat → Nat) (b : Option (Nat × ByteArray)) : Option (Nat × ByteArray) := b.map fun e => (φ e.1, e.2)
theorem Apart.newStep (A : Apart σ τ key φ) (b : Option (Nat × ByteArray)) (t : Nat) : σ.newStep key (up1 φ b) (φ t) = up1 φ (τ.newStep key b t) := by
  unfold Sto.newStep
  rw [A.colS, A.K]
  cases b with
  | none =>
    simp only [up1, Option.map_none, Bool.false_eq_true, if_false]
    split <;> rfl
  | some e =>
    obtain ⟨u, x⟩ := e
    show (if decide (φ t ≤ φ u) = true then _ else _) = up1 φ (if decide (t ≤ u) = true then _ else _)
    have he : decide (φ t ≤ φ u) = decide (t ≤ u) := by
      have := A.lt u t
      by_cases h : t ≤ u
      · rw [decide_eq_true h, decide_eq_true (by omega)]
      · rw [decide_eq_false h, decide_eq_false (by omega)]
    rw [he]
    split
    · rfl
    · split <;> rfl
theorem Apart.newestOf (A : Apart σ τ key φ) (l : List Nat) : ∀ b, (l.map φ).foldl (σ.newStep key) (up1 φ b) = up1 φ (l.foldl (τ.newStep key) b) := by
  induction l with
  | nil => intro b; rfl
  | cons t l ih =>
    intro b
    simp only [List.map_cons, List.foldl_cons]
    rw [A.newStep, ih]
theorem Apart.newest (A : Apart σ τ key φ) : σ.newest key = up1 φ (τ.newest key) := by
  unfold Sto.newest Sto.newestOf
  rw [A.stamps]
  exact A.newestOf _ none
theorem Apart.readE (A : Apart σ τ key φ) : σ.readE key = τ.readE key := by
  unfold Sto.readE
  rw [A.ups, A.R, A.W, A.newest]
  cases τ.newest key <;> rfl
theorem Apart.told (A : Apart σ τ key φ) (h : τ.readE key = 0) : σ.readAt key = φ (τ.readAt key) ∧ σ.readText key = τ.readText key ∧ τ.readAt key ≤ τ.wr := by
  unfold Sto.readE at h
  unfold readAt readText
  rw [A.newest]
  cases hn : τ.newest key with
  | none =>
    rw [hn] at h
    split at h
    · exact absurd h (by decide)
    · exact absurd h (by decide)
  | some e =>
    refine ⟨rfl, rfl, ?_⟩
    obtain ⟨t, x⟩ := e
    have hm := ((newest_tells (σ := τ) key (τ.stamps key)).1 t x hn).1
    unfold Sto.stamps stampsOf at hm
    obtain ⟨i, -, hi⟩ := List.mem_flatMap.1 hm
    obtain ⟨e, he, rfl⟩ := List.mem_map.1 hi
    exact A.low i e he
theorem Apart.wrong (A : Apart σ τ key φ) (t i : Nat) (s : ByteArray) : σ.wrong key (φ t) s i = τ.wrong key t s i := by
  unfold Sto.wrong
  rw [A.kept i, A.pce]
  unfold mapK
  rw [List.any_map]
  refine congrArg (!·) (congrArg (fun f => List.any (τ.kept i key) f) (funext fun e => ?_))
  show decide ((φ e.1, e.2) = (φ t, τ.pce s i)) = decide (e = (t, τ.pce s i))
  refine decide_eq_decide.2 ?_
  rw [Prod.mk.injEq, A.inj]
  obtain ⟨a, b⟩ := e
  rw [Prod.mk.injEq]
theorem Apart.nextK (A : Apart σ τ key φ) (l : List (Nat × ByteArray)) (t : Nat) (p : ByteArray) : nextK (mapK φ l) (φ t, p) = mapK φ (nextK l (t, p)) := by
  unfold Sto.nextK mapK
  rw [List.map_cons, List.filter_map]
  refine congrArg (fun x => (φ t, p) :: List.map _ x) (congrArg (fun f => List.filter f l) (funext fun e => ?_))
  exact decide_eq_decide.2 (A.lt _ _)
theorem Apart.read (A : Apart σ τ key φ) (h : τ.readE key = 0) : Apart (σ.readT key) (τ.readT key) key φ := by
  obtain ⟨h1, h2, h3⟩ := A.told h
  refine A.same (fun i => ?_) fun i e he => ?_
  · unfold readK
    rw [h1, h2, A.ups, A.pce]
    by_cases c : i ∈ τ.ups
    · rw [if_pos ⟨rfl, c⟩, if_pos ⟨rfl, c⟩, A.kept i, A.nextK]
    · rw [if_neg fun h => c h.2, if_neg fun h => c h.2, A.kept i]
  · unfold readK at he
    by_cases c : i ∈ τ.ups
    · rw [if_pos ⟨rfl, c⟩, nextK_mem] at he
      rcases he with rfl | he
      · exact h3
      · exact A.low i e he.1
    · rw [if_neg fun h => c h.2] at he
      exact A.low i e he
theorem mapK_rot (φ : Nat → Nat) (l : List (Nat × ByteArray)) (hl : l ≠ []) : rotL (mapK φ l) = mapK φ (rotL l) := by
  have hp := List.length_pos_iff.2 hl
  unfold rotL mapK
  rw [List.length_map, List.map_set]
  have : ∀ j, j < l.length → (l.map fun e => (φ e.1, e.2)).getD j (0, ByteArray.empty) = (φ (l.getD j (0, ByteArray.empty)).1, (l.getD j (0, ByteArray.empty)).2) := by
    intro j hj
    simp [List.getD_eq_getElem?_getD, List.getElem?_eq_getElem hj]
  rw [this _ (by omega)]

/-! ### A deed -/
/-- What two answers have in common. -/
def like (a b : Ans) : Prop := a.err = b.err ∧ a.text = b.text ∧ a.many = b.many
theorem Apart.both (A : Apart σ τ key φ) (hw : σ.wr < 1000000) (kind k n : Int) (s : ByteArray) (h : kind = 4 ∨ kind = 5 ∨ kind = 6 ∨ k = (key : Int)) :
    like (σ.doS kind k n s).1 (τ.doS kind k n s).1 ∧ ∃ ψ, Apart (σ.doS kind k n s).2 (τ.doS kind k n s).2 key ψ := by
  unfold doS
  by_cases c : kind < 1 ∨ 8 < kind ∨ (keyed kind ∧ ¬ isKey k)
  · rw [if_pos c, if_pos c]; exact ⟨⟨rfl, rfl, rfl⟩, φ, A⟩
  rw [if_neg c, if_neg c]
  have hk : (kind = 1 ∨ kind = 2 ∨ kind = 3 ∨ kind = 7 ∨ kind = 8) → k.toNat = key := fun hh => by omega
  by_cases c1 : kind = 1
  · rw [if_pos c1, if_pos c1, hk (by omega)]
    unfold putS
    rw [A.split hw]
    split
    · exact ⟨⟨rfl, rfl, rfl⟩, φ, A⟩
    · refine ⟨⟨rfl, rfl, rfl⟩, _, A.grow (fun i => ?_) fun i e he => ?_⟩
      · unfold putK
        rw [A.ups, A.pce]
        by_cases u : i ∈ τ.ups
        · rw [if_pos ⟨rfl, u⟩, if_pos ⟨rfl, u⟩]
          unfold mapK
          rw [List.map_cons, bump_new]
          rfl
        · rw [if_neg fun h => u h.2, if_neg fun h => u h.2]
          exact A.keptB i
      · unfold putK at he
        by_cases u : i ∈ τ.ups
        · rw [if_pos ⟨rfl, u⟩, List.mem_singleton] at he
          rw [he]; exact Nat.le_refl _
        · rw [if_neg fun h => u h.2] at he
          have := A.low i e he; omega
  rw [if_neg c1, if_neg c1]
  by_cases c2 : kind = 2
  · rw [if_pos c2, if_pos c2, hk (by omega)]
    unfold tornS
    have hE : σ.tornE key n s = τ.tornE key n s := by
      unfold tornE
      rw [A.split hw, A.ups]
      have : (fun i => decide (8 ≤ (σ.kept i key).length)) = fun i => decide (8 ≤ (τ.kept i key).length) := funext fun i => by rw [A.len]
      rw [this]
    rw [hE]
    split
    · exact ⟨⟨rfl, rfl, rfl⟩, φ, A⟩
    · refine ⟨⟨rfl, rfl, rfl⟩, _, A.grow (fun i => ?_) fun i e he => ?_⟩
      · unfold tornK
        rw [A.ups, A.pce]
        by_cases u : i ∈ τ.ups.take n.toNat
        · rw [if_pos ⟨rfl, u⟩, if_pos ⟨rfl, u⟩, A.keptB i]
          unfold mapK
          rw [List.map_append, List.map_cons, bump_new]
          rfl
        · rw [if_neg fun h => u h.2, if_neg fun h => u h.2]
          exact A.keptB i
      · unfold tornK at he
        by_cases u : i ∈ τ.ups.take n.toNat
        · rw [if_pos ⟨rfl, u⟩, List.mem_append, List.mem_singleton] at he
          rcases he with he | he
          · have := A.low i e he; omega
          · rw [he]; exact Nat.le_refl _
        · rw [if_neg fun h => u h.2] at he
          have := A.low i e he; omega
  rw [if_neg c2, if_neg c2]
  by_cases c3 : kind = 3
  · rw [if_pos c3, if_pos c3, hk (by omega)]
    unfold getS
    rw [A.readE]
    by_cases e : τ.readE key ≠ 0
    · rw [if_pos e, if_pos e]; exact ⟨⟨rfl, rfl, rfl⟩, φ, A⟩
    · rw [if_neg e, if_neg e]
      have e := Classical.not_not.1 e
      exact ⟨⟨rfl, (A.told e).2.1, rfl⟩, φ, A.read e⟩
  rw [if_neg c3, if_neg c3]
  by_cases c8 : kind = 8
  · rw [if_pos c8, if_pos c8, hk (by omega)]
    unfold scrubS
    rw [A.readE]
    by_cases e : τ.readE key ≠ 0
    · rw [if_pos e, if_pos e]; exact ⟨⟨rfl, rfl, rfl⟩, φ, A⟩
    · rw [if_neg e, if_neg e]
      have e := Classical.not_not.1 e
      refine ⟨⟨rfl, rfl, ?_⟩, φ, A.read e⟩
      show σ.readMany key = τ.readMany key
      obtain ⟨h1, h2, -⟩ := A.told e
      unfold readMany
      rw [h1, h2, A.ups]
      exact congrArg (fun f => (List.filter f τ.ups).length) (funext fun i => A.wrong _ _ _)
  rw [if_neg c8, if_neg c8]
  have hN : σ.isNode n ↔ τ.isNode n := by unfold isNode; rw [A.N]
  unfold atS
  by_cases hn : τ.isNode n
  · rw [if_neg (fun h : ¬ σ.isNode n => h (hN.2 hn)), if_neg (fun h : ¬ τ.isNode n => h hn)]
    by_cases c4 : kind = 4
    · rw [if_pos c4, if_pos c4, A.down]
      exact ⟨⟨rfl, rfl, rfl⟩, φ, A.keep A.kept A.low⟩
    rw [if_neg c4, if_neg c4]
    by_cases c5 : kind = 5
    · rw [if_pos c5, if_pos c5, A.down]
      exact ⟨⟨rfl, rfl, rfl⟩, φ, A.keep A.kept A.low⟩
    rw [if_neg c5, if_neg c5]
    by_cases c6 : kind = 6
    · rw [if_pos c6, if_pos c6]
      refine ⟨⟨rfl, rfl, rfl⟩, φ, A.same (fun i => ?_) fun i e he => ?_⟩
      · show (if i = n.toNat then [] else σ.kept i key) = mapK φ (if i = n.toNat then [] else τ.kept i key)
        split
        · rfl
        · exact A.kept i
      · have he : e ∈ (if i = n.toNat then [] else τ.kept i key) := he
        split at he
        · simp at he
        · exact A.low i e he
    rw [if_neg c6, if_neg c6, hk (by unfold keyed at c; omega)]
    by_cases ce : τ.kept n.toNat key = []
    · rw [if_pos ce, if_pos (by rw [A.kept, ce]; rfl)]
      exact ⟨⟨rfl, rfl, rfl⟩, φ, A⟩
    · rw [if_neg ce, if_neg (fun h => ce (List.eq_nil_of_length_eq_zero (by rw [← A.len, h]; rfl)))]
      refine ⟨⟨rfl, rfl, rfl⟩, φ, A.same (fun i => ?_) fun i e he => ?_⟩
      · unfold rotK
        by_cases hi : i = n.toNat
        · rw [if_pos ⟨hi, rfl⟩, if_pos ⟨hi, rfl⟩, A.kept i, mapK_rot φ _ (by rw [hi]; exact ce)]
        · rw [if_neg fun h => hi h.1, if_neg fun h => hi h.1]
          exact A.kept i
      · unfold rotK at he
        by_cases hi : i = n.toNat
        · rw [if_pos ⟨hi, rfl⟩] at he
          rcases rotL_mem he with he | ⟨x, hx, rfl⟩
          · exact A.low i e he
          · exact A.low i x hx
        · rw [if_neg fun h => hi h.1] at he
          exact A.low i e he
  · rw [if_pos (fun h : σ.isNode n => hn (hN.1 h)), if_pos hn]
    exact ⟨⟨rfl, rfl, rfl⟩, φ, A⟩
theorem Apart.alone (A : Apart σ τ key φ) (kind k n : Int) (s : ByteArray) (h4 : kind ≠ 4) (h5 : kind ≠ 5) (h6 : kind ≠ 6) (hk : k ≠ (key : Int)) : Apart (σ.doS kind k n s).2 τ key φ := by
  have hne : isKey k → key ≠ k.toNat := fun h e => by unfold isKey at h; omega
  refine doS_cases σ kind k n s (P := fun r => Apart r.2 τ key φ) (fun _ => A) ?_ ?_ ?_ ?_ ?_
  · intro hi _
    unfold putS
    split
    · exact A
    · exact A.one (by omega) fun i => by unfold putK; exact if_neg fun h => hne hi h.1
  · intro hi _
    unfold tornS
    split
    · exact A
    · exact A.one (by omega) fun i => by unfold tornK; exact if_neg fun h => hne hi h.1
  · intro hi _
    unfold getS
    split
    · exact A
    · exact A.one (Nat.le_refl _) fun i => by unfold readK; exact if_neg fun h => hne hi h.1
  · intro hi _
    unfold scrubS
    split
    · exact A
    · exact A.one (Nat.le_refl _) fun i => by unfold readK; exact if_neg fun h => hne hi h.1
  · intro hh
    have hi : isKey k := by
      rcases hh with h | h | h | h
      · exact absurd h h4
      · exact absurd h h5
      · exact absurd h h6
      · exact h.2
    unfold atS
    by_cases hn : ¬ σ.isNode n
    · rw [if_pos hn]; exact A
    · rw [if_neg hn, if_neg h4, if_neg h5, if_neg h6]
      split
      · exact A
      · exact A.one (Nat.le_refl _) fun i => by unfold rotK; exact if_neg fun h => hne hi h.2
theorem doS_wr (σ : Sto) (kind k n : Int) (s : ByteArray) : (σ.doS kind k n s).2.wr ≤ σ.wr + 1 := by
  by_cases h : kind = 1 ∨ kind = 2
  · by_cases he : (σ.doS kind k n s).1.err = 0
    · exact Nat.le_of_eq (put_told kind k n s h he).2.1
    · rw [doS_same σ kind k n s he]; omega
  · rw [wr_same (σ := σ) kind k n s (by omega) (by omega)]; omega
end
end Sto
end Go.Proofs.Ytfhalkijbenhdaa
