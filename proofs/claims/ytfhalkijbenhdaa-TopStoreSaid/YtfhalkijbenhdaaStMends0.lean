/-
  Plain: what was mended is read again, whatever becomes of as many nodes as are up more than make all.
-/
import Derived.Test.YtfhalkijbenhdaaSto23
set_option linter.unusedVariables false
set_option linter.unusedSimpArgs false
namespace Go.Proofs.Ytfhalkijbenhdaa
namespace Sto
theorem filter_drop {f g : Nat → Bool} {a : Nat} (h : ∀ i, i ≠ a → f i = true → g i = true) : ∀ n, ((List.range n).filter f).length ≤ ((List.range n).filter g).length + (if a < n then 1 else 0)
  | 0 => by simp
  | n + 1 => by
    have ih := filter_drop h n
    have h1 := h n
    simp only [List.range_succ, List.filter_append, List.length_append, List.filter_cons, List.filter_nil]
    by_cases e : n = a
    · subst e
      rw [if_neg (Nat.lt_irrefl n)] at ih
      rw [if_pos (Nat.lt_succ_self n)]
      cases f n <;> cases g n <;> simp <;> omega
    · have h1 := h1 e
      have : (if a < n + 1 then 1 else 0) = if a < n then 1 else 0 := by
        by_cases c : a < n
        · rw [if_pos c, if_pos (by omega)]
        · rw [if_neg c, if_neg (by omega)]
      rw [this]
      cases hf : f n <;> cases hg : g n
      · simpa using ih
      · simp; omega
      · rw [hf, hg] at h1; exact absurd (h1 rfl) (by decide)
      · simp; omega
theorem doS_K (σ : Sto) (kind key n : Int) (s : ByteArray) : (σ.doS kind key n s).2.K = σ.K := by
  refine doS_cases σ kind key n s (P := fun r => r.2.K = σ.K) (fun _ => rfl) ?_ ?_ ?_ ?_ ?_
  · intro _ _; unfold putS; split <;> rfl
  · intro _ _; unfold tornS; split <;> rfl
  · intro _ _; unfold getS; split <;> rfl
  · intro _ _; unfold scrubS; split <;> rfl
  · intro _
    unfold atS
    split
    · rfl
    · split
      · rfl
      · split
        · rfl
        · split
          · rfl
          · split <;> rfl
theorem run_K (σ : Sto) (l : List Dd) : (σ.run l).K = σ.K := by
  refine rev_induct (P := fun l => (σ.run l).K = σ.K) rfl (fun l d h => ?_) l
  rw [run_snoc]
  exact (doS_K _ _ _ _ _).trans h
theorem nextK_twice (l : List (Nat × ByteArray)) (r : Nat × ByteArray) : nextK (nextK l r) r = nextK l r := by
  unfold nextK
  rw [List.filter_cons_of_neg (by simp), List.filter_filter]
  simp
section
variable {σ τ : Sto} {H : Nat → Nat × ByteArray} {key T gone : Nat}
theorem told_of (O : Ok τ H) (hk : key < 3) (hT : 1 ≤ T ∧ T ≤ τ.wr) (hc : τ.K ≤ cnt τ key T (H T).2) (hl : ∀ u, T < u → u ≤ τ.wr → cnt τ key u (H u).2 < τ.K) (hr : τ.R ≤ τ.ups.length) (hw : τ.W ≤ τ.ups.length) :
    τ.readE key = 0 ∧ τ.readAt key = T ∧ τ.readText key = (H T).2 := by
  obtain ⟨u, x, h1, h2⟩ := O.newest_ge hk hT hc
  obtain ⟨-, h3, h4, -, h5, -⟩ := O.newest_some hk h1
  have hu : u = T := by
    rcases Nat.lt_or_eq_of_le h2 with h | h
    · have := hl u h h5; omega
    · exact h.symm
  subst hu
  refine ⟨?_, by simp [readAt, h1], by simp [readText, h1, h4]⟩
  unfold readE
  rw [if_neg (by omega), h1]
  rfl
/-- What was mended, less what was lost since. -/
structure Mended (σ τ : Sto) (H : Nat → Nat × ByteArray) (key T gone : Nat) : Prop where
  ok : Ok τ H
  N : τ.N = σ.N
  K : τ.K = σ.K
  ups : τ.ups = σ.ups
  t1 : 1 ≤ T ∧ T ≤ τ.wr
  r : τ.R ≤ τ.ups.length
  w : τ.W ≤ τ.ups.length
  low : ∀ u, T < u → u ≤ τ.wr → Sto.cnt τ key u (H u).2 < τ.K
  cnt : σ.ups.length ≤ Sto.cnt τ key T (H T).2 + gone
theorem Mended.get (M : Mended σ τ H key T gone) (hk : key < 3) (hg : gone + σ.K ≤ σ.ups.length) : τ.getS key = (⟨(H T).2, T, 0, 0⟩, τ.readT key) := by
  have hc := M.cnt
  have hK := M.K
  obtain ⟨h1, h2, h3⟩ := told_of M.ok hk M.t1 (by omega) M.low M.r M.w
  unfold getS
  rw [if_neg (fun h => h h1), h2, h3]
theorem Mended.lose (M : Mended σ τ H key T gone) {a : Nat} (ha : a ∈ σ.ups) : (τ.doS 6 0 (a : Int) ByteArray.empty).1 = Ans.no 0 ∧ Mended σ (τ.doS 6 0 (a : Int) ByteArray.empty).2 H key T (gone + 1) := by
  have haN : a < τ.N := by rw [M.N]; exact ups_lt ha
  have hd : τ.doS 6 0 (a : Int) ByteArray.empty = (Ans.no 0, { τ with kept := fun i k => if i = a then [] else τ.kept i k }) := by
    unfold doS
    rw [if_neg (by unfold keyed; omega), if_neg (by decide), if_neg (by decide), if_neg (by decide), if_neg (by decide)]
    unfold atS
    rw [if_neg (fun h : ¬ τ.isNode (a : Int) => h ⟨by omega, by omega⟩), if_neg (by decide), if_neg (by decide), if_pos rfl, Int.toNat_natCast]
  have hO := M.ok.do_ 6 0 (a : Int) ByteArray.empty
  have hH : hist τ H 6 0 (a : Int) ByteArray.empty = H := by
    unfold hist
    rw [hd]; exact if_pos rfl
  rw [hH] at hO
  rw [hd] at hO ⊢
  have hhas : ∀ u s i, has { τ with kept := fun i k => if i = a then [] else τ.kept i k } key u s i = true → has τ key u s i = true := by
    intro u s i h
    have h := has_iff.1 h
    refine has_iff.2 ?_
    have h : (u, τ.pce s i) ∈ (if i = a then [] else τ.kept i key) := h
    split at h
    · simp at h
    · exact h
  have hbk : ∀ u s i, i ≠ a → has τ key u s i = true → has { τ with kept := fun i k => if i = a then [] else τ.kept i k } key u s i = true := by
    intro u s i hi h
    have h := has_iff.1 h
    refine has_iff.2 ?_
    show (u, τ.pce s i) ∈ (if i = a then [] else τ.kept i key)
    rw [if_neg hi]; exact h
  refine ⟨rfl, ⟨hO, M.N, M.K, M.ups, M.t1, M.r, M.w, fun u h1 h2 => Nat.lt_of_le_of_lt ?_ (M.low u h1 h2), ?_⟩⟩
  · refine filter_le τ.N fun i _ h => ?_
    rw [Bool.and_eq_true] at h ⊢
    exact ⟨h.1, hhas _ _ _ h.2⟩
  · have h1 := M.cnt
    have h2 := filter_drop (f := fun i => !τ.down i && has τ key T (H T).2 i) (g := fun i => !τ.down i && has { τ with kept := fun i k => if i = a then [] else τ.kept i k } key T (H T).2 i) (a := a) (fun i hi h => by
      rw [Bool.and_eq_true] at h ⊢
      exact ⟨h.1, hbk _ _ _ hi h.2⟩) τ.N
    have h3 : (if a < τ.N then 1 else 0) ≤ 1 := by split <;> omega
    have h4 : Sto.cnt τ key T (H T).2 = ((List.range τ.N).filter fun i => !τ.down i && has τ key T (H T).2 i).length := rfl
    have h5 : Sto.cnt { τ with kept := fun i k => if i = a then [] else τ.kept i k } key T (H T).2 = ((List.range τ.N).filter fun i => !τ.down i && has { τ with kept := fun i k => if i = a then [] else τ.kept i k } key T (H T).2 i).length := rfl
    show σ.ups.length ≤ Sto.cnt { τ with kept := fun i k => if i = a then [] else τ.kept i k } key T (H T).2 + (gone + 1)
    omega
theorem doS_scrub {σ : Sto} {key : Nat} (hk : key < 3) (s : ByteArray) : σ.doS 8 (key : Int) 0 s = σ.scrubS key := by
  unfold doS
  rw [if_neg (by unfold keyed isKey; omega), if_neg (by decide), if_neg (by decide), if_neg (by decide), if_pos rfl, Int.toNat_natCast]
theorem doS_get {σ : Sto} {key : Nat} (hk : key < 3) (s : ByteArray) : σ.doS 3 (key : Int) 0 s = σ.getS key := by
  unfold doS
  rw [if_neg (by unfold keyed isKey; omega), if_neg (by decide), if_neg (by decide), if_pos rfl, Int.toNat_natCast]
theorem scrub_told {k : Int} {s : ByteArray} (he : (σ.doS 8 k 0 s).1.err = 0) : ∃ key : Nat, key < 3 ∧ k = (key : Int) ∧ σ.readE key = 0 := by
  by_cases hk : isKey k
  · obtain ⟨key, rfl⟩ : ∃ key : Nat, k = (key : Int) := ⟨k.toNat, by unfold isKey at hk; omega⟩
    have hk3 : key < 3 := by unfold isKey at hk; omega
    refine ⟨key, hk3, rfl, ?_⟩
    rw [doS_scrub hk3] at he
    unfold scrubS at he
    by_cases h : σ.readE key = 0
    · exact h
    · rw [if_pos h] at he
      exact he
  · unfold doS at he
    rw [if_pos (.inr (.inr ⟨.inr (.inl rfl), hk⟩))] at he
    exact absurd he (by intro h; cases h)
theorem mend_told (O : Ok σ H) (hk : key < 3) (h : σ.readE key = 0) (s : ByteArray) : ∃ (σ1 : Sto) (T : Nat), (σ.doS 8 (key : Int) 0 s) = (⟨ByteArray.empty, 0, σ.readMany key, 0⟩, σ1) ∧ (σ1.doS 8 (key : Int) 0 s) = (⟨ByteArray.empty, 0, 0, 0⟩, σ1) ∧
    (σ1.doS 3 (key : Int) 0 s) = (⟨(H T).2, T, 0, 0⟩, σ1) ∧ Mended σ1 σ1 H key T 0 ∧ σ1.K ≤ σ1.ups.length := by
  obtain ⟨T, h1, h2, h3, h4, h5, h6, h7, h8, h9, h10⟩ := O.readText_small hk h
  have hO := O.read hk h
  have hlow : ∀ u, T < u → u ≤ σ.wr → cnt σ key u (H u).2 < σ.K := by
    intro u hu hw
    refine Nat.lt_of_not_le fun hc => ?_
    obtain ⟨u', x, e1, e2⟩ := O.newest_ge hk ⟨by omega, hw⟩ hc
    rw [h1] at e1
    injection e1 with e1
    injection e1 with e1
    omega
  have hkept : ∀ i, (σ.readT key).kept i key = if i ∈ σ.ups then nextK (σ.kept i key) (T, σ.pce (H T).2 i) else σ.kept i key := by
    intro i
    show σ.readK key (σ.readAt key) (σ.readText key) σ.ups i key = _
    unfold readK
    rw [h2, h3]
    by_cases c : i ∈ σ.ups
    · rw [if_pos ⟨rfl, c⟩, if_pos c]
    · rw [if_neg (fun h => c h.2), if_neg c]
  have hhas : ∀ i, i ∈ σ.ups → has (σ.readT key) key T (H T).2 i = true := by
    intro i hi
    refine has_iff.2 ?_
    rw [hkept i, if_pos hi, nextK_mem]
    exact .inl rfl
  have hcnt : σ.ups.length ≤ cnt (σ.readT key) key T (H T).2 := by
    refine filter_le (f := fun i => !σ.down i) σ.N fun i hi hd => ?_
    rw [Bool.and_eq_true]
    exact ⟨hd, hhas i (mem_ups.2 ⟨hi, by simpa using hd⟩)⟩
  have hlow1 : ∀ u, T < u → u ≤ σ.wr → cnt (σ.readT key) key u (H u).2 < σ.K := by
    intro u hu hw
    refine Nat.lt_of_le_of_lt (filter_le σ.N fun i _ h => ?_) (hlow u hu hw)
    rw [Bool.and_eq_true] at h ⊢
    refine ⟨h.1, ?_⟩
    have hh := has_iff.1 h.2
    rw [hkept i] at hh
    refine has_iff.2 ?_
    split at hh
    · rw [nextK_mem] at hh
      rcases hh with hh | hh
      · injection hh with hh; omega
      · exact hh.1
    · exact hh
  have hKc : σ.K ≤ σ.ups.length := by
    refine Nat.le_trans h10 (filter_le (g := fun i => !σ.down i) σ.N fun i _ h => ?_)
    rw [Bool.and_eq_true] at h
    exact h.1
  have hM : Mended (σ.readT key) (σ.readT key) H key T 0 := ⟨hO, rfl, rfl, rfl, ⟨h4, h5⟩, h8, h9, hlow1, hcnt⟩
  have hre := told_of hO hk ⟨h4, h5⟩ (Nat.le_trans hKc hcnt) hlow1 h8 h9
  have hrt : (σ.readT key).readT key = σ.readT key := by
    have hkk : (σ.readT key).readK key ((σ.readT key).readAt key) ((σ.readT key).readText key) (σ.readT key).ups = (σ.readT key).kept := by
      funext i k
      unfold readK
      rw [hre.2.1, hre.2.2]
      by_cases c : k = key ∧ i ∈ (σ.readT key).ups
      · rw [if_pos c]
        obtain ⟨rfl, c⟩ := c
        rw [hkept i, if_pos (show i ∈ σ.ups from c)]
        exact nextK_twice _ _
      · rw [if_neg c]
    show ({ σ.readT key with kept := (σ.readT key).readK key ((σ.readT key).readAt key) ((σ.readT key).readText key) (σ.readT key).ups } : Sto) = σ.readT key
    rw [hkk]
  refine ⟨σ.readT key, T, ?_, ?_, ?_, hM, hKc⟩
  · rw [doS_scrub hk]
    unfold scrubS
    rw [if_neg (fun hh => hh h)]
  · rw [doS_scrub hk]
    unfold scrubS
    rw [if_neg (fun hh => hh hre.1), hrt]
    have : (σ.readT key).readMany key = 0 := by
      unfold readMany
      rw [List.length_eq_zero_iff, List.filter_eq_nil_iff, hre.2.1, hre.2.2]
      intro i hi
      unfold wrong
      have := hhas i hi
      unfold has at this
      rw [this]
      simp
    rw [this]
  · rw [doS_get hk, hM.get hk (by rw [Nat.zero_add]; exact hKc), hrt]
end
end Sto
end Go.Proofs.Ytfhalkijbenhdaa
