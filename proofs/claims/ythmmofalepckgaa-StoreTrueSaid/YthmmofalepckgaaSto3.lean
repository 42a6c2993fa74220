/-
  Plain: what was written stands, as long as nothing is lost or spoiled; what is read is no older.
-/
import Derived.Test.YthmmofalepckgaaSto2
set_option linter.unusedVariables false
set_option linter.unusedSimpArgs false
namespace Go.Proofs.Ythmmofalepckgaa
namespace Sto
/-- By a key a stamp stands: so many nodes as a write needs tell its piece, down or not. -/
def Stands (σ : Sto) (H : Nat → Nat × ByteArray) (key T : Nat) : Prop := 1 ≤ T ∧ T ≤ σ.wr ∧ σ.W ≤ ((List.range σ.N).filter (has σ key T (H T).2)).length
section
variable {σ : Sto} {H : Nat → Nat × ByteArray} {key T : Nat}
theorem Stands.cnt (S : Stands σ H key T) (O : Ok σ H) (hr : σ.R ≤ σ.ups.length) : σ.K ≤ cnt σ key T (H T).2 := by
  have h := both_len (fun i => !σ.down i) (has σ key T (H T).2) σ.N
  have hu : ((List.range σ.N).filter fun i => !σ.down i).length = σ.ups.length := rfl
  have hs := S.2.2
  have hm := O.meet
  unfold Sto.cnt
  omega
/-- Who reads what stands reads it, or what is newer. -/
theorem Stands.read (S : Stands σ H key T) (O : Ok σ H) (hk : key < 3) : σ.readE key = 9 ∨ (σ.readE key = 0 ∧ T ≤ σ.readAt key) := by
  unfold readE
  by_cases c : σ.ups.length < σ.R ∨ σ.ups.length < σ.W
  · exact .inl (if_pos c)
  · rw [if_neg c]
    obtain ⟨u, x, h1, h2⟩ := O.newest_ge hk ⟨S.1, S.2.1⟩ (S.cnt O (by omega))
    refine .inr ⟨by rw [h1]; rfl, ?_⟩
    simpa [readAt, h1] using h2
theorem Stands.mono (S : Stands σ H key T) {σ' : Sto} {H' : Nat → Nat × ByteArray} (hN : σ'.N = σ.N) (hW : σ'.W = σ.W) (hw : σ.wr ≤ σ'.wr) (hh : ∀ i, i < σ.N → has σ key T (H T).2 i = true → has σ' key T (H' T).2 i = true) : Stands σ' H' key T := by
  refine ⟨S.1, Nat.le_trans S.2.1 hw, ?_⟩
  rw [hN, hW]
  exact Nat.le_trans S.2.2 (filter_le _ hh)
theorem ups_stand {f : Nat → Bool} (hw : σ.W ≤ σ.ups.length) (h : ∀ i ∈ σ.ups, f i = true) : σ.W ≤ ((List.range σ.N).filter f).length := by
  refine Nat.le_trans hw ?_
  exact filter_le (f := fun i => !σ.down i) σ.N fun i hi hd => h i (mem_ups.2 ⟨hi, by simpa using hd⟩)
theorem split_ok {s : ByteArray} (h : σ.splitE s = 0) : σ.W ≤ σ.ups.length ∧ s.size ≤ 60 := by
  unfold splitE at h
  by_cases c : 60 < s.size
  · rw [if_pos c] at h; exact absurd h (by decide)
  · rw [if_neg c] at h
    by_cases d : σ.ups.length < σ.W
    · rw [if_pos d] at h; exact absurd h (by decide)
    · exact ⟨by omega, by omega⟩
theorem put_stands {key : Nat} {s : ByteArray} (h : σ.splitE s = 0) : Stands { σ with wr := σ.wr + 1, kept := σ.putK key s σ.ups } (ext H (σ.wr + 1) key s) key (σ.wr + 1) := by
  refine ⟨by omega, Nat.le_refl _, ups_stand (split_ok h).1 fun i hi => has_iff.2 ?_⟩
  rw [ext_same]
  show (σ.wr + 1, σ.pce s i) ∈ σ.putK key s σ.ups i key
  unfold putK
  rw [if_pos ⟨rfl, hi⟩]
  exact List.mem_singleton.2 rfl
theorem read_stands (O : Ok σ H) {key : Nat} (hk : key < 3) (h : σ.readE key = 0) : Stands (σ.readT key) H key (σ.readAt key) := by
  obtain ⟨t, h1, h2, h3, h4, h5, h6, h7, h8, h9, -⟩ := O.readText_small hk h
  rw [h2]
  refine ⟨h4, h5, ups_stand h9 fun i hi => has_iff.2 ?_⟩
  show (t, σ.pce (H t).2 i) ∈ σ.readK key (σ.readAt key) (σ.readText key) σ.ups i key
  unfold readK
  rw [if_pos ⟨rfl, hi⟩, nextK_mem, h2, h3]
  exact .inl rfl
theorem hist_old (kind key n : Int) (s : ByteArray) {u : Nat} (h : u ≤ σ.wr) : hist σ H kind key n s u = H u := by
  unfold hist
  split
  · rfl
  · exact ext_ne _ _ _ (by omega)
/-- Nothing is lost, nothing spoiled: what stood stands, or what is newer. -/
theorem Stands.step (S : Stands σ H key T) (O : Ok σ H) (hkey : key < 3) (kind k n : Int) (s : ByteArray) (h6 : kind ≠ 6) (h7 : kind ≠ 7) :
    ∃ T', T ≤ T' ∧ Stands (σ.doS kind k n s).2 (hist σ H kind k n s) key T' ∧ (kind = 3 → k.toNat = key → (σ.doS kind k n s).1.err = 0 → T ≤ (σ.doS kind k n s).1.at_) := by
  have keepH : ∀ {r : Sto}, r.N = σ.N → r.W = σ.W → r.K = σ.K → σ.wr ≤ r.wr → (∀ i, i < σ.N → ∀ e, e ∈ σ.kept i key → e ∈ r.kept i key) → ∀ H', H' T = H T → Stands r H' key T := by
    intro r hN hW hK hw hh H' hH
    refine S.mono hN hW hw fun i hi h => has_iff.2 ?_
    rw [hH]
    have := hh i hi _ (has_iff.1 h)
    have hp : r.pce (H T).2 i = σ.pce (H T).2 i := by unfold pce; rw [hN, hK]
    rw [hp]; exact this
  have hHT : ∀ {r : Sto}, (if r.wr = σ.wr then H else ext H (σ.wr + 1) k.toNat s) T = H T := fun {r} => by
    split
    · rfl
    · exact ext_ne _ _ _ (by have := S.2.1; omega)
  unfold hist
  refine doS_cases σ kind k n s (P := fun r => ∃ T', T ≤ T' ∧ Stands r.2 (if r.2.wr = σ.wr then H else ext H (σ.wr + 1) k.toNat s) key T' ∧ (kind = 3 → k.toNat = key → r.1.err = 0 → T ≤ r.1.at_)) (fun _ => ?_) ?_ ?_ ?_ ?_ ?_
  · exact ⟨T, Nat.le_refl _, keepH (by rfl) (by rfl) (by rfl) (by exact Nat.le_refl _) (fun _ _ _ h => h) _ hHT, fun _ _ h => by cases h⟩
  · intro hk h1
    unfold putS
    by_cases c : σ.splitE s = 0
    · rw [if_neg (by simpa using c)]
      by_cases d : k.toNat = key
      · refine ⟨σ.wr + 1, by have := S.2.1; omega, ?_, fun h => by omega⟩
        rw [if_neg (by show ¬ σ.wr + 1 = σ.wr; omega), d]
        exact put_stands c
      · refine ⟨T, Nat.le_refl _, ?_, fun h => by omega⟩
        refine keepH (by rfl) (by rfl) (by rfl) (by exact Nat.le_succ _) (fun i _ e he => ?_) _ hHT
        show e ∈ σ.putK k.toNat s σ.ups i key
        unfold putK
        rw [if_neg (fun h => d h.1.symm)]; exact he
    · rw [if_pos c]
      exact ⟨T, Nat.le_refl _, keepH (by rfl) (by rfl) (by rfl) (by exact Nat.le_refl _) (fun _ _ _ h => h) _ hHT, fun h => by omega⟩
  · intro hk h1
    unfold tornS
    by_cases c : σ.tornE k.toNat n s = 0
    · rw [if_neg (by simpa using c)]
      refine ⟨T, Nat.le_refl _, ?_, fun h => by omega⟩
      refine keepH (by rfl) (by rfl) (by rfl) (by exact Nat.le_succ _) (fun i _ e he => ?_) _ hHT
      show e ∈ σ.tornK k.toNat s _ i key
      unfold tornK
      split
      · exact List.mem_append_left _ he
      · exact he
    · rw [if_pos c]
      exact ⟨T, Nat.le_refl _, keepH (by rfl) (by rfl) (by rfl) (by exact Nat.le_refl _) (fun _ _ _ h => h) _ hHT, fun h => by omega⟩
  · intro hk h1
    unfold getS
    by_cases c : σ.readE k.toNat = 0
    · rw [if_neg (by simpa using c), if_pos (show (σ.readT k.toNat).wr = σ.wr from rfl)]
      by_cases d : k.toNat = key
      · rw [d] at c ⊢
        have hge : T ≤ σ.readAt key := by
          rcases S.read O hkey with h | h
          · rw [c] at h; exact absurd h (by decide)
          · exact h.2
        exact ⟨_, hge, read_stands O hkey c, fun _ _ _ => hge⟩
      · refine ⟨T, Nat.le_refl _, ?_, fun _ h => absurd h d⟩
        refine keepH (by rfl) (by rfl) (by rfl) (by exact Nat.le_refl _) (fun i _ e he => ?_) _ rfl
        show e ∈ σ.readK k.toNat _ _ σ.ups i key
        unfold readK
        rw [if_neg (fun h => d h.1.symm)]; exact he
    · rw [if_pos c]
      exact ⟨T, Nat.le_refl _, keepH (by rfl) (by rfl) (by rfl) (by exact Nat.le_refl _) (fun _ _ _ h => h) _ hHT, fun _ _ h => absurd h c⟩
  · intro hk h1
    unfold scrubS
    by_cases c : σ.readE k.toNat = 0
    · rw [if_neg (by simpa using c), if_pos (show (σ.readT k.toNat).wr = σ.wr from rfl)]
      by_cases d : k.toNat = key
      · rw [d] at c ⊢
        have hge : T ≤ σ.readAt key := by
          rcases S.read O hkey with h | h
          · rw [c] at h; exact absurd h (by decide)
          · exact h.2
        exact ⟨_, hge, read_stands O hkey c, fun h => by omega⟩
      · refine ⟨T, Nat.le_refl _, ?_, fun h => by omega⟩
        refine keepH (by rfl) (by rfl) (by rfl) (by exact Nat.le_refl _) (fun i _ e he => ?_) _ rfl
        show e ∈ σ.readK k.toNat _ _ σ.ups i key
        unfold readK
        rw [if_neg (fun h => d h.1.symm)]; exact he
    · rw [if_pos c]
      exact ⟨T, Nat.le_refl _, keepH (by rfl) (by rfl) (by rfl) (by exact Nat.le_refl _) (fun _ _ _ h => h) _ hHT, fun h => by omega⟩
  · intro hk
    refine ⟨T, Nat.le_refl _, ?_, fun h => by omega⟩
    unfold atS
    split
    · exact keepH (by rfl) (by rfl) (by rfl) (by exact Nat.le_refl _) (fun _ _ _ h => h) _ hHT
    · split
      · exact keepH (by rfl) (by rfl) (by rfl) (by exact Nat.le_refl _) (fun _ _ _ h => h) _ hHT
      · split
        · exact keepH (by rfl) (by rfl) (by rfl) (by exact Nat.le_refl _) (fun _ _ _ h => h) _ hHT
        · omega
/-- What is told of a put or a read stands from then on. -/
theorem stands_told (O : Ok σ H) (kind k n : Int) (s : ByteArray) (h : kind = 1 ∨ kind = 3) (he : (σ.doS kind k n s).1.err = 0) : isKey k ∧ Stands (σ.doS kind k n s).2 (hist σ H kind k n s) k.toNat (σ.doS kind k n s).1.at_ := by
  unfold hist
  refine doS_cases σ kind k n s (P := fun r => r.1.err = 0 → isKey k ∧ Stands r.2 (if r.2.wr = σ.wr then H else ext H (σ.wr + 1) k.toNat s) k.toNat r.1.at_) (fun _ h => by cases h) ?_ (fun _ h => by omega) ?_ (fun _ h => by omega) (fun h => by omega) he
  · intro hk _
    unfold putS
    by_cases c : σ.splitE s = 0
    · rw [if_neg (by simpa using c)]
      intro _
      rw [if_neg (by show ¬ σ.wr + 1 = σ.wr; omega)]
      exact ⟨hk, put_stands c⟩
    · rw [if_pos c]; exact fun h => absurd h c
  · intro hk _
    unfold getS
    by_cases c : σ.readE k.toNat = 0
    · rw [if_neg (by simpa using c), if_pos (show (σ.readT k.toNat).wr = σ.wr from rfl)]
      exact fun _ => ⟨hk, read_stands O (isKey_lt hk) c⟩
    · rw [if_pos c]; exact fun h => absurd h c
/-- What is told of a write. -/
theorem put_told (kind k n : Int) (s : ByteArray) (h : kind = 1 ∨ kind = 2) (he : (σ.doS kind k n s).1.err = 0) : (σ.doS kind k n s).1.at_ = σ.wr + 1 ∧ (σ.doS kind k n s).2.wr = σ.wr + 1 ∧ isKey k ∧ (σ.doS kind k n s).1.many = 0 ∧ (σ.doS kind k n s).1.text = ByteArray.empty ∧ s.size ≤ 60 := by
  refine doS_cases σ kind k n s (P := fun r => r.1.err = 0 → r.1.at_ = σ.wr + 1 ∧ r.2.wr = σ.wr + 1 ∧ isKey k ∧ r.1.many = 0 ∧ r.1.text = ByteArray.empty ∧ s.size ≤ 60) (fun _ h => by cases h) ?_ ?_ (fun _ h => by omega) (fun _ h => by omega) (fun h => by omega) he
  · intro hk _
    unfold putS
    by_cases c : σ.splitE s = 0
    · rw [if_neg (by simpa using c)]
      exact fun _ => ⟨rfl, rfl, hk, rfl, rfl, (split_ok c).2⟩
    · rw [if_pos c]; exact fun h => absurd h c
  · intro hk _
    unfold tornS
    by_cases c : σ.tornE k.toNat n s = 0
    · rw [if_neg (by simpa using c)]
      refine fun _ => ⟨rfl, rfl, hk, rfl, rfl, ?_⟩
      unfold tornE at c
      by_cases d : σ.splitE s = 0
      · exact (split_ok d).2
      · rw [if_pos d] at c; exact absurd c d
    · rw [if_pos c]; exact fun h => absurd h c
/-- Whoever neither writes: so many writes as before. -/
theorem wr_same (kind k n : Int) (s : ByteArray) (h1 : kind ≠ 1) (h2 : kind ≠ 2) : (σ.doS kind k n s).2.wr = σ.wr := by
  refine doS_cases σ kind k n s (P := fun r => r.2.wr = σ.wr) (fun _ => rfl) (fun _ h => absurd h h1) (fun _ h => absurd h h2) ?_ ?_ ?_
  · intro _ _; unfold getS; split <;> rfl
  · intro _ _; unfold scrubS; split <;> rfl
  · intro _
    unfold atS
    split
    · rfl
    · split
      · rfl
      · split
        · rfl
        · split
          · rfl
          · split <;> rfl
/-- What is told of a read. -/
theorem get_told (O : Ok σ H) (k n : Int) (s : ByteArray) (he : (σ.doS 3 k n s).1.err = 0) : isKey k ∧ 1 ≤ (σ.doS 3 k n s).1.at_ ∧ (σ.doS 3 k n s).1.at_ ≤ σ.wr ∧ H (σ.doS 3 k n s).1.at_ = (k.toNat, (σ.doS 3 k n s).1.text) ∧ (σ.doS 3 k n s).1.many = 0 := by
  refine doS_cases σ 3 k n s (P := fun r => r.1.err = 0 → isKey k ∧ 1 ≤ r.1.at_ ∧ r.1.at_ ≤ σ.wr ∧ H r.1.at_ = (k.toNat, r.1.text) ∧ r.1.many = 0) (fun _ h => by cases h) (fun _ h => by omega) (fun _ h => by omega) ?_ (fun _ h => by omega) (fun h => by omega) he
  intro hk _
  unfold getS
  by_cases c : σ.readE k.toNat = 0
  · rw [if_neg (by simpa using c)]
    obtain ⟨t, h1, h2, h3, h4, h5, h6, -⟩ := O.readText_small (isKey_lt hk) c
    refine fun _ => ⟨hk, ?_, ?_, ?_, rfl⟩
    · show 1 ≤ σ.readAt _; rw [h2]; exact h4
    · show σ.readAt _ ≤ _; rw [h2]; exact h5
    · show H (σ.readAt _) = (_, σ.readText _)
      rw [h2, h3, ← h6]
  · rw [if_pos c]; exact fun h => absurd h c
end
end Sto
end Go.Proofs.Ythmmofalepckgaa
