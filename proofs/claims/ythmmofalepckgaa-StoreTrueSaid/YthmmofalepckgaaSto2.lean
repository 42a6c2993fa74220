/-
  Plain: each deed leaves a true store true, and the history of writes grows by what was written.
-/
import Derived.Test.YthmmofalepckgaaSto1
set_option linter.unusedVariables false
set_option linter.unusedSimpArgs false
namespace Go.Proofs.Ythmmofalepckgaa
namespace Sto
variable {σ : Sto} {H : Nat → Nat × ByteArray}
/-- The history with one write more. -/
def ext (H : Nat → Nat × ByteArray) (t key : Nat) (s : ByteArray) : Nat → Nat × ByteArray := fun u => if u = t then (key, s) else H u
theorem ext_same (H : Nat → Nat × ByteArray) (t key : Nat) (s : ByteArray) : ext H t key s t = (key, s) := if_pos rfl
theorem ext_ne (H : Nat → Nat × ByteArray) {t u : Nat} (key : Nat) (s : ByteArray) (h : u ≠ t) : ext H t key s u = H u := if_neg h
theorem Ok.grow {σ : Sto} {H : Nat → Nat × ByteArray} (O : Ok σ H) {key : Nat} {s : ByteArray} (hs : σ.splitE s = 0) {f : Nat → Nat → List (Nat × ByteArray)} (l : List Nat)
    (h1 : ∀ i k, k = key → i ∈ l → f i k = [(σ.wr + 1, σ.pce s i)] ∨ f i k = σ.kept i k ++ [(σ.wr + 1, σ.pce s i)]) (h2 : ∀ i k, ¬ (k = key ∧ i ∈ l) → f i k = σ.kept i k) :
    Ok { σ with wr := σ.wr + 1, kept := f } (ext H (σ.wr + 1) key s) := by
  have hsz : s.size ≤ 60 := by
    unfold splitE at hs
    by_cases c : 60 < s.size
    · rw [if_pos c] at hs; exact absurd hs (by decide)
    · omega
  have hwr : σ.wr ≠ 1000000 := by
    intro c
    unfold splitE at hs
    rw [if_neg (by omega)] at hs
    by_cases d : σ.ups.length < σ.W
    · rw [if_pos d] at hs; exact absurd hs (by decide)
    · rw [if_neg d, if_pos c] at hs; exact absurd hs (by decide)
  have old : ∀ i k e, i < σ.N → k < 3 → e ∈ σ.kept i k → 1 ≤ e.1 ∧ e.1 ≤ σ.wr + 1 ∧ (ext H (σ.wr + 1) key s e.1).1 = k ∧ σ.Pce (ext H (σ.wr + 1) key s e.1).2 i e.2 := fun i k e hi hk he => by
    obtain ⟨q1, q2, q3, q4⟩ := O.true_ i k e hi hk he
    rw [ext_ne _ _ _ (by omega)]
    exact ⟨q1, by omega, q3, q4⟩
  have new : ∀ i, 1 ≤ σ.wr + 1 ∧ σ.wr + 1 ≤ σ.wr + 1 ∧ (ext H (σ.wr + 1) key s (σ.wr + 1)).1 = key ∧ σ.Pce (ext H (σ.wr + 1) key s (σ.wr + 1)).2 i (σ.pce s i) := fun i => by
    rw [ext_same]
    exact ⟨by omega, by omega, rfl, .inl rfl⟩
  exact {
    k1 := O.k1
    kn := O.kn
    n10 := O.n10
    w1 := O.w1
    wn := O.wn
    r1 := O.r1
    rn := O.rn
    meet := O.meet
    few := by have := O.few; show σ.wr + 1 ≤ 1000000; omega
    small := fun t h3 h4 => by
      have h4 : t ≤ σ.wr + 1 := h4
      by_cases c : t = σ.wr + 1
      · subst c; rw [ext_same]; exact hsz
      · rw [ext_ne _ _ _ c]; exact O.small t h3 (by omega)
    true_ := fun i k e hi hk he => by
      have he : e ∈ f i k := he
      by_cases c : k = key ∧ i ∈ l
      · obtain ⟨rfl, c2⟩ := c
        rcases h1 i k rfl c2 with h | h
        · rw [h] at he
          rw [List.mem_singleton.1 he]
          exact new i
        · rw [h] at he
          rcases List.mem_append.1 he with he | he
          · exact old i k e hi hk he
          · rw [List.mem_singleton.1 he]
            exact new i
      · rw [h2 i k c] at he
        exact old i k e hi hk he
    once := fun i k hi hk => by
      show ((f i k).map (·.1)).Nodup
      by_cases c : k = key ∧ i ∈ l
      · rcases h1 i k c.1 c.2 with h | h
        · rw [h]; simp
        · rw [h, List.map_append, List.map_singleton, List.nodup_append]
          refine ⟨O.once i k hi hk, by simp, fun a ha b hb => ?_⟩
          obtain ⟨e, he, rfl⟩ := List.mem_map.1 ha
          have := (O.true_ i k e hi hk he).2.1
          rw [List.mem_singleton.1 hb]
          omega
      · rw [h2 i k c]; exact O.once i k hi hk }
theorem Ok.put (O : Ok σ H) {key : Nat} {s : ByteArray} (hs : σ.splitE s = 0) : Ok { σ with wr := σ.wr + 1, kept := σ.putK key s σ.ups } (ext H (σ.wr + 1) key s) :=
  O.grow hs σ.ups (fun i k h1 h2 => .inl (if_pos ⟨h1, h2⟩)) (fun i k h => if_neg h)
theorem Ok.torn (O : Ok σ H) {key : Nat} {s : ByteArray} (hs : σ.splitE s = 0) (l : List Nat) : Ok { σ with wr := σ.wr + 1, kept := σ.tornK key s l } (ext H (σ.wr + 1) key s) :=
  O.grow hs l (fun i k h1 h2 => .inr (if_pos ⟨h1, h2⟩)) (fun i k h => if_neg h)
theorem Ok.keep {σ : Sto} {H : Nat → Nat × ByteArray} (O : Ok σ H) {f : Nat → Nat → List (Nat × ByteArray)} {d : Nat → Bool} (h : ∀ i k e, i < σ.N → k < 3 → e ∈ f i k → 1 ≤ e.1 ∧ e.1 ≤ σ.wr ∧ (H e.1).1 = k ∧ σ.Pce (H e.1).2 i e.2)
    (h2 : ∀ i k, i < σ.N → k < 3 → ((f i k).map (·.1)).Nodup) : Ok { σ with kept := f, down := d } H :=
  { k1 := O.k1, kn := O.kn, n10 := O.n10, w1 := O.w1, wn := O.wn, r1 := O.r1, rn := O.rn, meet := O.meet, few := O.few, small := O.small, true_ := h, once := h2 }
theorem nextK_mem {l : List (Nat × ByteArray)} {r e : Nat × ByteArray} : e ∈ nextK l r ↔ e = r ∨ (e ∈ l ∧ r.1 < e.1) := by simp [nextK]
theorem nextK_once {l : List (Nat × ByteArray)} (r : Nat × ByteArray) (h : (l.map (·.1)).Nodup) : ((nextK l r).map (·.1)).Nodup := by
  unfold nextK
  rw [List.map_cons, List.nodup_cons]
  refine ⟨fun hm => ?_, List.Nodup.sublist (List.Sublist.map _ List.filter_sublist) h⟩
  obtain ⟨e, he, hr⟩ := List.mem_map.1 hm
  have := of_decide_eq_true (List.mem_filter.1 he).2
  omega
theorem Ok.read (O : Ok σ H) {key : Nat} (hk : key < 3) (h : σ.readE key = 0) : Ok (σ.readT key) H := by
  obtain ⟨t, h1, h2, h3, h4, h5, h6, h7, -⟩ := O.readText_small hk h
  unfold readT
  rw [h2, h3]
  refine O.keep (d := σ.down) (fun i k e hi hk' he => ?_) (fun i k hi hk' => ?_)
  · unfold readK at he
    by_cases c : k = key ∧ i ∈ σ.ups
    · rw [if_pos c, nextK_mem] at he
      rcases he with rfl | ⟨he, -⟩
      · exact ⟨h4, h5, h6.trans c.1.symm, .inl rfl⟩
      · exact O.true_ i k e hi hk' he
    · rw [if_neg c] at he
      exact O.true_ i k e hi hk' he
  · unfold readK
    by_cases c : k = key ∧ i ∈ σ.ups
    · rw [if_pos c]; exact nextK_once _ (O.once i k hi hk')
    · rw [if_neg c]; exact O.once i k hi hk'
theorem rotL_stamps (l : List (Nat × ByteArray)) : (rotL l).map (·.1) = l.map (·.1) := by
  unfold rotL
  rw [List.map_set]
  by_cases h : l = []
  · subst h; rfl
  · have hl : l.length - 1 < l.length := by have := List.length_pos_iff.2 h; omega
    apply List.ext_getElem (by simp)
    intro i h1 h2
    rw [List.getElem_set]
    split
    · rename_i e
      subst e
      simp [List.getD_eq_getElem?_getD, List.getElem?_eq_getElem hl]
    · rfl
theorem rotL_mem {l : List (Nat × ByteArray)} {e : Nat × ByteArray} (h : e ∈ rotL l) : e ∈ l ∨ ∃ x ∈ l, e = (x.1, rotP x.2) := by
  unfold rotL at h
  rcases List.mem_or_eq_of_mem_set h with h | h
  · exact .inl h
  · by_cases hl : l = []
    · subst hl; simp [rotL] at h; simp_all
    · refine .inr ⟨l.getD (l.length - 1) (0, ByteArray.empty), ?_, h⟩
      have hl : l.length - 1 < l.length := by have := List.length_pos_iff.2 hl; omega
      rw [List.getD_eq_getElem?_getD, List.getElem?_eq_getElem hl]
      exact List.getElem_mem hl
theorem Ok.rot (O : Ok σ H) (n key : Nat) : Ok { σ with kept := σ.rotK n key } H := by
  refine O.keep (d := σ.down) (fun i k e hi hk he => ?_) (fun i k hi hk => ?_)
  · unfold rotK at he
    by_cases c : i = n ∧ k = key
    · rw [if_pos c] at he
      rcases rotL_mem he with he | ⟨x, hx, rfl⟩
      · exact O.true_ i k e hi hk he
      · obtain ⟨q1, q2, q3, q4⟩ := O.true_ i k x hi hk hx
        refine ⟨q1, q2, q3, ?_⟩
        rcases q4 with q4 | q4
        · exact .inr (by rw [q4])
        · exact .inl (by rw [q4, rot_rot])
    · rw [if_neg c] at he
      exact O.true_ i k e hi hk he
  · unfold rotK
    by_cases c : i = n ∧ k = key
    · rw [if_pos c, rotL_stamps]; exact O.once i k hi hk
    · rw [if_neg c]; exact O.once i k hi hk
theorem Ok.at_ (O : Ok σ H) (kind key n : Int) : Ok (σ.atS kind key n).2 H := by
  unfold atS
  split
  · exact O
  · split
    · exact O.keep O.true_ O.once
    · split
      · exact O.keep O.true_ O.once
      · split
        · refine O.keep (d := σ.down) (fun i k e hi hk he => ?_) (fun i k hi hk => ?_)
          · by_cases c : i = n.toNat
            · rw [if_pos c] at he; simp at he
            · rw [if_neg c] at he; exact O.true_ i k e hi hk he
          · by_cases c : i = n.toNat
            · rw [if_pos c]; simp
            · rw [if_neg c]; exact O.once i k hi hk
        · split
          · exact O
          · exact O.rot _ _
/-- The history behind a deed. -/
def hist (σ : Sto) (H : Nat → Nat × ByteArray) (kind key n : Int) (s : ByteArray) : Nat → Nat × ByteArray :=
  if (σ.doS kind key n s).2.wr = σ.wr then H else ext H (σ.wr + 1) key.toNat s
theorem doS_cases (σ : Sto) (kind key n : Int) (s : ByteArray) {P : Ans × Sto → Prop} (h0 : (kind < 1 ∨ 8 < kind ∨ (keyed kind ∧ ¬ isKey key)) → P (Ans.no 1, σ)) (h1 : isKey key → kind = 1 → P (σ.putS key.toNat s)) (h2 : isKey key → kind = 2 → P (σ.tornS key.toNat n s))
    (h3 : isKey key → kind = 3 → P (σ.getS key.toNat)) (h8 : isKey key → kind = 8 → P (σ.scrubS key.toNat)) (h4 : (kind = 4 ∨ kind = 5 ∨ kind = 6 ∨ (kind = 7 ∧ isKey key)) → P (σ.atS kind key n)) : P (σ.doS kind key n s) := by
  unfold doS
  by_cases c : kind < 1 ∨ 8 < kind ∨ (keyed kind ∧ ¬ isKey key)
  · rw [if_pos c]; exact h0 c
  · rw [if_neg c]
    have hk : keyed kind → isKey key := fun h => Classical.byContradiction fun hn => c (.inr (.inr ⟨h, hn⟩))
    by_cases c1 : kind = 1
    · rw [if_pos c1]; exact h1 (hk (by unfold keyed; omega)) c1
    · rw [if_neg c1]
      by_cases c2 : kind = 2
      · rw [if_pos c2]; exact h2 (hk (by unfold keyed; omega)) c2
      · rw [if_neg c2]
        by_cases c3 : kind = 3
        · rw [if_pos c3]; exact h3 (hk (by unfold keyed; omega)) c3
        · rw [if_neg c3]
          by_cases c8 : kind = 8
          · rw [if_pos c8]; exact h8 (hk (by unfold keyed; omega)) c8
          · rw [if_neg c8]
            refine h4 ?_
            by_cases c7 : kind = 7
            · exact .inr (.inr (.inr ⟨c7, hk (by unfold keyed; omega)⟩))
            · omega
/-- What is refused changes nothing. -/
theorem doS_same (σ : Sto) (kind key n : Int) (s : ByteArray) (h : (σ.doS kind key n s).1.err ≠ 0) : (σ.doS kind key n s).2 = σ := by
  refine doS_cases σ kind key n s (P := fun r => r.1.err ≠ 0 → r.2 = σ) (fun _ _ => rfl) ?_ ?_ ?_ ?_ ?_ h
  · intro _ _
    unfold putS
    split
    · exact fun _ => rfl
    · exact fun h => absurd rfl h
  · intro _ _
    unfold tornS
    split
    · exact fun _ => rfl
    · exact fun h => absurd rfl h
  · intro _ _
    unfold getS
    split
    · exact fun _ => rfl
    · exact fun h => absurd rfl h
  · intro _ _
    unfold scrubS
    split
    · exact fun _ => rfl
    · exact fun h => absurd rfl h
  · intro _
    unfold atS
    split
    · exact fun _ => rfl
    · split
      · exact fun h => absurd rfl h
      · split
        · exact fun h => absurd rfl h
        · split
          · exact fun h => absurd rfl h
          · split
            · exact fun _ => rfl
            · exact fun h => absurd rfl h
theorem isKey_lt {key : Int} (h : isKey key) : key.toNat < 3 := by unfold isKey at h; omega
theorem Ok.do_ (O : Ok σ H) (kind key n : Int) (s : ByteArray) : Ok (σ.doS kind key n s).2 (hist σ H kind key n s) := by
  unfold hist
  refine doS_cases σ kind key n s (P := fun r => Ok r.2 (if r.2.wr = σ.wr then H else ext H (σ.wr + 1) key.toNat s)) (fun _ => ?_) ?_ ?_ ?_ ?_ ?_
  · rw [if_pos rfl]; exact O
  · intro hk _
    unfold putS
    by_cases c : σ.splitE s = 0
    · rw [if_neg (by simpa using c)]
      rw [if_neg (by show ¬ σ.wr + 1 = σ.wr; omega)]
      exact O.put c
    · rw [if_pos c, if_pos rfl]; exact O
  · intro hk _
    unfold tornS
    by_cases c : σ.tornE key.toNat n s = 0
    · rw [if_neg (by simpa using c)]
      rw [if_neg (by show ¬ σ.wr + 1 = σ.wr; omega)]
      refine O.torn ?_ _
      unfold tornE at c
      by_cases d : σ.splitE s = 0
      · exact d
      · rw [if_pos d] at c; exact c
    · rw [if_pos c, if_pos rfl]; exact O
  · intro hk _
    unfold getS
    by_cases c : σ.readE key.toNat = 0
    · rw [if_neg (by simpa using c), if_pos (show (σ.readT key.toNat).wr = σ.wr from rfl)]
      exact O.read (isKey_lt hk) c
    · rw [if_pos c, if_pos rfl]; exact O
  · intro hk _
    unfold scrubS
    by_cases c : σ.readE key.toNat = 0
    · rw [if_neg (by simpa using c), if_pos (show (σ.readT key.toNat).wr = σ.wr from rfl)]
      exact O.read (isKey_lt hk) c
    · rw [if_pos c, if_pos rfl]; exact O
  · intro _
    have hw : (σ.atS kind key n).2.wr = σ.wr := by
      unfold atS
      split
      · rfl
      · split
        · rfl
        · split
          · rfl
          · split
            · rfl
            · split
              · rfl
              · rfl
    rw [if_pos hw]
    exact O.at_ kind key n
theorem Ok.start {N K W R : Nat} (h1 : 1 ≤ K ∧ K ≤ N) (h2 : N ≤ 10) (h3 : 1 ≤ W ∧ W ≤ N) (h4 : 1 ≤ R ∧ R ≤ N) (h5 : N + K ≤ W + R) (H : Nat → Nat × ByteArray) : Ok (new N K W R) H :=
  { k1 := h1.1, kn := h1.2, n10 := h2, w1 := h3.1, wn := h3.2, r1 := h4.1, rn := h4.2, meet := h5, few := Nat.zero_le _, small := fun t a b => absurd (show t ≤ 0 from b) (by omega), true_ := fun _ _ _ _ _ h => by simp [new] at h, once := fun _ _ _ _ => by simp [new] }
end Sto
end Go.Proofs.Ythmmofalepckgaa
