/-
  The walk of the law PieceWrong.
-/
import Derived.Test.YtheklkgilcdhoaaPiece11
set_option linter.unusedVariables false
set_option linter.unusedSimpArgs false
namespace Go.Proofs.Ytheklkgilcdhoaa
open Go.RowKit Go.BigFrame

/-- Bytes of a string, one of them turned. -/
def turnL (z : ByteArray) (a y : Nat) : List Nat := ((List.range z.size).map fun k => sby z k).set a (sby z a ^^^ y)
theorem turnL_lt {z : ByteArray} {a y : Nat} (hy : y < 256) : ∀ x ∈ turnL z a y, x < 256 := by
  intro x hx
  rcases List.mem_or_eq_of_mem_set hx with h | h
  · obtain ⟨k, -, rfl⟩ := List.mem_map.1 h; exact sby_lt _ _
  · rw [h]; exact Wm.xor_lt (sby_lt _ _) hy
theorem turnL_length (z : ByteArray) (a y : Nat) : (turnL z a y).length = z.size := by simp [turnL]
theorem turnL_get {z : ByteArray} {a y k : Nat} (hk : k < z.size) : (turnL z a y).getD k 0 = if a = k then sby z a ^^^ y else sby z k := by
  unfold turnL
  rw [List.getD_eq_getElem?_getD, List.getElem?_set]
  by_cases c : a = k
  · subst c; rw [if_pos rfl, if_pos rfl, if_pos (by simpa using hk)]; rfl
  · rw [if_neg c, if_neg c, List.getElem?_map, List.getElem?_range hk]; rfl
/-- What the law PieceWrong says, plain. -/
theorem wrong_plain {s : ByteArray} {k n i a y : Nat} (hs : s.size ≤ 60) (h1 : 1 ≤ k) (hkn : k ≤ n) (hn : n ≤ 10) (hi : i < n) (ha : a < ((splitL s k n).getD i ByteArray.empty).size) (hy : y < 256) (hy0 : y ≠ 0) :
    let t := strN (turnL ((splitL s k n).getD i ByteArray.empty) a y)
    t.size = ((splitL s k n).getD i ByteArray.empty).size ∧ chkErr t (k : Int) = 8 ∧ joinErr ((splitL s k n).set i t) (k : Int) = (if n = k then 9 else 0) ∧ (n ≠ k → strN (joinText ((splitL s k n).set i t) k) = s) := by
  intro t
  obtain ⟨z, hz⟩ : ∃ z, z = (splitL s k n).getD i ByteArray.empty := ⟨_, rfl⟩
  have hpp := piece_parts hs h1 hkn hn hi
  rw [← hz] at ha hpp ⊢
  have ht : t = strN (turnL z a y) := by rw [hz]
  have hts : t.size = z.size := by rw [ht, strN_size, turnL_length]
  have htb : ∀ j, j < z.size → sby t j = if a = j then sby z a ^^^ y else sby z j := fun j hj => by
    rw [ht, sby_strN _ (turnL_lt hy) (by rw [turnL_length]; exact hj)]
    exact turnL_get hj
  have hc : chkErr t (k : Int) = 8 := turned_bad h1 (by omega) hpp.2.1 hts ha (fun e => by
    rw [htb a ha, if_pos rfl] at e
    apply hy0
    have := congrArg (sby z a ^^^ ·) e
    simpa [← Nat.xor_assoc] using this) (fun j hj hja => by rw [htb j hj, if_neg (fun e => hja e.symm)])
  have hL := splitL_length s k n
  have hget : ∀ j, j < n → ((splitL s k n).set i t).getD j ByteArray.empty = if i = j then t else (splitL s k n).getD j ByteArray.empty := fun j hj => by
    rw [List.getD_eq_getElem?_getD, List.getElem?_set]
    by_cases c : i = j
    · subst c; rw [if_pos rfl, if_pos rfl, if_pos (by omega)]; rfl
    · rw [if_neg c, if_neg c, ← List.getD_eq_getElem?_getD]
  have hu : ∀ j, j < n → usab ((splitL s k n).set i t) k j = decide (j ≠ i) := fun j hj => by
    unfold usab
    rw [hget j hj]
    by_cases c : i = j
    · subst c; rw [if_pos rfl, hc]; simp
    · rw [if_neg c, (piece_parts hs h1 hkn hn hj).2.1]
      simp [Ne.symm c]
  have hcnt : Wm.cntR (usab ((splitL s k n).set i t) k) n = n - 1 := by
    rw [cntR_congr n hu]
    have h1 := Wm.cntR_not (fun j => decide (j ≠ i)) n
    have h2 : ∀ m, Wm.cntR (fun j => !decide (j ≠ i)) m = if i < m then 1 else 0 := fun m => by
      induction m with
      | zero => rfl
      | succ m ih =>
        simp only [Wm.cntR]
        rw [ih]
        by_cases e : m = i
        · subst e; simp
        · simp [e]; split <;> split <;> omega
    rw [h2, if_pos hi] at h1
    omega
  have h := join_true (L := (splitL s k n).set i t) hs h1 hkn hn (by rw [List.length_set, hL]) (fun j hj hj2 => by
    rw [hu j hj] at hj2
    rw [hget j hj, if_neg (fun e => of_decide_eq_true hj2 e.symm)])
  rw [hcnt] at h
  refine ⟨hts, hc, ?_, fun hne => h.2 (by omega)⟩
  rw [h.1]
  by_cases e : n = k
  · rw [if_pos e, if_pos (by omega)]
  · rw [if_neg e, if_neg (by omega)]

theorem Made.other {w : World} {base e : TypeId} {sz g n c : Nat} {xs : List Value} (h : Made w base e sz (.slice (some ⟨g, 0, none⟩) n c) n xs) {p : Addr} (hp : p.block ≠ g) (u : Value) : Made (w.setCell p u) base e sz (.slice (some ⟨g, 0, none⟩) n c) n xs := by
  obtain ⟨h1, h2⟩ := h
  refine ⟨h1, ?_⟩
  rcases h2 with ⟨h2, -⟩ | ⟨g', c', cur, h3, h4, h5, r⟩
  · cases h2
  · injection h3 with h3 _ h3'
    simp only [Option.some.injEq, Addr.mk.injEq, and_true] at h3
    subst h3; subst h3'
    refine .inr ⟨g, c, cur, rfl, h4, ?_, r⟩
    rw [← h5]
    simp only [World.setCell]
    rw [Array.getElem?_modify, if_neg hp]

end Go.Proofs.Ytheklkgilcdhoaa
