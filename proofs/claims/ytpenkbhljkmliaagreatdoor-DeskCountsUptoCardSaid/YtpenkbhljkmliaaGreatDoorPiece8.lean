/-
  Plain: what Join makes of a list of strings.
-/
import Derived.Test.YtpenkbhljkmliaaGreatDoorPiece7
import Derived.Test.YtpenkbhljkmliaaGreatDoorTri
set_option linter.unusedVariables false
set_option linter.unusedSimpArgs false
namespace Go.Proofs.YtpenkbhljkmliaaGreatDoor
open Go.RowKit Go.BigFrame

def usab (L : List ByteArray) (k j : Nat) : Bool := decide (chkErr (L.getD j ByteArray.empty) (k : Int) = 0)
/-- The length that the usable ones tell, after i of them. -/
def lenJ (L : List ByteArray) (k : Nat) : Nat → Int
  | 0 => -1
  | i + 1 => if usab L k i then (sby (L.getD i ByteArray.empty) 0 : Int) else lenJ L k i
/-- Two of them tell different lengths. -/
def mixJ (L : List ByteArray) (k : Nat) : Nat → Bool
  | 0 => false
  | i + 1 => mixJ L k i || (usab L k i && (decide (0 ≤ lenJ L k i) && decide ((sby (L.getD i ByteArray.empty) 0 : Int) ≠ lenJ L k i)))
theorem mixJ_mono {L : List ByteArray} {k : Nat} : ∀ {n x : Nat}, x ≤ n → mixJ L k x = true → mixJ L k n = true
  | 0, x, h, hx => by obtain rfl : x = 0 := by omega
                      exact hx
  | n + 1, x, h, hx => by
    by_cases e : x = n + 1
    · subst e; exact hx
    · simp only [mixJ, mixJ_mono (show x ≤ n by omega) hx, Bool.true_or]
theorem usab_good {L : List ByteArray} {k j : Nat} (h1 : 1 ≤ k) (h2 : k ≤ 10) (h : usab L k j = true) : 5 ≤ (L.getD j ByteArray.empty).size ∧ sumOk (L.getD j ByteArray.empty) ∧ sby (L.getD j ByteArray.empty) 0 ≤ 60 ∧ (L.getD j ByteArray.empty).size = 5 + sz (sby (L.getD j ByteArray.empty) 0) k :=
  (good_iff h1 h2).1 (of_decide_eq_true h)
theorem lenJ_lo (L : List ByteArray) (k : Nat) : ∀ n, -1 ≤ lenJ L k n
  | 0 => by show (-1 : Int) ≤ -1; omega
  | n + 1 => by
    unfold lenJ
    split
    · omega
    · exact lenJ_lo L k n
theorem lenJ_hi {L : List ByteArray} {k : Nat} (h1 : 1 ≤ k) (h2 : k ≤ 10) : ∀ n, lenJ L k n ≤ 60
  | 0 => by show (-1 : Int) ≤ 60; omega
  | n + 1 => by
    unfold lenJ
    split
    · rename_i h
      have := (usab_good h1 h2 h).2.2.1
      omega
    · exact lenJ_hi h1 h2 n
theorem lenJ_of {L : List ByteArray} {k : Nat} : ∀ {n : Nat}, mixJ L k n = false → ∀ t, t < n → usab L k t = true → (sby (L.getD t ByteArray.empty) 0 : Int) = lenJ L k n
  | 0, _, t, h, _ => by omega
  | n + 1, hm, t, ht, hu => by
    simp only [mixJ, Bool.or_eq_false_iff] at hm
    by_cases e : t = n
    · subst e
      unfold lenJ
      rw [if_pos hu]
    · have h0 := lenJ_of hm.1 t (by omega) hu
      unfold lenJ
      by_cases c : usab L k n = true
      · rw [if_pos c]
        have h2 := hm.2
        rw [c, Bool.true_and, Bool.and_eq_false_iff] at h2
        rcases h2 with h2 | h2
        · have := of_decide_eq_false h2; omega
        · have := of_decide_eq_false h2
          rw [h0]
          exact (Classical.byContradiction fun hn => this (fun e => hn e.symm))
      · rw [if_neg c]; exact h0
/-- Alike in all usable ones: it is told. -/
theorem mixJ_no {L : List ByteArray} {k l : Nat} : ∀ {n : Nat}, (∀ t, t < n → usab L k t = true → sby (L.getD t ByteArray.empty) 0 = l) → mixJ L k n = false ∧ (lenJ L k n = -1 ∨ lenJ L k n = (l : Int))
  | 0, _ => ⟨rfl, .inl rfl⟩
  | n + 1, h => by
    obtain ⟨h1, h2⟩ := mixJ_no (n := n) fun t ht => h t (by omega)
    by_cases c : usab L k n = true
    · have hl := h n (by omega) c
      refine ⟨?_, .inr ?_⟩
      · simp only [mixJ, h1, c, hl, Bool.false_or, Bool.true_and]
        rcases h2 with h2 | h2
        · rw [h2]; rfl
        · rw [h2]; simp
      · unfold lenJ; rw [if_pos c, hl]
    · have c' : usab L k n = false := by simpa using c
      refine ⟨by simp only [mixJ, h1, c', Bool.false_and, Bool.or_false], ?_⟩
      unfold lenJ; rw [if_neg c]; exact h2
theorem lenJ_some {L : List ByteArray} {k : Nat} : ∀ {n : Nat}, (∃ t, t < n ∧ usab L k t = true) → 0 ≤ lenJ L k n
  | 0, ⟨t, h, _⟩ => by omega
  | n + 1, ⟨t, h, hu⟩ => by
    unfold lenJ
    by_cases c : usab L k n = true
    · rw [if_pos c]; omega
    · rw [if_neg c]
      exact lenJ_some ⟨t, by
        by_cases e : t = n
        · subst e; exact absurd hu c
        · omega, hu⟩

def bls (l : List Bool) : List Value := l.map Value.bool
theorem bls_length (l : List Bool) : (bls l).length = l.length := List.length_map _
theorem bls_set (l : List Bool) (k : Nat) (x : Bool) : (bls l).set k (.bool x) = bls (l.set k x) := by simp [bls, List.map_set]
/-- Which are usable, the first j of them. -/
def usP (L : List ByteArray) (k n j : Nat) : List Bool := (List.range n).map fun t => if t < j then usab L k t else false
theorem usP_length (L : List ByteArray) (k n j : Nat) : (usP L k n j).length = n := by simp [usP]
theorem usP_zero (L : List ByteArray) (k n : Nat) : usP L k n 0 = List.replicate n false := by
  apply List.ext_getElem (by simp [usP])
  intro t h1 h2
  simp [usP]
theorem usP_set (L : List ByteArray) (k : Nat) {n j : Nat} (h : j < n) : (usP L k n j).set j (usab L k j) = usP L k n (j + 1) := by
  apply List.ext_getElem (by simp [usP])
  intro t h1 h2
  rw [List.getElem_set]
  simp only [usP, List.getElem_map, List.getElem_range]
  by_cases e : j = t
  · subst e; rw [if_pos rfl, if_pos (Nat.lt_succ_self j)]
  · rw [if_neg e]
    by_cases c : t < j
    · rw [if_pos c, if_pos (show t < j + 1 by omega)]
    · rw [if_neg c, if_neg (show ¬ t < j + 1 by omega)]
theorem usP_get (L : List ByteArray) (k : Nat) {n j : Nat} (h : j < n) : (bls (usP L k n n))[j]? = some (.bool (usab L k j)) := by
  simp [bls, usP, h]
theorem Made.bl {w : World} {base e : TypeId} {g n c : Nat} {L : List ByteArray} {k : Nat} (h : Made w base e 1 (.slice (some ⟨g, 0, none⟩) n c) n (bls (usP L k n n))) {j : Nat} (hj : j < n) : w.cell? ⟨g, j, none⟩ = some (.bool (usab L k j)) := by
  rw [h.cell hj, List.getD_eq_getElem?_getD, usP_get L k hj]; rfl

/-- The cells of one row, the first j of them. -/
def cellJ (L : List ByteArray) (k m i t : Nat) : Bool × Nat := (usab L k t, if usab L k t = true ∧ 0 < m then sby (L.getD t ByteArray.empty) (1 + i) else 0)
def celP (L : List ByteArray) (k m i n j : Nat) : List (Bool × Nat) := (List.range n).map fun t => if t < j then cellJ L k m i t else (false, 0)
def celJ (L : List ByteArray) (k m i n : Nat) : List (Bool × Nat) := (List.range n).map (cellJ L k m i)
theorem celP_zero (L : List ByteArray) (k m i n : Nat) : celP L k m i n 0 = List.replicate n (false, 0) := by
  apply List.ext_getElem (by simp [celP])
  intro t h1 h2
  simp [celP]
theorem celP_full (L : List ByteArray) (k m i n : Nat) : celP L k m i n n = celJ L k m i n := by
  apply List.ext_getElem (by simp [celP, celJ])
  intro t h1 h2
  have ht : t < n := by simpa [celP] using h1
  simp [celP, celJ, ht]
theorem celP_length (L : List ByteArray) (k m i n j : Nat) : (celP L k m i n j).length = n := by simp [celP]
theorem celP_set (L : List ByteArray) (k m i : Nat) {n j : Nat} (h : j < n) : (celP L k m i n j).set j (cellJ L k m i j) = celP L k m i n (j + 1) := by
  apply List.ext_getElem (by simp [celP])
  intro t h1 h2
  rw [List.getElem_set]
  simp only [celP, List.getElem_map, List.getElem_range]
  by_cases e : j = t
  · subst e; rw [if_pos rfl, if_pos (Nat.lt_succ_self j)]
  · rw [if_neg e]
    by_cases c : t < j
    · rw [if_pos c, if_pos (show t < j + 1 by omega)]
    · rw [if_neg c, if_neg (show ¬ t < j + 1 by omega)]
theorem celP_same (L : List ByteArray) {k m i n j : Nat} (h : cellJ L k m i j = (false, 0)) : celP L k m i n (j + 1) = celP L k m i n j := by
  apply List.ext_getElem (by simp [celP])
  intro t h1 h2
  simp only [celP, List.getElem_map, List.getElem_range]
  by_cases c : t < j
  · rw [if_pos c, if_pos (show t < j + 1 by omega)]
  · rw [if_neg c]
    by_cases e : t = j
    · subst e; rw [if_pos (Nat.lt_succ_self t), h]
    · rw [if_neg (show ¬ t < j + 1 by omega)]
theorem celJ_length (L : List ByteArray) (k m i n : Nat) : (celJ L k m i n).length = n := by simp [celJ]
theorem celJ_get (L : List ByteArray) (k m i : Nat) {n t : Nat} (h : t < n) : (celJ L k m i n).getD t (false, 0) = cellJ L k m i t := by
  unfold celJ
  rw [List.getD_eq_getElem?_getD, List.getElem?_map, List.getElem?_range h]; rfl
theorem celJ_lt (L : List ByteArray) (k m i n t : Nat) : Wm.cB (celJ L k m i n) t < 256 := by
  unfold Wm.cB
  by_cases h : t < n
  · rw [celJ_get L k m i h]
    unfold cellJ
    show (if _ then _ else _) < 256
    split
    · exact sby_lt _ _
    · omega
  · rw [List.getD_eq_getElem?_getD, List.getElem?_eq_none (by rw [celJ_length]; omega)]
    show 0 < 256; omega
theorem cls_set : ∀ (l : List (Bool × Nat)) (k : Nat) (p : Bool × Nat), k < l.length → cls (l.set k p) = ((cls l).set (k * 2) (.bool p.1)).set (k * 2 + 1) (.int .u8 ((p.2 : Nat) : Int))
  | [], k, p, h => by simp at h
  | q :: l, 0, p, _ => by simp [cls]
  | q :: l, k + 1, p, h => by
    rw [show (k + 1) * 2 = k * 2 + 1 + 1 by omega]
    simp [cls, cls_set l k p (by simpa using h)]
theorem cls_replicate : ∀ n, cls (List.replicate n (false, 0)) = (madeCells #[Value.bool false, .int .u8 0] (n * 2)).toList
  | n => by
    apply List.ext_getElem?
    intro t
    by_cases ht : t < n * 2
    · have h1 := cls_get (List.replicate n (false, 0)) (t / 2) (by simp; omega)
      have hg : (List.replicate n ((false, 0) : Bool × Nat)).getD (t / 2) (false, 0) = (false, 0) := by
        rw [List.getD_eq_getElem?_getD, List.getElem?_replicate, if_pos (by omega)]; rfl
      rw [hg] at h1
      unfold madeCells
      rw [Array.toList_map, Array.toList_range, List.getElem?_map, List.getElem?_range ht]
      rcases Nat.mod_two_eq_zero_or_one t with h | h
      · have e : t / 2 * 2 = t := by omega
        rw [e] at h1
        rw [h1.1]
        simp [h]
      · have e : t / 2 * 2 + 1 = t := by omega
        rw [e] at h1
        rw [h1.2]
        simp [h]
    · rw [List.getElem?_eq_none (by rw [cls_length]; simp; omega), List.getElem?_eq_none (by simp [madeCells]; omega)]

/-- The text on the way: i rows done, and j bytes of the next. -/
def txtJ (L : List ByteArray) (k m n t : Nat) : Nat := (Wm.mendL (celJ L k m (t % m) n) k).getD (t / m) 0
def txtP (L : List ByteArray) (k m n i j : Nat) : List Nat := (List.range (k * m)).map fun t => if t % m < i ∨ (t % m = i ∧ t / m < j) then txtJ L k m n t else 0
theorem txtP_zero (L : List ByteArray) (k m n : Nat) : txtP L k m n 0 0 = List.replicate (k * m) 0 := by
  apply List.ext_getElem (by simp [txtP])
  intro t h1 h2
  simp [txtP]
theorem txtP_next (L : List ByteArray) (k m n i : Nat) : txtP L k m n i k = txtP L k m n (i + 1) 0 := by
  apply List.ext_getElem (by simp [txtP])
  intro t h1 h2
  have ht : t < k * m := by simpa [txtP] using h1
  simp only [txtP, List.getElem_map, List.getElem_range]
  have hd : t / m < k := Nat.div_lt_of_lt_mul (by rw [Nat.mul_comm]; exact ht)
  generalize t / m = u at *
  generalize t % m = v at *
  by_cases c : v < i ∨ (v = i ∧ u < k)
  · rw [if_pos c, if_pos (show v < i + 1 ∨ (v = i + 1 ∧ u < 0) from by omega)]
  · rw [if_neg c, if_neg (show ¬ (v < i + 1 ∨ (v = i + 1 ∧ u < 0)) from by omega)]
theorem txtP_set (L : List ByteArray) {k m n i j : Nat} (hi : i < m) (hj : j < k) : (txtP L k m n i j).set (j * m + i) ((Wm.mendL (celJ L k m i n) k).getD j 0) = txtP L k m n i (j + 1) := by
  apply List.ext_getElem (by simp [txtP])
  intro t h1 h2
  have hmod : (j * m + i) % m = i := by rw [Nat.add_comm, Nat.add_mul_mod_self_right, Nat.mod_eq_of_lt hi]
  have hdiv : (j * m + i) / m = j := by rw [Nat.add_comm, Nat.add_mul_div_right _ _ (by omega), Nat.div_eq_of_lt hi, Nat.zero_add]
  rw [List.getElem_set]
  simp only [txtP, List.getElem_map, List.getElem_range]
  by_cases e : j * m + i = t
  · subst e
    rw [if_pos rfl, if_pos (.inr ⟨hmod, by omega⟩)]
    unfold txtJ
    rw [hmod, hdiv]
  · rw [if_neg e]
    by_cases c : t % m < i ∨ (t % m = i ∧ t / m < j)
    · rw [if_pos c, if_pos (show t % m < i ∨ (t % m = i ∧ t / m < j + 1) from by omega)]
    · rw [if_neg c, if_neg]
      rintro (h | ⟨h, h'⟩)
      · exact c (.inl h)
      · have : t / m = j := by
          by_cases d : t / m < j
          · exact absurd (.inr ⟨h, d⟩) c
          · omega
        apply e
        have := Nat.div_add_mod t m
        rw [Nat.mul_comm, ‹t / m = j›, h] at this
        exact this
theorem txtP_lt (L : List ByteArray) {k m n : Nat} (hkn : k ≤ n) (hn : n ≤ 10) (t : Nat) : txtJ L k m n t < 256 := by
  unfold txtJ Wm.mendL
  exact Wm.rowL_lt (Wm.B256.of fun x hx => by have := (Wm.pt_mem hx).1; rw [celJ_length] at this; omega) (Wm.B256.of fun y hy => by
    obtain ⟨z, -, rfl⟩ := List.mem_map.1 hy
    exact celJ_lt _ _ _ _ _ _) (by rw [celJ_length]; omega) _
/-- The answer of Join. -/
def lenN (L : List ByteArray) (k : Nat) : Nat := (lenJ L k L.length).toNat
def badJ (L : List ByteArray) (k m : Nat) : Nat → Bool
  | 0 => false
  | i + 1 => badJ L k m i || Wm.mendN (celJ L k m i L.length) k L.length
def joinErr (L : List ByteArray) (k : Int) : Int :=
  if ¬ (1 ≤ k ∧ k ≤ L.length ∧ L.length ≤ 10) then 1 else if mixJ L k.toNat L.length = true then 3 else if Wm.cntR (usab L k.toNat) L.length < k.toNat then 9 else if badJ L k.toNat (sz (lenN L k.toNat) k.toNat) (max (sz (lenN L k.toNat) k.toNat) 1) = true then 8 else 0
def joinText (L : List ByteArray) (k : Nat) : List Nat := (List.range (lenN L k)).map (txtJ L k (sz (lenN L k) k) L.length)
theorem celJ_cnt (L : List ByteArray) (k m i n : Nat) : Wm.cntR (Wm.cH (celJ L k m i n)) n = Wm.cntR (usab L k) n := by
  have h : ∀ x, x ≤ n → Wm.cntR (Wm.cH (celJ L k m i n)) x = Wm.cntR (usab L k) x := fun x => by
    induction x with
    | zero => intro _; rfl
    | succ x ih =>
      intro hx
      simp only [Wm.cntR]
      rw [ih (by omega)]
      unfold Wm.cH
      rw [celJ_get L k m i (show x < n by omega)]
      rfl
  exact h n (Nat.le_refl _)
end Go.Proofs.YtpenkbhljkmliaaGreatDoor
