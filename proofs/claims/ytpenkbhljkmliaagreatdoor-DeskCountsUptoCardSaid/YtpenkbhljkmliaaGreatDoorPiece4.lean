/-
  Plain: what a piece is, and which strings are pieces. No program in sight.
-/
import Derived.Test.YtpenkbhljkmliaaGreatDoorPiece3
import Derived.Test.YtpenkbhljkmliaaGreatDoorReed6
set_option linter.unusedVariables false
set_option linter.unusedSimpArgs false
namespace Go.Proofs.YtpenkbhljkmliaaGreatDoor

theorem gdl_ {α : Type} (l m : List α) (d : α) {k : Nat} (h : k < l.length) : (l ++ m).getD k d = l.getD k d := by
  rw [List.getD_eq_getElem?_getD, List.getElem?_append_left h, ← List.getD_eq_getElem?_getD]
theorem gdr_ {α : Type} (l m : List α) (d : α) {k : Nat} (h : l.length ≤ k) : (l ++ m).getD k d = m.getD (k - l.length) d := by
  rw [List.getD_eq_getElem?_getD, List.getElem?_append_right h, ← List.getD_eq_getElem?_getD]
/-- The four bytes of a checksum. -/
def le4 (x : Nat) : List Nat := [x % 256, x / 256 % 256, x / 65536 % 256, x / 16777216 % 256]
def sumS (s : Nat → Nat) (n : Nat) : Nat := 4294967295 ^^^ crcS s n
theorem sumS_lt (s : Nat → Nat) (hs : ∀ k, s k < 256) (n : Nat) : sumS s n < 4294967296 := Nat.xor_lt_two_pow (n := 32) (by omega) (crcS_lt s hs n)
theorem sumS_same {s t : Nat → Nat} {n : Nat} (h : ∀ k, k < n → s k = t k) : sumS s n = sumS t n := by unfold sumS; rw [crcS_same s t n h]
theorem le4_lt (x : Nat) : ∀ y ∈ le4 x, y < 256 := by
  intro y hy
  simp only [le4, List.mem_cons, List.not_mem_nil, or_false] at hy
  omega
theorem le4_inj {x y : Nat} (hx : x < 4294967296) (hy : y < 4294967296) (h : le4 x = le4 y) : x = y := by
  simp only [le4, List.cons.injEq, and_true] at h
  omega
def gd (l : List Nat) (k : Nat) : Nat := l.getD k 0
theorem gd_lt {l : List Nat} (h : ∀ x ∈ l, x < 256) (k : Nat) : gd l k < 256 := by
  unfold gd
  rw [List.getD_eq_getElem?_getD]
  cases e : l[k]? with
  | none => show 0 < 256; omega
  | some x => exact h x (List.mem_of_getElem? e)
/-- A piece: the length, a part, the checksum. -/
def sealL (len : Nat) (part : List Nat) : List Nat := (len :: part) ++ le4 (sumS (gd (len :: part)) (part.length + 1))
theorem sealL_length (len : Nat) (part : List Nat) : (sealL len part).length = part.length + 5 := by simp [sealL, le4]
theorem sealL_lt {len : Nat} {part : List Nat} (h0 : len < 256) (h : ∀ x ∈ part, x < 256) : ∀ x ∈ sealL len part, x < 256 := by
  intro x hx
  unfold sealL at hx
  rcases List.mem_append.1 hx with hx | hx
  · rcases List.mem_cons.1 hx with rfl | hx
    · exact h0
    · exact h x hx
  · exact le4_lt _ x hx
theorem sealL_zero (len : Nat) (part : List Nat) : gd (sealL len part) 0 = len := rfl
theorem sealL_part {len : Nat} {part : List Nat} {k : Nat} (h : k < part.length) : gd (sealL len part) (1 + k) = gd part k := by
  unfold gd sealL
  rw [gdl_ _ _ _ (by simp; omega), Nat.add_comm 1 k]
  rfl
theorem sealL_body {len : Nat} {part : List Nat} {k : Nat} (h : k < part.length + 1) : gd (sealL len part) k = gd (len :: part) k := by
  unfold gd sealL
  rw [gdl_ _ _ _ (by simpa using h)]
theorem sealL_sum {len : Nat} {part : List Nat} {t : Nat} (h : t < 4) : gd (sealL len part) (part.length + 1 + t) = gd (le4 (sumS (gd (len :: part)) (part.length + 1))) t := by
  unfold gd sealL
  rw [gdr_ _ _ _ (by simp)]
  congr 1
  simp

/-- How long a part is. -/
def sz (l k : Nat) : Nat := (l + k - 1) / k
/-- The data of one row of the pieces, and the parts. -/
def dataL (s : ByteArray) (k m i : Nat) : List Nat := (List.range k).map fun j => if j * m + i < s.size then sby s (j * m + i) else 0
def colL (s : ByteArray) (k m n j : Nat) (t : Nat) : List Nat := (List.range t).map fun i => (Wm.putL (dataL s k m i) n).getD j 0
def splitL (s : ByteArray) (k n : Nat) : List ByteArray := (List.range n).map fun j => strN (sealL s.size (colL s k (sz s.size k) n j (sz s.size k)))
theorem dataL_length (s : ByteArray) (k m i : Nat) : (dataL s k m i).length = k := by simp [dataL]
theorem dataL_lt (s : ByteArray) (k m i : Nat) : Wm.B256 (dataL s k m i) := Wm.B256.of fun x hx => by
  obtain ⟨j, -, rfl⟩ := List.mem_map.1 hx
  split
  · exact sby_lt _ _
  · omega
theorem colL_length (s : ByteArray) (k m n j t : Nat) : (colL s k m n j t).length = t := by simp [colL]
theorem colL_lt (s : ByteArray) (k m n j t : Nat) (hk : k ≤ n) (hn : n ≤ 256) : ∀ x ∈ colL s k m n j t, x < 256 := by
  intro x hx
  obtain ⟨i, -, rfl⟩ := List.mem_map.1 hx
  exact Wm.putL_lt (dataL_lt s k m i) (by rw [dataL_length]; omega) hn j
theorem colL_succ (s : ByteArray) (k m n j t : Nat) : colL s k m n j (t + 1) = colL s k m n j t ++ [(Wm.putL (dataL s k m t) n).getD j 0] := by simp [colL, List.range_succ]
theorem splitL_length (s : ByteArray) (k n : Nat) : (splitL s k n).length = n := by simp [splitL]
theorem splitL_get {s : ByteArray} {k n j : Nat} (h : j < n) : (splitL s k n).getD j ByteArray.empty = strN (sealL s.size (colL s k (sz s.size k) n j (sz s.size k))) := by
  unfold splitL
  rw [List.getD_eq_getElem?_getD, List.getElem?_map, List.getElem?_range h]; rfl

/-- Which strings are pieces. -/
def sumOk (s : ByteArray) : Prop := ∀ t, t < 4 → sby s (s.size - 4 + t) = gd (le4 (sumS (sby s) (s.size - 4))) t
instance (s : ByteArray) : Decidable (sumOk s) := by unfold sumOk; exact inferInstance
def chkErr (s : ByteArray) (k : Int) : Int := if k < 1 ∨ 10 < k then 1 else if s.size < 5 then 7 else if ¬ sumOk s then 8 else if 60 < sby s 0 ∨ s.size - 4 ≠ 1 + sz (sby s 0) k.toNat then 3 else 0
def good (s : ByteArray) (k : Nat) : Prop := chkErr s k = 0
theorem good_iff {s : ByteArray} {k : Nat} (h1 : 1 ≤ k) (h2 : k ≤ 10) : chkErr s k = 0 ↔ 5 ≤ s.size ∧ sumOk s ∧ sby s 0 ≤ 60 ∧ s.size = 5 + sz (sby s 0) k := by
  unfold chkErr
  rw [if_neg (by omega)]
  by_cases a : s.size < 5
  · rw [if_pos a]; constructor
    · intro h; omega
    · intro h; omega
  · rw [if_neg a]
    by_cases b : sumOk s
    · rw [if_neg (by simpa using b)]
      by_cases c : 60 < sby s 0 ∨ s.size - 4 ≠ 1 + sz (sby s 0) ((k : Int)).toNat
      · rw [if_pos c]
        simp only [Int.toNat_natCast] at c
        constructor
        · intro h; omega
        · rintro ⟨-, -, h3, h4⟩; omega
      · rw [if_neg c]
        simp only [Int.toNat_natCast] at c
        exact ⟨fun _ => ⟨by omega, b, by omega, by omega⟩, fun _ => rfl⟩
    · rw [if_pos (by simpa using b)]
      constructor
      · intro h; omega
      · intro h; exact absurd h.2.1 b

theorem sby_strN (l : List Nat) (h : ∀ x ∈ l, x < 256) {k : Nat} (hk : k < l.length) : sby (strN l) k = gd l k := strN_byt l h hk
/-- What is sealed is a piece. -/
theorem seal_good {len k : Nat} {part : List Nat} (h1 : 1 ≤ k) (h2 : k ≤ 10) (h0 : len ≤ 60) (h : ∀ x ∈ part, x < 256) (hl : part.length = sz len k) : chkErr (strN (sealL len part)) k = 0 := by
  have hlt := sealL_lt (len := len) (by omega) h
  have hsz : (strN (sealL len part)).size = part.length + 5 := by rw [strN_size, sealL_length]
  have hby : ∀ k, k < part.length + 5 → sby (strN (sealL len part)) k = gd (sealL len part) k := fun k hk => sby_strN _ hlt (by rw [sealL_length]; exact hk)
  refine (good_iff h1 h2).2 ⟨by omega, fun t ht => ?_, ?_, ?_⟩
  · rw [hsz, hby _ (by omega), show part.length + 5 - 4 = part.length + 1 by omega, sealL_sum ht]
    congr 2
    exact sumS_same fun k hk => by rw [hby k (by omega), sealL_body hk]
  · rw [hby 0 (by omega), sealL_zero]; exact h0
  · rw [hby 0 (by omega), sealL_zero, hsz]; omega
end Go.Proofs.YtpenkbhljkmliaaGreatDoor
