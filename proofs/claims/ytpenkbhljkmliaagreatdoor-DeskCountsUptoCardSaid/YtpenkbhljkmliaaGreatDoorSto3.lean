import Derived.Test.YtpenkbhljkmliaaGreatDoorPiece10
/-
  Plain: the store as a state and what each deed makes of it. No program in sight.
-/
set_option linter.unusedVariables false
set_option linter.unusedSimpArgs false
namespace Go.Proofs.YtpenkbhljkmliaaGreatDoor

/-- A store: its quorum, which nodes are down, what each keeps by each key (stamps and pieces), how many writes there were. -/
structure Sto where
  N : Nat
  K : Nat
  W : Nat
  R : Nat
  down : Nat → Bool
  kept : Nat → Nat → List (Nat × ByteArray)
  wr : Nat
/-- What is told of a deed. -/
structure Ans where
  text : ByteArray
  at_ : Nat
  many : Nat
  err : Int
def Ans.no (e : Int) : Ans := ⟨ByteArray.empty, 0, 0, e⟩

namespace Sto
def ups (σ : Sto) : List Nat := (List.range σ.N).filter fun i => !σ.down i
theorem ups_lt {σ : Sto} {i : Nat} (h : i ∈ σ.ups) : i < σ.N := List.mem_range.1 (List.mem_filter.1 h).1
theorem ups_up {σ : Sto} {i : Nat} (h : i ∈ σ.ups) : σ.down i = false := by simpa using (List.mem_filter.1 h).2
theorem mem_ups {σ : Sto} {i : Nat} : i ∈ σ.ups ↔ i < σ.N ∧ σ.down i = false := by simp [ups]
theorem ups_nodup (σ : Sto) : σ.ups.Nodup := List.Nodup.sublist List.filter_sublist List.nodup_range
theorem ups_le (σ : Sto) : σ.ups.length ≤ σ.N := by
  have := List.length_filter_le (fun i => !σ.down i) (List.range σ.N)
  simpa [ups] using this
def splitE (σ : Sto) (s : ByteArray) : Int := if 60 < s.size then 2 else if σ.ups.length < σ.W then 9 else if σ.wr = 1000000 then 11 else 0
def pce (σ : Sto) (s : ByteArray) (i : Nat) : ByteArray := (splitL s σ.K σ.N).getD i ByteArray.empty
/-- What the nodes keep, after a put at those listed. -/
def putK (σ : Sto) (key : Nat) (s : ByteArray) (l : List Nat) : Nat → Nat → List (Nat × ByteArray) := fun i k => if k = key ∧ i ∈ l then [(σ.wr + 1, σ.pce s i)] else σ.kept i k
def putS (σ : Sto) (key : Nat) (s : ByteArray) : Ans × Sto :=
  if σ.splitE s ≠ 0 then (Ans.no (σ.splitE s), σ) else (⟨ByteArray.empty, σ.wr + 1, 0, 0⟩, { σ with wr := σ.wr + 1, kept := σ.putK key s σ.ups })
def tornK (σ : Sto) (key : Nat) (s : ByteArray) (l : List Nat) : Nat → Nat → List (Nat × ByteArray) := fun i k => if k = key ∧ i ∈ l then σ.kept i k ++ [(σ.wr + 1, σ.pce s i)] else σ.kept i k
def tornE (σ : Sto) (key : Nat) (n : Int) (s : ByteArray) : Int :=
  if σ.splitE s ≠ 0 then σ.splitE s else if n < 0 ∨ (σ.ups.length : Int) < n then 1 else if (σ.ups.take n.toNat).any (fun i => decide (8 ≤ (σ.kept i key).length)) then 11 else 0
def tornS (σ : Sto) (key : Nat) (n : Int) (s : ByteArray) : Ans × Sto :=
  if σ.tornE key n s ≠ 0 then (Ans.no (σ.tornE key n s), σ) else (⟨ByteArray.empty, σ.wr + 1, 0, 0⟩, { σ with wr := σ.wr + 1, kept := σ.tornK key s (σ.ups.take n.toNat) })
def findP (l : List (Nat × ByteArray)) (at_ : Nat) : ByteArray := ((l.find? fun e => e.1 == at_).map (·.2)).getD ByteArray.empty
def stampsOf (σ : Sto) (key : Nat) (l : List Nat) : List Nat := l.flatMap fun i => (σ.kept i key).map (·.1)
def stamps (σ : Sto) (key : Nat) : List Nat := σ.stampsOf key σ.ups
def colS (σ : Sto) (key at_ : Nat) : List ByteArray := (List.range σ.N).map fun i => if σ.down i then ByteArray.empty else findP (σ.kept i key) at_
def newStep (σ : Sto) (key : Nat) (b : Option (Nat × ByteArray)) (at_ : Nat) : Option (Nat × ByteArray) :=
  if (match b with | some (t, _) => decide (at_ ≤ t) | none => false) then b else if joinErr (σ.colS key at_) (σ.K : Int) = 0 then some (at_, strN (joinText (σ.colS key at_) σ.K)) else b
def newestOf (σ : Sto) (key : Nat) (l : List Nat) : Option (Nat × ByteArray) := l.foldl (σ.newStep key) none
def newest (σ : Sto) (key : Nat) : Option (Nat × ByteArray) := σ.newestOf key (σ.stamps key)
def nextK (l : List (Nat × ByteArray)) (right : Nat × ByteArray) : List (Nat × ByteArray) := right :: l.filter fun e => decide (right.1 < e.1)
def readK (σ : Sto) (key at_ : Nat) (s : ByteArray) (l : List Nat) : Nat → Nat → List (Nat × ByteArray) := fun i k => if k = key ∧ i ∈ l then nextK (σ.kept i k) (at_, σ.pce s i) else σ.kept i k
/-- Which nodes are mended. -/
def wrong (σ : Sto) (key at_ : Nat) (s : ByteArray) (i : Nat) : Bool := !(σ.kept i key).any fun e => decide (e = (at_, σ.pce s i))
def readE (σ : Sto) (key : Nat) : Int := if σ.ups.length < σ.R ∨ σ.ups.length < σ.W then 9 else if (σ.newest key).isNone then 4 else 0
def readAt (σ : Sto) (key : Nat) : Nat := ((σ.newest key).map (·.1)).getD 0
def readText (σ : Sto) (key : Nat) : ByteArray := ((σ.newest key).map (·.2)).getD ByteArray.empty
def readMany (σ : Sto) (key : Nat) : Nat := (σ.ups.filter (σ.wrong key (σ.readAt key) (σ.readText key))).length
def readT (σ : Sto) (key : Nat) : Sto := { σ with kept := σ.readK key (σ.readAt key) (σ.readText key) σ.ups }
def getS (σ : Sto) (key : Nat) : Ans × Sto := if σ.readE key ≠ 0 then (Ans.no (σ.readE key), σ) else (⟨σ.readText key, σ.readAt key, 0, 0⟩, σ.readT key)
def scrubS (σ : Sto) (key : Nat) : Ans × Sto := if σ.readE key ≠ 0 then (Ans.no (σ.readE key), σ) else (⟨ByteArray.empty, 0, σ.readMany key, 0⟩, σ.readT key)
/-- A piece whose first byte is turned. -/
def rotP (s : ByteArray) : ByteArray := strN (((List.range s.size).map (sby s)).set 0 (sby s 0 ^^^ 1))
def rotL (l : List (Nat × ByteArray)) : List (Nat × ByteArray) := l.set (l.length - 1) ((l.getD (l.length - 1) (0, ByteArray.empty)).1, rotP (l.getD (l.length - 1) (0, ByteArray.empty)).2)
def rotK (σ : Sto) (n key : Nat) : Nat → Nat → List (Nat × ByteArray) := fun i k => if i = n ∧ k = key then rotL (σ.kept i k) else σ.kept i k
def isKey (key : Int) : Prop := 0 ≤ key ∧ key < 3
instance (key : Int) : Decidable (isKey key) := by unfold isKey; exact inferInstance
def isNode (σ : Sto) (n : Int) : Prop := 0 ≤ n ∧ n < σ.N
instance (σ : Sto) (n : Int) : Decidable (σ.isNode n) := by unfold isNode; exact inferInstance
def atS (σ : Sto) (kind key n : Int) : Ans × Sto :=
  if ¬ σ.isNode n then (Ans.no 1, σ)
  else if kind = 4 then (Ans.no 0, { σ with down := fun i => if i = n.toNat then true else σ.down i })
  else if kind = 5 then (Ans.no 0, { σ with down := fun i => if i = n.toNat then false else σ.down i })
  else if kind = 6 then (Ans.no 0, { σ with kept := fun i k => if i = n.toNat then [] else σ.kept i k })
  else if (σ.kept n.toNat key.toNat) = [] then (Ans.no 4, σ) else (Ans.no 0, { σ with kept := σ.rotK n.toNat key.toNat })
def keyed (kind : Int) : Prop := kind ≤ 3 ∨ kind = 8 ∨ kind = 7
instance (kind : Int) : Decidable (keyed kind) := by unfold keyed; exact inferInstance
def doS (σ : Sto) (kind key n : Int) (s : ByteArray) : Ans × Sto :=
  if kind < 1 ∨ 8 < kind ∨ (keyed kind ∧ ¬ isKey key) then (Ans.no 1, σ)
  else if kind = 1 then σ.putS key.toNat s
  else if kind = 2 then σ.tornS key.toNat n s
  else if kind = 3 then σ.getS key.toNat
  else if kind = 8 then σ.scrubS key.toNat
  else σ.atS kind key n
def new (N K W R : Nat) : Sto := ⟨N, K, W, R, fun _ => false, fun _ _ => [], 0⟩

/-! ### What always holds -/
/-- A piece as it was made, or with its first byte turned. -/
def Pce (σ : Sto) (s : ByteArray) (i : Nat) (p : ByteArray) : Prop := p = σ.pce s i ∨ p = rotP (σ.pce s i)
structure Ok (σ : Sto) (H : Nat → Nat × ByteArray) : Prop where
  k1 : 1 ≤ σ.K
  kn : σ.K ≤ σ.N
  n10 : σ.N ≤ 10
  w1 : 1 ≤ σ.W
  wn : σ.W ≤ σ.N
  r1 : 1 ≤ σ.R
  rn : σ.R ≤ σ.N
  meet : σ.N + σ.K ≤ σ.W + σ.R
  few : σ.wr ≤ 1000000
  small : ∀ t, 1 ≤ t → t ≤ σ.wr → (H t).2.size ≤ 60
  true_ : ∀ i k e, i < σ.N → k < 3 → e ∈ σ.kept i k → 1 ≤ e.1 ∧ e.1 ≤ σ.wr ∧ (H e.1).1 = k ∧ σ.Pce (H e.1).2 i e.2
  once : ∀ i k, i < σ.N → k < 3 → ((σ.kept i k).map (·.1)).Nodup
end Sto
end Go.Proofs.YtpenkbhljkmliaaGreatDoor

/-
  Plain: what is told of the newest; that each deed leaves the store true.
-/
set_option linter.unusedVariables false
set_option linter.unusedSimpArgs false
namespace Go.Proofs.YtpenkbhljkmliaaGreatDoor
namespace Sto

theorem len_le_sub_ : ∀ {l m : List Nat}, l.Nodup → (∀ x ∈ l, x ∈ m) → l.length ≤ m.length
  | [], _, _, _ => Nat.zero_le _
  | a :: l, m, hn, h => by
    rw [List.nodup_cons] at hn
    have ha : a ∈ m := h a List.mem_cons_self
    have := len_le_sub_ (l := l) (m := m.erase a) hn.2 fun x hx => (List.mem_erase_of_ne (fun e => hn.1 (by rw [← e]; exact hx))).2 (h x (List.mem_cons_of_mem _ hx))
    rw [List.length_erase_of_mem ha] at this
    have := List.length_pos_of_mem ha
    simp only [List.length_cons]
    omega
theorem cntR_same {f g : Nat → Bool} : ∀ n, (∀ i, i < n → f i = g i) → Wm.cntR f n = Wm.cntR g n
  | 0, _ => rfl
  | n + 1, h => by simp only [Wm.cntR]; rw [cntR_same n fun i hi => h i (by omega), h n (by omega)]
theorem rev_induct {α : Type} {P : List α → Prop} (h0 : P []) (h1 : ∀ l a, P l → P (l ++ [a])) (l : List α) : P l := by
  suffices h : ∀ m : List α, P m.reverse by simpa using h l.reverse
  intro m
  induction m with
  | nil => exact h0
  | cons a m ih => rw [List.reverse_cons]; exact h1 _ _ ih
theorem cntR_len (f : Nat → Bool) : ∀ n, Wm.cntR f n = ((List.range n).filter f).length
  | 0 => rfl
  | n + 1 => by
    rw [List.range_succ, List.filter_append, List.length_append, ← cntR_len f n]
    simp only [Wm.cntR, List.filter_cons, List.filter_nil]
    cases f n <;> rfl
/-- Two sets of places have so many in common. -/
theorem both_len (f g : Nat → Bool) : ∀ n, ((List.range n).filter f).length + ((List.range n).filter g).length ≤ n + ((List.range n).filter fun i => f i && g i).length
  | 0 => by simp
  | n + 1 => by
    have := both_len f g n
    simp only [List.range_succ, List.filter_append, List.length_append, List.filter_cons, List.filter_nil]
    cases f n <;> cases g n <;> simp <;> omega
theorem filter_le {f g : Nat → Bool} (n : Nat) (h : ∀ i, i < n → f i = true → g i = true) : ((List.range n).filter f).length ≤ ((List.range n).filter g).length := by
  induction n with
  | zero => simp
  | succ n ih =>
    have h0 := ih fun i hi => h i (by omega)
    have h1 := h n (by omega)
    simp only [List.range_succ, List.filter_append, List.length_append, List.filter_cons, List.filter_nil]
    cases hf : f n <;> cases hg : g n <;> simp_all <;> omega

/-! ### What a node tells by a stamp -/
theorem findP_of : ∀ {l : List (Nat × ByteArray)} {e : Nat × ByteArray}, (l.map (·.1)).Nodup → e ∈ l → findP l e.1 = e.2
  | [], e, _, h => by simp at h
  | x :: l, e, hn, h => by
    simp only [List.map_cons, List.nodup_cons] at hn
    rcases List.mem_cons.1 h with rfl | h
    · simp [findP]
    · have hne : x.1 ≠ e.1 := fun he => hn.1 (by rw [he]; exact List.mem_map_of_mem h)
      have := findP_of hn.2 h
      unfold findP at this ⊢
      rw [List.find?_cons_of_neg (by simpa using hne)]
      exact this
theorem findP_no {l : List (Nat × ByteArray)} {t : Nat} (h : t ∉ l.map (·.1)) : findP l t = ByteArray.empty := by
  unfold findP
  rw [List.find?_eq_none.2 (fun x hx hxe => h (by have : x.1 = t := by simpa using hxe
                                                  rw [← this]; exact List.mem_map_of_mem hx))]
  rfl
theorem colS_length (σ : Sto) (key t : Nat) : (σ.colS key t).length = σ.N := by simp [colS]
theorem colS_get (σ : Sto) (key t : Nat) {i : Nat} (h : i < σ.N) : (σ.colS key t).getD i ByteArray.empty = if σ.down i then ByteArray.empty else findP (σ.kept i key) t := by
  unfold colS
  rw [List.getD_eq_getElem?_getD, List.getElem?_map, List.getElem?_range h]; rfl

/-! ### A turned piece -/
theorem rot_bytes {s : ByteArray} (i : Nat) (h : i < s.size) : sby (rotP s) i = if i = 0 then sby s 0 ^^^ 1 else sby s i := by
  have hl : (((List.range s.size).map (sby s)).set 0 (sby s 0 ^^^ 1)).length = s.size := by simp
  have hb : ∀ x ∈ ((List.range s.size).map (sby s)).set 0 (sby s 0 ^^^ 1), x < 256 := by
    intro x hx
    rcases List.mem_or_eq_of_mem_set hx with hx | rfl
    · obtain ⟨t, -, rfl⟩ := List.mem_map.1 hx
      exact sby_lt s t
    · exact Nat.xor_lt_two_pow (n := 8) (sby_lt s 0) (by omega)
  unfold rotP
  rw [sby_strN _ hb (by rw [hl]; exact h)]
  unfold gd
  rw [List.getD_eq_getElem?_getD, List.getElem?_set]
  by_cases e : 0 = i
  · subst e
    rw [if_pos rfl, if_pos rfl]
    simp [h]
  · rw [if_neg e, if_neg (fun h => e h.symm)]
    simp [h]
theorem rot_size (s : ByteArray) : (rotP s).size = s.size := by unfold rotP; rw [strN_size]; simp
theorem xor_one_ne (x : Nat) : x ^^^ 1 ≠ x := by
  intro h
  have : x ^^^ (x ^^^ 1) = x ^^^ x := by rw [h]
  rw [← Nat.xor_assoc, Nat.xor_self, Nat.zero_xor] at this
  omega
theorem rot_rot {s : ByteArray} : rotP (rotP s) = s := by
  refine str_ext (by rw [rot_size, rot_size]) fun i hi => ?_
  rw [rot_size, rot_size] at hi
  rw [rot_bytes i (by rw [rot_size]; exact hi)]
  by_cases e : i = 0
  · subst e
    rw [if_pos rfl, rot_bytes 0 hi, if_pos rfl, Nat.xor_assoc, Nat.xor_self, Nat.xor_zero]
  · rw [if_neg e, rot_bytes i hi, if_neg e]
theorem rot_bad {s : ByteArray} {k : Nat} (h1 : 1 ≤ k) (h2 : k ≤ 10) (hg : chkErr s (k : Int) = 0) : chkErr (rotP s) (k : Int) = 8 := by
  have h5 := ((good_iff h1 h2).1 hg).1
  refine turned_bad (a := 0) h1 h2 hg (rot_size s) (by omega) ?_ fun i hi hne => ?_
  · rw [rot_bytes 0 (by omega), if_pos rfl]; exact xor_one_ne _
  · rw [rot_bytes i hi, if_neg hne]

section
variable {σ : Sto} {H : Nat → Nat × ByteArray}
theorem Ok.k10 (O : Ok σ H) : σ.K ≤ 10 := Nat.le_trans O.kn O.n10
theorem Ok.pce_good (O : Ok σ H) {s : ByteArray} (hs : s.size ≤ 60) {i : Nat} (hi : i < σ.N) : (σ.pce s i).size = 5 + sz s.size σ.K ∧ chkErr (σ.pce s i) (σ.K : Int) = 0 := by
  have := piece_parts hs O.k1 O.kn O.n10 hi
  exact ⟨this.1, this.2.1⟩
theorem Ok.pce_rot (O : Ok σ H) {s : ByteArray} (hs : s.size ≤ 60) {i : Nat} (hi : i < σ.N) : σ.pce s i ≠ rotP (σ.pce s i) := fun h => by
  have h1 := (O.pce_good hs hi).2
  have h2 := rot_bad O.k1 O.k10 h1
  rw [← h, h1] at h2
  exact absurd h2 (by decide)
theorem Ok.size (O : Ok σ H) {i k : Nat} (hi : i < σ.N) (hk : k < 3) {e : Nat × ByteArray} (he : e ∈ σ.kept i k) : 5 ≤ e.2.size ∧ e.2.size ≤ 65 := by
  obtain ⟨h1, h2, -, h4⟩ := O.true_ i k e hi hk he
  have hs := O.small e.1 h1 h2
  have := (O.pce_good hs hi).1
  have hz : sz (H e.1).2.size σ.K ≤ (H e.1).2.size := sz_le O.k1
  rcases h4 with h4 | h4
  · rw [h4]; omega
  · rw [h4, rot_size]; omega
theorem Ok.len (O : Ok σ H) {i k : Nat} (hi : i < σ.N) (hk : k < 3) : (σ.kept i k).length ≤ σ.wr := by
  have h1 := O.once i k hi hk
  have h2 : ∀ t ∈ (σ.kept i k).map (·.1), t ∈ List.range' 1 σ.wr := fun t ht => by
    obtain ⟨e, he, rfl⟩ := List.mem_map.1 ht
    have := O.true_ i k e hi hk he
    rw [List.mem_range'_1]; omega
  have h3 : ((σ.kept i k).map (·.1)).length ≤ (List.range' 1 σ.wr).length := len_le_sub_ h1 h2
  simpa using h3

/-- Which nodes tell the true piece by a stamp. -/
def has (σ : Sto) (key t : Nat) (s : ByteArray) (i : Nat) : Bool := (σ.kept i key).any fun e => decide (e = (t, σ.pce s i))
theorem has_iff {key t : Nat} {s : ByteArray} {i : Nat} : has σ key t s i = true ↔ (t, σ.pce s i) ∈ σ.kept i key := by
  unfold has
  rw [List.any_eq_true]
  constructor
  · rintro ⟨e, he, h⟩
    have : e = (t, σ.pce s i) := of_decide_eq_true h
    rw [← this]; exact he
  · intro h
    exact ⟨_, h, decide_eq_true rfl⟩
theorem Ok.usab_col (O : Ok σ H) {key t : Nat} (hk : key < 3) (ht : 1 ≤ t ∧ t ≤ σ.wr) {i : Nat} (hi : i < σ.N) :
    usab (σ.colS key t) σ.K i = (!σ.down i && has σ key t (H t).2 i) ∧ (usab (σ.colS key t) σ.K i = true → (σ.colS key t).getD i ByteArray.empty = σ.pce (H t).2 i) := by
  unfold usab
  rw [colS_get _ _ _ hi]
  by_cases hd : σ.down i = true
  · rw [if_pos hd, empty_bad O.k1 O.k10, hd]
    exact ⟨rfl, fun h => by simp at h⟩
  · rw [if_neg hd]
    have hd' : σ.down i = false := by simpa using hd
    rw [hd']
    by_cases hm : t ∈ (σ.kept i key).map (·.1)
    · obtain ⟨e, he, rfl⟩ := List.mem_map.1 hm
      have hf := findP_of (O.once i key hi hk) he
      obtain ⟨h1, h2, -, h4⟩ := O.true_ i key e hi hk he
      have hs := O.small e.1 h1 h2
      rw [hf]
      rcases h4 with h4 | h4
      · refine ⟨?_, fun _ => h4⟩
        have hh : has σ key e.1 (H e.1).2 i = true := has_iff.2 (by rw [← h4]; exact he)
        rw [hh, h4, (O.pce_good hs hi).2]
        rfl
      · have hb : chkErr e.2 (σ.K : Int) = 8 := by rw [h4]; exact rot_bad O.k1 O.k10 (O.pce_good hs hi).2
        have hh : has σ key e.1 (H e.1).2 i = false := by
          rw [← Bool.not_eq_true, has_iff]
          intro h
          have := findP_of (O.once i key hi hk) h
          rw [hf] at this
          simp only at this
          exact O.pce_rot hs hi (this.symm.trans h4)
        rw [hh, hb]
        exact ⟨rfl, fun h => by simp at h⟩
    · rw [findP_no hm, empty_bad O.k1 O.k10]
      have hh : has σ key t (H t).2 i = false := by
        rw [← Bool.not_eq_true, has_iff]
        intro h
        exact hm (List.mem_map_of_mem (f := (·.1)) h)
      rw [hh]
      exact ⟨rfl, fun h => by simp at h⟩
/-- How many nodes tell it. -/
def cnt (σ : Sto) (key t : Nat) (s : ByteArray) : Nat := ((List.range σ.N).filter fun i => !σ.down i && has σ key t s i).length
theorem Ok.join (O : Ok σ H) {key t : Nat} (hk : key < 3) (ht : 1 ≤ t ∧ t ≤ σ.wr) :
    joinErr (σ.colS key t) (σ.K : Int) = (if cnt σ key t (H t).2 < σ.K then 9 else 0) ∧ (σ.K ≤ cnt σ key t (H t).2 → strN (joinText (σ.colS key t) σ.K) = (H t).2) := by
  have h := join_true (L := σ.colS key t) (O.small t ht.1 ht.2) O.k1 O.kn O.n10 (colS_length ..) (fun j hj hu => (O.usab_col hk ht hj).2 hu)
  have hc : Wm.cntR (usab (σ.colS key t) σ.K) σ.N = cnt σ key t (H t).2 := by
    rw [cntR_same σ.N fun i hi => (O.usab_col hk ht hi).1, cntR_len]; rfl
  rw [hc] at h
  exact h
theorem mem_stampsOf {key : Nat} {l : List Nat} {t : Nat} : t ∈ σ.stampsOf key l ↔ ∃ i ∈ l, t ∈ (σ.kept i key).map (·.1) := by simp [stampsOf, List.mem_flatMap]
theorem mem_stamps {key t : Nat} : t ∈ σ.stamps key ↔ ∃ i, i < σ.N ∧ σ.down i = false ∧ t ∈ (σ.kept i key).map (·.1) := by
  unfold stamps
  rw [mem_stampsOf]
  constructor
  · rintro ⟨i, hi, h⟩
    exact ⟨i, ups_lt hi, ups_up hi, h⟩
  · rintro ⟨i, h1, h2, h⟩
    exact ⟨i, mem_ups.2 ⟨h1, h2⟩, h⟩
theorem Ok.stamp (O : Ok σ H) {key t : Nat} (hk : key < 3) (h : t ∈ σ.stamps key) : 1 ≤ t ∧ t ≤ σ.wr ∧ (H t).1 = key := by
  obtain ⟨i, hi, -, ht⟩ := mem_stamps.1 h
  obtain ⟨e, he, rfl⟩ := List.mem_map.1 ht
  have := O.true_ i key e hi hk he
  exact ⟨this.1, this.2.1, this.2.2.1⟩

/-! ### The newest -/
theorem newestOf_snoc (key : Nat) (l : List Nat) (t : Nat) : σ.newestOf key (l ++ [t]) = σ.newStep key (σ.newestOf key l) t := by simp [newestOf]
theorem newest_tells (key : Nat) : ∀ l : List Nat, (∀ t x, σ.newestOf key l = some (t, x) → t ∈ l ∧ joinErr (σ.colS key t) (σ.K : Int) = 0 ∧ x = strN (joinText (σ.colS key t) σ.K)) ∧
    (∀ t ∈ l, joinErr (σ.colS key t) (σ.K : Int) = 0 → ∃ u x, σ.newestOf key l = some (u, x) ∧ t ≤ u) := by
  intro l
  refine rev_induct (P := fun l => (∀ t x, σ.newestOf key l = some (t, x) → t ∈ l ∧ joinErr (σ.colS key t) (σ.K : Int) = 0 ∧ x = strN (joinText (σ.colS key t) σ.K)) ∧
    (∀ t ∈ l, joinErr (σ.colS key t) (σ.K : Int) = 0 → ∃ u x, σ.newestOf key l = some (u, x) ∧ t ≤ u)) ⟨fun t x h => by simp [newestOf] at h, fun t h => by simp at h⟩ ?_ l
  · intro l a ih
    obtain ⟨h1, h2⟩ := ih
    rw [newestOf_snoc]
    generalize σ.newestOf key l = b at *
    unfold newStep
    cases b with
    | none =>
      simp only [Bool.false_eq_true, if_false]
      by_cases c : joinErr (σ.colS key a) (σ.K : Int) = 0
      · rw [if_pos c]
        refine ⟨fun t x h => ?_, fun t ht h => ?_⟩
        · simp only [Option.some.injEq, Prod.mk.injEq] at h
          obtain ⟨rfl, rfl⟩ := h
          exact ⟨by simp, c, rfl⟩
        · rcases List.mem_append.1 ht with ht | ht
          · obtain ⟨u, x, h3, -⟩ := h2 t ht h
            cases h3
          · simp only [List.mem_singleton] at ht
            subst ht
            exact ⟨_, _, rfl, Nat.le_refl _⟩
      · rw [if_neg c]
        refine ⟨(fun t x h => by cases h), fun t ht h => ?_⟩
        rcases List.mem_append.1 ht with ht | ht
        · exact h2 t ht h
        · simp only [List.mem_singleton] at ht
          subst ht
          exact absurd h c
    | some p =>
      obtain ⟨u, y⟩ := p
      obtain ⟨m1, m2, m3⟩ := h1 u y rfl
      by_cases d : a ≤ u
      · simp only [decide_eq_true d, if_true]
        refine ⟨fun t x h => ?_, fun t ht h => ?_⟩
        · obtain ⟨q1, q2, q3⟩ := h1 t x h
          exact ⟨List.mem_append_left _ q1, q2, q3⟩
        · rcases List.mem_append.1 ht with ht | ht
          · exact h2 t ht h
          · simp only [List.mem_singleton] at ht
            subst ht
            exact ⟨u, y, rfl, d⟩
      · simp only [decide_eq_false d, Bool.false_eq_true, if_false]
        by_cases c : joinErr (σ.colS key a) (σ.K : Int) = 0
        · rw [if_pos c]
          refine ⟨fun t x h => ?_, fun t ht h => ?_⟩
          · simp only [Option.some.injEq, Prod.mk.injEq] at h
            obtain ⟨rfl, rfl⟩ := h
            exact ⟨by simp, c, rfl⟩
          · rcases List.mem_append.1 ht with ht | ht
            · obtain ⟨u', x, h3, h4⟩ := h2 t ht h
              simp only [Option.some.injEq, Prod.mk.injEq] at h3
              exact ⟨_, _, rfl, by omega⟩
            · simp only [List.mem_singleton] at ht
              subst ht
              exact ⟨_, _, rfl, Nat.le_refl _⟩
        · rw [if_neg c]
          refine ⟨fun t x h => ?_, fun t ht h => ?_⟩
          · obtain ⟨q1, q2, q3⟩ := h1 t x h
            exact ⟨List.mem_append_left _ q1, q2, q3⟩
          · rcases List.mem_append.1 ht with ht | ht
            · exact h2 t ht h
            · simp only [List.mem_singleton] at ht
              subst ht
              exact absurd h c
/-- The newest that enough nodes tell. -/
theorem Ok.newest_some (O : Ok σ H) {key t : Nat} (hk : key < 3) {x : ByteArray} (h : σ.newest key = some (t, x)) : t ∈ σ.stamps key ∧ σ.K ≤ cnt σ key t (H t).2 ∧ x = (H t).2 ∧ 1 ≤ t ∧ t ≤ σ.wr ∧ (H t).1 = key := by
  obtain ⟨h1, h2, h3⟩ := (newest_tells key (σ.stamps key)).1 t x h
  obtain ⟨q1, q2, q3⟩ := O.stamp hk h1
  have hj := O.join hk ⟨q1, q2⟩
  rw [hj.1] at h2
  have hc : σ.K ≤ cnt σ key t (H t).2 := by
    by_cases c : cnt σ key t (H t).2 < σ.K
    · rw [if_pos c] at h2; exact absurd h2 (by decide)
    · omega
  exact ⟨h1, hc, by rw [h3, hj.2 hc], q1, q2, q3⟩
theorem Ok.newest_ge (O : Ok σ H) {key t : Nat} (hk : key < 3) (ht : 1 ≤ t ∧ t ≤ σ.wr) (h : σ.K ≤ cnt σ key t (H t).2) : ∃ u x, σ.newest key = some (u, x) ∧ t ≤ u := by
  have hmem : t ∈ σ.stamps key := by
    have hpos : 0 < ((List.range σ.N).filter fun i => !σ.down i && has σ key t (H t).2 i).length := by
      have := O.k1
      unfold cnt at h
      omega
    have hm := List.getElem_mem hpos
    obtain ⟨h1, h2⟩ := List.mem_filter.1 hm
    rw [Bool.and_eq_true] at h2
    exact mem_stamps.2 ⟨_, List.mem_range.1 h1, by simpa using h2.1, List.mem_map_of_mem (f := (·.1)) (has_iff.1 h2.2)⟩
  refine (newest_tells key (σ.stamps key)).2 t hmem ?_
  rw [(O.join hk ht).1, if_neg (by omega)]
theorem Ok.readText_small (O : Ok σ H) {key : Nat} (hk : key < 3) (h : σ.readE key = 0) : ∃ t, σ.newest key = some (t, (H t).2) ∧ σ.readAt key = t ∧ σ.readText key = (H t).2 ∧ 1 ≤ t ∧ t ≤ σ.wr ∧ (H t).1 = key ∧ (H t).2.size ≤ 60 ∧ σ.R ≤ σ.ups.length ∧ σ.W ≤ σ.ups.length ∧ σ.K ≤ cnt σ key t (H t).2 := by
  unfold readE at h
  by_cases c : σ.ups.length < σ.R ∨ σ.ups.length < σ.W
  · rw [if_pos c] at h; exact absurd h (by decide)
  · rw [if_neg c] at h
    cases hn : σ.newest key with
    | none => rw [hn] at h; exact absurd h (by decide)
    | some p =>
      obtain ⟨t, x⟩ := p
      obtain ⟨-, h0, rfl, h1, h2, h3⟩ := O.newest_some hk hn
      exact ⟨t, rfl, by simp [readAt, hn], by simp [readText, hn], h1, h2, h3, O.small t h1 h2, by omega, by omega, h0⟩
end
end Sto
end Go.Proofs.YtpenkbhljkmliaaGreatDoor

/-
  Plain: each deed leaves a true store true, and the history of writes grows by what was written.
-/
set_option linter.unusedVariables false
set_option linter.unusedSimpArgs false
namespace Go.Proofs.YtpenkbhljkmliaaGreatDoor
namespace Sto
variable {σ : Sto} {H : Nat → Nat × ByteArray}
/-- The history with one write more. -/
def ext (H : Nat → Nat × ByteArray) (t key : Nat) (s : ByteArray) : Nat → Nat × ByteArray := fun u => if u = t then (key, s) else H u
theorem ext_same (H : Nat → Nat × ByteArray) (t key : Nat) (s : ByteArray) : ext H t key s t = (key, s) := if_pos rfl
theorem ext_ne (H : Nat → Nat × ByteArray) {t u : Nat} (key : Nat) (s : ByteArray) (h : u ≠ t) : ext H t key s u = H u := if_neg h
theorem Ok.grow {σ : Sto} {H : Nat → Nat × ByteArray} (O : Ok σ H) {key : Nat} {s : ByteArray} (hs : σ.splitE s = 0) {f : Nat → Nat → List (Nat × ByteArray)} (l : List Nat)
    (h1 : ∀ i k, k = key → i ∈ l → f i k = [(σ.wr + 1, σ.pce s i)] ∨ f i k = σ.kept i k ++ [(σ.wr + 1, σ.pce s i)]) (h2 : ∀ i k, ¬ (k = key ∧ i ∈ l) → f i k = σ.kept i k) :
    Ok { σ with wr := σ.wr + 1, kept := f } (ext H (σ.wr + 1) key s) := by
  have hsz : s.size ≤ 60 := by
    unfold splitE at hs
    by_cases c : 60 < s.size
    · rw [if_pos c] at hs; exact absurd hs (by decide)
    · omega
  have hwr : σ.wr ≠ 1000000 := by
    intro c
    unfold splitE at hs
    rw [if_neg (by omega)] at hs
    by_cases d : σ.ups.length < σ.W
    · rw [if_pos d] at hs; exact absurd hs (by decide)
    · rw [if_neg d, if_pos c] at hs; exact absurd hs (by decide)
  have old : ∀ i k e, i < σ.N → k < 3 → e ∈ σ.kept i k → 1 ≤ e.1 ∧ e.1 ≤ σ.wr + 1 ∧ (ext H (σ.wr + 1) key s e.1).1 = k ∧ σ.Pce (ext H (σ.wr + 1) key s e.1).2 i e.2 := fun i k e hi hk he => by
    obtain ⟨q1, q2, q3, q4⟩ := O.true_ i k e hi hk he
    rw [ext_ne _ _ _ (by omega)]
    exact ⟨q1, by omega, q3, q4⟩
  have new : ∀ i, 1 ≤ σ.wr + 1 ∧ σ.wr + 1 ≤ σ.wr + 1 ∧ (ext H (σ.wr + 1) key s (σ.wr + 1)).1 = key ∧ σ.Pce (ext H (σ.wr + 1) key s (σ.wr + 1)).2 i (σ.pce s i) := fun i => by
    rw [ext_same]
    exact ⟨by omega, by omega, rfl, .inl rfl⟩
  exact {
    k1 := O.k1
    kn := O.kn
    n10 := O.n10
    w1 := O.w1
    wn := O.wn
    r1 := O.r1
    rn := O.rn
    meet := O.meet
    few := by have := O.few; show σ.wr + 1 ≤ 1000000; omega
    small := fun t h3 h4 => by
      have h4 : t ≤ σ.wr + 1 := h4
      by_cases c : t = σ.wr + 1
      · subst c; rw [ext_same]; exact hsz
      · rw [ext_ne _ _ _ c]; exact O.small t h3 (by omega)
    true_ := fun i k e hi hk he => by
      have he : e ∈ f i k := he
      by_cases c : k = key ∧ i ∈ l
      · obtain ⟨rfl, c2⟩ := c
        rcases h1 i k rfl c2 with h | h
        · rw [h] at he
          rw [List.mem_singleton.1 he]
          exact new i
        · rw [h] at he
          rcases List.mem_append.1 he with he | he
          · exact old i k e hi hk he
          · rw [List.mem_singleton.1 he]
            exact new i
      · rw [h2 i k c] at he
        exact old i k e hi hk he
    once := fun i k hi hk => by
      show ((f i k).map (·.1)).Nodup
      by_cases c : k = key ∧ i ∈ l
      · rcases h1 i k c.1 c.2 with h | h
        · rw [h]; simp
        · rw [h, List.map_append, List.map_singleton, List.nodup_append]
          refine ⟨O.once i k hi hk, by simp, fun a ha b hb => ?_⟩
          obtain ⟨e, he, rfl⟩ := List.mem_map.1 ha
          have := (O.true_ i k e hi hk he).2.1
          rw [List.mem_singleton.1 hb]
          omega
      · rw [h2 i k c]; exact O.once i k hi hk }
theorem Ok.put (O : Ok σ H) {key : Nat} {s : ByteArray} (hs : σ.splitE s = 0) : Ok { σ with wr := σ.wr + 1, kept := σ.putK key s σ.ups } (ext H (σ.wr + 1) key s) :=
  O.grow hs σ.ups (fun i k h1 h2 => .inl (if_pos ⟨h1, h2⟩)) (fun i k h => if_neg h)
theorem Ok.torn (O : Ok σ H) {key : Nat} {s : ByteArray} (hs : σ.splitE s = 0) (l : List Nat) : Ok { σ with wr := σ.wr + 1, kept := σ.tornK key s l } (ext H (σ.wr + 1) key s) :=
  O.grow hs l (fun i k h1 h2 => .inr (if_pos ⟨h1, h2⟩)) (fun i k h => if_neg h)
theorem Ok.keep {σ : Sto} {H : Nat → Nat × ByteArray} (O : Ok σ H) {f : Nat → Nat → List (Nat × ByteArray)} {d : Nat → Bool} (h : ∀ i k e, i < σ.N → k < 3 → e ∈ f i k → 1 ≤ e.1 ∧ e.1 ≤ σ.wr ∧ (H e.1).1 = k ∧ σ.Pce (H e.1).2 i e.2)
    (h2 : ∀ i k, i < σ.N → k < 3 → ((f i k).map (·.1)).Nodup) : Ok { σ with kept := f, down := d } H :=
  { k1 := O.k1, kn := O.kn, n10 := O.n10, w1 := O.w1, wn := O.wn, r1 := O.r1, rn := O.rn, meet := O.meet, few := O.few, small := O.small, true_ := h, once := h2 }
theorem nextK_mem {l : List (Nat × ByteArray)} {r e : Nat × ByteArray} : e ∈ nextK l r ↔ e = r ∨ (e ∈ l ∧ r.1 < e.1) := by simp [nextK]
theorem nextK_once {l : List (Nat × ByteArray)} (r : Nat × ByteArray) (h : (l.map (·.1)).Nodup) : ((nextK l r).map (·.1)).Nodup := by
  unfold nextK
  rw [List.map_cons, List.nodup_cons]
  refine ⟨fun hm => ?_, List.Nodup.sublist (List.Sublist.map _ List.filter_sublist) h⟩
  obtain ⟨e, he, hr⟩ := List.mem_map.1 hm
  have := of_decide_eq_true (List.mem_filter.1 he).2
  omega
theorem Ok.read (O : Ok σ H) {key : Nat} (hk : key < 3) (h : σ.readE key = 0) : Ok (σ.readT key) H := by
  obtain ⟨t, h1, h2, h3, h4, h5, h6, h7, -⟩ := O.readText_small hk h
  unfold readT
  rw [h2, h3]
  refine O.keep (d := σ.down) (fun i k e hi hk' he => ?_) (fun i k hi hk' => ?_)
  · unfold readK at he
    by_cases c : k = key ∧ i ∈ σ.ups
    · rw [if_pos c, nextK_mem] at he
      rcases he with rfl | ⟨he, -⟩
      · exact ⟨h4, h5, h6.trans c.1.symm, .inl rfl⟩
      · exact O.true_ i k e hi hk' he
    · rw [if_neg c] at he
      exact O.true_ i k e hi hk' he
  · unfold readK
    by_cases c : k = key ∧ i ∈ σ.ups
    · rw [if_pos c]; exact nextK_once _ (O.once i k hi hk')
    · rw [if_neg c]; exact O.once i k hi hk'
theorem rotL_stamps (l : List (Nat × ByteArray)) : (rotL l).map (·.1) = l.map (·.1) := by
  unfold rotL
  rw [List.map_set]
  by_cases h : l = []
  · subst h; rfl
  · have hl : l.length - 1 < l.length := by have := List.length_pos_iff.2 h; omega
    apply List.ext_getElem (by simp)
    intro i h1 h2
    rw [List.getElem_set]
    split
    · rename_i e
      subst e
      simp [List.getD_eq_getElem?_getD, List.getElem?_eq_getElem hl]
    · rfl
theorem rotL_mem {l : List (Nat × ByteArray)} {e : Nat × ByteArray} (h : e ∈ rotL l) : e ∈ l ∨ ∃ x ∈ l, e = (x.1, rotP x.2) := by
  unfold rotL at h
  rcases List.mem_or_eq_of_mem_set h with h | h
  · exact .inl h
  · by_cases hl : l = []
    · subst hl; simp [rotL] at h; simp_all
    · refine .inr ⟨l.getD (l.length - 1) (0, ByteArray.empty), ?_, h⟩
      have hl : l.length - 1 < l.length := by have := List.length_pos_iff.2 hl; omega
      rw [List.getD_eq_getElem?_getD, List.getElem?_eq_getElem hl]
      exact List.getElem_mem hl
theorem Ok.rot (O : Ok σ H) (n key : Nat) : Ok { σ with kept := σ.rotK n key } H := by
  refine O.keep (d := σ.down) (fun i k e hi hk he => ?_) (fun i k hi hk => ?_)
  · unfold rotK at he
    by_cases c : i = n ∧ k = key
    · rw [if_pos c] at he
      rcases rotL_mem he with he | ⟨x, hx, rfl⟩
      · exact O.true_ i k e hi hk he
      · obtain ⟨q1, q2, q3, q4⟩ := O.true_ i k x hi hk hx
        refine ⟨q1, q2, q3, ?_⟩
        rcases q4 with q4 | q4
        · exact .inr (by rw [q4])
        · exact .inl (by rw [q4, rot_rot])
    · rw [if_neg c] at he
      exact O.true_ i k e hi hk he
  · unfold rotK
    by_cases c : i = n ∧ k = key
    · rw [if_pos c, rotL_stamps]; exact O.once i k hi hk
    · rw [if_neg c]; exact O.once i k hi hk
theorem Ok.at_ (O : Ok σ H) (kind key n : Int) : Ok (σ.atS kind key n).2 H := by
  unfold atS
  split
  · exact O
  · split
    · exact O.keep O.true_ O.once
    · split
      · exact O.keep O.true_ O.once
      · split
        · refine O.keep (d := σ.down) (fun i k e hi hk he => ?_) (fun i k hi hk => ?_)
          · by_cases c : i = n.toNat
            · rw [if_pos c] at he; simp at he
            · rw [if_neg c] at he; exact O.true_ i k e hi hk he
          · by_cases c : i = n.toNat
            · rw [if_pos c]; simp
            · rw [if_neg c]; exact O.once i k hi hk
        · split
          · exact O
          · exact O.rot _ _
/-- The history behind a deed. -/
def hist (σ : Sto) (H : Nat → Nat × ByteArray) (kind key n : Int) (s : ByteArray) : Nat → Nat × ByteArray :=
  if (σ.doS kind key n s).2.wr = σ.wr then H else ext H (σ.wr + 1) key.toNat s
theorem doS_cases (σ : Sto) (kind key n : Int) (s : ByteArray) {P : Ans × Sto → Prop} (h0 : (kind < 1 ∨ 8 < kind ∨ (keyed kind ∧ ¬ isKey key)) → P (Ans.no 1, σ)) (h1 : isKey key → kind = 1 → P (σ.putS key.toNat s)) (h2 : isKey key → kind = 2 → P (σ.tornS key.toNat n s))
    (h3 : isKey key → kind = 3 → P (σ.getS key.toNat)) (h8 : isKey key → kind = 8 → P (σ.scrubS key.toNat)) (h4 : (kind = 4 ∨ kind = 5 ∨ kind = 6 ∨ (kind = 7 ∧ isKey key)) → P (σ.atS kind key n)) : P (σ.doS kind key n s) := by
  unfold doS
  by_cases c : kind < 1 ∨ 8 < kind ∨ (keyed kind ∧ ¬ isKey key)
  · rw [if_pos c]; exact h0 c
  · rw [if_neg c]
    have hk : keyed kind → isKey key := fun h => Classical.byContradiction fun hn => c (.inr (.inr ⟨h, hn⟩))
    by_cases c1 : kind = 1
    · rw [if_pos c1]; exact h1 (hk (by unfold keyed; omega)) c1
    · rw [if_neg c1]
      by_cases c2 : kind = 2
      · rw [if_pos c2]; exact h2 (hk (by unfold keyed; omega)) c2
      · rw [if_neg c2]
        by_cases c3 : kind = 3
        · rw [if_pos c3]; exact h3 (hk (by unfold keyed; omega)) c3
        · rw [if_neg c3]
          by_cases c8 : kind = 8
          · rw [if_pos c8]; exact h8 (hk (by unfold keyed; omega)) c8
          · rw [if_neg c8]
            refine h4 ?_
            by_cases c7 : kind = 7
            · exact .inr (.inr (.inr ⟨c7, hk (by unfold keyed; omega)⟩))
            · omega
/-- What is refused changes nothing. -/
theorem doS_same (σ : Sto) (kind key n : Int) (s : ByteArray) (h : (σ.doS kind key n s).1.err ≠ 0) : (σ.doS kind key n s).2 = σ := by
  refine doS_cases σ kind key n s (P := fun r => r.1.err ≠ 0 → r.2 = σ) (fun _ _ => rfl) ?_ ?_ ?_ ?_ ?_ h
  · intro _ _
    unfold putS
    split
    · exact fun _ => rfl
    · exact fun h => absurd rfl h
  · intro _ _
    unfold tornS
    split
    · exact fun _ => rfl
    · exact fun h => absurd rfl h
  · intro _ _
    unfold getS
    split
    · exact fun _ => rfl
    · exact fun h => absurd rfl h
  · intro _ _
    unfold scrubS
    split
    · exact fun _ => rfl
    · exact fun h => absurd rfl h
  · intro _
    unfold atS
    split
    · exact fun _ => rfl
    · split
      · exact fun h => absurd rfl h
      · split
        · exact fun h => absurd rfl h
        · split
          · exact fun h => absurd rfl h
          · split
            · exact fun _ => rfl
            · exact fun h => absurd rfl h
theorem isKey_lt {key : Int} (h : isKey key) : key.toNat < 3 := by unfold isKey at h; omega
theorem Ok.do_ (O : Ok σ H) (kind key n : Int) (s : ByteArray) : Ok (σ.doS kind key n s).2 (hist σ H kind key n s) := by
  unfold hist
  refine doS_cases σ kind key n s (P := fun r => Ok r.2 (if r.2.wr = σ.wr then H else ext H (σ.wr + 1) key.toNat s)) (fun _ => ?_) ?_ ?_ ?_ ?_ ?_
  · rw [if_pos rfl]; exact O
  · intro hk _
    unfold putS
    by_cases c : σ.splitE s = 0
    · rw [if_neg (by simpa using c)]
      rw [if_neg (by show ¬ σ.wr + 1 = σ.wr; omega)]
      exact O.put c
    · rw [if_pos c, if_pos rfl]; exact O
  · intro hk _
    unfold tornS
    by_cases c : σ.tornE key.toNat n s = 0
    · rw [if_neg (by simpa using c)]
      rw [if_neg (by show ¬ σ.wr + 1 = σ.wr; omega)]
      refine O.torn ?_ _
      unfold tornE at c
      by_cases d : σ.splitE s = 0
      · exact d
      · rw [if_pos d] at c; exact c
    · rw [if_pos c, if_pos rfl]; exact O
  · intro hk _
    unfold getS
    by_cases c : σ.readE key.toNat = 0
    · rw [if_neg (by simpa using c), if_pos (show (σ.readT key.toNat).wr = σ.wr from rfl)]
      exact O.read (isKey_lt hk) c
    · rw [if_pos c, if_pos rfl]; exact O
  · intro hk _
    unfold scrubS
    by_cases c : σ.readE key.toNat = 0
    · rw [if_neg (by simpa using c), if_pos (show (σ.readT key.toNat).wr = σ.wr from rfl)]
      exact O.read (isKey_lt hk) c
    · rw [if_pos c, if_pos rfl]; exact O
  · intro _
    have hw : (σ.atS kind key n).2.wr = σ.wr := by
      unfold atS
      split
      · rfl
      · split
        · rfl
        · split
          · rfl
          · split
            · rfl
            · split
              · rfl
              · rfl
    rw [if_pos hw]
    exact O.at_ kind key n
theorem Ok.start {N K W R : Nat} (h1 : 1 ≤ K ∧ K ≤ N) (h2 : N ≤ 10) (h3 : 1 ≤ W ∧ W ≤ N) (h4 : 1 ≤ R ∧ R ≤ N) (h5 : N + K ≤ W + R) (H : Nat → Nat × ByteArray) : Ok (new N K W R) H :=
  { k1 := h1.1, kn := h1.2, n10 := h2, w1 := h3.1, wn := h3.2, r1 := h4.1, rn := h4.2, meet := h5, few := Nat.zero_le _, small := fun t a b => absurd (show t ≤ 0 from b) (by omega), true_ := fun _ _ _ _ _ h => by simp [new] at h, once := fun _ _ _ _ => by simp [new] }
end Sto
end Go.Proofs.YtpenkbhljkmliaaGreatDoor

/-
  Plain: what was written stands, as long as nothing is lost or spoiled; what is read is no older.
-/
set_option linter.unusedVariables false
set_option linter.unusedSimpArgs false
namespace Go.Proofs.YtpenkbhljkmliaaGreatDoor
namespace Sto
/-- By a key a stamp stands: so many nodes as a write needs tell its piece, down or not. -/
def Stands (σ : Sto) (H : Nat → Nat × ByteArray) (key T : Nat) : Prop := 1 ≤ T ∧ T ≤ σ.wr ∧ σ.W ≤ ((List.range σ.N).filter (has σ key T (H T).2)).length
section
variable {σ : Sto} {H : Nat → Nat × ByteArray} {key T : Nat}
theorem Stands.cnt (S : Stands σ H key T) (O : Ok σ H) (hr : σ.R ≤ σ.ups.length) : σ.K ≤ cnt σ key T (H T).2 := by
  have h := both_len (fun i => !σ.down i) (has σ key T (H T).2) σ.N
  have hu : ((List.range σ.N).filter fun i => !σ.down i).length = σ.ups.length := rfl
  have hs := S.2.2
  have hm := O.meet
  unfold Sto.cnt
  omega
/-- Who reads what stands reads it, or what is newer. -/
theorem Stands.read (S : Stands σ H key T) (O : Ok σ H) (hk : key < 3) : σ.readE key = 9 ∨ (σ.readE key = 0 ∧ T ≤ σ.readAt key) := by
  unfold readE
  by_cases c : σ.ups.length < σ.R ∨ σ.ups.length < σ.W
  · exact .inl (if_pos c)
  · rw [if_neg c]
    obtain ⟨u, x, h1, h2⟩ := O.newest_ge hk ⟨S.1, S.2.1⟩ (S.cnt O (by omega))
    refine .inr ⟨by rw [h1]; rfl, ?_⟩
    simpa [readAt, h1] using h2
theorem Stands.mono (S : Stands σ H key T) {σ' : Sto} {H' : Nat → Nat × ByteArray} (hN : σ'.N = σ.N) (hW : σ'.W = σ.W) (hw : σ.wr ≤ σ'.wr) (hh : ∀ i, i < σ.N → has σ key T (H T).2 i = true → has σ' key T (H' T).2 i = true) : Stands σ' H' key T := by
  refine ⟨S.1, Nat.le_trans S.2.1 hw, ?_⟩
  rw [hN, hW]
  exact Nat.le_trans S.2.2 (filter_le _ hh)
theorem ups_stand {f : Nat → Bool} (hw : σ.W ≤ σ.ups.length) (h : ∀ i ∈ σ.ups, f i = true) : σ.W ≤ ((List.range σ.N).filter f).length := by
  refine Nat.le_trans hw ?_
  exact filter_le (f := fun i => !σ.down i) σ.N fun i hi hd => h i (mem_ups.2 ⟨hi, by simpa using hd⟩)
theorem split_ok {s : ByteArray} (h : σ.splitE s = 0) : σ.W ≤ σ.ups.length ∧ s.size ≤ 60 := by
  unfold splitE at h
  by_cases c : 60 < s.size
  · rw [if_pos c] at h; exact absurd h (by decide)
  · rw [if_neg c] at h
    by_cases d : σ.ups.length < σ.W
    · rw [if_pos d] at h; exact absurd h (by decide)
    · exact ⟨by omega, by omega⟩
theorem put_stands {key : Nat} {s : ByteArray} (h : σ.splitE s = 0) : Stands { σ with wr := σ.wr + 1, kept := σ.putK key s σ.ups } (ext H (σ.wr + 1) key s) key (σ.wr + 1) := by
  refine ⟨by omega, Nat.le_refl _, ups_stand (split_ok h).1 fun i hi => has_iff.2 ?_⟩
  rw [ext_same]
  show (σ.wr + 1, σ.pce s i) ∈ σ.putK key s σ.ups i key
  unfold putK
  rw [if_pos ⟨rfl, hi⟩]
  exact List.mem_singleton.2 rfl
theorem read_stands (O : Ok σ H) {key : Nat} (hk : key < 3) (h : σ.readE key = 0) : Stands (σ.readT key) H key (σ.readAt key) := by
  obtain ⟨t, h1, h2, h3, h4, h5, h6, h7, h8, h9, -⟩ := O.readText_small hk h
  rw [h2]
  refine ⟨h4, h5, ups_stand h9 fun i hi => has_iff.2 ?_⟩
  show (t, σ.pce (H t).2 i) ∈ σ.readK key (σ.readAt key) (σ.readText key) σ.ups i key
  unfold readK
  rw [if_pos ⟨rfl, hi⟩, nextK_mem, h2, h3]
  exact .inl rfl
theorem hist_old (kind key n : Int) (s : ByteArray) {u : Nat} (h : u ≤ σ.wr) : hist σ H kind key n s u = H u := by
  unfold hist
  split
  · rfl
  · exact ext_ne _ _ _ (by omega)
/-- Nothing is lost, nothing spoiled: what stood stands, or what is newer. -/
theorem Stands.step (S : Stands σ H key T) (O : Ok σ H) (hkey : key < 3) (kind k n : Int) (s : ByteArray) (h6 : kind ≠ 6) (h7 : kind ≠ 7) :
    ∃ T', T ≤ T' ∧ Stands (σ.doS kind k n s).2 (hist σ H kind k n s) key T' ∧ (kind = 3 → k.toNat = key → (σ.doS kind k n s).1.err = 0 → T ≤ (σ.doS kind k n s).1.at_) := by
  have keepH : ∀ {r : Sto}, r.N = σ.N → r.W = σ.W → r.K = σ.K → σ.wr ≤ r.wr → (∀ i, i < σ.N → ∀ e, e ∈ σ.kept i key → e ∈ r.kept i key) → ∀ H', H' T = H T → Stands r H' key T := by
    intro r hN hW hK hw hh H' hH
    refine S.mono hN hW hw fun i hi h => has_iff.2 ?_
    rw [hH]
    have := hh i hi _ (has_iff.1 h)
    have hp : r.pce (H T).2 i = σ.pce (H T).2 i := by unfold pce; rw [hN, hK]
    rw [hp]; exact this
  have hHT : ∀ {r : Sto}, (if r.wr = σ.wr then H else ext H (σ.wr + 1) k.toNat s) T = H T := fun {r} => by
    split
    · rfl
    · exact ext_ne _ _ _ (by have := S.2.1; omega)
  unfold hist
  refine doS_cases σ kind k n s (P := fun r => ∃ T', T ≤ T' ∧ Stands r.2 (if r.2.wr = σ.wr then H else ext H (σ.wr + 1) k.toNat s) key T' ∧ (kind = 3 → k.toNat = key → r.1.err = 0 → T ≤ r.1.at_)) (fun _ => ?_) ?_ ?_ ?_ ?_ ?_
  · exact ⟨T, Nat.le_refl _, keepH (by rfl) (by rfl) (by rfl) (by exact Nat.le_refl _) (fun _ _ _ h => h) _ hHT, fun _ _ h => by cases h⟩
  · intro hk h1
    unfold putS
    by_cases c : σ.splitE s = 0
    · rw [if_neg (by simpa using c)]
      by_cases d : k.toNat = key
      · refine ⟨σ.wr + 1, by have := S.2.1; omega, ?_, fun h => by omega⟩
        rw [if_neg (by show ¬ σ.wr + 1 = σ.wr; omega), d]
        exact put_stands c
      · refine ⟨T, Nat.le_refl _, ?_, fun h => by omega⟩
        refine keepH (by rfl) (by rfl) (by rfl) (by exact Nat.le_succ _) (fun i _ e he => ?_) _ hHT
        show e ∈ σ.putK k.toNat s σ.ups i key
        unfold putK
        rw [if_neg (fun h => d h.1.symm)]; exact he
    · rw [if_pos c]
      exact ⟨T, Nat.le_refl _, keepH (by rfl) (by rfl) (by rfl) (by exact Nat.le_refl _) (fun _ _ _ h => h) _ hHT, fun h => by omega⟩
  · intro hk h1
    unfold tornS
    by_cases c : σ.tornE k.toNat n s = 0
    · rw [if_neg (by simpa using c)]
      refine ⟨T, Nat.le_refl _, ?_, fun h => by omega⟩
      refine keepH (by rfl) (by rfl) (by rfl) (by exact Nat.le_succ _) (fun i _ e he => ?_) _ hHT
      show e ∈ σ.tornK k.toNat s _ i key
      unfold tornK
      split
      · exact List.mem_append_left _ he
      · exact he
    · rw [if_pos c]
      exact ⟨T, Nat.le_refl _, keepH (by rfl) (by rfl) (by rfl) (by exact Nat.le_refl _) (fun _ _ _ h => h) _ hHT, fun h => by omega⟩
  · intro hk h1
    unfold getS
    by_cases c : σ.readE k.toNat = 0
    · rw [if_neg (by simpa using c), if_pos (show (σ.readT k.toNat).wr = σ.wr from rfl)]
      by_cases d : k.toNat = key
      · rw [d] at c ⊢
        have hge : T ≤ σ.readAt key := by
          rcases S.read O hkey with h | h
          · rw [c] at h; exact absurd h (by decide)
          · exact h.2
        exact ⟨_, hge, read_stands O hkey c, fun _ _ _ => hge⟩
      · refine ⟨T, Nat.le_refl _, ?_, fun _ h => absurd h d⟩
        refine keepH (by rfl) (by rfl) (by rfl) (by exact Nat.le_refl _) (fun i _ e he => ?_) _ rfl
        show e ∈ σ.readK k.toNat _ _ σ.ups i key
        unfold readK
        rw [if_neg (fun h => d h.1.symm)]; exact he
    · rw [if_pos c]
      exact ⟨T, Nat.le_refl _, keepH (by rfl) (by rfl) (by rfl) (by exact Nat.le_refl _) (fun _ _ _ h => h) _ hHT, fun _ _ h => absurd h c⟩
  · intro hk h1
    unfold scrubS
    by_cases c : σ.readE k.toNat = 0
    · rw [if_neg (by simpa using c), if_pos (show (σ.readT k.toNat).wr = σ.wr from rfl)]
      by_cases d : k.toNat = key
      · rw [d] at c ⊢
        have hge : T ≤ σ.readAt key := by
          rcases S.read O hkey with h | h
          · rw [c] at h; exact absurd h (by decide)
          · exact h.2
        exact ⟨_, hge, read_stands O hkey c, fun h => by omega⟩
      · refine ⟨T, Nat.le_refl _, ?_, fun h => by omega⟩
        refine keepH (by rfl) (by rfl) (by rfl) (by exact Nat.le_refl _) (fun i _ e he => ?_) _ rfl
        show e ∈ σ.readK k.toNat _ _ σ.ups i key
        unfold readK
        rw [if_neg (fun h => d h.1.symm)]; exact he
    · rw [if_pos c]
      exact ⟨T, Nat.le_refl _, keepH (by rfl) (by rfl) (by rfl) (by exact Nat.le_refl _) (fun _ _ _ h => h) _ hHT, fun h => by omega⟩
  · intro hk
    refine ⟨T, Nat.le_refl _, ?_, fun h => by omega⟩
    unfold atS
    split
    · exact keepH (by rfl) (by rfl) (by rfl) (by exact Nat.le_refl _) (fun _ _ _ h => h) _ hHT
    · split
      · exact keepH (by rfl) (by rfl) (by rfl) (by exact Nat.le_refl _) (fun _ _ _ h => h) _ hHT
      · split
        · exact keepH (by rfl) (by rfl) (by rfl) (by exact Nat.le_refl _) (fun _ _ _ h => h) _ hHT
        · omega
/-- What is told of a put or a read stands from then on. -/
theorem stands_told (O : Ok σ H) (kind k n : Int) (s : ByteArray) (h : kind = 1 ∨ kind = 3) (he : (σ.doS kind k n s).1.err = 0) : isKey k ∧ Stands (σ.doS kind k n s).2 (hist σ H kind k n s) k.toNat (σ.doS kind k n s).1.at_ := by
  unfold hist
  refine doS_cases σ kind k n s (P := fun r => r.1.err = 0 → isKey k ∧ Stands r.2 (if r.2.wr = σ.wr then H else ext H (σ.wr + 1) k.toNat s) k.toNat r.1.at_) (fun _ h => by cases h) ?_ (fun _ h => by omega) ?_ (fun _ h => by omega) (fun h => by omega) he
  · intro hk _
    unfold putS
    by_cases c : σ.splitE s = 0
    · rw [if_neg (by simpa using c)]
      intro _
      rw [if_neg (by show ¬ σ.wr + 1 = σ.wr; omega)]
      exact ⟨hk, put_stands c⟩
    · rw [if_pos c]; exact fun h => absurd h c
  · intro hk _
    unfold getS
    by_cases c : σ.readE k.toNat = 0
    · rw [if_neg (by simpa using c), if_pos (show (σ.readT k.toNat).wr = σ.wr from rfl)]
      exact fun _ => ⟨hk, read_stands O (isKey_lt hk) c⟩
    · rw [if_pos c]; exact fun h => absurd h c
/-- What is told of a write. -/
theorem put_told (kind k n : Int) (s : ByteArray) (h : kind = 1 ∨ kind = 2) (he : (σ.doS kind k n s).1.err = 0) : (σ.doS kind k n s).1.at_ = σ.wr + 1 ∧ (σ.doS kind k n s).2.wr = σ.wr + 1 ∧ isKey k ∧ (σ.doS kind k n s).1.many = 0 ∧ (σ.doS kind k n s).1.text = ByteArray.empty ∧ s.size ≤ 60 := by
  refine doS_cases σ kind k n s (P := fun r => r.1.err = 0 → r.1.at_ = σ.wr + 1 ∧ r.2.wr = σ.wr + 1 ∧ isKey k ∧ r.1.many = 0 ∧ r.1.text = ByteArray.empty ∧ s.size ≤ 60) (fun _ h => by cases h) ?_ ?_ (fun _ h => by omega) (fun _ h => by omega) (fun h => by omega) he
  · intro hk _
    unfold putS
    by_cases c : σ.splitE s = 0
    · rw [if_neg (by simpa using c)]
      exact fun _ => ⟨rfl, rfl, hk, rfl, rfl, (split_ok c).2⟩
    · rw [if_pos c]; exact fun h => absurd h c
  · intro hk _
    unfold tornS
    by_cases c : σ.tornE k.toNat n s = 0
    · rw [if_neg (by simpa using c)]
      refine fun _ => ⟨rfl, rfl, hk, rfl, rfl, ?_⟩
      unfold tornE at c
      by_cases d : σ.splitE s = 0
      · exact (split_ok d).2
      · rw [if_pos d] at c; exact absurd c d
    · rw [if_pos c]; exact fun h => absurd h c
/-- Whoever neither writes: so many writes as before. -/
theorem wr_same (kind k n : Int) (s : ByteArray) (h1 : kind ≠ 1) (h2 : kind ≠ 2) : (σ.doS kind k n s).2.wr = σ.wr := by
  refine doS_cases σ kind k n s (P := fun r => r.2.wr = σ.wr) (fun _ => rfl) (fun _ h => absurd h h1) (fun _ h => absurd h h2) ?_ ?_ ?_
  · intro _ _; unfold getS; split <;> rfl
  · intro _ _; unfold scrubS; split <;> rfl
  · intro _
    unfold atS
    split
    · rfl
    · split
      · rfl
      · split
        · rfl
        · split
          · rfl
          · split <;> rfl
/-- What is told of a read. -/
theorem get_told (O : Ok σ H) (k n : Int) (s : ByteArray) (he : (σ.doS 3 k n s).1.err = 0) : isKey k ∧ 1 ≤ (σ.doS 3 k n s).1.at_ ∧ (σ.doS 3 k n s).1.at_ ≤ σ.wr ∧ H (σ.doS 3 k n s).1.at_ = (k.toNat, (σ.doS 3 k n s).1.text) ∧ (σ.doS 3 k n s).1.many = 0 := by
  refine doS_cases σ 3 k n s (P := fun r => r.1.err = 0 → isKey k ∧ 1 ≤ r.1.at_ ∧ r.1.at_ ≤ σ.wr ∧ H r.1.at_ = (k.toNat, r.1.text) ∧ r.1.many = 0) (fun _ h => by cases h) (fun _ h => by omega) (fun _ h => by omega) ?_ (fun _ h => by omega) (fun h => by omega) he
  intro hk _
  unfold getS
  by_cases c : σ.readE k.toNat = 0
  · rw [if_neg (by simpa using c)]
    obtain ⟨t, h1, h2, h3, h4, h5, h6, -⟩ := O.readText_small (isKey_lt hk) c
    refine fun _ => ⟨hk, ?_, ?_, ?_, rfl⟩
    · show 1 ≤ σ.readAt _; rw [h2]; exact h4
    · show σ.readAt _ ≤ _; rw [h2]; exact h5
    · show H (σ.readAt _) = (_, σ.readText _)
      rw [h2, h3, ← h6]
  · rw [if_pos c]; exact fun h => absurd h c
end
end Sto
end Go.Proofs.YtpenkbhljkmliaaGreatDoor
