/-
  Plain: the store as a state and what each deed makes of it. No program in sight.
-/
import Derived.Test.YthmmofalepckgaaPiece10
set_option linter.unusedVariables false
set_option linter.unusedSimpArgs false
namespace Go.Proofs.Ythmmofalepckgaa

/-- A store: its quorum, which nodes are down, what each keeps by each key (stamps and pieces), how many writes there were. -/
structure Sto where
  N : Nat
  K : Nat
  W : Nat
  R : Nat
  down : Nat → Bool
  kept : Nat → Nat → List (Nat × ByteArray)
  wr : Nat
/-- What is told of a deed. -/
structure Ans where
  text : ByteArray
  at_ : Nat
  many : Nat
  err : Int
def Ans.no (e : Int) : Ans := ⟨ByteArray.empty, 0, 0, e⟩

namespace Sto
def ups (σ : Sto) : List Nat := (List.range σ.N).filter fun i => !σ.down i
theorem ups_lt {σ : Sto} {i : Nat} (h : i ∈ σ.ups) : i < σ.N := List.mem_range.1 (List.mem_filter.1 h).1
theorem ups_up {σ : Sto} {i : Nat} (h : i ∈ σ.ups) : σ.down i = false := by simpa using (List.mem_filter.1 h).2
theorem mem_ups {σ : Sto} {i : Nat} : i ∈ σ.ups ↔ i < σ.N ∧ σ.down i = false := by simp [ups]
theorem ups_nodup (σ : Sto) : σ.ups.Nodup := List.Nodup.sublist List.filter_sublist List.nodup_range
theorem ups_le (σ : Sto) : σ.ups.length ≤ σ.N := by
  have := List.length_filter_le (fun i => !σ.down i) (List.range σ.N)
  simpa [ups] using this
def splitE (σ : Sto) (s : ByteArray) : Int := if 60 < s.size then 2 else if σ.ups.length < σ.W then 9 else if σ.wr = 1000000 then 11 else 0
def pce (σ : Sto) (s : ByteArray) (i : Nat) : ByteArray := (splitL s σ.K σ.N).getD i ByteArray.empty
/-- What the nodes keep, after a put at those listed. -/
def putK (σ : Sto) (key : Nat) (s : ByteArray) (l : List Nat) : Nat → Nat → List (Nat × ByteArray) := fun i k => if k = key ∧ i ∈ l then [(σ.wr + 1, σ.pce s i)] else σ.kept i k
def putS (σ : Sto) (key : Nat) (s : ByteArray) : Ans × Sto :=
  if σ.splitE s ≠ 0 then (Ans.no (σ.splitE s), σ) else (⟨ByteArray.empty, σ.wr + 1, 0, 0⟩, { σ with wr := σ.wr + 1, kept := σ.putK key s σ.ups })
def tornK (σ : Sto) (key : Nat) (s : ByteArray) (l : List Nat) : Nat → Nat → List (Nat × ByteArray) := fun i k => if k = key ∧ i ∈ l then σ.kept i k ++ [(σ.wr + 1, σ.pce s i)] else σ.kept i k
def tornE (σ : Sto) (key : Nat) (n : Int) (s : ByteArray) : Int :=
  if σ.splitE s ≠ 0 then σ.splitE s else if n < 0 ∨ (σ.ups.length : Int) < n then 1 else if (σ.ups.take n.toNat).any (fun i => decide (8 ≤ (σ.kept i key).length)) then 11 else 0
def tornS (σ : Sto) (key : Nat) (n : Int) (s : ByteArray) : Ans × Sto :=
  if σ.tornE key n s ≠ 0 then (Ans.no (σ.tornE key n s), σ) else (⟨ByteArray.empty, σ.wr + 1, 0, 0⟩, { σ with wr := σ.wr + 1, kept := σ.tornK key s (σ.ups.take n.toNat) })
def findP (l : List (Nat × ByteArray)) (at_ : Nat) : ByteArray := ((l.find? fun e => e.1 == at_).map (·.2)).getD ByteArray.empty
def stampsOf (σ : Sto) (key : Nat) (l : List Nat) : List Nat := l.flatMap fun i => (σ.kept i key).map (·.1)
def stamps (σ : Sto) (key : Nat) : List Nat := σ.stampsOf key σ.ups
def colS (σ : Sto) (key at_ : Nat) : List ByteArray := (List.range σ.N).map fun i => if σ.down i then ByteArray.empty else findP (σ.kept i key) at_
def newStep (σ : Sto) (key : Nat) (b : Option (Nat × ByteArray)) (at_ : Nat) : Option (Nat × ByteArray) :=
  if (match b with | some (t, _) => decide (at_ ≤ t) | none => false) then b else if joinErr (σ.colS key at_) (σ.K : Int) = 0 then some (at_, strN (joinText (σ.colS key at_) σ.K)) else b
def newestOf (σ : Sto) (key : Nat) (l : List Nat) : Option (Nat × ByteArray) := l.foldl (σ.newStep key) none
def newest (σ : Sto) (key : Nat) : Option (Nat × ByteArray) := σ.newestOf key (σ.stamps key)
def nextK (l : List (Nat × ByteArray)) (right : Nat × ByteArray) : List (Nat × ByteArray) := right :: l.filter fun e => decide (right.1 < e.1)
def readK (σ : Sto) (key at_ : Nat) (s : ByteArray) (l : List Nat) : Nat → Nat → List (Nat × ByteArray) := fun i k => if k = key ∧ i ∈ l then nextK (σ.kept i k) (at_, σ.pce s i) else σ.kept i k
/-- Which nodes are mended. -/
def wrong (σ : Sto) (key at_ : Nat) (s : ByteArray) (i : Nat) : Bool := !(σ.kept i key).any fun e => decide (e = (at_, σ.pce s i))
def readE (σ : Sto) (key : Nat) : Int := if σ.ups.length < σ.R ∨ σ.ups.length < σ.W then 9 else if (σ.newest key).isNone then 4 else 0
def readAt (σ : Sto) (key : Nat) : Nat := ((σ.newest key).map (·.1)).getD 0
def readText (σ : Sto) (key : Nat) : ByteArray := ((σ.newest key).map (·.2)).getD ByteArray.empty
def readMany (σ : Sto) (key : Nat) : Nat := (σ.ups.filter (σ.wrong key (σ.readAt key) (σ.readText key))).length
def readT (σ : Sto) (key : Nat) : Sto := { σ with kept := σ.readK key (σ.readAt key) (σ.readText key) σ.ups }
def getS (σ : Sto) (key : Nat) : Ans × Sto := if σ.readE key ≠ 0 then (Ans.no (σ.readE key), σ) else (⟨σ.readText key, σ.readAt key, 0, 0⟩, σ.readT key)
def scrubS (σ : Sto) (key : Nat) : Ans × Sto := if σ.readE key ≠ 0 then (Ans.no (σ.readE key), σ) else (⟨ByteArray.empty, 0, σ.readMany key, 0⟩, σ.readT key)
/-- A piece whose first byte is turned. -/
def rotP (s : ByteArray) : ByteArray := strN (((List.range s.size).map (sby s)).set 0 (sby s 0 ^^^ 1))
def rotL (l : List (Nat × ByteArray)) : List (Nat × ByteArray) := l.set (l.length - 1) ((l.getD (l.length - 1) (0, ByteArray.empty)).1, rotP (l.getD (l.length - 1) (0, ByteArray.empty)).2)
def rotK (σ : Sto) (n key : Nat) : Nat → Nat → List (Nat × ByteArray) := fun i k => if i = n ∧ k = key then rotL (σ.kept i k) else σ.kept i k
def isKey (key : Int) : Prop := 0 ≤ key ∧ key < 3
instance (key : Int) : Decidable (isKey key) := by unfold isKey; exact inferInstance
def isNode (σ : Sto) (n : Int) : Prop := 0 ≤ n ∧ n < σ.N
instance (σ : Sto) (n : Int) : Decidable (σ.isNode n) := by unfold isNode; exact inferInstance
def atS (σ : Sto) (kind key n : Int) : Ans × Sto :=
  if ¬ σ.isNode n then (Ans.no 1, σ)
  else if kind = 4 then (Ans.no 0, { σ with down := fun i => if i = n.toNat then true else σ.down i })
  else if kind = 5 then (Ans.no 0, { σ with down := fun i => if i = n.toNat then false else σ.down i })
  else if kind = 6 then (Ans.no 0, { σ with kept := fun i k => if i = n.toNat then [] else σ.kept i k })
  else if (σ.kept n.toNat key.toNat) = [] then (Ans.no 4, σ) else (Ans.no 0, { σ with kept := σ.rotK n.toNat key.toNat })
def keyed (kind : Int) : Prop := kind ≤ 3 ∨ kind = 8 ∨ kind = 7
instance (kind : Int) : Decidable (keyed kind) := by unfold keyed; exact inferInstance
def doS (σ : Sto) (kind key n : Int) (s : ByteArray) : Ans × Sto :=
  if kind < 1 ∨ 8 < kind ∨ (keyed kind ∧ ¬ isKey key) then (Ans.no 1, σ)
  else if kind = 1 then σ.putS key.toNat s
  else if kind = 2 then σ.tornS key.toNat n s
  else if kind = 3 then σ.getS key.toNat
  else if kind = 8 then σ.scrubS key.toNat
  else σ.atS kind key n
def new (N K W R : Nat) : Sto := ⟨N, K, W, R, fun _ => false, fun _ _ => [], 0⟩

/-! ### What always holds -/
/-- A piece as it was made, or with its first byte turned. -/
def Pce (σ : Sto) (s : ByteArray) (i : Nat) (p : ByteArray) : Prop := p = σ.pce s i ∨ p = rotP (σ.pce s i)
structure Ok (σ : Sto) (H : Nat → Nat × ByteArray) : Prop where
  k1 : 1 ≤ σ.K
  kn : σ.K ≤ σ.N
  n10 : σ.N ≤ 10
  w1 : 1 ≤ σ.W
  wn : σ.W ≤ σ.N
  r1 : 1 ≤ σ.R
  rn : σ.R ≤ σ.N
  meet : σ.N + σ.K ≤ σ.W + σ.R
  few : σ.wr ≤ 1000000
  small : ∀ t, 1 ≤ t → t ≤ σ.wr → (H t).2.size ≤ 60
  true_ : ∀ i k e, i < σ.N → k < 3 → e ∈ σ.kept i k → 1 ≤ e.1 ∧ e.1 ≤ σ.wr ∧ (H e.1).1 = k ∧ σ.Pce (H e.1).2 i e.2
  once : ∀ i k, i < σ.N → k < 3 → ((σ.kept i k).map (·.1)).Nodup
end Sto
end Go.Proofs.Ythmmofalepckgaa
