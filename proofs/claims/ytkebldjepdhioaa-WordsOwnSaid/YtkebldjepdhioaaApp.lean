/-
  append to a row of the call's own, and make, as single facts.
-/
import Derived.Test.YtkebldjepdhioaaMem
import Derived.Maps.AppendAt
import Derived.Laws.MakeOwn
import Derived.OwnWalk
import Derived.RegionTactic
set_option linter.unusedVariables false
set_option linter.unusedSimpArgs false
namespace Go.Proofs.Ytkebldjepdhioaa
open Go.RowKit

/-- What the program's table says of a slice type and its elements. -/
def EInfo (P : Program) (t e : TypeId) (z : Value) (size bytes : Nat) : Prop :=
  P.underlying t = some (.slice e) ∧ (∃ i, P.info? e = some i ∧ i.zero = some z ∧ i.size = size ∧ i.bytes = bytes) ∧ z.cells.size = size ∧ 0 < size

theorem EInfo.mk_ {P : Program} {t e : TypeId} {z : Value} {size bytes : Nat} (h1 : P.underlying t = some (.slice e)) (h2 : (P.info? e).map (fun i => (i.zero, i.size, i.bytes)) = some (some z, size, bytes)) (h3 : z.cells.size = size) (h4 : 0 < size) : EInfo P t e z size bytes := by
  obtain ⟨i, hi, a, b, c⟩ := info_parts h2
  exact ⟨h1, ⟨i, hi, a, b, c⟩, h3, h4⟩

theorem wpList_app {P : Program} {ops : Array Oper} {rest : List Oper} {o : Oper} {a : Act} {Q : Exit → Act → World → Prop} (hgd : o.guard = none) (s x : Operand) (t : TypeId)
    (ho : o.op = .call { callee := .builtin .append, args := #[s, x], argTypes := #[t, t] }) (e : TypeId) {z : Value} {size bytes : Nat} (hI : EInfo P t e z size bytes)
    {W0 w : World} (E : Ext W0 w) (cs : Array Value) (v : Value) (n : Nat) (xs : List Value) (hs : a.eval s = v) (hown : w.ownsRow W0.heap.size e size v n xs)
    (m c : Nat) (hx : a.eval x = .slice (some ⟨w.heap.size, 0, none⟩) m c) (hl : cs.size = m * size) (h1 : cs.toList.all (fun u => u.oneCell') = true)
    (hb : (n + m) * bytes ≤ 140737488355328 ∧ n + m ≤ 9223372036854775807)
    (h : ∀ v' w', w'.ownsRow W0.heap.size e size v' (n + m) (xs ++ cs.toList) → Ext W0 w' → (w.alloc (.cells cs e)).grownBy w' v.ownBlock → wpList P ops Q rest (a.put o.dst v') w') :
    wpList P ops Q (o :: rest) a (w.alloc (.cells cs e)) := by
  obtain ⟨ht, ⟨i, hi, hz, hsz, hby⟩, hzs, hsz0⟩ := hI
  have hsize := E.size
  refine wpList_append_own _ hgd s x t ho W0.heap.size e i z size bytes ht hi hz hsz hby hzs hsz0 v n xs hs (hown.alloc _) ⟨w.heap.size, 0, none⟩ m c cs.toList hx (by simpa using hl) ?_ (fun u hu => List.all_eq_true.1 h1 u hu) (by unfold maxLen; omega) (by omega) (by simp; omega) ?_
  · intro j u hj
    have : (⟨w.heap.size, 0, none⟩ : Addr).add j = ⟨w.heap.size, j, none⟩ := by
      unfold Addr.add
      split
      · rename_i h0; simp [h0]
      · simp
    rw [this, show (w.alloc (.cells cs e)).cell? ⟨w.heap.size, j, none⟩ = cs[j]? by simp, ← Array.getElem?_toList]
    exact hj
  · intro v' w' hown' hg _
    exact h v' w' hown' ((E.alloc _).grown hg (fun k hk => (hown.lt k hk).1)) hg

/-- From the world wo on, where the row v0 stood, only v0's block and new ones have turned; and v lies in one of those. -/
def OutOf (wo : World) (v0 : Value) (wi : World) (v : Value) : Prop := wo.grownBy wi v0.ownBlock ∧ (v.ownBlock = v0.ownBlock ∨ ∃ k, v.ownBlock = some k ∧ wo.heap.size ≤ k)
theorem OutOf.refl (w : World) (v : Value) : OutOf w v w v := ⟨World.grownBy.refl w _, .inl rfl⟩
theorem OutOf.step {wo wi w' : World} {v0 v v' : Value} {o : Obj} (h : OutOf wo v0 wi v) (hg : (wi.alloc o).grownBy w' v.ownBlock) (hv : v'.ownBlock = v.ownBlock ∨ v'.ownBlock = some (wi.alloc o).heap.size) : OutOf wo v0 w' v' := by
  obtain ⟨h1, h2⟩ := h
  have hs := h1.size
  have hs2 := hg.size
  have e : (wi.alloc o).heap.size = wi.heap.size + 1 := by simp
  refine ⟨⟨hg.os.trans h1.os, hg.tape.trans h1.tape, hg.output.trans h1.output, by omega, fun k hk hne => ?_⟩, ?_⟩
  · have hne2 : some k ≠ v.ownBlock := by
      rcases h2 with h2 | ⟨j, h2, hj⟩
      · rw [h2]; exact hne
      · rw [h2]; intro e; injection e with e; omega
    rw [hg.block k (by omega) hne2, Below.heap_alloc _ _ _ (by omega)]
    exact h1.block k hk hne
  · rcases hv with hv | hv
    · rw [hv]; exact h2
    · exact .inr ⟨_, hv, by omega⟩
theorem OutOf.cell {wo wi : World} {v0 v : Value} (h : OutOf wo v0 wi v) {a : Addr} (ha : a.block < wo.heap.size) (hne : v0.ownBlock ≠ some a.block) : wi.cell? a = wo.cell? a :=
  World.cell?_of_block (h.1.block a.block ha (fun e => hne e.symm))
theorem OutOf.row {wo wi : World} {v0 v : Value} (h : OutOf wo v0 wi v) {A : Option Addr} {n sz : Nat} {xs : List Value} (R : Row wo A n sz xs) (hne : ∀ b o, A = some ⟨b, o, none⟩ → v0.ownBlock ≠ some b) : Row wi A n sz xs :=
  R.grown h.1 hne
theorem OutOf.trans_ {wo wi wj : World} {v0 v u : Value} (h : OutOf wo v0 wi v) (k : OutOf wi v wj u) : OutOf wo v0 wj u := by
  obtain ⟨h1, h2⟩ := h
  obtain ⟨k1, k2⟩ := k
  have hs := h1.size
  have hs2 := k1.size
  refine ⟨⟨k1.os.trans h1.os, k1.tape.trans h1.tape, k1.output.trans h1.output, by omega, fun b hb hne => ?_⟩, ?_⟩
  · have hne2 : some b ≠ v.ownBlock := by
      rcases h2 with h2 | ⟨j, h2, hj⟩
      · rw [h2]; exact hne
      · rw [h2]; intro e; injection e with e; omega
    rw [k1.block b (by omega) hne2]
    exact h1.block b hb hne
  · rcases k2 with k2 | ⟨j, k2, hj⟩
    · rw [k2]; exact h2
    · exact .inr ⟨j, k2, by omega⟩

theorem wpList_apx {P : Program} {ops : Array Oper} {rest : List Oper} {o : Oper} {a : Act} {Q : Exit → Act → World → Prop} (hgd : o.guard = none) (s x : Operand) (t : TypeId)
    (ho : o.op = .call { callee := .builtin .append, args := #[s, x], argTypes := #[t, t] }) (e : TypeId) {z : Value} {size bytes : Nat} (hI : EInfo P t e z size bytes)
    {W0 w : World} (E : Ext W0 w) (cs : Array Value) (v : Value) (n : Nat) (xs : List Value) (hs : a.eval s = v) (hown : w.ownsRow W0.heap.size e size v n xs)
    (m c : Nat) (hx : a.eval x = .slice (some ⟨w.heap.size, 0, none⟩) m c) (hl : cs.size = m * size) (h1 : cs.toList.all (fun u => u.oneCell') = true)
    (hb : (n + m) * bytes ≤ 140737488355328 ∧ n + m ≤ 9223372036854775807) {wo : World} {v0 : Value} (hO : OutOf wo v0 w v)
    (h : ∀ v' w', w'.ownsRow W0.heap.size e size v' (n + m) (xs ++ cs.toList) → Ext W0 w' → OutOf wo v0 w' v' → wpList P ops Q rest (a.put o.dst v') w') :
    wpList P ops Q (o :: rest) a (w.alloc (.cells cs e)) := by
  obtain ⟨ht, ⟨i, hi, hz, hsz, hby⟩, hzs, hsz0⟩ := hI
  have hsize := E.size
  refine wpList_append_own_at _ hgd s x t ho W0.heap.size e i z size bytes ht hi hz hsz hby hzs hsz0 v n xs hs (hown.alloc _) ⟨w.heap.size, 0, none⟩ m c cs.toList hx (by simpa using hl) ?_ (fun u hu => List.all_eq_true.1 h1 u hu) (by unfold maxLen; omega) (by omega) (by simp; omega) ?_
  · intro j u hj
    have : (⟨w.heap.size, 0, none⟩ : Addr).add j = ⟨w.heap.size, j, none⟩ := by
      unfold Addr.add
      split
      · rename_i h0; simp [h0]
      · simp
    rw [this, show (w.alloc (.cells cs e)).cell? ⟨w.heap.size, j, none⟩ = cs[j]? by simp, ← Array.getElem?_toList]
    exact hj
  · intro v' w' hown' hg _ hat
    exact h v' w' hown' ((E.alloc _).grown hg (fun k hk => (hown.lt k hk).1)) (hO.step hg hat)

theorem make_run {P : Program} {t e : TypeId} {z : Value} {size bytes : Nat} (hI : EInfo P t e z size bytes) (n c : Nat) (hnc : n ≤ c) (hb : bytes * c ≤ 281474976710656) (h63 : c ≤ 9223372036854775807) (w : World) :
    (Instr.makeSlice t (.int .i64 (n : Int)) (.int .i64 (c : Int))).run P w = .ok (.slice (some ⟨w.heap.size, 0, none⟩) n c) (w.alloc (.cells (madeCells z.cells (c * size)) e)) := by
  obtain ⟨ht, ⟨i, hi, hz, hsz, hby⟩, -, -⟩ := hI
  subst hsz; subst hby
  have hb' : (i.bytes : Int) * (c : Int) ≤ 281474976710656 := by
    have h : ((i.bytes * c : Nat) : Int) ≤ 281474976710656 := by omega
    rwa [Int.natCast_mul] at h
  have hr := run_make (P := P) w t e i z ht hi hz .i64 .i64 n c (by omega) (by omega) hb' (by omega)
  simp only [Int.toNat_natCast] at hr
  exact hr
theorem make_run0 {P : Program} {t e : TypeId} {z : Value} {size bytes : Nat} (hI : EInfo P t e z size bytes) (c : Nat) (hb : bytes * c ≤ 281474976710656) (h63 : c ≤ 9223372036854775807) (w : World) :
    (Instr.makeSlice t (.int .i64 0) (.int .i64 (c : Int))).run P w = .ok (.slice (some ⟨w.heap.size, 0, none⟩) 0 c) (w.alloc (.cells (madeCells z.cells (c * size)) e)) := make_run hI 0 c (Nat.zero_le _) hb h63 w
theorem made_size (z : Array Value) (n : Nat) : (madeCells z n).size = n := by simp [madeCells]

end Go.Proofs.Ytkebldjepdhioaa
