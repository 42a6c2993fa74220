/-
  Slices of slices of the call's own: 'Rack w0 W g n vs K xs': the n headers at block g are vs; each is a slice of the call's own that holds the numbers xs j; append to one of them. append of whatever row.
-/
import Derived.Test.YtekkghhihnnpjaaDoorApp
import Derived.Test.YtekkghhihnnpjaaDoorMake
import Derived.Deep.AppendSrc
import Derived.Deep.Upon
set_option linter.unusedVariables false
set_option linter.unusedSimpArgs false
namespace Go.Proofs.YtekkghhihnnpjaaDoor
open Go.RowKit

/-- The walk stops here. -/
def Stop (p : Prop) : Prop := p
theorem stop {p : Prop} (h : Stop p) : p := h
/-- What several ways come to is shown once. -/
theorem share {p q : Prop} (h1 : p → q) (h2 : p) : q := h1 h2
/-- append of a row, which may be empty or nil, to a slice of the call's own. -/
theorem wpList_app_any {P : Program} {ops : Array Oper} {rest : List Oper} {o : Oper} {a : Act} {w : World} {Q : Exit → Act → World → Prop} (hgd : o.guard = none) (s x : Operand) (t : TypeId)
    (ho : o.op = .call { callee := .builtin .append, args := #[s, x], argTypes := #[t, t] }) (e : TypeId) {z : Value} {size bytes : Nat} (hI : EInfo P t e z size bytes) (base : Nat)
    (v : Value) (n : Nat) (xs : List Value) (hs : a.eval s = v) (hown : w.ownsRow base e size v n xs) (A : Option Addr) (m c : Nat) (news : List Value) (hx : a.eval x = .slice A m c) (R : Row w A m size news)
    (h1 : news.all (fun u => u.oneCell') = true) (hb : (n + m) * bytes ≤ 140737488355328 ∧ n + m ≤ 9223372036854775807) (hbase : base ≤ w.heap.size)
    (h : ∀ v' w', w'.ownsRow base e size v' (n + m) (xs ++ news) → w.grownBy w' v.ownBlock → (v'.ownBlock = v.ownBlock ∨ v'.ownBlock = some w.heap.size) → wpList P ops Q rest (a.put o.dst v') w') :
    wpList P ops Q (o :: rest) a w := by
  obtain ⟨ht, ⟨i, hi, hz, hsz, hby⟩, hzs, hsz0⟩ := hI
  by_cases hm : m = 0
  · subst hm
    have hnil : news = [] := R.empty
    subst hnil
    refine wpList_plain hgd fun K hK => ?_
    have hsrc : Src P i.size t (.slice A 0 c) 0 [] w := by
      cases A with
      | none => exact Src.ofNil w ht c
      | some ad => exact Src.ofSlice w ht ad 0 c [] (by simp) (fun j u hj => by simp at hj) (fun u hu => by simp at hu)
    obtain ⟨bs, sl, sc, hv, hle⟩ : ∃ bs sl sc, v = .slice bs sl sc ∧ sl ≤ sc := by
      rcases hown.2 with ⟨h2, -⟩ | ⟨g, cap, cur, h2, -, -, h3, -⟩
      · exact ⟨none, 0, 0, h2, Nat.le_refl _⟩
      · exact ⟨_, _, _, h2, h3⟩
    have hr := run_append_nothing (P := P) w t t o.type e i ht hi bs sl sc hle (.slice A 0 c) hsrc
    unfold Oper.wp execOp
    rw [hv] at hs
    simp only [ho, resolve, invoke, builtin, Sem.run_bind, Sem.run_pure, Result.andThen_ok, List.map_toArray, List.map_cons, List.map_nil, hs, hx, hr]
    refine hK _ _ (h _ w ?_ (World.grownBy.refl w _) (.inl (by rw [hv])))
    rw [Nat.add_zero, List.append_nil, ← hv]
    exact hown
  · obtain ⟨b, off, rfl, hbl, hc⟩ := R.2 (by omega)
    refine wpList_append_own_at _ hgd s x t ho base e i z size bytes ht hi hz hsz hby hzs hsz0 v n xs hs hown ⟨b, off, none⟩ m c news hx R.1 ?_ (fun u hu => List.all_eq_true.1 h1 u hu) (by unfold maxLen; omega) (by omega) hbase fun v' w' h1 h2 _ h3 => h v' w' h1 h2 h3
    intro j u hj
    have hlt : j < m * size := by rw [← R.1]; exact (List.getElem?_eq_some_iff.1 hj).1
    have : (⟨b, off, none⟩ : Addr).add j = ⟨b, off + j, none⟩ := by
      unfold Addr.add
      split
      · rename_i h0; simp [h0]
      · rfl
    rw [this, hc j hlt, hj]

def upv {α : Type} (f : Nat → α) (j : Nat) (x : α) : Nat → α := fun i => if i = j then x else f i
theorem upv_same {α : Type} (f : Nat → α) (j : Nat) (x : α) : upv f j x j = x := if_pos rfl
theorem upv_ne {α : Type} (f : Nat → α) {i j : Nat} (x : α) (h : i ≠ j) : upv f j x i = f i := if_neg h

/-- Slices of slices of numbers. -/
structure Rack (K : IntKind) (e : TypeId) (w0 W : World) (g n : Nat) (vs : Nat → Value) (xs : Nat → List Nat) : Prop where
  ext : Ext w0 W
  lo : w0.heap.size ≤ g
  hi : g < W.heap.size
  cell : ∀ j, j < n → W.cell? ⟨g, j, none⟩ = some (vs j)
  open_ : ∀ j, j < n → W.frozen? ⟨g, j, none⟩ = false
  own : ∀ j, j < n → W.ownsRow w0.heap.size e 1 (vs j) (xs j).length (nats K (xs j))
  off : ∀ j, j < n → (vs j).ownBlock ≠ some g
  apart : ∀ i j, i < n → j < n → i ≠ j → ∀ b, (vs i).ownBlock = some b → (vs j).ownBlock ≠ some b
section
variable {K : IntKind} {e : TypeId} {w0 W W' : World} {g n : Nat} {vs : Nat → Value} {xs : Nat → List Nat}
theorem Rack.keep (T : Rack K e w0 W g n vs xs) (E : Ext W W') : Rack K e w0 W' g n vs xs where
  ext := T.ext.trans E
  lo := T.lo
  hi := Nat.lt_of_lt_of_le T.hi E.size
  cell j hj := (E.cell (p := ⟨g, j, none⟩) T.hi).trans (T.cell j hj)
  open_ j hj := (E.frozen (p := ⟨g, j, none⟩) T.hi).trans (T.open_ j hj)
  own j hj := row_ext (T.own j hj) E
  off := T.off
  apart := T.apart
/-- Nothing in any of them. -/
theorem Rack.start {w0 W' : World} {g n : Nat} (E : Ext w0 W') (lo : w0.heap.size ≤ g) (hi : g < W'.heap.size) (cell : ∀ j, j < n → W'.cell? ⟨g, j, none⟩ = some (.slice none 0 0)) (op : ∀ j, j < n → W'.frozen? ⟨g, j, none⟩ = false) :
    Rack K e w0 W' g n (fun _ => .slice none 0 0) (fun _ => []) where
  ext := E
  lo := lo
  hi := hi
  cell := cell
  open_ := op
  own _ _ := World.ownsRow_nil _ _ _ _
  off _ _ h := by cases h
  apart _ _ _ _ _ _ h := by cases h
/-- One of them turns, in its own row or into a new block; and its header is stored. -/
theorem Rack.turn (T : Rack K e w0 W g n vs xs) {i : Nat} (hi : i < n) {v' : Value} {ys : List Nat} (hown : W'.ownsRow w0.heap.size e 1 v' ys.length (nats K ys)) (hg : W.grownBy W' (vs i).ownBlock)
    (hat : v'.ownBlock = (vs i).ownBlock ∨ ∃ k, v'.ownBlock = some k ∧ W.heap.size ≤ k) : Rack K e w0 (W'.setCell ⟨g, i, none⟩ v') g n (upv vs i v') (upv xs i ys) := by
  have hE : Ext w0 W' := T.ext.grown hg fun k hk => ((T.own i hi).lt k hk).1
  have hs := hg.size
  have hgb : W'.heap[g]? = W.heap[g]? := hg.block g T.hi fun e => T.off i hi e.symm
  have hcell : ∀ j, W'.cell? ⟨g, j, none⟩ = W.cell? ⟨g, j, none⟩ := fun j => World.cell?_of_block (a := ⟨g, j, none⟩) hgb
  have hfro : ∀ j, W'.frozen? ⟨g, j, none⟩ = W.frozen? ⟨g, j, none⟩ := fun j => by unfold World.frozen?; rw [hgb]
  have hvg : v'.ownBlock ≠ some g := by
    rcases hat with h | ⟨k, h, hk⟩
    · rw [h]; exact T.off i hi
    · rw [h]; intro e; injection e with e; have := T.hi; omega
  have set_own : ∀ {v : Value} {l : List Nat}, v.ownBlock ≠ some g → W'.ownsRow w0.heap.size e 1 v l.length (nats K l) → (W'.setCell ⟨g, i, none⟩ v').ownsRow w0.heap.size e 1 v l.length (nats K l) := by
    intro v l hne h
    obtain ⟨h1, h2⟩ := h
    refine ⟨h1, ?_⟩
    rcases h2 with h2 | ⟨b, cap, cur, rfl, hb, hh, r⟩
    · exact .inl h2
    · refine .inr ⟨b, cap, cur, rfl, hb, ?_, r⟩
      have hbg : b ≠ g := fun e => hne (by rw [e]; rfl)
      rw [← hh]
      simp only [World.setCell]
      rw [Array.getElem?_modify, if_neg (fun e => hbg e.symm)]
  exact {
    ext := hE.setCell (by have := T.lo; exact this) _
    lo := T.lo
    hi := by have := T.hi; simp; omega
    cell := fun j hj => by
      by_cases c : j = i
      · subst c
        rw [upv_same]
        exact World.cell?_setCell_same' _ _ _ (by rw [hcell, T.cell j hj]; rfl)
      · rw [upv_ne _ _ c, World.cell?_setCell_other _ _ _ _ (by intro e; injection e with _ e; exact c e.symm), hcell]
        exact T.cell j hj
    open_ := fun j hj => by rw [World.frozen?_setCell, hfro]; exact T.open_ j hj
    own := fun j hj => by
      by_cases c : j = i
      · subst c
        rw [upv_same, upv_same]
        exact set_own hvg hown
      · rw [upv_ne _ _ c, upv_ne _ _ c]
        refine set_own (T.off j hj) ?_
        obtain ⟨h1, h2⟩ := T.own j hj
        refine ⟨h1, ?_⟩
        rcases h2 with h2 | ⟨b, cap, cur, hv, hb, hh, r⟩
        · exact .inl h2
        · refine .inr ⟨b, cap, cur, hv, hb, ?_, r⟩
          have hob : (vs j).ownBlock = some b := by rw [hv]; rfl
          rw [hg.block b ((T.own j hj).lt b hob).2 (fun e2 => T.apart j i hj hi c b hob e2.symm)]
          exact hh
    off := fun j hj => by
      by_cases c : j = i
      · subst c; rw [upv_same]; exact hvg
      · rw [upv_ne _ _ c]; exact T.off j hj
    apart := fun a b ha hb hab k hk => by
      have new : ∀ j, j < n → j ≠ i → ∀ k, (vs j).ownBlock = some k → v'.ownBlock ≠ some k := fun j hj hne k hk hk' => by
        rcases hat with h | ⟨q, h, hq⟩
        · rw [h] at hk'; exact T.apart j i hj hi hne k hk hk'
        · rw [h] at hk'; injection hk' with hk'
          have := ((T.own j hj).lt k hk).2
          omega
      by_cases c : a = i
      · subst c
        rw [upv_same] at hk
        rw [upv_ne _ _ (Ne.symm hab)]
        exact fun h => new b hb (Ne.symm hab) k h hk
      · rw [upv_ne _ _ c] at hk
        by_cases d : b = i
        · subst d; rw [upv_same]; exact new a ha c k hk
        · rw [upv_ne _ _ d]; exact T.apart a b ha hb hab k hk }
end
end Go.Proofs.YtekkghhihnnpjaaDoor
