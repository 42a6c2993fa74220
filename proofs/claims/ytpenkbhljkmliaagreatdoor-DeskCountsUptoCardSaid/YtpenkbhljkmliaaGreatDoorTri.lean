import Derived.Test.YtpenkbhljkmliaaGreatDoorRows
import Derived.WalkKit
import Derived.WalkSpells
import Derived.WalkLawsBesides
import Derived.ProofKit
import Derived.OpenShut
import Derived.Handy
import Derived.Deep.QuietTactic
import Derived.BigQuiet
import Derived.Deep.RegionHeld3
import Derived.Maps.AppendAt
import Derived.Deep.AppendLies
import Derived.Laws.MakeOwn
import Derived.OwnWalk
import Derived.RegionTactic
import Derived.Deep.AppendSrc
import Derived.Deep.Upon
/-
  Small tools that all walks of this seat use: the relation Ext (the world has only new blocks), and the row's last step over it.
-/
set_option linter.unusedVariables false
set_option linter.unusedSimpArgs false
namespace Go.Proofs.YtpenkbhljkmliaaGreatDoor
open Go.RowKit

theorem hide {p : Prop} (h : p) : Hid p := h
theorem unhide {p : Prop} (h : Hid p) : p := h

/-- The world has at most new blocks: whatever lay there lies there unchanged. -/
def Ext (w w' : World) : Prop := Below w.heap.size w w'

theorem Ext.refl (w : World) : Ext w w := Below.refl _ _
theorem Ext.trans {a b c : World} (h : Ext a b) (k : Ext b c) : Ext a c := Below.trans h (Below.mono k h.size)
theorem Ext.drew {a w : World} (h : Ext a w) : Ext a w.drew := Below.drew h
theorem below_drewN {B : Nat} {a w : World} (h : Below B a w) (n : Nat) : Below B a (w.drewN n) := ⟨h.os, h.tape, h.output, h.size, h.block⟩
theorem Ext.drewN {a w : World} (h : Ext a w) (n : Nat) : Ext a (w.drewN n) := below_drewN h n
theorem Ext.alloc {a w : World} (h : Ext a w) (o : Obj) : Ext a (w.alloc o) := Below.alloc h h.size o
theorem Ext.setCell {a w : World} (h : Ext a w) {p : Addr} (hp : a.heap.size ≤ p.block) (u : Value) : Ext a (w.setCell p u) := Below.setCell h hp u
theorem Ext.cell {w w' : World} (h : Ext w w') {p : Addr} (hp : p.block < w.heap.size) : w'.cell? p = w.cell? p := Below.cell h hp
theorem Ext.frozen {w w' : World} (h : Ext w w') {p : Addr} (hp : p.block < w.heap.size) : w'.frozen? p = w.frozen? p := Below.frozen h hp
theorem Ext.size {w w' : World} (h : Ext w w') : w.heap.size ≤ w'.heap.size := Below.size h
theorem World.drewN_twice (w : World) (a b : Nat) : ∃ n, (w.drewN a).drewN b = w.drewN n := ⟨_, World.drewN_drewN _ _ _⟩
theorem World.drewN_thrice (w : World) (a b c : Nat) : ∃ n, ((w.drewN a).drewN b).drewN c = w.drewN n := ⟨_, by rw [World.drewN_drewN, World.drewN_drewN]⟩
theorem Ext.of_drewN {w w' : World} (h : ∃ n, w' = w.drewN n) : Ext w w' := by obtain ⟨n, rfl⟩ := h; exact (Ext.refl w).drewN n

open Go.ChangeShapes Go.WideShapes Go.ChangeAt in
section
variable {H : Type} {enc : TypeId × Value → H} {P : Program}
/-- The row's last step: the call left the old world as it was. -/
theorem post_of_ext {f : Func} {s : ChangeSpec} {apart fresh handsOn again : Bool} {W W' : World} {args : Array Value} {v : Value} {ds gs : List (DataW H)} {before pa pv : List MemPlace}
    (hW : DataW.Whole enc P f.params.toList s.vars apart W args.toList ds gs before)
    (hres : ∀ (b : Nat) (sp : Nat → Bool) (hd : Bool), DataW.TrodAll enc P W' b sp hd f.resultTypes.toList (v.resultList f.resultTypes.size) (s.fn H (ds ++ gs)).results [])
    (hargs : ∀ sp : Nat → Bool, (∀ p ∈ before, sp p.block = true) → DataW.TrodAll enc P W' 0 sp true f.params.toList args.toList (s.fn H (ds ++ gs)).args pa)
    (hvars : ∀ sp : Nat → Bool, (∀ p ∈ before, sp p.block = true) → DataW.TrodVars enc P W' sp s.vars (s.fn H (ds ++ gs)).vars pv)
    (hps : before = pa ++ pv) (hb : Ext W W')
    (hok : ∀ (j : Nat) (t : TypeId) (r : Value), f.resultTypes[j]? = some t → (v.resultList f.resultTypes.size)[j]? = some r → Value.okWide P W' .any 0 t r) :
    s.post enc P f apart fresh handsOn again W args v W' := by
  have hb : Below W.heap.size W W' := hb
  have hlt : ∀ p ∈ before, p.block < W.heap.size := fun p hp => hW.lt p hp
  have hold : ∀ p ∈ before, (fun b => decide (b < W.heap.size)) p.block = true := fun p hp => by simpa using hlt p hp
  refine ⟨ds, gs, before, [], pa, pv, hW, hres _ _ _, hargs _ hold, hvars _ hold, World.keptBut_mono (fun p hp => ⟨hp, ?_⟩) (hb.frame (· ∈ before)), fun _ => ?_⟩
  · rw [hps, List.mem_append] at hp
    exact Or.inr hp
  · obtain ⟨_, _, _, _, _, hz, hn⟩ := hW
    refine ⟨hok, _, _, ([] ++ pa) ++ pv, ⟨[] ++ pa, pv, trodAll_append (hargs _ (fun _ _ => rfl)) (hres _ _ _), hvars _ (fun _ _ => rfl), rfl, ?_, ?_⟩, ?_⟩
    · intro b off hp
      have hin : MemPlace.cell b off ∈ before := by rw [hps]; simpa using hp
      rw [hb.frozen (hlt _ hin)]
      exact hz b off hin
    · intro ha
      have := hn ha
      rw [hps] at this
      simpa using this
    · intro p hp _
      rw [hps]
      simpa using hp
end

theorem results_tmp4 {fn : Func} {t u v x : Tmp} (h : fn.results = #[.tmp t, .tmp u, .tmp v, .tmp x]) (tmps : Array Value) (P : Program) (w : World) :
    (results fn tmps).run P w = .ok (.tuple #[tmps.getD t undef, tmps.getD u undef, tmps.getD v undef, tmps.getD x undef]) w := by simp [results, h]
theorem quiet_add {P : Program} {f : FuncId} {args : Array Value} {w : World} {a n : Nat} {v : Value}
    (h : Calls P f args (w.drewN (a + n)) fun e w' => e = .returned v ∧ ∃ m, w' = (w.drewN (a + n)).drewN m) :
    Calls P f args (w.drewN (a + n)) fun e w'' => e = .returned v ∧ ∃ m, w'' = w.drewN (a + m) :=
  h.mono fun _ _ ⟨he, m, hm⟩ => ⟨he, n + m, by rw [hm, World.drewN_drewN, Nat.add_assoc]⟩
/-- A contract over every world that only draws, as a region that draws its order takes it. -/
theorem quiet_in {P : Program} {f : FuncId} {args : Array Value} {v : Value} (h : ∀ W : World, Calls P f args W fun e w' => e = .returned v ∧ ∃ m, w' = W.drewN m) {w : World} {n : Nat} :
    Calls P f args (w.drewN n) fun e w'' => e = .returned v ∧ ∃ m, w'' = w.drewN m := Calls.quiet_of (h _)
theorem quiet_in_add {P : Program} {f : FuncId} {args : Array Value} {v : Value} (h : ∀ W : World, Calls P f args W fun e w' => e = .returned v ∧ ∃ m, w' = W.drewN m) {w : World} {a n : Nat} :
    Calls P f args (w.drewN (a + n)) fun e w'' => e = .returned v ∧ ∃ m, w'' = w.drewN (a + m) := quiet_add (h _)
theorem drew_of_same {P : Program} {f : FuncId} {args : Array Value} {W : World} {v : Value} (h : Calls P f args W fun e w' => e = .returned v ∧ w' = W) :
    Calls P f args W fun e w' => e = .returned v ∧ ∃ m, w' = W.drewN m := h.mono fun _ _ ⟨he, hw⟩ => ⟨he, 0, by rw [hw]; rfl⟩

theorem ret_int {k : IntKind} {a b : Int} (h : a = b) : Ending.returned (.int k a) = .returned (.int k b) := by rw [h]
theorem ret_two {k : IntKind} {a b : Int} {v : Value} (h : a = b) : Ending.returned (.tuple #[.int k a, v]) = .returned (.tuple #[.int k b, v]) := by rw [h]
theorem ret_boolv {b c : Bool} (h : b = c) : Ending.returned (.bool b) = .returned (.bool c) := by rw [h]
theorem ret_bool {b : Bool} (h : b = true) : Ending.returned (.bool b) = .returned (.bool true) := by rw [h]
theorem own : ownKnob Tryz.prog.godebug = none := by kernel_rfl

end Go.Proofs.YtpenkbhljkmliaaGreatDoor

/-
  Worlds that have new blocks besides: written out as 'plus w x', so that the walk reads old cells through them; regions that draw their order whose calls make memory, walked once.
-/
set_option linter.unusedVariables false
set_option linter.unusedSimpArgs false
namespace Go.Proofs.YtpenkbhljkmliaaGreatDoor
open Go.RowKit

/-- The world w with the blocks of x behind its own (and x's count of draws). -/
def plus (w x : World) : World := { w with heap := w.heap ++ x.heap, drawn := x.drawn }

theorem plus_size (w x : World) : (plus w x).heap.size = w.heap.size + x.heap.size := by simp [plus]
theorem plus_block (w x : World) {k : Nat} (h : k < w.heap.size) : (plus w x).heap[k]? = w.heap[k]? := by
  simp [plus, Array.getElem?_append_left h]
theorem plus_ext (w x : World) : Ext w (plus w x) := ⟨rfl, rfl, rfl, by rw [plus_size]; omega, fun k hk => plus_block w x hk⟩
theorem Ext.plus {w w' : World} (h : Ext w w') : ∃ x, w' = plus w x := by
  have h : Below w.heap.size w w' := h
  refine ⟨{ w' with heap := w'.heap.extract w.heap.size w'.heap.size }, ?_⟩
  have hh : w'.heap = w.heap ++ w'.heap.extract w.heap.size w'.heap.size := by
    apply Array.ext_getElem?
    intro k
    rcases Nat.lt_or_ge k w.heap.size with hk | hk
    · rw [Array.getElem?_append_left hk, h.block k hk]
    · rw [Array.getElem?_append_right hk, Array.getElem?_extract]
      have := h.size
      split
      · rw [show w.heap.size + (k - w.heap.size) = k by omega]
      · rw [Array.getElem?_eq_none (by omega)]
  obtain ⟨h1, h2, h3, -, -⟩ := h
  show w' = ({ heap := w.heap ++ w'.heap.extract w.heap.size w'.heap.size, tape := w.tape, drawn := w'.drawn, os := w.os, output := w.output } : World)
  rw [← hh, ← h1, ← h2, ← h3]
theorem plus_cell (w x : World) {a : Addr} (h : a.block < w.heap.size) : (plus w x).cell? a = w.cell? a := (plus_ext w x).cell h
theorem plus_frozen (w x : World) {a : Addr} (h : a.block < w.heap.size) : (plus w x).frozen? a = w.frozen? a := (plus_ext w x).frozen h
theorem plus_cell' (w x : World) {b o : Nat} (h : b < w.heap.size) : (plus w x).cell? ⟨b, o, none⟩ = w.cell? ⟨b, o, none⟩ := plus_cell w x h
theorem plus_frozen' (w x : World) {b o : Nat} (h : b < w.heap.size) : (plus w x).frozen? ⟨b, o, none⟩ = w.frozen? ⟨b, o, none⟩ := plus_frozen w x h
theorem plus_keep {w : World} {a : Addr} {v : Value} (h : w.cell? a = some v) (x : World) : (plus w x).cell? a = some v :=
  (plus_cell w x (World.block_lt_of_cell? w a (by rw [h]))).trans h
theorem plus_keep_frozen {w : World} {a : Addr} {v : Value} (h : w.cell? a = some v) (x : World) : (plus w x).frozen? a = w.frozen? a :=
  plus_frozen w x (World.block_lt_of_cell? w a (by rw [h]))
theorem Ext.keep {w w' : World} (E : Ext w w') {a : Addr} {v : Value} (h : w.cell? a = some v) : w'.cell? a = some v :=
  (E.cell (World.block_lt_of_cell? w a (by rw [h]))).trans h
theorem cell_lt {w : World} {a : Addr} {v : Value} (h : w.cell? a = some v) : a.block < w.heap.size := World.block_lt_of_cell? w a (by rw [h])

/-- A region that draws its order, whose operations only read old cells, or call what at most makes memory: one walk of the text's order serves. -/
theorem wp_region_ext {P : Program} {id : Nat} {Q : Exit → Act → World → Prop} {a : Act} {w : World} {l : List Oper} (hm : P.follows .mixedOrders = true) (hB : Region.lexB .any l.toArray = true)
    (h : wpQuiet P l.toArray (fun W => ∃ x, W = plus w x) (fun a' => ∀ w', (∃ x, w' = plus w x) → Q .normal a' w') l a) : (Code.region id l.toArray true).wp P Q a w := by
  refine wp_region_quiet (C := fun W => ∃ x, W = plus w x) hm hB (Ext.plus (Ext.drew (Ext.refl w))) ?_
  simpa using h
theorem ext_call {P : Program} {f : FuncId} {args : Array Value} {w x : World} {v : Value} (h : Calls P f args (plus w x) fun e w' => e = .returned v ∧ Ext (plus w x) w') :
    Calls P f args (plus w x) fun e w'' => e = .returned v ∧ ∃ m, w'' = plus w m :=
  h.mono fun _ _ ⟨he, hw⟩ => ⟨he, ((plus_ext w x).trans hw).plus⟩
theorem ext_call_quiet {P : Program} {f : FuncId} {args : Array Value} {w x : World} {v : Value} (h : Calls P f args (plus w x) fun e w' => e = .returned v ∧ ∃ n, w' = (plus w x).drewN n) :
    Calls P f args (plus w x) fun e w'' => e = .returned v ∧ ∃ m, w'' = plus w m :=
  ext_call (h.mono fun _ _ ⟨he, hw⟩ => ⟨he, Ext.of_drewN hw⟩)
theorem ext_call_same {P : Program} {f : FuncId} {args : Array Value} {w x : World} {v : Value} (h : Calls P f args (plus w x) fun e w' => e = .returned v ∧ w' = plus w x) :
    Calls P f args (plus w x) fun e w'' => e = .returned v ∧ ∃ m, w'' = plus w m :=
  ext_call (h.mono fun _ _ ⟨he, hw⟩ => ⟨he, by rw [hw]; exact Ext.refl _⟩)

end Go.Proofs.YtpenkbhljkmliaaGreatDoor

/-
  Slices that a call makes and appends to: how they stand over later worlds, and how they are read.
-/
set_option linter.unusedVariables false
set_option linter.unusedSimpArgs false
namespace Go.Proofs.YtpenkbhljkmliaaGreatDoor
open Go.RowKit

section
variable {w w' : World} {base : Nat} {e : TypeId} {size : Nat} {v : Value} {n : Nat} {xs : List Value}

theorem row_below {B : Nat} (h : w.ownsRow base e size v n xs) (hb : Below B w w') (hlt : ∀ k, v.ownBlock = some k → k < B) : w'.ownsRow base e size v n xs := by
  obtain ⟨h1, h2⟩ := h
  refine ⟨h1, ?_⟩
  rcases h2 with h2 | ⟨g, cap, cur, rfl, hg, hh, r⟩
  · exact .inl h2
  · exact .inr ⟨g, cap, cur, rfl, hg, (hb.block g (hlt g rfl)).trans hh, r⟩
theorem row_ext (h : w.ownsRow base e size v n xs) (hx : Ext w w') : w'.ownsRow base e size v n xs := row_below h hx fun k hk => (h.lt k hk).2
theorem row_drewN (h : w.ownsRow base e size v n xs) (k : Nat) : (w.drewN k).ownsRow base e size v n xs := h
theorem Ext.grown {a : World} {row : Option Nat} (h : Ext a w) (hg : w.grownBy w' row) (hr : ∀ k, row = some k → a.heap.size ≤ k) : Ext a w' := Below.grown h hg h.size hr
theorem row_mono {base' : Nat} (h : w.ownsRow base e size v n xs) (hb : base' ≤ base) : w.ownsRow base' e size v n xs := by
  obtain ⟨h1, h2⟩ := h
  refine ⟨h1, ?_⟩
  rcases h2 with h2 | ⟨g, cap, cur, hv, hg, r⟩
  · exact .inl h2
  · exact .inr ⟨g, cap, cur, hv, by omega, r⟩

/-- A row that isn't empty: where it lies. -/
theorem row_open (h : w.ownsRow base e size v n xs) (hn : 0 < n) : ∃ g cap, v = .slice (some ⟨g, 0, none⟩) n cap ∧ base ≤ g ∧ g < w.heap.size ∧ n ≤ cap ∧ cap ≤ maxLen ∧ ∀ j, j < n * size → w.cell? ⟨g, j, none⟩ = xs[j]? := by
  have hc := h
  have hl := h.lt
  obtain ⟨h1, h2⟩ := h
  rcases h2 with ⟨-, h2⟩ | ⟨g, cap, cur, rfl, hg, hh, hnc, hcm, r⟩
  · omega
  · exact ⟨g, cap, rfl, hg, (hl g rfl).2, hnc, hcm, fun j hj => hc.cellAt j hj⟩
end

/-- append to a row of the call's own, as one step of a region that draws its order. -/
theorem step_append_own {P : Program} {ops : Array Oper} {o : Oper} {a : Act} {w : World} {K : Act → World → Prop} {Q : Exit → Act → World → Prop} {E : Prop}
    (hg : o.guard = none) (s x : Operand) (t : TypeId) (ho : o.op = .call { callee := .builtin .append, args := #[s, x], argTypes := #[t, t] })
    (base : Nat) (e : TypeId) (i : TypeInfo) (z : Value) (size bytes : Nat) (ht : P.underlying t = some (.slice e)) (hi : P.info? e = some i) (hz : i.zero = some z)
    (hsize : i.size = size) (hby : i.bytes = bytes) (hzs : z.cells.size = size) (hsz : 0 < size)
    (v : Value) (n : Nat) (xs : List Value) (hs : a.eval s = v) (hown : w.ownsRow base e size v n xs)
    (ad : Addr) (m c : Nat) (news : List Value) (hx : a.eval x = .slice (some ad) m c) (hl : news.length = m * size) (hnews : ∀ j u, news[j]? = some u → w.cell? (ad.add j) = some u) (h1 : ∀ u ∈ news, u.oneCell' = true)
    (h63 : n + m ≤ maxLen) (hbytes : (n + m) * bytes ≤ 140737488355328) (hbase : base ≤ w.heap.size)
    (h : ∀ v' w', w'.ownsRow base e size v' (n + m) (xs ++ news) → w.grownBy w' v.ownBlock → (v' = .slice none 0 0 ↔ v = .slice none 0 0 ∧ m = 0) → K (a.put o.dst v') w') :
    if Region.wanted o (yielded ops a.tmps) = true then Oper.wp P o a w K Q else E := by
  have hw : Region.wanted o (yielded ops a.tmps) = true := by simp [Region.wanted, hg]
  rw [if_pos hw]
  exact wp_append_own w s x t ho base e i z size bytes ht hi hz hsize hby hzs hsz v n xs hs hown ad m c news hx hl hnews h1 h63 hbytes hbase h

/-- A row of numbers. -/
def ints (l : List Int) : List Value := l.map (Value.int .i64)
theorem ints_length (l : List Int) : (ints l).length = l.length := List.length_map _
theorem ints_append (l m : List Int) : ints l ++ ints m = ints (l ++ m) := (List.map_append ..).symm
theorem ints_get (l : List Int) (j : Nat) (h : j < l.length) : (ints l)[j]? = some (.int .i64 (l.getD j 0)) := by
  unfold ints
  rw [List.getElem?_map, List.getD_eq_getElem?_getD, List.getElem?_eq_getElem h]
  rfl

end Go.Proofs.YtpenkbhljkmliaaGreatDoor

/-
  The builtin min of three or four numbers, as one step of a walk.
-/
set_option linter.unusedVariables false
set_option linter.unusedSimpArgs false
namespace Go.Proofs.YtpenkbhljkmliaaGreatDoor
open Go.RowKit

theorem min2_ite (x y : Int) : (if y < x then y else x) = min x y := by
  by_cases h : y < x
  · rw [if_pos h]; omega
  · rw [if_neg h]; omega
theorem wpList_min2 {P : Program} {ops : Array Oper} {rest : List Oper} {o : Oper} {act : Act} {w : World} {Q : Exit → Act → World → Prop} (hgd : o.guard = none) (x1 x2 : Operand) (ts : Array TypeId)
    (ho : o.op = .call { callee := .builtin .min, args := #[x1, x2], argTypes := ts }) (a b : Int) (h1 : act.eval x1 = .int .i64 a) (h2 : act.eval x2 = .int .i64 b) (m : Int) (hm : m = min a b)
    (h : wpList P ops Q rest (act.put o.dst (.int .i64 m)) w) : wpList P ops Q (o :: rest) act w := by
  refine wpList_plain hgd fun K hK => ?_
  have hr : (Builtin.min_ ts o.type #[.int .i64 a, .int .i64 b]).run P w = .ok (.int .i64 m) w := by
    rw [hm, ← min2_ite]; rfl
  unfold Oper.wp execOp
  simp only [ho, resolve, invoke, builtin, Sem.run_bind, Sem.run_pure, Result.andThen_ok, List.map_toArray, List.map_cons, List.map_nil, h1, h2, hr]
  exact hK _ _ h
theorem wpList_min3 {P : Program} {ops : Array Oper} {rest : List Oper} {o : Oper} {act : Act} {w : World} {Q : Exit → Act → World → Prop} (hgd : o.guard = none) (x1 x2 x3 : Operand) (ts : Array TypeId)
    (ho : o.op = .call { callee := .builtin .min, args := #[x1, x2, x3], argTypes := ts }) (a b c : Int) (h1 : act.eval x1 = .int .i64 a) (h2 : act.eval x2 = .int .i64 b) (h3 : act.eval x3 = .int .i64 c) (m : Int) (hm : m = min (min a b) c)
    (h : wpList P ops Q rest (act.put o.dst (.int .i64 m)) w) : wpList P ops Q (o :: rest) act w := by
  refine wpList_plain hgd fun K hK => ?_
  have hr : (Builtin.min_ ts o.type #[.int .i64 a, .int .i64 b, .int .i64 c]).run P w = .ok (.int .i64 m) w := by
    rw [hm, ← min2_ite, ← min2_ite]; rfl
  unfold Oper.wp execOp
  simp only [ho, resolve, invoke, builtin, Sem.run_bind, Sem.run_pure, Result.andThen_ok, List.map_toArray, List.map_cons, List.map_nil, h1, h2, h3, hr]
  exact hK _ _ h
theorem wpList_min4 {P : Program} {ops : Array Oper} {rest : List Oper} {o : Oper} {act : Act} {w : World} {Q : Exit → Act → World → Prop} (hgd : o.guard = none) (x1 x2 x3 x4 : Operand) (ts : Array TypeId)
    (ho : o.op = .call { callee := .builtin .min, args := #[x1, x2, x3, x4], argTypes := ts }) (a b c d : Int) (h1 : act.eval x1 = .int .i64 a) (h2 : act.eval x2 = .int .i64 b) (h3 : act.eval x3 = .int .i64 c) (h4 : act.eval x4 = .int .i64 d) (m : Int) (hm : m = min (min (min a b) c) d)
    (h : wpList P ops Q rest (act.put o.dst (.int .i64 m)) w) : wpList P ops Q (o :: rest) act w := by
  refine wpList_plain hgd fun K hK => ?_
  have hr : (Builtin.min_ ts o.type #[.int .i64 a, .int .i64 b, .int .i64 c, .int .i64 d]).run P w = .ok (.int .i64 m) w := by
    rw [hm, ← min2_ite, ← min2_ite, ← min2_ite]; rfl
  unfold Oper.wp execOp
  simp only [ho, resolve, invoke, builtin, Sem.run_bind, Sem.run_pure, Result.andThen_ok, List.map_toArray, List.map_cons, List.map_nil, h1, h2, h3, h4, hr]
  exact hK _ _ h
end Go.Proofs.YtpenkbhljkmliaaGreatDoor

/-
  Slices that read as lists: 'Row w A n sz xs': the slice at A with n elements (sz cells each) holds the cells xs in the world w. How they stand over later worlds; slices that a call made; lists of numbers and of pairs as cells.
-/
set_option linter.unusedVariables false
set_option linter.unusedSimpArgs false
namespace Go.Proofs.YtpenkbhljkmliaaGreatDoor
open Go.RowKit

def Row (w : World) (A : Option Addr) (n sz : Nat) (xs : List Value) : Prop :=
  xs.length = n * sz ∧ (0 < n → ∃ b o, A = some ⟨b, o, none⟩ ∧ b < w.heap.size ∧ ∀ j, j < n * sz → w.cell? ⟨b, o + j, none⟩ = xs[j]?)

section
variable {w w' : World} {A : Option Addr} {n sz : Nat} {xs : List Value}
theorem Row.none_ : Row w A 0 sz [] := ⟨by simp, fun h => absurd h (by omega)⟩
theorem Row.empty (h : Row w A 0 sz xs) : xs = [] := List.eq_nil_of_length_eq_zero (by simpa using h.1)
theorem Row.keep (h : Row w A n sz xs) (E : Ext w w') : Row w' A n sz xs :=
  ⟨h.1, fun hn => by
    obtain ⟨b, o, hA, hb, hc⟩ := h.2 hn
    exact ⟨b, o, hA, Nat.lt_of_lt_of_le hb E.size, fun j hj => (E.cell (p := ⟨b, o + j, none⟩) hb).trans (hc j hj)⟩⟩
theorem Row.alloc (h : Row w A n sz xs) (o : Obj) : Row (w.alloc o) A n sz xs := h.keep ((Ext.refl w).alloc o)
theorem Row.drewN (h : Row w A n sz xs) (k : Nat) : Row (w.drewN k) A n sz xs := h.keep ((Ext.refl w).drewN k)
theorem Row.grown {row : Option Nat} (h : Row w A n sz xs) (hg : w.grownBy w' row) (hr : ∀ b o, A = some ⟨b, o, none⟩ → row ≠ some b) : Row w' A n sz xs :=
  ⟨h.1, fun hn => by
    obtain ⟨b, o, hA, hb, hc⟩ := h.2 hn
    exact ⟨b, o, hA, Nat.lt_of_lt_of_le hb hg.size, fun j hj => (World.cell?_of_block (a := ⟨b, o + j, none⟩) (hg.block b hb (fun e => hr b o hA e.symm))).trans (hc j hj)⟩⟩
theorem Row.take (h : Row w A n sz xs) {k : Nat} (hk : k ≤ n) : Row w A k sz (xs.take (k * sz)) := by
  have hle : k * sz ≤ n * sz := Nat.mul_le_mul_right sz hk
  refine ⟨by rw [List.length_take, h.1]; omega, fun hn => ?_⟩
  obtain ⟨b, o, hA, hb, hc⟩ := h.2 (by omega)
  exact ⟨b, o, hA, hb, fun j hj => by rw [hc j (by omega), List.getElem?_take_of_lt hj]⟩
theorem Row.drop (h : Row w A n sz xs) {k c : Nat} (hk : k ≤ n) (hc : n ≤ c) : Row w (if c = k then A else A.map (·.add (k * sz))) (n - k) sz (xs.drop (k * sz)) := by
  refine ⟨by rw [List.length_drop, h.1, Nat.sub_mul], fun hn => ?_⟩
  obtain ⟨b, o, rfl, hb, hcell⟩ := h.2 (by omega)
  rw [if_neg (by omega)]
  refine ⟨b, o + k * sz, ?_, hb, fun j hj => ?_⟩
  · simp only [Option.map_some, Option.some.injEq]
    unfold Addr.add
    split
    · rename_i h0; simp [h0]
    · rfl
  · rw [List.getElem?_drop, ← hcell (k * sz + j) (by rw [Nat.sub_mul] at hj; omega), Nat.add_assoc]
/-- What a call made is a row. -/
theorem row_of_own {base e : Nat} {v : Value} (h : w.ownsRow base e sz v n xs) : ∃ A c, v = .slice A n c ∧ Row w A n sz xs ∧ n ≤ c ∧ c ≤ maxLen ∧ (∀ b o, A = some ⟨b, o, none⟩ → base ≤ b ∧ b < w.heap.size) := by
  have hc := h
  have hl := h.lt
  obtain ⟨h1, h2⟩ := h
  rcases h2 with ⟨rfl, h2⟩ | ⟨g, cap, cur, rfl, hg, hh, hnc, hcm, r⟩
  · subst h2
    have : xs = [] := List.eq_nil_of_length_eq_zero (by simpa using h1)
    subst this
    exact ⟨none, 0, rfl, Row.none_ , Nat.le_refl _, by unfold maxLen; omega, fun b o h => by cases h⟩
  · refine ⟨some ⟨g, 0, none⟩, cap, rfl, ⟨h1, fun _ => ⟨g, 0, rfl, (hl g rfl).2, fun j hj => by rw [Nat.zero_add]; exact hc.cellAt j hj⟩⟩, hnc, hcm, fun b o h => ?_⟩
    simp only [Option.some.injEq, Addr.mk.injEq] at h
    obtain ⟨rfl, -, -⟩ := h
    exact ⟨hg, (hl g rfl).2⟩
end

/-- A slice that came in. -/
def SliceIn (w : World) (A : Option Addr) (n c sz bytes : Nat) (xs : List Value) : Prop :=
  Row w A n sz xs ∧ n ≤ c ∧ c * bytes ≤ 140737488351232 ∧ c ≤ 9223372036854775807 ∧ (A = none → n = 0 ∧ c = 0)

/-! ### Lists as cells -/
theorem ints_nil : ints [] = [] := rfl
theorem Row.num {w : World} {A : Option Addr} {n : Nat} {l : List Int} (h : Row w A n 1 (ints l)) : l.length = n := by have := h.1; rw [ints_length] at this; omega
theorem Row.int {w : World} {A : Option Addr} {n k : Nat} {l : List Int} (h : Row w A n 1 (ints l)) (hk : k < n) : ∃ b o, A = some ⟨b, o, none⟩ ∧ b < w.heap.size ∧ w.cell? ⟨b, o + k, none⟩ = some (.int .i64 (l.getD k 0)) := by
  obtain ⟨b, o, hA, hb, hc⟩ := h.2 (by omega)
  exact ⟨b, o, hA, hb, (hc k (by omega)).trans (ints_get l k (by have := h.num; omega))⟩
theorem ints_take (l : List Int) (k : Nat) : (ints l).take k = ints (l.take k) := by simp [ints, List.map_take]
theorem ints_drop (l : List Int) (k : Nat) : (ints l).drop k = ints (l.drop k) := by simp [ints, List.map_drop]

/-- Numbers of a kind, from naturals. -/
def nats (K : IntKind) (l : List Nat) : List Value := l.map fun (x : Nat) => Value.int K (x : Int)
theorem nats_length (K : IntKind) (l : List Nat) : (nats K l).length = l.length := List.length_map _
theorem nats_append (K : IntKind) (l m : List Nat) : nats K l ++ nats K m = nats K (l ++ m) := (List.map_append ..).symm
theorem nats_get (K : IntKind) (l : List Nat) (j : Nat) (h : j < l.length) : (nats K l)[j]? = some (.int K ((l.getD j 0 : Nat) : Int)) := by
  unfold nats
  rw [List.getElem?_map, List.getD_eq_getElem?_getD, List.getElem?_eq_getElem h]
  rfl
theorem nats_take (K : IntKind) (l : List Nat) (k : Nat) : (nats K l).take k = nats K (l.take k) := by simp [nats, List.map_take]
theorem nats_drop (K : IntKind) (l : List Nat) (k : Nat) : (nats K l).drop k = nats K (l.drop k) := by simp [nats, List.map_drop]
theorem Row.numN {w : World} {A : Option Addr} {n : Nat} {K : IntKind} {l : List Nat} (h : Row w A n 1 (nats K l)) : l.length = n := by have := h.1; rw [nats_length] at this; omega
theorem Row.nat {w : World} {A : Option Addr} {n k : Nat} {K : IntKind} {l : List Nat} (h : Row w A n 1 (nats K l)) (hk : k < n) : ∃ b o, A = some ⟨b, o, none⟩ ∧ b < w.heap.size ∧ w.cell? ⟨b, o + k, none⟩ = some (.int K ((l.getD k 0 : Nat) : Int)) := by
  obtain ⟨b, o, hA, hb, hc⟩ := h.2 (by omega)
  exact ⟨b, o, hA, hb, (hc k (by omega)).trans (nats_get K l k (by have := h.numN; omega))⟩

/-- Pairs of numbers: two cells each. -/
def prs : List (Int × Int) → List Value
  | [] => []
  | p :: l => .int .i64 p.1 :: .int .i64 p.2 :: prs l
theorem prs_length : ∀ l : List (Int × Int), (prs l).length = l.length * 2
  | [] => rfl
  | p :: l => by simp only [prs, List.length_cons, prs_length l]; omega
theorem prs_append : ∀ l m : List (Int × Int), prs l ++ prs m = prs (l ++ m)
  | [], _ => rfl
  | p :: l, m => by simp only [prs, List.cons_append, prs_append l m]
theorem prs_get : ∀ (l : List (Int × Int)) (k : Nat), k < l.length → (prs l)[k * 2]? = some (.int .i64 (l.getD k (0, 0)).1) ∧ (prs l)[k * 2 + 1]? = some (.int .i64 (l.getD k (0, 0)).2)
  | [], k, h => by simp at h
  | p :: l, 0, _ => by simp [prs]
  | p :: l, k + 1, h => by
    have := prs_get l k (by simpa using h)
    rw [show (k + 1) * 2 = k * 2 + 1 + 1 by omega]
    simpa [prs] using this
theorem prs_take : ∀ (l : List (Int × Int)) (k : Nat), (prs l).take (k * 2) = prs (l.take k)
  | l, 0 => by simp [prs]
  | [], k + 1 => by simp [prs]
  | p :: l, k + 1 => by
    rw [show (k + 1) * 2 = k * 2 + 1 + 1 by omega]
    simp only [prs, List.take_succ_cons, prs_take l k]
theorem Row.prn {w : World} {A : Option Addr} {n : Nat} {l : List (Int × Int)} (h : Row w A n 2 (prs l)) : l.length = n := by have := h.1; rw [prs_length] at this; omega
theorem Row.pair {w : World} {A : Option Addr} {n k : Nat} {l : List (Int × Int)} (h : Row w A n 2 (prs l)) (hk : k < n) : ∃ b o, A = some ⟨b, o, none⟩ ∧ b < w.heap.size ∧
    w.cell? ⟨b, o + k * 2, none⟩ = some (.int .i64 (l.getD k (0, 0)).1) ∧ w.cell? ⟨b, o + k * 2 + 1, none⟩ = some (.int .i64 (l.getD k (0, 0)).2) := by
  obtain ⟨b, o, hA, hb, hc⟩ := h.2 (by omega)
  have := prs_get l k (by have := h.prn; omega)
  exact ⟨b, o, hA, hb, (hc (k * 2) (by omega)).trans this.1, by rw [Nat.add_assoc]; exact (hc (k * 2 + 1) (by omega)).trans this.2⟩

theorem take_snoc {α : Type} (l : List α) (d : α) {k : Nat} (h : k < l.length) : l.take (k + 1) = l.take k ++ [l.getD k d] := by
  rw [List.take_succ_eq_append_getElem h, List.getD_eq_getElem?_getD, List.getElem?_eq_getElem h]; rfl
theorem getD_mem {α : Type} (l : List α) (d : α) {k : Nat} (h : k < l.length) : l.getD k d ∈ l := by
  rw [List.getD_eq_getElem?_getD, List.getElem?_eq_getElem h]; exact List.getElem_mem h

/-! ### What a call made, clipped or not -/
def Made (w : World) (base : Nat) (e : TypeId) (sz : Nat) (v : Value) (n : Nat) (xs : List Value) : Prop :=
  xs.length = n * sz ∧ ((v = .slice none 0 0 ∧ n = 0) ∨
    ∃ g c cur, v = .slice (some ⟨g, 0, none⟩) n c ∧ base ≤ g ∧ w.heap[g]? = some (.cells cur e (0, 0)) ∧ n ≤ c ∧ c ≤ maxLen ∧ c * sz ≤ cur.size ∧ cur.toList.take (n * sz) = xs)

section
variable {w w' : World} {base : Nat} {e : TypeId} {sz : Nat} {v : Value} {n : Nat} {xs : List Value}
theorem Made.of_own (h : w.ownsRow base e sz v n xs) : Made w base e sz v n xs := by
  obtain ⟨h1, h2⟩ := h
  refine ⟨h1, ?_⟩
  rcases h2 with h2 | ⟨g, c, cur, h3, h4, h5, h6, h7, h8, h9⟩
  · exact .inl h2
  · exact .inr ⟨g, c, cur, h3, h4, h5, h6, h7, by omega, h9⟩
theorem Made.nil : Made w base e sz (.slice none 0 0) 0 [] := ⟨by simp, .inl ⟨rfl, rfl⟩⟩
theorem Made.lt (h : Made w base e sz v n xs) : ∀ k, v.ownBlock = some k → base ≤ k ∧ k < w.heap.size := by
  intro k hk
  rcases h.2 with ⟨rfl, -⟩ | ⟨g, c, cur, rfl, hg, hh, -⟩
  · cases hk
  · simp only [Value.ownBlock, Option.some.injEq] at hk
    subst hk
    refine ⟨hg, ?_⟩
    rcases Nat.lt_or_ge g w.heap.size with h | h
    · exact h
    · rw [Array.getElem?_eq_none h] at hh; cases hh
theorem Made.keep (h : Made w base e sz v n xs) (E : Ext w w') : Made w' base e sz v n xs := by
  have hl := h.lt
  obtain ⟨h1, h2⟩ := h
  refine ⟨h1, ?_⟩
  rcases h2 with h2 | ⟨g, c, cur, rfl, hg, hh, r⟩
  · exact .inl h2
  · exact .inr ⟨g, c, cur, rfl, hg, (Below.block E g (hl g rfl).2).trans hh, r⟩
theorem Made.mono {base' : Nat} (h : Made w base e sz v n xs) (hb : base' ≤ base) : Made w base' e sz v n xs := by
  obtain ⟨h1, h2⟩ := h
  refine ⟨h1, ?_⟩
  rcases h2 with h2 | ⟨g, c, cur, hv, hg, r⟩
  · exact .inl h2
  · exact .inr ⟨g, c, cur, hv, by omega, r⟩
/-- A value that a call made is a slice; it reads as a row. -/
theorem Made.open_ (h : Made w base e sz v n xs) : ∃ A c, v = .slice A n c ∧ Row w A n sz xs ∧ n ≤ c ∧ c ≤ maxLen ∧ (∀ b o, A = some ⟨b, o, none⟩ → base ≤ b ∧ b < w.heap.size) := by
  have hl := h.lt
  obtain ⟨h1, h2⟩ := h
  rcases h2 with ⟨rfl, rfl⟩ | ⟨g, c, cur, rfl, hg, hh, hnc, hcm, hs, ht⟩
  · have : xs = [] := List.eq_nil_of_length_eq_zero (by simpa using h1)
    subst this
    exact ⟨none, 0, rfl, Row.none_, Nat.le_refl _, by unfold maxLen; omega, fun b o h => by cases h⟩
  · refine ⟨some ⟨g, 0, none⟩, c, rfl, ⟨h1, fun _ => ⟨g, 0, rfl, (hl g rfl).2, fun j hj => ?_⟩⟩, hnc, hcm, fun b o h => ?_⟩
    · rw [Nat.zero_add, ← ht, List.getElem?_take_of_lt hj, Array.getElem?_toList]
      simp [World.cell?, hh]
    · simp only [Option.some.injEq, Addr.mk.injEq] at h
      obtain ⟨rfl, -, -⟩ := h
      exact ⟨hg, (hl g rfl).2⟩
theorem Made.clip {A : Option Addr} {c : Nat} (h : Made w base e sz (.slice A n c) n xs) : Made w base e sz (.slice A n n) n xs := by
  obtain ⟨h1, h2⟩ := h
  refine ⟨h1, ?_⟩
  rcases h2 with ⟨h2, rfl⟩ | ⟨g, c', cur, h3, h4, h5, h6, h7, h8, h9⟩
  · injection h2 with h2
    subst h2
    exact .inl ⟨rfl, rfl⟩
  · injection h3 with h3 _ h3'
    subst h3; subst h3'
    exact .inr ⟨g, n, cur, rfl, h4, h5, Nat.le_refl _, by omega, Nat.le_trans (Nat.mul_le_mul_right sz h6) h8, h9⟩
/-- A cell of it: written. -/
theorem Made.set {g : Nat} {c : Nat} (h : Made w base e sz (.slice (some ⟨g, 0, none⟩) n c) n xs) {j : Nat} (hj : j < n * sz) (u : Value) :
    Made (w.setCell ⟨g, j, none⟩ u) base e sz (.slice (some ⟨g, 0, none⟩) n c) n (xs.set j u) := by
  obtain ⟨h1, h2⟩ := h
  refine ⟨by rw [List.length_set, h1], ?_⟩
  rcases h2 with ⟨h2, -⟩ | ⟨g', c', cur, h3, h4, h5, h6, h7, h8, h9⟩
  · cases h2
  · injection h3 with h3 _ h3'
    simp only [Option.some.injEq, Addr.mk.injEq, and_true] at h3
    subst h3; subst h3'
    have h8' : n * sz ≤ cur.size := Nat.le_trans (Nat.mul_le_mul_right sz h6) h8
    refine .inr ⟨g, c, cur.setIfInBounds j u, rfl, h4, ?_, h6, h7, by simpa using h8, ?_⟩
    · simp [World.setCell, Array.getElem?_modify, h5]
    · rw [Array.toList_setIfInBounds, ← h9, List.take_set]
theorem Made.frozen {g c : Nat} (h : Made w base e sz (.slice (some ⟨g, 0, none⟩) n c) n xs) (j : Nat) : w.frozen? ⟨g, j, none⟩ = false := by
  rcases h.2 with ⟨h2, -⟩ | ⟨g', c', cur, h3, h4, h5, -⟩
  · cases h2
  · injection h3 with h3
    simp only [Option.some.injEq, Addr.mk.injEq, and_true] at h3
    subst h3
    simp [World.frozen?, h5]
end

theorem prs_set : ∀ (l : List (Int × Int)) (k : Nat) (p : Int × Int), prs (l.set k p) = ((prs l).set (k * 2) (.int .i64 p.1)).set (k * 2 + 1) (.int .i64 p.2)
  | [], k, p => by simp [prs]
  | q :: l, 0, p => by simp [prs]
  | q :: l, k + 1, p => by
    rw [show (k + 1) * 2 = k * 2 + 1 + 1 by omega]
    simp [prs, prs_set l k p]

/-- The first k of l and the last k, exchanged. -/
def Revd {α : Type} [Inhabited α] (l m : List α) (n k : Nat) : Prop := l.length = n ∧ m.length = n ∧ ∀ t (d : α), t < n → m.getD t d = if t < k ∨ n ≤ t + k then l.getD (n - 1 - t) d else l.getD t d
theorem Revd.start {α : Type} [Inhabited α] {l : List α} {n : Nat} (h : l.length = n) : Revd l l n 0 := ⟨h, h, fun t d ht => by rw [if_neg (by omega)]⟩
theorem Revd.step {α : Type} [Inhabited α] {l m : List α} {n k j : Nat} (h : Revd l m n k) (hj : j + k + 1 = n) (hlt : k < j) (d : α := default) : Revd l ((m.set k (m.getD j d)).set j (m.getD k d)) n (k + 1) := by
  obtain ⟨h1, h2, h3⟩ := h
  refine ⟨h1, by simp [h2], fun t e ht => ?_⟩
  have e1 : ∀ i (x : α), i < n → (m.getD i x) = m.getD i e := fun i x hi => by simp [List.getD_eq_getElem?_getD, List.getElem?_eq_getElem (show i < m.length by omega)]
  have gs : ∀ (q : List α) (i : Nat) (x : α), i < q.length → (q.set i x).getD t e = if i = t then x else q.getD t e := fun q i x hi => by
    simp only [List.getD_eq_getElem?_getD, List.getElem?_set]
    split
    · simp [hi]
    · rfl
  rw [gs _ j _ (by simp; omega), gs _ k _ (by omega)]
  by_cases c1 : j = t
  · subst c1
    rw [if_pos rfl, e1 k d (by omega), h3 k e (by omega), if_neg (by omega), if_pos (by omega)]
    congr 1; omega
  · rw [if_neg c1]
    by_cases c2 : k = t
    · subst c2
      rw [if_pos rfl, e1 j d (by omega), h3 j e (by omega), if_neg (by omega), if_pos (by omega)]
      congr 1; omega
    · rw [if_neg c2, h3 t e ht]
      by_cases c3 : t < k ∨ n ≤ t + k
      · rw [if_pos c3, if_pos (by omega)]
      · rw [if_neg c3, if_neg (by omega)]
theorem Revd.done {α : Type} [Inhabited α] {l m : List α} {n k : Nat} (h : Revd l m n k) (hk : n ≤ 2 * k + 1) : m = l.reverse := by
  obtain ⟨h1, h2, h3⟩ := h
  apply List.ext_getElem (by simp [h1, h2])
  intro t ht1 ht2
  have e := h3 t default (by omega)
  have g1 : m.getD t default = m[t] := by simp [List.getD_eq_getElem?_getD, List.getElem?_eq_getElem ht1]
  have g2 : l.getD (n - 1 - t) default = l[n - 1 - t]'(by omega) := by simp [List.getD_eq_getElem?_getD, List.getElem?_eq_getElem (show n - 1 - t < l.length by omega)]
  rw [List.getElem_reverse, ← g1, e]
  have : l[l.length - 1 - t]'(by omega) = l.getD (n - 1 - t) default := by rw [g2]; congr 1; omega
  rw [this]
  by_cases c : t < k ∨ n ≤ t + k
  · rw [if_pos c]
  · rw [if_neg c]
    congr 1; omega

theorem row_new (w : World) (cs : Array Value) (T : TypeId) (n sz : Nat) (h : cs.size = n * sz) : Row (w.alloc (.cells cs T)) (some ⟨w.heap.size, 0, none⟩) n sz cs.toList :=
  ⟨by simpa using h, fun _ => ⟨w.heap.size, 0, rfl, by simp, fun j _ => by simp⟩⟩

end Go.Proofs.YtpenkbhljkmliaaGreatDoor

/-
  Bitwise operations of the model on numbers that fit, as Nat's own.
-/
set_option linter.unusedVariables false
set_option linter.unusedSimpArgs false
namespace Go.Proofs.YtpenkbhljkmliaaGreatDoor
open Go.RowKit

section
theorem ofInt_nat (n a : Nat) (ha : a < 2 ^ n) : (BitVec.ofInt n (a : Int)).toNat = a := by
  rw [BitVec.ofInt_natCast, BitVec.toNat_ofNat]; exact Nat.mod_eq_of_lt ha

theorem i64_and_nat (a b : Nat) (ha : a < 9223372036854775808) (hb : b < 9223372036854775808) : bits .and .i64 (a : Int) (b : Int) = ((a &&& b : Nat) : Int) := by
  have hx : a &&& b < 2 ^ 63 := Nat.and_lt_two_pow _ (by omega)
  show IntKind.i64.wrap ((BitVec.ofInt 64 (a : Int) &&& BitVec.ofInt 64 (b : Int)).toNat : Int) = _
  rw [BitVec.toNat_and, ofInt_nat 64 a (by omega), ofInt_nat 64 b (by omega), IntKind.wrap_i64]
  omega
theorem i64_or_nat (a b : Nat) (ha : a < 9223372036854775808) (hb : b < 9223372036854775808) : bits .or .i64 (a : Int) (b : Int) = ((a ||| b : Nat) : Int) := by
  have hx : a ||| b < 2 ^ 63 := Nat.or_lt_two_pow (by omega) (by omega)
  show IntKind.i64.wrap ((BitVec.ofInt 64 (a : Int) ||| BitVec.ofInt 64 (b : Int)).toNat : Int) = _
  rw [BitVec.toNat_or, ofInt_nat 64 a (by omega), ofInt_nat 64 b (by omega), IntKind.wrap_i64]
  omega
theorem i64_xor_nat (a b : Nat) (ha : a < 9223372036854775808) (hb : b < 9223372036854775808) : bits .xor .i64 (a : Int) (b : Int) = ((a ^^^ b : Nat) : Int) := by
  have hx : a ^^^ b < 2 ^ 63 := Nat.xor_lt_two_pow (by omega) (by omega)
  show IntKind.i64.wrap ((BitVec.ofInt 64 (a : Int) ^^^ BitVec.ofInt 64 (b : Int)).toNat : Int) = _
  rw [BitVec.toNat_xor, ofInt_nat 64 a (by omega), ofInt_nat 64 b (by omega), IntKind.wrap_i64]
  omega
theorem u8_and_nat (a b : Nat) (ha : a < 256) (hb : b < 256) : bits .and .u8 (a : Int) (b : Int) = ((a &&& b : Nat) : Int) := by
  have hx : a &&& b < 2 ^ 8 := Nat.and_lt_two_pow _ (by omega)
  show IntKind.u8.wrap ((BitVec.ofInt 8 (a : Int) &&& BitVec.ofInt 8 (b : Int)).toNat : Int) = _
  rw [BitVec.toNat_and, ofInt_nat 8 a (by omega), ofInt_nat 8 b (by omega), IntKind.wrap_u8]
  omega
theorem u8_or_nat (a b : Nat) (ha : a < 256) (hb : b < 256) : bits .or .u8 (a : Int) (b : Int) = ((a ||| b : Nat) : Int) := by
  have hx : a ||| b < 2 ^ 8 := Nat.or_lt_two_pow (by omega) (by omega)
  show IntKind.u8.wrap ((BitVec.ofInt 8 (a : Int) ||| BitVec.ofInt 8 (b : Int)).toNat : Int) = _
  rw [BitVec.toNat_or, ofInt_nat 8 a (by omega), ofInt_nat 8 b (by omega), IntKind.wrap_u8]
  omega
theorem u8_xor_nat (a b : Nat) (ha : a < 256) (hb : b < 256) : bits .xor .u8 (a : Int) (b : Int) = ((a ^^^ b : Nat) : Int) := by
  have hx : a ^^^ b < 2 ^ 8 := Nat.xor_lt_two_pow (by omega) (by omega)
  show IntKind.u8.wrap ((BitVec.ofInt 8 (a : Int) ^^^ BitVec.ofInt 8 (b : Int)).toNat : Int) = _
  rw [BitVec.toNat_xor, ofInt_nat 8 a (by omega), ofInt_nat 8 b (by omega), IntKind.wrap_u8]
  omega
theorem u16_and_nat (a b : Nat) (ha : a < 65536) (hb : b < 65536) : bits .and .u16 (a : Int) (b : Int) = ((a &&& b : Nat) : Int) := by
  have hx : a &&& b < 2 ^ 16 := Nat.and_lt_two_pow _ (by omega)
  show IntKind.u16.wrap ((BitVec.ofInt 16 (a : Int) &&& BitVec.ofInt 16 (b : Int)).toNat : Int) = _
  rw [BitVec.toNat_and, ofInt_nat 16 a (by omega), ofInt_nat 16 b (by omega), IntKind.wrap_u16]
  omega
theorem u16_or_nat (a b : Nat) (ha : a < 65536) (hb : b < 65536) : bits .or .u16 (a : Int) (b : Int) = ((a ||| b : Nat) : Int) := by
  have hx : a ||| b < 2 ^ 16 := Nat.or_lt_two_pow (by omega) (by omega)
  show IntKind.u16.wrap ((BitVec.ofInt 16 (a : Int) ||| BitVec.ofInt 16 (b : Int)).toNat : Int) = _
  rw [BitVec.toNat_or, ofInt_nat 16 a (by omega), ofInt_nat 16 b (by omega), IntKind.wrap_u16]
  omega
theorem u16_xor_nat (a b : Nat) (ha : a < 65536) (hb : b < 65536) : bits .xor .u16 (a : Int) (b : Int) = ((a ^^^ b : Nat) : Int) := by
  have hx : a ^^^ b < 2 ^ 16 := Nat.xor_lt_two_pow (by omega) (by omega)
  show IntKind.u16.wrap ((BitVec.ofInt 16 (a : Int) ^^^ BitVec.ofInt 16 (b : Int)).toNat : Int) = _
  rw [BitVec.toNat_xor, ofInt_nat 16 a (by omega), ofInt_nat 16 b (by omega), IntKind.wrap_u16]
  omega
theorem u8_and_one (a : Nat) (ha : a < 256) : bits .and .u8 (a : Int) 1 = ((a % 2 : Nat) : Int) := by
  rw [show (1 : Int) = ((1 : Nat) : Int) from rfl, u8_and_nat a 1 ha (by omega), Nat.and_one_is_mod]
theorem u16_and_one (a : Nat) (ha : a < 65536) : bits .and .u16 (a : Int) 1 = ((a % 2 : Nat) : Int) := by
  rw [show (1 : Int) = ((1 : Nat) : Int) from rfl, u16_and_nat a 1 ha (by omega), Nat.and_one_is_mod]
theorem i64_and_one (a : Nat) (ha : a < 9223372036854775808) : bits .and .i64 (a : Int) 1 = ((a % 2 : Nat) : Int) := by
  rw [show (1 : Int) = ((1 : Nat) : Int) from rfl, i64_and_nat a 1 ha (by omega), Nat.and_one_is_mod]
end

end Go.Proofs.YtpenkbhljkmliaaGreatDoor

/-
  append to a row of the call's own, and make, as single facts.
-/
set_option linter.unusedVariables false
set_option linter.unusedSimpArgs false
namespace Go.Proofs.YtpenkbhljkmliaaGreatDoor
open Go.RowKit

/-- What the program's table says of a slice type and its elements. -/
def EInfo (P : Program) (t e : TypeId) (z : Value) (size bytes : Nat) : Prop :=
  P.underlying t = some (.slice e) ∧ (∃ i, P.info? e = some i ∧ i.zero = some z ∧ i.size = size ∧ i.bytes = bytes) ∧ z.cells.size = size ∧ 0 < size

theorem EInfo.mk_ {P : Program} {t e : TypeId} {z : Value} {size bytes : Nat} (h1 : P.underlying t = some (.slice e)) (h2 : (P.info? e).map (fun i => (i.zero, i.size, i.bytes)) = some (some z, size, bytes)) (h3 : z.cells.size = size) (h4 : 0 < size) : EInfo P t e z size bytes := by
  obtain ⟨i, hi, a, b, c⟩ := info_parts h2
  exact ⟨h1, ⟨i, hi, a, b, c⟩, h3, h4⟩

theorem wpList_app {P : Program} {ops : Array Oper} {rest : List Oper} {o : Oper} {a : Act} {Q : Exit → Act → World → Prop} (hgd : o.guard = none) (s x : Operand) (t : TypeId)
    (ho : o.op = .call { callee := .builtin .append, args := #[s, x], argTypes := #[t, t] }) (e : TypeId) {z : Value} {size bytes : Nat} (hI : EInfo P t e z size bytes)
    {W0 w : World} (E : Ext W0 w) (cs : Array Value) (v : Value) (n : Nat) (xs : List Value) (hs : a.eval s = v) (hown : w.ownsRow W0.heap.size e size v n xs)
    (m c : Nat) (hx : a.eval x = .slice (some ⟨w.heap.size, 0, none⟩) m c) (hl : cs.size = m * size) (h1 : cs.toList.all (fun u => u.oneCell') = true)
    (hb : (n + m) * bytes ≤ 140737488355328 ∧ n + m ≤ 9223372036854775807)
    (h : ∀ v' w', w'.ownsRow W0.heap.size e size v' (n + m) (xs ++ cs.toList) → Ext W0 w' → (w.alloc (.cells cs e)).grownBy w' v.ownBlock → wpList P ops Q rest (a.put o.dst v') w') :
    wpList P ops Q (o :: rest) a (w.alloc (.cells cs e)) := by
  obtain ⟨ht, ⟨i, hi, hz, hsz, hby⟩, hzs, hsz0⟩ := hI
  have hsize := E.size
  refine wpList_append_own _ hgd s x t ho W0.heap.size e i z size bytes ht hi hz hsz hby hzs hsz0 v n xs hs (hown.alloc _) ⟨w.heap.size, 0, none⟩ m c cs.toList hx (by simpa using hl) ?_ (fun u hu => List.all_eq_true.1 h1 u hu) (by unfold maxLen; omega) (by omega) (by simp; omega) ?_
  · intro j u hj
    have : (⟨w.heap.size, 0, none⟩ : Addr).add j = ⟨w.heap.size, j, none⟩ := by
      unfold Addr.add
      split
      · rename_i h0; simp [h0]
      · simp
    rw [this, show (w.alloc (.cells cs e)).cell? ⟨w.heap.size, j, none⟩ = cs[j]? by simp, ← Array.getElem?_toList]
    exact hj
  · intro v' w' hown' hg _
    exact h v' w' hown' ((E.alloc _).grown hg (fun k hk => (hown.lt k hk).1)) hg

/-- From the world wo on, where the row v0 stood, only v0's block and new ones have turned; and v lies in one of those. -/
def OutOf (wo : World) (v0 : Value) (wi : World) (v : Value) : Prop := wo.grownBy wi v0.ownBlock ∧ (v.ownBlock = v0.ownBlock ∨ ∃ k, v.ownBlock = some k ∧ wo.heap.size ≤ k)
theorem OutOf.refl (w : World) (v : Value) : OutOf w v w v := ⟨World.grownBy.refl w _, .inl rfl⟩
theorem OutOf.step {wo wi w' : World} {v0 v v' : Value} {o : Obj} (h : OutOf wo v0 wi v) (hg : (wi.alloc o).grownBy w' v.ownBlock) (hv : v'.ownBlock = v.ownBlock ∨ v'.ownBlock = some (wi.alloc o).heap.size) : OutOf wo v0 w' v' := by
  obtain ⟨h1, h2⟩ := h
  have hs := h1.size
  have hs2 := hg.size
  have e : (wi.alloc o).heap.size = wi.heap.size + 1 := by simp
  refine ⟨⟨hg.os.trans h1.os, hg.tape.trans h1.tape, hg.output.trans h1.output, by omega, fun k hk hne => ?_⟩, ?_⟩
  · have hne2 : some k ≠ v.ownBlock := by
      rcases h2 with h2 | ⟨j, h2, hj⟩
      · rw [h2]; exact hne
      · rw [h2]; intro e; injection e with e; omega
    rw [hg.block k (by omega) hne2, Below.heap_alloc _ _ _ (by omega)]
    exact h1.block k hk hne
  · rcases hv with hv | hv
    · rw [hv]; exact h2
    · exact .inr ⟨_, hv, by omega⟩
theorem OutOf.cell {wo wi : World} {v0 v : Value} (h : OutOf wo v0 wi v) {a : Addr} (ha : a.block < wo.heap.size) (hne : v0.ownBlock ≠ some a.block) : wi.cell? a = wo.cell? a :=
  World.cell?_of_block (h.1.block a.block ha (fun e => hne e.symm))
theorem OutOf.row {wo wi : World} {v0 v : Value} (h : OutOf wo v0 wi v) {A : Option Addr} {n sz : Nat} {xs : List Value} (R : Row wo A n sz xs) (hne : ∀ b o, A = some ⟨b, o, none⟩ → v0.ownBlock ≠ some b) : Row wi A n sz xs :=
  R.grown h.1 hne
theorem OutOf.trans_ {wo wi wj : World} {v0 v u : Value} (h : OutOf wo v0 wi v) (k : OutOf wi v wj u) : OutOf wo v0 wj u := by
  obtain ⟨h1, h2⟩ := h
  obtain ⟨k1, k2⟩ := k
  have hs := h1.size
  have hs2 := k1.size
  refine ⟨⟨k1.os.trans h1.os, k1.tape.trans h1.tape, k1.output.trans h1.output, by omega, fun b hb hne => ?_⟩, ?_⟩
  · have hne2 : some b ≠ v.ownBlock := by
      rcases h2 with h2 | ⟨j, h2, hj⟩
      · rw [h2]; exact hne
      · rw [h2]; intro e; injection e with e; omega
    rw [k1.block b (by omega) hne2]
    exact h1.block b hb hne
  · rcases k2 with k2 | ⟨j, k2, hj⟩
    · rw [k2]; exact h2
    · exact .inr ⟨j, k2, by omega⟩

theorem wpList_apx {P : Program} {ops : Array Oper} {rest : List Oper} {o : Oper} {a : Act} {Q : Exit → Act → World → Prop} (hgd : o.guard = none) (s x : Operand) (t : TypeId)
    (ho : o.op = .call { callee := .builtin .append, args := #[s, x], argTypes := #[t, t] }) (e : TypeId) {z : Value} {size bytes : Nat} (hI : EInfo P t e z size bytes)
    {W0 w : World} (E : Ext W0 w) (cs : Array Value) (v : Value) (n : Nat) (xs : List Value) (hs : a.eval s = v) (hown : w.ownsRow W0.heap.size e size v n xs)
    (m c : Nat) (hx : a.eval x = .slice (some ⟨w.heap.size, 0, none⟩) m c) (hl : cs.size = m * size) (h1 : cs.toList.all (fun u => u.oneCell') = true)
    (hb : (n + m) * bytes ≤ 140737488355328 ∧ n + m ≤ 9223372036854775807) {wo : World} {v0 : Value} (hO : OutOf wo v0 w v)
    (h : ∀ v' w', w'.ownsRow W0.heap.size e size v' (n + m) (xs ++ cs.toList) → Ext W0 w' → OutOf wo v0 w' v' → wpList P ops Q rest (a.put o.dst v') w') :
    wpList P ops Q (o :: rest) a (w.alloc (.cells cs e)) := by
  obtain ⟨ht, ⟨i, hi, hz, hsz, hby⟩, hzs, hsz0⟩ := hI
  have hsize := E.size
  refine wpList_append_own_at _ hgd s x t ho W0.heap.size e i z size bytes ht hi hz hsz hby hzs hsz0 v n xs hs (hown.alloc _) ⟨w.heap.size, 0, none⟩ m c cs.toList hx (by simpa using hl) ?_ (fun u hu => List.all_eq_true.1 h1 u hu) (by unfold maxLen; omega) (by omega) (by simp; omega) ?_
  · intro j u hj
    have : (⟨w.heap.size, 0, none⟩ : Addr).add j = ⟨w.heap.size, j, none⟩ := by
      unfold Addr.add
      split
      · rename_i h0; simp [h0]
      · simp
    rw [this, show (w.alloc (.cells cs e)).cell? ⟨w.heap.size, j, none⟩ = cs[j]? by simp, ← Array.getElem?_toList]
    exact hj
  · intro v' w' hown' hg _ hat
    exact h v' w' hown' ((E.alloc _).grown hg (fun k hk => (hown.lt k hk).1)) (hO.step hg hat)

theorem make_run {P : Program} {t e : TypeId} {z : Value} {size bytes : Nat} (hI : EInfo P t e z size bytes) (n c : Nat) (hnc : n ≤ c) (hb : bytes * c ≤ 281474976710656) (h63 : c ≤ 9223372036854775807) (w : World) :
    (Instr.makeSlice t (.int .i64 (n : Int)) (.int .i64 (c : Int))).run P w = .ok (.slice (some ⟨w.heap.size, 0, none⟩) n c) (w.alloc (.cells (madeCells z.cells (c * size)) e)) := by
  obtain ⟨ht, ⟨i, hi, hz, hsz, hby⟩, -, -⟩ := hI
  subst hsz; subst hby
  have hb' : (i.bytes : Int) * (c : Int) ≤ 281474976710656 := by
    have h : ((i.bytes * c : Nat) : Int) ≤ 281474976710656 := by omega
    rwa [Int.natCast_mul] at h
  have hr := run_make (P := P) w t e i z ht hi hz .i64 .i64 n c (by omega) (by omega) hb' (by omega)
  simp only [Int.toNat_natCast] at hr
  exact hr
theorem make_run0 {P : Program} {t e : TypeId} {z : Value} {size bytes : Nat} (hI : EInfo P t e z size bytes) (c : Nat) (hb : bytes * c ≤ 281474976710656) (h63 : c ≤ 9223372036854775807) (w : World) :
    (Instr.makeSlice t (.int .i64 0) (.int .i64 (c : Int))).run P w = .ok (.slice (some ⟨w.heap.size, 0, none⟩) 0 c) (w.alloc (.cells (madeCells z.cells (c * size)) e)) := make_run hI 0 c (Nat.zero_le _) hb h63 w
theorem made_size (z : Array Value) (n : Nat) : (madeCells z n).size = n := by simp [madeCells]

end Go.Proofs.YtpenkbhljkmliaaGreatDoor

/-
  make, of one-celled elements: what it made, as a row of zeros.
-/
set_option linter.unusedVariables false
set_option linter.unusedSimpArgs false
namespace Go.Proofs.YtpenkbhljkmliaaGreatDoor
open Go.RowKit

theorem madeCells_one (z : Value) (n : Nat) : (madeCells #[z] n).toList = List.replicate n z := by
  unfold madeCells
  rw [Array.toList_map, Array.toList_range]
  apply List.ext_getElem (by simp)
  intro j h1 h2
  simp [Nat.mod_one]
theorem Made.make {w : World} {base e : Nat} (z : Value) (n : Nat) (hb : base ≤ w.heap.size) (hn : n ≤ 9223372036854775807) :
    Made (w.alloc (.cells (madeCells #[z] n) e)) base e 1 (.slice (some ⟨w.heap.size, 0, none⟩) n n) n (List.replicate n z) := by
  refine ⟨by simp, .inr ⟨w.heap.size, n, madeCells #[z] n, rfl, hb, by rw [← World.alloc_eq]; simp, Nat.le_refl _, by unfold maxLen; exact hn, by rw [made_size]; omega, ?_⟩⟩
  rw [madeCells_one, Nat.mul_one, List.take_of_length_le (by simp)]
theorem ints_replicate (n : Nat) (x : Int) : List.replicate n (Value.int .i64 x) = ints (List.replicate n x) := by simp [ints]
theorem nats_replicate (K : IntKind) (n : Nat) (x : Nat) : List.replicate n (Value.int K (x : Int)) = nats K (List.replicate n x) := by simp [nats]
theorem ints_set (l : List Int) (k : Nat) (x : Int) : (ints l).set k (.int .i64 x) = ints (l.set k x) := by simp [ints, List.map_set]
theorem nats_set (K : IntKind) (l : List Nat) (k : Nat) (x : Nat) : (nats K l).set k (.int K (x : Int)) = nats K (l.set k x) := by simp [nats, List.map_set]
/-- A cell of what a call made. -/
theorem Made.cell {w : World} {base e : TypeId} {g n c : Nat} {xs : List Value} (h : Made w base e 1 (.slice (some ⟨g, 0, none⟩) n c) n xs) {k : Nat} (hk : k < n) : w.cell? ⟨g, k, none⟩ = some (xs.getD k undef) := by
  rcases h.2 with ⟨h2, -⟩ | ⟨g', c', cur, h3, h4, h5, h6, h7, h8, h9⟩
  · cases h2
  · injection h3 with h3 _ h3'
    simp only [Option.some.injEq, Addr.mk.injEq, and_true] at h3
    subst h3
    have hk2 : k < cur.size := by omega
    rw [← h9, List.getD_eq_getElem?_getD, List.getElem?_take_of_lt (by omega), Array.getElem?_toList]
    simp [World.cell?, h5, hk2]
theorem Made.int {w : World} {base e : TypeId} {g n c : Nat} {l : List Int} (h : Made w base e 1 (.slice (some ⟨g, 0, none⟩) n c) n (ints l)) {k : Nat} (hk : k < n) : w.cell? ⟨g, k, none⟩ = some (.int .i64 (l.getD k 0)) := by
  have hl : l.length = n := by have := h.1; rw [ints_length] at this; omega
  rw [h.cell hk, List.getD_eq_getElem?_getD, ints_get _ _ (by omega)]; rfl
theorem Made.nat {w : World} {base e : TypeId} {g n c : Nat} {K : IntKind} {l : List Nat} (h : Made w base e 1 (.slice (some ⟨g, 0, none⟩) n c) n (nats K l)) {k : Nat} (hk : k < n) : w.cell? ⟨g, k, none⟩ = some (.int K ((l.getD k 0 : Nat) : Int)) := by
  have hl : l.length = n := by have := h.1; rw [nats_length] at this; omega
  rw [h.cell hk, List.getD_eq_getElem?_getD, nats_get _ _ _ (by omega)]; rfl

end Go.Proofs.YtpenkbhljkmliaaGreatDoor

/-
  Slices of strings as lists.
-/
set_option linter.unusedVariables false
set_option linter.unusedSimpArgs false
namespace Go.Proofs.YtpenkbhljkmliaaGreatDoor
open Go.RowKit

def strs (l : List ByteArray) : List Value := l.map Value.string
theorem strs_length (l : List ByteArray) : (strs l).length = l.length := List.length_map _
theorem strs_get (l : List ByteArray) (j : Nat) (h : j < l.length) : (strs l)[j]? = some (.string (l.getD j ByteArray.empty)) := by
  unfold strs
  rw [List.getElem?_map, List.getD_eq_getElem?_getD, List.getElem?_eq_getElem h]
  rfl
theorem Row.strN {w : World} {A : Option Addr} {n : Nat} {l : List ByteArray} (h : Row w A n 1 (strs l)) : l.length = n := by have := h.1; rw [strs_length] at this; omega
theorem Row.str {w : World} {A : Option Addr} {n k : Nat} {l : List ByteArray} (h : Row w A n 1 (strs l)) (hk : k < n) : ∃ b o, A = some ⟨b, o, none⟩ ∧ b < w.heap.size ∧ w.cell? ⟨b, o + k, none⟩ = some (.string (l.getD k ByteArray.empty)) := by
  obtain ⟨b, o, hA, hb, hc⟩ := h.2 (by omega)
  exact ⟨b, o, hA, hb, (hc k (by omega)).trans (strs_get l k (by have := h.strN; omega))⟩
theorem strs_append (l m : List ByteArray) : strs l ++ strs m = strs (l ++ m) := (List.map_append ..).symm
theorem strs_one (l : List ByteArray) : ∀ u ∈ strs l, u.oneCell' = true := by
  intro u hu
  simp only [strs, List.mem_map] at hu
  obtain ⟨x, -, rfl⟩ := hu
  rfl
end Go.Proofs.YtpenkbhljkmliaaGreatDoor

/-
  Deeds as cells.
-/
set_option linter.unusedVariables false
set_option linter.unusedSimpArgs false
namespace Go.Proofs.YtpenkbhljkmliaaGreatDoor
open Go.RowKit

structure Dd where
  kind : Int
  key : Int
  n : Int
  s : ByteArray
def Dd.no : Dd := ⟨0, 0, 0, ByteArray.empty⟩
def Dd.v (d : Dd) : Value := .agg #[.int .i64 d.kind, .int .i64 d.key, .int .i64 d.n, .string d.s]
def dds : List Dd → List Value
  | [] => []
  | d :: l => .int .i64 d.kind :: .int .i64 d.key :: .int .i64 d.n :: .string d.s :: dds l
theorem dds_length : ∀ l : List Dd, (dds l).length = l.length * 4
  | [] => rfl
  | d :: l => by simp only [dds, List.length_cons, dds_length l]; omega
def dg (l : List Dd) (j : Nat) : Dd := l.getD j Dd.no
theorem dg_mem {l : List Dd} {j : Nat} (h : j < l.length) : dg l j ∈ l := getD_mem l _ h
theorem dds_get : ∀ (l : List Dd) (j : Nat), j < l.length → (dds l)[j * 4]? = some (.int .i64 (dg l j).kind) ∧ (dds l)[j * 4 + 1]? = some (.int .i64 (dg l j).key) ∧ (dds l)[j * 4 + 2]? = some (.int .i64 (dg l j).n) ∧ (dds l)[j * 4 + 3]? = some (.string (dg l j).s)
  | [], j, h => by simp at h
  | e :: l, 0, _ => by simp [dds, dg]
  | e :: l, j + 1, h => by
    have := dds_get l j (by simpa using h)
    rw [show (j + 1) * 4 = j * 4 + 1 + 1 + 1 + 1 by omega]
    simpa [dds, dg] using this
theorem Row.ddn {w : World} {A : Option Addr} {n : Nat} {l : List Dd} (h : Row w A n 4 (dds l)) : l.length = n := by have := h.1; rw [dds_length] at this; omega
theorem Row.dd {w : World} {A : Option Addr} {n j : Nat} {l : List Dd} (h : Row w A n 4 (dds l)) (hj : j < n) : ∃ b o, A = some ⟨b, o, none⟩ ∧ b < w.heap.size ∧
    w.cell? ⟨b, o + j * 4, none⟩ = some (.int .i64 (dg l j).kind) ∧ w.cell? ⟨b, o + j * 4 + 1, none⟩ = some (.int .i64 (dg l j).key) ∧ w.cell? ⟨b, o + j * 4 + 2, none⟩ = some (.int .i64 (dg l j).n) ∧ w.cell? ⟨b, o + j * 4 + 3, none⟩ = some (.string (dg l j).s) := by
  obtain ⟨b, o, hA, hb, hc⟩ := h.2 (by omega)
  have := dds_get l j (by rw [h.ddn]; exact hj)
  exact ⟨b, o, hA, hb, (hc (j * 4) (by omega)).trans this.1, by rw [Nat.add_assoc]; exact (hc (j * 4 + 1) (by omega)).trans this.2.1, by rw [Nat.add_assoc]; exact (hc (j * 4 + 2) (by omega)).trans this.2.2.1, by rw [Nat.add_assoc]; exact (hc (j * 4 + 3) (by omega)).trans this.2.2.2⟩
end Go.Proofs.YtpenkbhljkmliaaGreatDoor

/-
  Slices of slices of the call's own: 'Rack w0 W g n vs K xs': the n headers at block g are vs; each is a slice of the call's own that holds the numbers xs j; append to one of them. append of whatever row.
-/
set_option linter.unusedVariables false
set_option linter.unusedSimpArgs false
namespace Go.Proofs.YtpenkbhljkmliaaGreatDoor
open Go.RowKit

/-- The walk stops here. -/
def Stop (p : Prop) : Prop := p
theorem stop {p : Prop} (h : Stop p) : p := h
/-- What several ways come to is shown once. -/
theorem share {p q : Prop} (h1 : p → q) (h2 : p) : q := h1 h2
/-- append of a row, which may be empty or nil, to a slice of the call's own. -/
theorem wpList_app_any {P : Program} {ops : Array Oper} {rest : List Oper} {o : Oper} {a : Act} {w : World} {Q : Exit → Act → World → Prop} (hgd : o.guard = none) (s x : Operand) (t : TypeId)
    (ho : o.op = .call { callee := .builtin .append, args := #[s, x], argTypes := #[t, t] }) (e : TypeId) {z : Value} {size bytes : Nat} (hI : EInfo P t e z size bytes) (base : Nat)
    (v : Value) (n : Nat) (xs : List Value) (hs : a.eval s = v) (hown : w.ownsRow base e size v n xs) (A : Option Addr) (m c : Nat) (news : List Value) (hx : a.eval x = .slice A m c) (R : Row w A m size news)
    (h1 : news.all (fun u => u.oneCell') = true) (hb : (n + m) * bytes ≤ 140737488355328 ∧ n + m ≤ 9223372036854775807) (hbase : base ≤ w.heap.size)
    (h : ∀ v' w', w'.ownsRow base e size v' (n + m) (xs ++ news) → w.grownBy w' v.ownBlock → (v'.ownBlock = v.ownBlock ∨ v'.ownBlock = some w.heap.size) → wpList P ops Q rest (a.put o.dst v') w') :
    wpList P ops Q (o :: rest) a w := by
  obtain ⟨ht, ⟨i, hi, hz, hsz, hby⟩, hzs, hsz0⟩ := hI
  by_cases hm : m = 0
  · subst hm
    have hnil : news = [] := R.empty
    subst hnil
    refine wpList_plain hgd fun K hK => ?_
    have hsrc : Src P i.size t (.slice A 0 c) 0 [] w := by
      cases A with
      | none => exact Src.ofNil w ht c
      | some ad => exact Src.ofSlice w ht ad 0 c [] (by simp) (fun j u hj => by simp at hj) (fun u hu => by simp at hu)
    obtain ⟨bs, sl, sc, hv, hle⟩ : ∃ bs sl sc, v = .slice bs sl sc ∧ sl ≤ sc := by
      rcases hown.2 with ⟨h2, -⟩ | ⟨g, cap, cur, h2, -, -, h3, -⟩
      · exact ⟨none, 0, 0, h2, Nat.le_refl _⟩
      · exact ⟨_, _, _, h2, h3⟩
    have hr := run_append_nothing (P := P) w t t o.type e i ht hi bs sl sc hle (.slice A 0 c) hsrc
    unfold Oper.wp execOp
    rw [hv] at hs
    simp only [ho, resolve, invoke, builtin, Sem.run_bind, Sem.run_pure, Result.andThen_ok, List.map_toArray, List.map_cons, List.map_nil, hs, hx, hr]
    refine hK _ _ (h _ w ?_ (World.grownBy.refl w _) (.inl (by rw [hv])))
    rw [Nat.add_zero, List.append_nil, ← hv]
    exact hown
  · obtain ⟨b, off, rfl, hbl, hc⟩ := R.2 (by omega)
    refine wpList_append_own_at _ hgd s x t ho base e i z size bytes ht hi hz hsz hby hzs hsz0 v n xs hs hown ⟨b, off, none⟩ m c news hx R.1 ?_ (fun u hu => List.all_eq_true.1 h1 u hu) (by unfold maxLen; omega) (by omega) hbase fun v' w' h1 h2 _ h3 => h v' w' h1 h2 h3
    intro j u hj
    have hlt : j < m * size := by rw [← R.1]; exact (List.getElem?_eq_some_iff.1 hj).1
    have : (⟨b, off, none⟩ : Addr).add j = ⟨b, off + j, none⟩ := by
      unfold Addr.add
      split
      · rename_i h0; simp [h0]
      · rfl
    rw [this, hc j hlt, hj]

def upv {α : Type} (f : Nat → α) (j : Nat) (x : α) : Nat → α := fun i => if i = j then x else f i
theorem upv_same {α : Type} (f : Nat → α) (j : Nat) (x : α) : upv f j x j = x := if_pos rfl
theorem upv_ne {α : Type} (f : Nat → α) {i j : Nat} (x : α) (h : i ≠ j) : upv f j x i = f i := if_neg h

/-- Slices of slices of numbers. -/
structure Rack (K : IntKind) (e : TypeId) (w0 W : World) (g n : Nat) (vs : Nat → Value) (xs : Nat → List Nat) : Prop where
  ext : Ext w0 W
  lo : w0.heap.size ≤ g
  hi : g < W.heap.size
  cell : ∀ j, j < n → W.cell? ⟨g, j, none⟩ = some (vs j)
  open_ : ∀ j, j < n → W.frozen? ⟨g, j, none⟩ = false
  own : ∀ j, j < n → W.ownsRow w0.heap.size e 1 (vs j) (xs j).length (nats K (xs j))
  off : ∀ j, j < n → (vs j).ownBlock ≠ some g
  apart : ∀ i j, i < n → j < n → i ≠ j → ∀ b, (vs i).ownBlock = some b → (vs j).ownBlock ≠ some b
section
variable {K : IntKind} {e : TypeId} {w0 W W' : World} {g n : Nat} {vs : Nat → Value} {xs : Nat → List Nat}
theorem Rack.keep (T : Rack K e w0 W g n vs xs) (E : Ext W W') : Rack K e w0 W' g n vs xs where
  ext := T.ext.trans E
  lo := T.lo
  hi := Nat.lt_of_lt_of_le T.hi E.size
  cell j hj := (E.cell (p := ⟨g, j, none⟩) T.hi).trans (T.cell j hj)
  open_ j hj := (E.frozen (p := ⟨g, j, none⟩) T.hi).trans (T.open_ j hj)
  own j hj := row_ext (T.own j hj) E
  off := T.off
  apart := T.apart
/-- Nothing in any of them. -/
theorem Rack.start {w0 W' : World} {g n : Nat} (E : Ext w0 W') (lo : w0.heap.size ≤ g) (hi : g < W'.heap.size) (cell : ∀ j, j < n → W'.cell? ⟨g, j, none⟩ = some (.slice none 0 0)) (op : ∀ j, j < n → W'.frozen? ⟨g, j, none⟩ = false) :
    Rack K e w0 W' g n (fun _ => .slice none 0 0) (fun _ => []) where
  ext := E
  lo := lo
  hi := hi
  cell := cell
  open_ := op
  own _ _ := World.ownsRow_nil _ _ _ _
  off _ _ h := by cases h
  apart _ _ _ _ _ _ h := by cases h
/-- One of them turns, in its own row or into a new block; and its header is stored. -/
theorem Rack.turn (T : Rack K e w0 W g n vs xs) {i : Nat} (hi : i < n) {v' : Value} {ys : List Nat} (hown : W'.ownsRow w0.heap.size e 1 v' ys.length (nats K ys)) (hg : W.grownBy W' (vs i).ownBlock)
    (hat : v'.ownBlock = (vs i).ownBlock ∨ ∃ k, v'.ownBlock = some k ∧ W.heap.size ≤ k) : Rack K e w0 (W'.setCell ⟨g, i, none⟩ v') g n (upv vs i v') (upv xs i ys) := by
  have hE : Ext w0 W' := T.ext.grown hg fun k hk => ((T.own i hi).lt k hk).1
  have hs := hg.size
  have hgb : W'.heap[g]? = W.heap[g]? := hg.block g T.hi fun e => T.off i hi e.symm
  have hcell : ∀ j, W'.cell? ⟨g, j, none⟩ = W.cell? ⟨g, j, none⟩ := fun j => World.cell?_of_block (a := ⟨g, j, none⟩) hgb
  have hfro : ∀ j, W'.frozen? ⟨g, j, none⟩ = W.frozen? ⟨g, j, none⟩ := fun j => by unfold World.frozen?; rw [hgb]
  have hvg : v'.ownBlock ≠ some g := by
    rcases hat with h | ⟨k, h, hk⟩
    · rw [h]; exact T.off i hi
    · rw [h]; intro e; injection e with e; have := T.hi; omega
  have set_own : ∀ {v : Value} {l : List Nat}, v.ownBlock ≠ some g → W'.ownsRow w0.heap.size e 1 v l.length (nats K l) → (W'.setCell ⟨g, i, none⟩ v').ownsRow w0.heap.size e 1 v l.length (nats K l) := by
    intro v l hne h
    obtain ⟨h1, h2⟩ := h
    refine ⟨h1, ?_⟩
    rcases h2 with h2 | ⟨b, cap, cur, rfl, hb, hh, r⟩
    · exact .inl h2
    · refine .inr ⟨b, cap, cur, rfl, hb, ?_, r⟩
      have hbg : b ≠ g := fun e => hne (by rw [e]; rfl)
      rw [← hh]
      simp only [World.setCell]
      rw [Array.getElem?_modify, if_neg (fun e => hbg e.symm)]
  exact {
    ext := hE.setCell (by have := T.lo; exact this) _
    lo := T.lo
    hi := by have := T.hi; simp; omega
    cell := fun j hj => by
      by_cases c : j = i
      · subst c
        rw [upv_same]
        exact World.cell?_setCell_same' _ _ _ (by rw [hcell, T.cell j hj]; rfl)
      · rw [upv_ne _ _ c, World.cell?_setCell_other _ _ _ _ (by intro e; injection e with _ e; exact c e.symm), hcell]
        exact T.cell j hj
    open_ := fun j hj => by rw [World.frozen?_setCell, hfro]; exact T.open_ j hj
    own := fun j hj => by
      by_cases c : j = i
      · subst c
        rw [upv_same, upv_same]
        exact set_own hvg hown
      · rw [upv_ne _ _ c, upv_ne _ _ c]
        refine set_own (T.off j hj) ?_
        obtain ⟨h1, h2⟩ := T.own j hj
        refine ⟨h1, ?_⟩
        rcases h2 with h2 | ⟨b, cap, cur, hv, hb, hh, r⟩
        · exact .inl h2
        · refine .inr ⟨b, cap, cur, hv, hb, ?_, r⟩
          have hob : (vs j).ownBlock = some b := by rw [hv]; rfl
          rw [hg.block b ((T.own j hj).lt b hob).2 (fun e2 => T.apart j i hj hi c b hob e2.symm)]
          exact hh
    off := fun j hj => by
      by_cases c : j = i
      · subst c; rw [upv_same]; exact hvg
      · rw [upv_ne _ _ c]; exact T.off j hj
    apart := fun a b ha hb hab k hk => by
      have new : ∀ j, j < n → j ≠ i → ∀ k, (vs j).ownBlock = some k → v'.ownBlock ≠ some k := fun j hj hne k hk hk' => by
        rcases hat with h | ⟨q, h, hq⟩
        · rw [h] at hk'; exact T.apart j i hj hi hne k hk hk'
        · rw [h] at hk'; injection hk' with hk'
          have := ((T.own j hj).lt k hk).2
          omega
      by_cases c : a = i
      · subst c
        rw [upv_same] at hk
        rw [upv_ne _ _ (Ne.symm hab)]
        exact fun h => new b hb (Ne.symm hab) k h hk
      · rw [upv_ne _ _ c] at hk
        by_cases d : b = i
        · subst d; rw [upv_same]; exact new a ha c k hk
        · rw [upv_ne _ _ d]; exact T.apart a b ha hb hab k hk }
end
end Go.Proofs.YtpenkbhljkmliaaGreatDoor

/-
  Two rows of the call's own that grow side by side.
-/
set_option linter.unusedVariables false
set_option linter.unusedSimpArgs false
namespace Go.Proofs.YtpenkbhljkmliaaGreatDoor
open Go.RowKit

/-- Two rows made since W0, in two blocks. -/
structure Duo (W0 w : World) (e1 : TypeId) (v1 : Value) (n1 : Nat) (xs1 : List Value) (e2 : TypeId) (v2 : Value) (n2 : Nat) (xs2 : List Value) : Prop where
  a : w.ownsRow W0.heap.size e1 1 v1 n1 xs1
  b : w.ownsRow W0.heap.size e2 1 v2 n2 xs2
  ne : ∀ k, v1.ownBlock = some k → v2.ownBlock = some k → False
  ext : Ext W0 w

section
variable {W0 w w' : World} {e1 e2 : TypeId} {v1 v2 v' : Value} {n1 n2 m1 m2 : Nat} {xs1 xs2 ys : List Value}
theorem Duo.nil (E : Ext W0 w) : Duo W0 w e1 (.slice none 0 0) 0 [] e2 (.slice none 0 0) 0 [] := ⟨World.ownsRow_nil _ _ _ _, World.ownsRow_nil _ _ _ _, fun k h => by simp [Value.ownBlock] at h, E⟩
theorem Duo.alloc (h : Duo W0 w e1 v1 n1 xs1 e2 v2 n2 xs2) (o : Obj) : Duo W0 (w.alloc o) e1 v1 n1 xs1 e2 v2 n2 xs2 := ⟨h.a.alloc o, h.b.alloc o, h.ne, h.ext.alloc o⟩
theorem Duo.drew (h : Duo W0 w e1 v1 n1 xs1 e2 v2 n2 xs2) : Duo W0 w.drew e1 v1 n1 xs1 e2 v2 n2 xs2 := ⟨h.a.drew, h.b.drew, h.ne, h.ext.drew⟩
theorem Duo.keep (h : Duo W0 w e1 v1 n1 xs1 e2 v2 n2 xs2) (E : Ext w w') : Duo W0 w' e1 v1 n1 xs1 e2 v2 n2 xs2 := ⟨row_ext h.a E, row_ext h.b E, h.ne, h.ext.trans E⟩
theorem Duo.swap (h : Duo W0 w e1 v1 n1 xs1 e2 v2 n2 xs2) : Duo W0 w e2 v2 n2 xs2 e1 v1 n1 xs1 := ⟨h.b, h.a, fun k a b => h.ne k b a, h.ext⟩
theorem Duo.step (h : Duo W0 w e1 v1 n1 xs1 e2 v2 n2 xs2) (ho : w'.ownsRow W0.heap.size e1 1 v' m1 ys) (hg : w.grownBy w' v1.ownBlock) (hat : v'.ownBlock = v1.ownBlock ∨ v'.ownBlock = some w.heap.size) : Duo W0 w' e1 v' m1 ys e2 v2 n2 xs2 := by
  refine ⟨ho, h.b.kept hg ?_, fun k h1 h2 => ?_, h.ext.grown hg fun k hk => (h.a.lt k hk).1⟩
  · cases hv : v2.ownBlock with
    | none => exact .inl rfl
    | some k => exact .inr fun x => h.ne k x.symm hv
  · rcases hat with e | e
    · exact h.ne k (by rw [← e]; exact h1) h2
    · rw [e] at h1
      injection h1 with h1
      have := (h.b.lt k h2).2
      omega

theorem step_duoA {P : Program} {ops : Array Oper} {o : Oper} {a : Act} {K : Act → World → Prop} {Q : Exit → Act → World → Prop} {E : Prop}
    (hg : o.guard = none) (s x : Operand) (t : TypeId) (ho : o.op = .call { callee := .builtin .append, args := #[s, x], argTypes := #[t, t] }) {z : Value} {bytes : Nat} (hI : EInfo P t e1 z 1 bytes)
    (D : Duo W0 w e1 v1 n1 xs1 e2 v2 n2 xs2) (hs : a.eval s = v1) {b : Nat} (hx : a.eval x = .slice (some ⟨b, 0, none⟩) 1 1) {u : Value} (hc : w.cell? ⟨b, 0, none⟩ = some u) (h1 : u.oneCell' = true)
    (hb : (n1 + 1) * bytes ≤ 140737488355328 ∧ n1 + 1 ≤ 9223372036854775807)
    (h : ∀ v' w', Duo W0 w' e1 v' (n1 + 1) (xs1 ++ [u]) e2 v2 n2 xs2 → w.grownBy w' v1.ownBlock → K (a.put o.dst v') w') :
    if Region.wanted o (yielded ops a.tmps) = true then Oper.wp P o a w K Q else E := by
  have hw : Region.wanted o (yielded ops a.tmps) = true := by simp [Region.wanted, hg]
  rw [if_pos hw]
  obtain ⟨ht, ⟨i, hi, hz, hsz, hby⟩, hzs, hsz0⟩ := hI
  obtain ⟨v', w', hr, h2, h3, h4, h5⟩ := run_append_own_at (P := P) w W0.heap.size t o.type e1 i z 1 bytes ht hi hz hsz hby hzs hsz0 v1 n1 xs1 D.a ⟨b, 0, none⟩ 1 1 [u] rfl
    (by
      intro j y hj
      match j, hj with
      | 0, hj => simp at hj; subst hj; simpa [Addr.add] using hc) (by intro y hy; simp at hy; subst hy; exact h1) (by unfold maxLen; omega) (by omega) D.ext.size
  unfold Oper.wp execOp
  simp only [ho, resolve, invoke, builtin, Sem.run_bind, Sem.run_pure, Result.andThen_ok, List.map_toArray, List.map_cons, List.map_nil, hs, hx, hr]
  exact h v' w' (D.step h2 h3 h5) h3
theorem step_duoB {P : Program} {ops : Array Oper} {o : Oper} {a : Act} {K : Act → World → Prop} {Q : Exit → Act → World → Prop} {E : Prop}
    (hg : o.guard = none) (s x : Operand) (t : TypeId) (ho : o.op = .call { callee := .builtin .append, args := #[s, x], argTypes := #[t, t] }) {z : Value} {bytes : Nat} (hI : EInfo P t e2 z 1 bytes)
    (D : Duo W0 w e1 v1 n1 xs1 e2 v2 n2 xs2) (hs : a.eval s = v2) {b : Nat} (hx : a.eval x = .slice (some ⟨b, 0, none⟩) 1 1) {u : Value} (hc : w.cell? ⟨b, 0, none⟩ = some u) (h1 : u.oneCell' = true)
    (hb : (n2 + 1) * bytes ≤ 140737488355328 ∧ n2 + 1 ≤ 9223372036854775807)
    (h : ∀ v' w', Duo W0 w' e1 v1 n1 xs1 e2 v' (n2 + 1) (xs2 ++ [u]) → w.grownBy w' v2.ownBlock → K (a.put o.dst v') w') :
    if Region.wanted o (yielded ops a.tmps) = true then Oper.wp P o a w K Q else E :=
  step_duoA hg s x t ho hI D.swap hs hx hc h1 hb fun v' w' D' => h v' w' D'.swap
end
end Go.Proofs.YtpenkbhljkmliaaGreatDoor

/-
  A region that draws its order, whose first operations have one order alone and may make memory, and whose other operations only read: one walk of the text's order serves.
-/
set_option linter.unusedVariables false
set_option linter.unusedSimpArgs false
namespace Go.Proofs.YtpenkbhljkmliaaGreatDoor
open Go.RowKit

def HeadPost (Q : Exit → Act → World → Prop) (R : Act → World → Prop) : Exit → Act → World → Prop
  | .normal, a, w => R a w
  | e, a, w => Q e a w

def isMove (ops : Array Oper) (i : Nat) : Bool := match ops[i]? with
  | some o => (match o.op with | .move _ => true | .assign _ => true | _ => false)
  | none => false

def forcedB (md : Region.Mode) (ops : Array Oper) (r : Nat) : Nat → Nat → Array Bool → Bool
  | 0, i, listed => Region.lexFrom md ops r i listed
  | h + 1, i, listed => (Region.ready md ops listed == [i] || (isMove ops i && (Region.ready md ops listed).contains i && Region.free md ops listed i)) && forcedB md ops r h (i + 1) (listed.setIfInBounds i true)

def headB (ops : Array Oper) (k : Nat) : Bool := Region.noSelect ops && decide (k ≤ ops.size) && forcedB .any ops (ops.size - k) k 0 (Array.replicate ops.size false)

section
variable {P : Program} {ops : Array Oper} {Q : Exit → Act → World → Prop} {R : Act → World → Prop}

theorem head_wp {o : Oper} {a : Act} {w : World} {K : Act → World → Prop} (hh : o.wp P a w K (HeadPost Q R)) : o.wp P a w K Q := by
  unfold Oper.wp at *
  generalize (execOp a.eval o).run P w = r at *
  cases r with
  | ok n w' =>
    cases n <;> simp only [Oper.upon] at hh ⊢ <;> first | exact hh | exact hh.mono fun e w'' h => by cases e <;> exact h
  | halt h w' =>
    cases h <;> simp only [Oper.upon] at hh ⊢ <;> exact hh

theorem yields_move {o : Oper} {i : Nat} (a : Act) (h0 : ops[i]? = some o) (hm : isMove ops i = true) : ∃ v, execOp a.eval o = pure (.value v) := by
  unfold isMove at hm
  simp only [h0] at hm
  split at hm
  · rename_i x hx; exact ⟨a.eval x, by simp [execOp, hx]⟩
  · rename_i x hx; exact ⟨a.eval x, by simp [execOp, hx]⟩
  · simp at hm

theorem head_any {md : Region.Mode} (rest : List Oper) (C : World → World → Prop) (hC : ∀ w, C w w) (hs : Region.noSelect ops = true) (hQ : ∀ (c : List PanicEntry) (a : Act) (d : Option Tmp) (v : Value) (w : World), Q (.panic c) (a.put d v) w → Q (.panic c) a w) : ∀ (l : List Oper) (i : Nat) (listed : Array Bool) (a : Act) (w : World),
    (∀ j, (l ++ rest)[j]? = ops[i + j]?) → forcedB md ops rest.length l.length i listed = true →
    wpList P ops (HeadPost Q fun a' w' => wpQuiet P ops (C w') (fun a'' => ∀ w'', C w' w'' → Q .normal a'' w'') rest a') l a w →
    wpAny P md ops Q (l ++ rest).length listed a w
  | [], i, listed, a, w, hl, hB, h => by
    simp only [List.nil_append]
    have h' : wpQuiet P ops (C w) (fun a'' => ∀ w'', C w w'' → Q .normal a'' w'') rest a := h
    exact wpAny_of_quiet (C := C w) (Q := fun a'' => ∀ w'', C w w'' → Q .normal a'' w'') (fun _ w'' hw h => h w'' hw) _ _ _ _ (hC w) (wpAnyQ_lex hs rest i listed a (by simpa using hl) hB h')
  | o :: l, i, listed, a, w, hl, hB, h => by
    have h0 : ops[i]? = some o := by simpa using (hl 0).symm
    simp only [List.length_cons, forcedB, Bool.and_eq_true, Bool.or_eq_true, beq_iff_eq] at hB
    obtain ⟨hr, hB'⟩ := hB
    have hnext : ∀ a w, wpList P ops (HeadPost Q fun a' w' => wpQuiet P ops (C w') (fun a'' => ∀ w'', C w' w'' → Q .normal a'' w'') rest a') l a w → wpAny P md ops Q (l ++ rest).length (listed.setIfInBounds i true) a w := fun a w =>
      head_any rest C hC hs hQ l (i + 1) _ a w (fun j => by have := hl (j + 1); simpa [Nat.add_assoc, Nat.add_comm 1 j] using this) hB'
    simp only [List.cons_append, List.length_cons]
    rcases hr with hr | ⟨⟨hmv, hrc⟩, hfr⟩
    case inr =>
      simp only [wpList] at h
      by_cases hw : Region.wanted o (yielded ops a.tmps) = true
      · obtain ⟨v, hv⟩ := yields_move a h0 hmv
        have hrun : ∀ w, (execOp a.eval o).run P w = .ok (.value v) w := fun w => by rw [hv]; rfl
        simp only [hw, if_true] at h
        have hk : wpList P ops (HeadPost Q fun a' w' => wpQuiet P ops (C w') (fun a'' => ∀ w'', C w' w'' → Q .normal a'' w'') rest a') l (a.put o.dst v) w := by
          rcases h with h | ⟨h1, h2⟩
          · unfold Oper.wp at h
            rw [hrun w] at h
            exact h
          · exact absurd h1.1 (by rw [hv]; simp [Sem.runT, pure, Sem.events])
        exact wpAny_first h0 (Region.noSelect_spec hs) (fun c a w => hQ c a _ _ w) _ _ _ _ (Region.free_spec h0 hfr) (by simpa using hrc) (.inl ⟨hw, hrun⟩) (hnext _ _ hk)
      · have hw' : Region.wanted o (yielded ops a.tmps) = false := by simpa using hw
        simp only [hw'] at h
        exact wpAny_first h0 (Region.noSelect_spec hs) (fun c a w => hQ c a _ _ w) _ _ _ _ (Region.free_spec h0 hfr) (by simpa using hrc) (.inr ⟨hw', rfl⟩) (hnext _ _ h)
    refine wpAny_all hr (by simp) fun j hj => ?_
    obtain rfl : j = i := by simpa using hj
    unfold wpOp
    simp only [h0]
    simp only [wpList] at h
    split
    · rename_i hw
      simp only [hw, if_true] at h
      rcases h with h | ⟨h1, h2⟩
      · exact .inl (Oper.wp_mono hnext (head_wp h))
      · exact .inr ⟨h1, h2⟩
    · rename_i hw
      simp only [hw] at h
      exact hnext _ _ h

theorem wp_region_head {id : Nat} {a : Act} {w : World} (k : Nat) {l : List Oper} (hQ : ∀ (c : List PanicEntry) (a : Act) (d : Option Tmp) (v : Value) (w : World), Q (.panic c) (a.put d v) w → Q (.panic c) a w) (hm : P.follows .mixedOrders = true) (hB : headB l.toArray k = true)
    (h : wpList P l.toArray (HeadPost Q fun a' w' => wpQuiet P l.toArray (fun w'' => ∃ n, w'' = w'.drewN n) (fun a'' => ∀ w'', (∃ n, w'' = w'.drewN n) → Q .normal a'' w'') (l.drop k) a') (l.take k) a w.drew) :
    (Code.region id l.toArray true).wp P Q a w := by
  simp only [headB, Bool.and_eq_true, decide_eq_true_eq, List.size_toArray] at hB
  obtain ⟨⟨hs, hk⟩, hB⟩ := hB
  refine wp_region_any hm ?_
  have h1 : (l.take k).length = k := by rw [List.length_take]; omega
  have h2 : (l.drop k).length = l.length - k := List.length_drop
  have := head_any (P := P) (ops := l.toArray) (Q := Q) (md := .any) (l.drop k) (fun w' w'' => ∃ n, w'' = w'.drewN n) (fun w' => ⟨0, rfl⟩) hs hQ (l.take k) 0 (Array.replicate l.length false) a w.drew
    (fun j => by simp) (by rw [h1, h2]; exact hB) h
  rw [List.take_append_drop] at this
  simpa using this
end

end Go.Proofs.YtpenkbhljkmliaaGreatDoor

/-
  A region that draws its order, in three parts: operations that have one order alone, operations that only read (or call what at most makes memory), operations that have one order alone again: one walk serves.
-/
set_option linter.unusedVariables false
set_option linter.unusedSimpArgs false
namespace Go.Proofs.YtpenkbhljkmliaaGreatDoor
open Go.RowKit

def LA (n : Nat) : Nat → Array Bool
  | 0 => Array.replicate n false
  | k + 1 => (LA n k).setIfInBounds k true
theorem LA_inv (n : Nat) : ∀ k j, (LA n k).getD j false = true → j < k
  | 0, j, h => by
    simp only [LA, Array.getD_eq_getD_getElem?, Array.getElem?_replicate] at h
    split at h <;> simp at h
  | k + 1, j, h => by
    by_cases e : k = j
    · omega
    · have : (LA n (k + 1)).getD j false = (LA n k).getD j false := by
        rw [show LA n (k + 1) = (LA n k).setIfInBounds k true from rfl, Array.getD_eq_getD_getElem?, Array.getElem?_setIfInBounds_ne e, Array.getD_eq_getD_getElem?]
      rw [this] at h
      have := LA_inv n k j h
      omega

section
variable {P : Program} {ops : Array Oper} {md : Region.Mode} {C : World → Prop}

/-- Whatever order the operations below m are picked in. -/
def wpAnyR (P : Program) (md : Region.Mode) (ops : Array Oper) (C : World → Prop) (m : Nat) (Q : Array Bool → Act → Prop) : Nat → Array Bool → Act → Prop
  | 0, listed, a => (∀ j ∈ Region.ready md ops listed, m ≤ j) ∧ Q listed a
  | fuel + 1, listed, a => (∃ k ∈ Region.ready md ops listed, k < m) ∧ ∀ i ∈ Region.ready md ops listed, i < m → qOp P ops C i (wpAnyR P md ops C m Q fuel (listed.setIfInBounds i true)) a

theorem wpAnyR_first {Q : Array Bool → Act → Prop} {m i : Nat} {oi : Oper} {v : Value} (hi : ops[i]? = some oi) (him : i < m) (hsel : ∀ (j : Nat) (o : Oper) cs b, ops[j]? = some o → o.op ≠ .select cs b) :
    ∀ (fuel : Nat) (listed : Array Bool) (a : Act),
      (∀ j oj, ops[j]? = some oj → j ≠ i → listed.getD j true = false → (∀ e ∈ oj.after, Region.binds md e = true → e.on ≠ i) → oi.apart ops oj = true) →
      i ∈ Region.ready md ops listed → YieldsIn P ops C oi v a →
      wpAnyR P md ops C m Q fuel (listed.setIfInBounds i true) (a.put oi.dst v) → wpAnyR P md ops C m Q (fuel + 1) listed a := by
  intro fuel
  induction fuel with
  | zero =>
    intro listed a _ hr hy H
    refine ⟨⟨i, hr, him⟩, fun j hj hjm => ?_⟩
    by_cases hji : j = i
    · subst hji; exact hy.qOp hi H
    · exact absurd (H.1 j (ready_mono hj hji)) (by omega)
  | succ fuel ih =>
    intro listed a hfree hr hy H
    refine ⟨⟨i, hr, him⟩, fun j hj hjm => ?_⟩
    by_cases hji : j = i
    · subst hji; exact hy.qOp hi H
    · have h1 := H.2 j (ready_mono hj hji) hjm
      obtain ⟨hjun, oj, hoj, hall⟩ := mem_ready.1 hj
      have hnot : ∀ e ∈ oj.after, Region.binds md e = true → e.on ≠ i := fun e he hb heq => by
        have h1 := hall e he hb
        have h0 := (mem_ready.1 hr).1
        rw [heq] at h1
        rcases Nat.lt_or_ge i listed.size with h' | h'
        · simp [h'] at h0 h1; rw [h0] at h1; cases h1
        · simp [Array.getElem?_eq_none h'] at h1
      have h2 := qOp_put hoj (hfree j oj hoj hji hjun hnot) (fun cs b => hsel i oi cs b hi) (fun cs b => hsel j oj cs b hoj) hy h1
      have hfree' : ∀ k ok, ops[k]? = some ok → k ≠ i → (listed.setIfInBounds j true).getD k true = false →
          (∀ e ∈ ok.after, Region.binds md e = true → e.on ≠ i) → oi.apart ops ok = true := fun k ok hk hki hun hno => by
        refine hfree k ok hk hki ?_ hno
        by_cases hjk : j = k
        · subst hjk; exact hjun
        · rw [getD_set_ne true hjk] at hun; exact hun
      refine qOp_mono (fun a' h3 => ih (listed.setIfInBounds j true) a' hfree' (ready_mono hr (Ne.symm hji)) h3.1 ?_) h2
      rw [Array.setIfInBounds_comm _ _ hji]
      exact h3.2

def lexR (md : Region.Mode) (ops : Array Oper) (m : Nat) : Nat → Nat → Array Bool → Bool
  | 0, _, listed => (Region.ready md ops listed).all fun j => decide (m ≤ j)
  | fuel + 1, k, listed => (Region.ready md ops listed).contains k && Region.free md ops listed k && decide (k < m) && lexR md ops m fuel (k + 1) (listed.setIfInBounds k true)

theorem wpAnyR_lex {Q : Act → Prop} (hs : Region.noSelect ops = true) {m n : Nat} : ∀ (l : List Oper) (k : Nat) (a : Act), (∀ j, j < l.length → l[j]? = ops[k + j]?) →
    lexR md ops m l.length k (LA n k) = true → wpQuiet P ops C Q l a → wpAnyR P md ops C m (fun L a => L = LA n (k + l.length) ∧ Q a) l.length (LA n k) a
  | [], k, _, _, hB, h => ⟨fun j hj => by
      simp only [List.length_nil, lexR, List.all_eq_true, decide_eq_true_eq] at hB
      exact hB j hj, by simp, h⟩
  | o :: l, k, a, hl, hB, h => by
    have h0 : ops[k]? = some o := by simpa using (hl 0 (by simp)).symm
    simp only [List.length_cons, lexR, Bool.and_eq_true, decide_eq_true_eq] at hB
    obtain ⟨⟨⟨hr, hf⟩, hkm⟩, hB'⟩ := hB
    have hst : qOp P ops C k (wpQuiet P ops C Q l) a := by unfold qOp; simp only [h0]; exact h
    obtain ⟨v, hy, hK⟩ := yieldsIn_of_qOp h0 hst
    have ih := wpAnyR_lex hs l (k + 1) (a.put o.dst v) (fun j hj => by have := hl (j + 1) (by simpa using hj); simpa [Nat.add_assoc, Nat.add_comm 1 j] using this) hB' hK
    rw [show k + 1 + l.length = k + (o :: l).length by simp; omega] at ih
    exact wpAnyR_first h0 hkm (Region.noSelect_spec hs) l.length (LA n k) a (Region.free_spec h0 hf) (by simpa using hr) hy ih

/-- What is not listed where k is not: what waits for it, at one or more removes. -/
def unL (md : Region.Mode) (ops : Array Oper) (k : Nat) : Nat → List Bool
  | 0 => []
  | i + 1 => unL md ops k i ++ [decide (i = k) || (match ops[i]? with | some o => o.after.any (fun e => Region.binds md e && (unL md ops k i).getD e.on false) | none => false)]
theorem unL_length (md : Region.Mode) (ops : Array Oper) (k : Nat) : ∀ i, (unL md ops k i).length = i
  | 0 => rfl
  | i + 1 => by simp [unL, unL_length md ops k i]
def Closed (md : Region.Mode) (ops : Array Oper) (listed : Array Bool) : Prop :=
  ∀ j o, ops[j]? = some o → listed.getD j false = true → ∀ e ∈ o.after, Region.binds md e = true → listed.getD e.on false = true
theorem unL_spec {listed : Array Bool} {k : Nat} (hc : Closed md ops listed) (hk : listed.getD k false = false) : ∀ i j, (unL md ops k i).getD j false = true → listed.getD j false = false
  | 0, j, h => by simp [unL] at h
  | i + 1, j, h => by
    have hl := unL_length md ops k i
    rcases Nat.lt_or_ge j i with hj | hj
    · refine unL_spec hc hk i j ?_
      rw [List.getD_eq_getElem?_getD] at h ⊢
      rwa [unL, List.getElem?_append_left (by omega)] at h
    · rcases Nat.lt_or_ge i j with hj2 | hj2
      · rw [List.getD_eq_getElem?_getD, List.getElem?_eq_none (by rw [unL_length]; omega)] at h
        simp at h
      · obtain rfl : j = i := by omega
        rw [List.getD_eq_getElem?_getD, unL, List.getElem?_append_right (by omega), hl, Nat.sub_self] at h
        simp only [List.getElem?_cons_zero, Option.getD_some, Bool.or_eq_true, decide_eq_true_eq] at h
        rcases h with h | h
        · rw [h]; exact hk
        · cases ho : ops[j]? with
          | none => rw [ho] at h; simp at h
          | some o =>
            rw [ho] at h
            simp only [Array.any_eq_true'] at h
            obtain ⟨e, he, hb⟩ := h
            simp only [Bool.and_eq_true] at hb
            have h1 := unL_spec hc hk j e.on hb.2
            cases hx : listed.getD j false with
            | false => rfl
            | true =>
              have := hc j o ho hx e he hb.1
              rw [h1] at this
              cases this
def AB (md : Region.Mode) (ops : Array Oper) (n m k : Nat) : Array Bool := (Array.range n).map fun j => decide (j < m) && !((unL md ops k m).getD j false)
def lateB (md : Region.Mode) (ops : Array Oper) (m : Nat) : Bool := decide (m ≤ ops.size) && (List.range m).all fun k => (Region.ready md ops (AB md ops ops.size m k)).all fun j => decide (j < m)

theorem wpAny_of_R {m : Nat} {QQ : Array Bool → Act → Prop} {Q' : Exit → Act → World → Prop} (hst : lateB md ops m = true) (rest : Nat) (hK : ∀ L a w, C w → QQ L a → wpAny P md ops Q' rest L a w) :
    ∀ (fuel : Nat) (listed : Array Bool) (a : Act) (w : World), C w → (∀ k, listed.getD k false = true → k < m) → Closed md ops listed → wpAnyR P md ops C m QQ fuel listed a → wpAny P md ops Q' (fuel + rest) listed a w
  | 0, listed, a, w, hw, _, _, h => by
    have h' : (∀ j ∈ Region.ready md ops listed, m ≤ j) ∧ QQ listed a := h
    rw [Nat.zero_add]; exact hK _ _ _ hw h'.2
  | fuel + 1, listed, a, w, hw, hinv, hcl, h => by
    have h : (∃ k ∈ Region.ready md ops listed, k < m) ∧ ∀ i ∈ Region.ready md ops listed, i < m → qOp P ops C i (wpAnyR P md ops C m QQ fuel (listed.setIfInBounds i true)) a := h
    rw [show fuel + 1 + rest = (fuel + rest) + 1 by omega]
    obtain ⟨⟨k, hk, hkm⟩, h2⟩ := h
    simp only [lateB, Bool.and_eq_true, decide_eq_true_eq, List.all_eq_true, List.mem_range] at hst
    obtain ⟨hms, hst'⟩ := hst
    have hkf : listed.getD k false = false := by
      have h6 := (mem_ready.1 hk).1
      rcases Nat.lt_or_ge k listed.size with h' | h'
      · simp [h'] at h6 ⊢; exact h6
      · simp [Array.getElem?_eq_none h']
    refine ⟨fun h0 => absurd hk (by rw [h0]; simp), fun i hi => ?_⟩
    have him : i < m := by
      apply Classical.byContradiction
      intro hn
      apply hn
      refine hst' k hkm i ?_
      rw [mem_ready] at hi ⊢
      obtain ⟨h0, o, ho, hall⟩ := hi
      have hin : i < ops.size := (Array.getElem?_eq_some_iff.1 ho).1
      refine ⟨?_, o, ho, fun e he hb => ?_⟩
      · simp [AB, hin, hn]
      · have h3 := hall e he hb
        have h4 := hinv _ h3
        have h5 : (unL md ops k m).getD e.on false = false := by
          cases hx : (unL md ops k m).getD e.on false with
          | false => rfl
          | true =>
            have := unL_spec hcl hkf m e.on hx
            rw [h3] at this
            cases this
        have h6 : e.on < ops.size := by omega
        rw [List.getD_eq_getElem?_getD] at h5
        simp [AB, h6, h4, h5]
    have hready := mem_ready.1 hi
    refine wpOp_of_qOp hw (fun a' w' hw' => wpAny_of_R (by simp only [lateB, Bool.and_eq_true, decide_eq_true_eq, List.all_eq_true, List.mem_range]; exact ⟨hms, hst'⟩) rest hK fuel _ a' w' hw' (fun j hj => ?_) (fun j o ho hj e he hb => ?_)) (h2 i hi him)
    · by_cases e : i = j
      · omega
      · apply hinv j
        rwa [Array.getD_eq_getD_getElem?, Array.getElem?_setIfInBounds_ne e, ← Array.getD_eq_getD_getElem?] at hj
    · by_cases hij : i = j
      · subst hij
        obtain ⟨-, o', ho', hall⟩ := hready
        rw [ho] at ho'
        injection ho' with ho'
        subst ho'
        exact getD_set_true (hall e he hb)
      · rw [Array.getD_eq_getD_getElem?, Array.getElem?_setIfInBounds_ne hij, ← Array.getD_eq_getD_getElem?] at hj
        exact getD_set_true (hcl j o ho hj e he hb)

def closedB (md : Region.Mode) (ops : Array Oper) (listed : Array Bool) : Bool :=
  (List.range ops.size).all fun j => !listed.getD j false || (match ops[j]? with | some o => o.after.all (fun e => !Region.binds md e || listed.getD e.on false) | none => true)
theorem closed_of {listed : Array Bool} (h : closedB md ops listed = true) : Closed md ops listed := fun j o ho hj e he hb => by
  have hin : j < ops.size := (Array.getElem?_eq_some_iff.1 ho).1
  simp only [closedB, List.all_eq_true, List.mem_range] at h
  have h1 := h j hin
  rw [hj, ho] at h1
  simp only [Bool.not_true, Bool.false_or, Array.all_eq_true_iff_forall_mem] at h1
  have h2 := h1 e he
  rw [hb] at h2
  simpa using h2

def forcedC (md : Region.Mode) (ops : Array Oper) : Nat → Nat → Array Bool → Bool
  | 0, _, _ => true
  | h + 1, i, listed => (Region.ready md ops listed == [i] || (isMove ops i && (Region.ready md ops listed).contains i && Region.free md ops listed i)) && forcedC md ops h (i + 1) (listed.setIfInBounds i true)

theorem forced_any {Q : Exit → Act → World → Prop} {K : Act → World → Prop} (hs : Region.noSelect ops = true) (hQ : ∀ (c : List PanicEntry) (a : Act) (d : Option Tmp) (v : Value) (w : World), Q (.panic c) (a.put d v) w → Q (.panic c) a w)
    (n e n' : Nat) (hK : ∀ a w, K a w → wpAny P md ops Q n' (LA n e) a w) : ∀ (l : List Oper) (i : Nat) (a : Act) (w : World),
    i + l.length = e → (∀ j, j < l.length → l[j]? = ops[i + j]?) → forcedC md ops l.length i (LA n i) = true → wpList P ops (HeadPost Q K) l a w → wpAny P md ops Q (l.length + n') (LA n i) a w
  | [], i, a, w, he, _, _, h => by
    have h' : K a w := h
    simp only [List.length_nil, Nat.zero_add, Nat.add_zero] at he ⊢
    rw [he]
    exact hK _ _ h'
  | o :: l, i, a, w, he, hl, hB, h => by
    have h0 : ops[i]? = some o := by simpa using (hl 0 (by simp)).symm
    simp only [List.length_cons, forcedC, Bool.and_eq_true, Bool.or_eq_true, beq_iff_eq] at hB
    obtain ⟨hr, hB'⟩ := hB
    have hnext : ∀ a w, wpList P ops (HeadPost Q K) l a w → wpAny P md ops Q (l.length + n') ((LA n i).setIfInBounds i true) a w := fun a w =>
      forced_any hs hQ n e n' hK l (i + 1) a w (by simp only [List.length_cons] at he; omega) (fun j hj => by have := hl (j + 1) (by simpa using hj); simpa [Nat.add_assoc, Nat.add_comm 1 j] using this) hB'
    rw [show (o :: l).length + n' = (l.length + n') + 1 by simp; omega]
    rcases hr with hr | ⟨⟨hmv, hrc⟩, hfr⟩
    case inr =>
      simp only [wpList] at h
      by_cases hw : Region.wanted o (yielded ops a.tmps) = true
      · obtain ⟨v, hv⟩ := yields_move a h0 hmv
        have hrun : ∀ w, (execOp a.eval o).run P w = .ok (.value v) w := fun w => by rw [hv]; rfl
        simp only [hw, if_true] at h
        have hk : wpList P ops (HeadPost Q K) l (a.put o.dst v) w := by
          rcases h with h | ⟨h1, h2⟩
          · unfold Oper.wp at h
            rw [hrun w] at h
            exact h
          · exact absurd h1.1 (by rw [hv]; simp [Sem.runT, pure, Sem.events])
        exact wpAny_first h0 (Region.noSelect_spec hs) (fun c a w => hQ c a _ _ w) _ _ _ _ (Region.free_spec h0 hfr) (by simpa using hrc) (.inl ⟨hw, hrun⟩) (hnext _ _ hk)
      · have hw' : Region.wanted o (yielded ops a.tmps) = false := by simpa using hw
        simp only [hw'] at h
        exact wpAny_first h0 (Region.noSelect_spec hs) (fun c a w => hQ c a _ _ w) _ _ _ _ (Region.free_spec h0 hfr) (by simpa using hrc) (.inr ⟨hw', rfl⟩) (hnext _ _ h)
    refine wpAny_all hr (by simp) fun j hj => ?_
    obtain rfl : j = i := by simpa using hj
    unfold wpOp
    simp only [h0]
    simp only [wpList] at h
    split
    · rename_i hw
      simp only [hw, if_true] at h
      rcases h with h | ⟨h1, h2⟩
      · exact .inl (Oper.wp_mono hnext (head_wp h))
      · exact .inr ⟨h1, h2⟩
    · rename_i hw
      simp only [hw] at h
      exact hnext _ _ h

/-- k forced, those from k to m quiet, the others forced. -/
def triB (ops : Array Oper) (k m : Nat) : Bool :=
  Region.noSelect ops && decide (k ≤ m) && decide (m ≤ ops.size) && forcedC .any ops k 0 (LA ops.size 0) && lexR .any ops m (m - k) k (LA ops.size k) && lateB .any ops m && closedB .any ops (LA ops.size k) && forcedC .any ops (ops.size - m) m (LA ops.size m) && (Region.ready .any ops (LA ops.size ops.size)).isEmpty

theorem headPost_self (Q : Exit → Act → World → Prop) : (HeadPost Q fun a w => Q .normal a w) = Q := by funext e a w; cases e <;> rfl
theorem wp_region_tri {id : Nat} {Q : Exit → Act → World → Prop} {a : Act} {w : World} (k m : Nat) (CC : World → World → Prop) (hC : ∀ w, CC w w) {l : List Oper}
    (hQ : ∀ (c : List PanicEntry) (a : Act) (d : Option Tmp) (v : Value) (w : World), Q (.panic c) (a.put d v) w → Q (.panic c) a w) (hm : P.follows .mixedOrders = true) (hB : triB l.toArray k m = true)
    (h : wpList P l.toArray (HeadPost Q fun a1 w1 => wpQuiet P l.toArray (CC w1) (fun a2 => ∀ w2, CC w1 w2 → wpList P l.toArray Q (l.drop m) a2 w2) ((l.take m).drop k) a1) (l.take k) a w.drew) :
    (Code.region id l.toArray true).wp P Q a w := by
  simp only [triB, Bool.and_eq_true, decide_eq_true_eq, List.size_toArray, List.isEmpty_iff] at hB
  obtain ⟨⟨⟨⟨⟨⟨⟨⟨hs, hkm⟩, hml⟩, hF1⟩, hL⟩, hlate⟩, hcl⟩, hF2⟩, hend⟩ := hB
  refine wp_region_any hm ?_
  have h1 : (l.take k).length = k := by rw [List.length_take]; omega
  have h2 : ((l.take m).drop k).length = m - k := by rw [List.length_drop, List.length_take]; omega
  have h3 : (l.drop m).length = l.length - m := List.length_drop
  have step3 : ∀ a w, wpList P l.toArray Q (l.drop m) a w → wpAny P .any l.toArray Q (l.length - m + 0) (LA l.length m) a w := fun a w hh => by
    have := forced_any (P := P) (ops := l.toArray) (md := .any) (Q := Q) (K := fun a3 w3 => Q .normal a3 w3) hs hQ l.length l.length 0 (fun a w hq => ⟨hend, hq⟩) (l.drop m) m a w (by rw [h3]; omega)
      (fun j _ => by simp) (by rw [h3]; exact hF2) (by rw [headPost_self]; exact hh)
    rwa [h3] at this
  have step2 : ∀ a1 w1, wpQuiet P l.toArray (CC w1) (fun a2 => ∀ w2, CC w1 w2 → wpList P l.toArray Q (l.drop m) a2 w2) ((l.take m).drop k) a1 →
      wpAny P .any l.toArray Q ((m - k) + (l.length - m + 0)) (LA l.length k) a1 w1 := fun a1 w1 hh => by
    have hr := wpAnyR_lex (P := P) (ops := l.toArray) (md := .any) (C := CC w1) hs (m := m) (n := l.length) ((l.take m).drop k) k a1
      (fun j hj => by rw [h2] at hj; simp [List.getElem?_take_of_lt (show k + j < m by omega)]) (by rw [h2]; exact hL) hh
    rw [h2] at hr
    refine wpAny_of_R (by exact hlate) _ (fun L a w hw hq => ?_) _ _ _ _ (hC w1) (fun j hj => by have := LA_inv _ _ _ hj; omega) (closed_of hcl) hr
    obtain ⟨rfl, hq⟩ := hq
    rw [show k + (m - k) = m by omega]
    exact step3 a w (hq w hw)
  have := forced_any (P := P) (ops := l.toArray) (md := .any) (Q := Q) hs hQ l.length k ((m - k) + (l.length - m + 0)) step2 (l.take k) 0 a w.drew (by rw [h1]; omega)
    (fun j hj => by rw [h1] at hj; simp [List.getElem?_take_of_lt hj]) (by rw [h1]; exact hF1) h
  rw [h1, show k + (m - k + (l.length - m + 0)) = l.length by omega] at this
  simpa [LA] using this
theorem wp_region_tail {id : Nat} {Q : Exit → Act → World → Prop} {a : Act} {w : World} (m : Nat) (CC : World → World → Prop) (hC : ∀ w, CC w w) {l : List Oper}
    (hQ : ∀ (c : List PanicEntry) (a : Act) (d : Option Tmp) (v : Value) (w : World), Q (.panic c) (a.put d v) w → Q (.panic c) a w) (hm : P.follows .mixedOrders = true) (hB : triB l.toArray 0 m = true)
    (h : wpQuiet P l.toArray (CC w.drew) (fun a2 => ∀ w2, CC w.drew w2 → wpList P l.toArray Q (l.drop m) a2 w2) (l.take m) a) :
    (Code.region id l.toArray true).wp P Q a w :=
  wp_region_tri 0 m CC hC hQ hm hB h
end

end Go.Proofs.YtpenkbhljkmliaaGreatDoor
