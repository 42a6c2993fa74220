/-
  Several slices of the call's own, apart from each other: 'Hold w0 W L': in the world W, behind w0, each of the slices that L lists stands as it says, in a block of its own. append to one of them, as one step of a region that draws its order; a new one; a cell written in place.
-/
import Derived.Test.YtifkphlbjjdigaaApp
set_option linter.unusedVariables false
set_option linter.unusedSimpArgs false
namespace Go.Proofs.Ytifkphlbjjdigaa
open Go.RowKit

structure RowT where
  e : TypeId
  sz : Nat
  v : Value
  n : Nat
  xs : List Value

def Apart (r s : RowT) : Prop := ∀ b, r.v.ownBlock = some b → s.v.ownBlock ≠ some b
theorem Apart.symm {r s : RowT} (h : Apart r s) : Apart s r := fun b h1 h2 => h b h2 h1

def Hold (w0 W : World) (L : List RowT) : Prop :=
  Ext w0 W ∧ (∀ r ∈ L, W.ownsRow w0.heap.size r.e r.sz r.v r.n r.xs) ∧ L.Pairwise Apart

section
variable {w0 W W' : World} {L M : List RowT}
theorem Hold.ext_ (T : Hold w0 W L) : Ext w0 W := T.1
theorem Hold.own (T : Hold w0 W L) {r : RowT} (h : r ∈ L) : W.ownsRow w0.heap.size r.e r.sz r.v r.n r.xs := T.2.1 r h
theorem Hold.keep (T : Hold w0 W L) (E : Ext W W') : Hold w0 W' L := ⟨T.1.trans E, fun r h => row_ext (T.2.1 r h) E, T.2.2⟩
theorem Hold.alloc (T : Hold w0 W L) (o : Obj) : Hold w0 (W.alloc o) L := T.keep ((Ext.refl W).alloc o)
theorem Hold.drew (T : Hold w0 W L) : Hold w0 W.drew L := T.keep (Ext.refl W).drew
theorem Hold.drewN (T : Hold w0 W L) (n : Nat) : Hold w0 (W.drewN n) L := T.keep ((Ext.refl W).drewN n)
theorem Hold.nil (E : Ext w0 W) : Hold w0 W [] := ⟨E, fun _ h => by simp at h, List.Pairwise.nil⟩
theorem Hold.subl (T : Hold w0 W L) (h : M.Sublist L) : Hold w0 W M := ⟨T.1, fun r hr => T.2.1 r (h.subset hr), List.Pairwise.sublist h T.2.2⟩
theorem Hold.perm (T : Hold w0 W L) (h : L.Perm M) : Hold w0 W M := ⟨T.1, fun r hr => T.2.1 r (h.symm.subset hr), (List.Perm.pairwise_iff (R := Apart) (fun {a b} h => Apart.symm h) h).1 T.2.2⟩
/-- A slice that is nil may be listed. -/
theorem Hold.none_ (T : Hold w0 W L) (e : TypeId) (sz : Nat) : Hold w0 W (⟨e, sz, .slice none 0 0, 0, []⟩ :: L) :=
  ⟨T.1, fun r hr => by
    rcases List.mem_cons.1 hr with rfl | hr
    · exact World.ownsRow_nil _ _ _ _
    · exact T.2.1 r hr, List.pairwise_cons.2 ⟨(fun _ _ b h => by cases h), T.2.2⟩⟩
/-- A new block. -/
theorem Hold.push (T : Hold w0 W L) (cs : Array Value) (e : TypeId) (n sz : Nat) (hs : cs.size = n * sz) (hn : n ≤ maxLen) :
    Hold w0 (W.alloc (.cells cs e)) (L ++ [⟨e, sz, .slice (some ⟨W.heap.size, 0, none⟩) n n, n, cs.toList⟩]) := by
  refine ⟨T.1.alloc _, fun r hr => ?_, ?_⟩
  · rcases List.mem_append.1 hr with hr | hr
    · exact (T.alloc _).2.1 r hr
    · simp only [List.mem_singleton] at hr
      subst hr
      exact World.ownsRow_lit W cs n T.1.size hn hs
  · rw [List.pairwise_append]
    refine ⟨T.2.2, by simp, fun r hr s hs => ?_⟩
    simp only [List.mem_singleton] at hs
    subst hs
    intro b hb he
    simp only [Value.ownBlock, Option.some.injEq] at he
    have := (T.2.1 r hr).lt b hb
    omega
theorem Hold.push1 (T : Hold w0 W L) (x : Value) (e : TypeId) : Hold w0 (W.alloc (.cells #[x] e)) (L ++ [⟨e, 1, .slice (some ⟨W.heap.size, 0, none⟩) 1 1, 1, [x]⟩]) := T.push #[x] e 1 1 rfl (by unfold maxLen; omega)
theorem Hold.push2 (T : Hold w0 W L) (x y : Value) (e : TypeId) : Hold w0 (W.alloc (.cells #[x, y] e)) (L ++ [⟨e, 2, .slice (some ⟨W.heap.size, 0, none⟩) 1 1, 1, [x, y]⟩]) := T.push #[x, y] e 1 2 rfl (by unfold maxLen; omega)
/-- What a call made. -/
theorem Hold.more (T : Hold w0 W L) (E : Ext W W') {e : TypeId} {sz n : Nat} {v : Value} {xs : List Value} (own : W'.ownsRow W.heap.size e sz v n xs) : Hold w0 W' (L ++ [⟨e, sz, v, n, xs⟩]) := by
  refine ⟨T.1.trans E, fun r hr => ?_, ?_⟩
  · rcases List.mem_append.1 hr with hr | hr
    · exact (T.keep E).2.1 r hr
    · simp only [List.mem_singleton] at hr
      subst hr
      exact row_mono own T.1.size
  · rw [List.pairwise_append]
    refine ⟨T.2.2, by simp, fun r hr s hs => ?_⟩
    simp only [List.mem_singleton] at hs
    subst hs
    intro b hb he
    have h1 := (T.2.1 r hr).lt b hb
    have h2 := own.lt b he
    omega
/-- The first k of those that are listed. -/
theorem Hold.fst_ (T : Hold w0 W L) (k : Nat) : Hold w0 W (L.take k) := T.subl (List.take_sublist k L)
/-- The slice at place i turns, in its own row or into a new block. -/
theorem Hold.turn (T : Hold w0 W L) (i : Nat) (r : RowT) (hi : L[i]? = some r) {v' : Value} {n' : Nat} {xs' : List Value} (hown : W'.ownsRow w0.heap.size r.e r.sz v' n' xs') (hg : W.grownBy W' r.v.ownBlock)
    (hat : v'.ownBlock = r.v.ownBlock ∨ v'.ownBlock = some W.heap.size) : Hold w0 W' (L.set i ⟨r.e, r.sz, v', n', xs'⟩) := by
  have hil : i < L.length := (List.getElem?_eq_some_iff.1 hi).1
  have hie : L[i] = r := (List.getElem?_eq_some_iff.1 hi).2
  have hp := List.pairwise_iff_getElem.1 T.2.2
  have hlt : ∀ k (hk : k < L.length), ∀ b, L[k].v.ownBlock = some b → b < W.heap.size := fun k hk b hb => ((T.2.1 _ (List.getElem_mem hk)).lt b hb).2
  have hap : ∀ k (hk : k < L.length), k ≠ i → Apart L[k] r := fun k hk hne => by
    rcases Nat.lt_or_ge k i with h | h
    · have := hp k i hk hil h; rwa [hie] at this
    · have := hp i k hil hk (by omega); rw [hie] at this; exact this.symm
  have hE : Ext w0 W' := T.1.grown hg fun k hk => ((T.2.1 r (by rw [← hie]; exact List.getElem_mem hil)).lt k hk).1
  refine ⟨hE, fun s hs => ?_, ?_⟩
  · obtain ⟨k, hk, rfl⟩ := List.getElem_of_mem hs
    rw [List.length_set] at hk
    rw [List.getElem_set]
    by_cases e : i = k
    · rw [if_pos e]; exact hown
    · rw [if_neg e]
      have h0 := T.2.1 _ (List.getElem_mem hk)
      obtain ⟨h1, h2⟩ := h0
      refine ⟨h1, ?_⟩
      rcases h2 with h2 | ⟨g, cap, cur, hv, hb, hh, q⟩
      · exact .inl h2
      · refine .inr ⟨g, cap, cur, hv, hb, ?_, q⟩
        have hob : (L[k]).v.ownBlock = some g := by rw [hv]; rfl
        rw [hg.block g (hlt k hk g hob) (fun e2 => hap k hk (fun e3 => e e3.symm) g hob e2.symm)]
        exact hh
  · rw [List.pairwise_iff_getElem]
    intro a b ha hb hab
    rw [List.length_set] at ha hb
    rw [List.getElem_set, List.getElem_set]
    have new : ∀ k (hk : k < L.length), k ≠ i → Apart L[k] ⟨r.e, r.sz, v', n', xs'⟩ := fun k hk hne c hc hc' => by
      rcases hat with h | h
      · exact hap k hk hne c hc (by rw [← h]; exact hc')
      · have h1 := hlt k hk c hc
        rw [h] at hc'
        injection hc' with hc'
        omega
    by_cases e : i = a
    · subst e
      rw [if_pos rfl, if_neg (by omega)]
      exact (new b hb (by omega)).symm
    · rw [if_neg e]
      by_cases e2 : i = b
      · subst e2
        rw [if_pos rfl]
        exact new a ha (by omega)
      · rw [if_neg e2]
        exact hp a b ha hb hab
end

/-- A slice of the call's own that has no place. -/
theorem row_nil {w : World} {base n sz : Nat} {e : TypeId} {v : Value} {xs : List Value} (h : w.ownsRow base e sz v n xs) : ∀ A m c, v = .slice A m c → A = none → n = 0 ∧ c = 0 := by
  intro A m c hv hA
  subst hA
  rcases h.2 with ⟨h2, h3⟩ | ⟨g, cap, cur, h2, -⟩
  · rw [hv] at h2
    injection h2 with _ _ h5
    exact ⟨h3, h5⟩
  · rw [hv] at h2
    injection h2 with h2
    cases h2
/-- append to the slice at place i, of what another of the listed slices holds: as one step of a region that draws its order. -/
theorem step_app_rows {P : Program} {ops : Array Oper} {o : Oper} {a : Act} {w : World} {K : Act → World → Prop} {Q : Exit → Act → World → Prop} {E : Prop}
    (hg : o.guard = none) (s x : Operand) (t : TypeId) (ho : o.op = .call { callee := .builtin .append, args := #[s, x], argTypes := #[t, t] })
    {e : TypeId} {z : Value} {size bytes : Nat} (hI : EInfo P t e z size bytes) {w0 : World} {L : List RowT} (T : Hold w0 w L) (i : Nat) {v : Value} {n : Nat} {xs : List Value}
    (hi : L[i]? = some ⟨e, size, v, n, xs⟩) (hs : a.eval s = v)
    {ad : Addr} {m c : Nat} (news : List Value) (hx : a.eval x = .slice (some ad) m c) (hm : (⟨e, size, .slice (some ad) m c, m, news⟩ : RowT) ∈ L) (h1 : news.all (fun u => u.oneCell') = true)
    (hb : (n + m) * bytes ≤ 140737488355328 ∧ n + m ≤ 9223372036854775807)
    (h : ∀ v' w', Hold w0 w' (L.set i ⟨e, size, v', n + m, xs ++ news⟩) → w.grownBy w' v.ownBlock → K (a.put o.dst v') w') :
    if Region.wanted o (yielded ops a.tmps) = true then Oper.wp P o a w K Q else E := by
  have hw : Region.wanted o (yielded ops a.tmps) = true := by simp [Region.wanted, hg]
  rw [if_pos hw]
  obtain ⟨ht, ⟨j, hj, hz, hsz, hby⟩, hzs, hsz0⟩ := hI
  have hown := T.own (r := ⟨e, size, v, n, xs⟩) (List.mem_of_getElem? hi)
  have hnew := T.own hm
  dsimp only at hnew hown
  obtain ⟨ho1, ho2⟩ := hnew
  have hcell : ∀ k u, news[k]? = some u → w.cell? (ad.add k) = some u := by
    intro k u hk
    have hlt : k < m * size := by rw [← ho1]; exact (List.getElem?_eq_some_iff.1 hk).1
    rcases ho2 with ⟨ho2, -⟩ | ⟨g, cap, cur, hv, hbg, hh, q1, q2, q3, q4⟩
    · cases ho2
    · injection hv with hv
      injection hv with hv
      subst hv
      have : (⟨g, 0, none⟩ : Addr).add k = ⟨g, k, none⟩ := by
        unfold Addr.add
        split
        · rename_i h0; simp [h0]
        · simp
      rw [this]
      have hk' : w.cell? ⟨g, k, none⟩ = cur[k]? := by simp [World.cell?, hh]
      rw [hk', ← hk, ← q4, List.getElem?_take_of_lt hlt, Array.getElem?_toList]
  obtain ⟨v', w', hr, h2, h3, h4, h5⟩ := run_append_own_at (P := P) w w0.heap.size t o.type e j z size bytes ht hj hz hsz hby hzs hsz0 v n xs hown ad m c news (by rw [ho1]) hcell (fun u hu => List.all_eq_true.1 h1 u hu) (by unfold maxLen; omega) (by omega) T.1.size
  unfold Oper.wp execOp
  simp only [ho, resolve, invoke, builtin, Sem.run_bind, Sem.run_pure, Result.andThen_ok, List.map_toArray, List.map_cons, List.map_nil, hs, hx, hr]
  exact h v' w' (T.turn i ⟨e, size, v, n, xs⟩ hi h2 h3 h5) h3
/-- The same, as one step of a region in the text's order. -/
theorem wpList_app_rows {P : Program} {ops : Array Oper} {rest : List Oper} {o : Oper} {a : Act} {w : World} {Q : Exit → Act → World → Prop}
    (hg : o.guard = none) (s x : Operand) (t : TypeId) (ho : o.op = .call { callee := .builtin .append, args := #[s, x], argTypes := #[t, t] })
    {e : TypeId} {z : Value} {size bytes : Nat} (hI : EInfo P t e z size bytes) {w0 : World} {L : List RowT} (T : Hold w0 w L) (i : Nat) {v : Value} {n : Nat} {xs : List Value}
    (hi : L[i]? = some ⟨e, size, v, n, xs⟩) (hs : a.eval s = v)
    {ad : Addr} {m c : Nat} (news : List Value) (hx : a.eval x = .slice (some ad) m c) (hm : (⟨e, size, .slice (some ad) m c, m, news⟩ : RowT) ∈ L) (h1 : news.all (fun u => u.oneCell') = true)
    (hb : (n + m) * bytes ≤ 140737488355328 ∧ n + m ≤ 9223372036854775807)
    (h : ∀ v' w', Hold w0 w' (L.set i ⟨e, size, v', n + m, xs ++ news⟩) → wpList P ops Q rest (a.put o.dst v') w') :
    wpList P ops Q (o :: rest) a w :=
  wpList_plain hg fun K hK => by
    have := step_app_rows (P := P) (ops := ops) (o := o) (a := a) (w := w) (K := K) (Q := Q) (E := False) hg s x t ho hI T i hi hs news hx hm h1 hb (fun v' w' T' _ => hK _ _ (h v' w' T'))
    have hw : Region.wanted o (yielded ops a.tmps) = true := by simp [Region.wanted, hg]
    rwa [if_pos hw] at this
/-- The same, where what is appended has just been laid. -/
theorem wpList_app_hold {P : Program} {ops : Array Oper} {rest : List Oper} {o : Oper} {a : Act} {Q : Exit → Act → World → Prop} {e : TypeId} {cs : Array Value} {w : World} (hg : o.guard = none) (s x : Operand) (t : TypeId)
    (ho : o.op = .call { callee := .builtin .append, args := #[s, x], argTypes := #[t, t] }) {z : Value} {size bytes : Nat} (hI : EInfo P t e z size bytes)
    {w0 : World} {L : List RowT} (T : Hold w0 w L) (i : Nat) {v : Value} {n : Nat} {xs : List Value} (hi : L[i]? = some ⟨e, size, v, n, xs⟩) (hs : a.eval s = v)
    (m : Nat) (hx : a.eval x = .slice (some ⟨w.heap.size, 0, none⟩) m m) (hl : cs.size = m * size) (h1 : cs.toList.all (fun u => u.oneCell') = true)
    (hb : (n + m) * bytes ≤ 140737488355328 ∧ n + m ≤ 9223372036854775807)
    (h : ∀ v' w', Hold w0 w' (L.set i ⟨e, size, v', n + m, xs ++ cs.toList⟩) → wpList P ops Q rest (a.put o.dst v') w') :
    wpList P ops Q (o :: rest) a (w.alloc (.cells cs e)) := by
  have T1 := T.push cs e m size hl (by unfold maxLen; omega)
  have hil : i < L.length := (List.getElem?_eq_some_iff.1 hi).1
  refine wpList_app_rows hg s x t ho hI T1 i (v := v) (n := n) (xs := xs) (by rw [List.getElem?_append_left hil]; exact hi) hs cs.toList hx (by simp) h1 hb fun v' w' T' => h v' w' ?_
  rw [List.set_append_left _ _ hil] at T'
  exact T'.subl (List.sublist_append_left _ _)
end Go.Proofs.Ytifkphlbjjdigaa
