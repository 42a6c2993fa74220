/-
  Two rows of the call's own that grow side by side.
-/
import Derived.Test.YtekkghhihnnpjaaDoorApp
set_option linter.unusedVariables false
set_option linter.unusedSimpArgs false
namespace Go.Proofs.YtekkghhihnnpjaaDoor
open Go.RowKit

/-- Two rows made since W0, in two blocks. -/
structure Duo (W0 w : World) (e1 : TypeId) (v1 : Value) (n1 : Nat) (xs1 : List Value) (e2 : TypeId) (v2 : Value) (n2 : Nat) (xs2 : List Value) : Prop where
  a : w.ownsRow W0.heap.size e1 1 v1 n1 xs1
  b : w.ownsRow W0.heap.size e2 1 v2 n2 xs2
  ne : ∀ k, v1.ownBlock = some k → v2.ownBlock = some k → False
  ext : Ext W0 w

section
variable {W0 w w' : World} {e1 e2 : TypeId} {v1 v2 v' : Value} {n1 n2 m1 m2 : Nat} {xs1 xs2 ys : List Value}
theorem Duo.nil (E : Ext W0 w) : Duo W0 w e1 (.slice none 0 0) 0 [] e2 (.slice none 0 0) 0 [] := ⟨World.ownsRow_nil _ _ _ _, World.ownsRow_nil _ _ _ _, fun k h => by simp [Value.ownBlock] at h, E⟩
theorem Duo.alloc (h : Duo W0 w e1 v1 n1 xs1 e2 v2 n2 xs2) (o : Obj) : Duo W0 (w.alloc o) e1 v1 n1 xs1 e2 v2 n2 xs2 := ⟨h.a.alloc o, h.b.alloc o, h.ne, h.ext.alloc o⟩
theorem Duo.drew (h : Duo W0 w e1 v1 n1 xs1 e2 v2 n2 xs2) : Duo W0 w.drew e1 v1 n1 xs1 e2 v2 n2 xs2 := ⟨h.a.drew, h.b.drew, h.ne, h.ext.drew⟩
theorem Duo.keep (h : Duo W0 w e1 v1 n1 xs1 e2 v2 n2 xs2) (E : Ext w w') : Duo W0 w' e1 v1 n1 xs1 e2 v2 n2 xs2 := ⟨row_ext h.a E, row_ext h.b E, h.ne, h.ext.trans E⟩
theorem Duo.swap (h : Duo W0 w e1 v1 n1 xs1 e2 v2 n2 xs2) : Duo W0 w e2 v2 n2 xs2 e1 v1 n1 xs1 := ⟨h.b, h.a, fun k a b => h.ne k b a, h.ext⟩
theorem Duo.step (h : Duo W0 w e1 v1 n1 xs1 e2 v2 n2 xs2) (ho : w'.ownsRow W0.heap.size e1 1 v' m1 ys) (hg : w.grownBy w' v1.ownBlock) (hat : v'.ownBlock = v1.ownBlock ∨ v'.ownBlock = some w.heap.size) : Duo W0 w' e1 v' m1 ys e2 v2 n2 xs2 := by
  refine ⟨ho, h.b.kept hg ?_, fun k h1 h2 => ?_, h.ext.grown hg fun k hk => (h.a.lt k hk).1⟩
  · cases hv : v2.ownBlock with
    | none => exact .inl rfl
    | some k => exact .inr fun x => h.ne k x.symm hv
  · rcases hat with e | e
    · exact h.ne k (by rw [← e]; exact h1) h2
    · rw [e] at h1
      injection h1 with h1
      have := (h.b.lt k h2).2
      omega

theorem step_duoA {P : Program} {ops : Array Oper} {o : Oper} {a : Act} {K : Act → World → Prop} {Q : Exit → Act → World → Prop} {E : Prop}
    (hg : o.guard = none) (s x : Operand) (t : TypeId) (ho : o.op = .call { callee := .builtin .append, args := #[s, x], argTypes := #[t, t] }) {z : Value} {bytes : Nat} (hI : EInfo P t e1 z 1 bytes)
    (D : Duo W0 w e1 v1 n1 xs1 e2 v2 n2 xs2) (hs : a.eval s = v1) {b : Nat} (hx : a.eval x = .slice (some ⟨b, 0, none⟩) 1 1) {u : Value} (hc : w.cell? ⟨b, 0, none⟩ = some u) (h1 : u.oneCell' = true)
    (hb : (n1 + 1) * bytes ≤ 140737488355328 ∧ n1 + 1 ≤ 9223372036854775807)
    (h : ∀ v' w', Duo W0 w' e1 v' (n1 + 1) (xs1 ++ [u]) e2 v2 n2 xs2 → w.grownBy w' v1.ownBlock → K (a.put o.dst v') w') :
    if Region.wanted o (yielded ops a.tmps) = true then Oper.wp P o a w K Q else E := by
  have hw : Region.wanted o (yielded ops a.tmps) = true := by simp [Region.wanted, hg]
  rw [if_pos hw]
  obtain ⟨ht, ⟨i, hi, hz, hsz, hby⟩, hzs, hsz0⟩ := hI
  obtain ⟨v', w', hr, h2, h3, h4, h5⟩ := run_append_own_at (P := P) w W0.heap.size t o.type e1 i z 1 bytes ht hi hz hsz hby hzs hsz0 v1 n1 xs1 D.a ⟨b, 0, none⟩ 1 1 [u] rfl
    (by
      intro j y hj
      match j, hj with
      | 0, hj => simp at hj; subst hj; simpa [Addr.add] using hc) (by intro y hy; simp at hy; subst hy; exact h1) (by unfold maxLen; omega) (by omega) D.ext.size
  unfold Oper.wp execOp
  simp only [ho, resolve, invoke, builtin, Sem.run_bind, Sem.run_pure, Result.andThen_ok, List.map_toArray, List.map_cons, List.map_nil, hs, hx, hr]
  exact h v' w' (D.step h2 h3 h5) h3
theorem step_duoB {P : Program} {ops : Array Oper} {o : Oper} {a : Act} {K : Act → World → Prop} {Q : Exit → Act → World → Prop} {E : Prop}
    (hg : o.guard = none) (s x : Operand) (t : TypeId) (ho : o.op = .call { callee := .builtin .append, args := #[s, x], argTypes := #[t, t] }) {z : Value} {bytes : Nat} (hI : EInfo P t e2 z 1 bytes)
    (D : Duo W0 w e1 v1 n1 xs1 e2 v2 n2 xs2) (hs : a.eval s = v2) {b : Nat} (hx : a.eval x = .slice (some ⟨b, 0, none⟩) 1 1) {u : Value} (hc : w.cell? ⟨b, 0, none⟩ = some u) (h1 : u.oneCell' = true)
    (hb : (n2 + 1) * bytes ≤ 140737488355328 ∧ n2 + 1 ≤ 9223372036854775807)
    (h : ∀ v' w', Duo W0 w' e1 v1 n1 xs1 e2 v' (n2 + 1) (xs2 ++ [u]) → w.grownBy w' v2.ownBlock → K (a.put o.dst v') w') :
    if Region.wanted o (yielded ops a.tmps) = true then Oper.wp P o a w K Q else E :=
  step_duoA hg s x t ho hI D.swap hs hx hc h1 hb fun v' w' D' => h v' w' D'.swap
end
end Go.Proofs.YtekkghhihnnpjaaDoor
