/-
  The builtin min of three or four numbers, as one step of a walk.
-/
import Derived.Test.YtlfpmmgfgmeilaaBase
import Derived.Maps.AppendAt
set_option linter.unusedVariables false
set_option linter.unusedSimpArgs false
namespace Go.Proofs.Ytlfpmmgfgmeilaa
open Go.RowKit

theorem min2_ite (x y : Int) : (if y < x then y else x) = min x y := by
  by_cases h : y < x
  · rw [if_pos h]; omega
  · rw [if_neg h]; omega
theorem wpList_min2 {P : Program} {ops : Array Oper} {rest : List Oper} {o : Oper} {act : Act} {w : World} {Q : Exit → Act → World → Prop} (hgd : o.guard = none) (x1 x2 : Operand) (ts : Array TypeId)
    (ho : o.op = .call { callee := .builtin .min, args := #[x1, x2], argTypes := ts }) (a b : Int) (h1 : act.eval x1 = .int .i64 a) (h2 : act.eval x2 = .int .i64 b) (m : Int) (hm : m = min a b)
    (h : wpList P ops Q rest (act.put o.dst (.int .i64 m)) w) : wpList P ops Q (o :: rest) act w := by
  refine wpList_plain hgd fun K hK => ?_
  have hr : (Builtin.min_ ts o.type #[.int .i64 a, .int .i64 b]).run P w = .ok (.int .i64 m) w := by
    rw [hm, ← min2_ite]; rfl
  unfold Oper.wp execOp
  simp only [ho, resolve, invoke, builtin, Sem.run_bind, Sem.run_pure, Result.andThen_ok, List.map_toArray, List.map_cons, List.map_nil, h1, h2, hr]
  exact hK _ _ h
theorem wpList_min3 {P : Program} {ops : Array Oper} {rest : List Oper} {o : Oper} {act : Act} {w : World} {Q : Exit → Act → World → Prop} (hgd : o.guard = none) (x1 x2 x3 : Operand) (ts : Array TypeId)
    (ho : o.op = .call { callee := .builtin .min, args := #[x1, x2, x3], argTypes := ts }) (a b c : Int) (h1 : act.eval x1 = .int .i64 a) (h2 : act.eval x2 = .int .i64 b) (h3 : act.eval x3 = .int .i64 c) (m : Int) (hm : m = min (min a b) c)
    (h : wpList P ops Q rest (act.put o.dst (.int .i64 m)) w) : wpList P ops Q (o :: rest) act w := by
  refine wpList_plain hgd fun K hK => ?_
  have hr : (Builtin.min_ ts o.type #[.int .i64 a, .int .i64 b, .int .i64 c]).run P w = .ok (.int .i64 m) w := by
    rw [hm, ← min2_ite, ← min2_ite]; rfl
  unfold Oper.wp execOp
  simp only [ho, resolve, invoke, builtin, Sem.run_bind, Sem.run_pure, Result.andThen_ok, List.map_toArray, List.map_cons, List.map_nil, h1, h2, h3, hr]
  exact hK _ _ h
theorem wpList_min4 {P : Program} {ops : Array Oper} {rest : List Oper} {o : Oper} {act : Act} {w : World} {Q : Exit → Act → World → Prop} (hgd : o.guard = none) (x1 x2 x3 x4 : Operand) (ts : Array TypeId)
    (ho : o.op = .call { callee := .builtin .min, args := #[x1, x2, x3, x4], argTypes := ts }) (a b c d : Int) (h1 : act.eval x1 = .int .i64 a) (h2 : act.eval x2 = .int .i64 b) (h3 : act.eval x3 = .int .i64 c) (h4 : act.eval x4 = .int .i64 d) (m : Int) (hm : m = min (min (min a b) c) d)
    (h : wpList P ops Q rest (act.put o.dst (.int .i64 m)) w) : wpList P ops Q (o :: rest) act w := by
  refine wpList_plain hgd fun K hK => ?_
  have hr : (Builtin.min_ ts o.type #[.int .i64 a, .int .i64 b, .int .i64 c, .int .i64 d]).run P w = .ok (.int .i64 m) w := by
    rw [hm, ← min2_ite, ← min2_ite, ← min2_ite]; rfl
  unfold Oper.wp execOp
  simp only [ho, resolve, invoke, builtin, Sem.run_bind, Sem.run_pure, Result.andThen_ok, List.map_toArray, List.map_cons, List.map_nil, h1, h2, h3, h4, hr]
  exact hK _ _ h
end Go.Proofs.Ytlfpmmgfgmeilaa
