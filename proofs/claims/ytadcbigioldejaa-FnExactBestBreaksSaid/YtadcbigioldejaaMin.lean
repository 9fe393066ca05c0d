/- The builtins min and max of two numbers, at the operation: one way on. No condition. -/
import Derived.Test.YtadcbigioldejaaLib
import Derived.OwnWalk
namespace Go.Proofs.Ytadcbigioldejaa
open Go.RowKit
set_option linter.unusedVariables false

theorem wpList_min {P : Program} {ops : Array Oper} {rest : List Oper} {o : Oper} {a : Act} {Q : Exit → Act → World → Prop} {w : World} {s x : Operand} {ts : Array TypeId} {p q : Int} (hw : o.guard = none)
    (ho : o.op = .call { callee := .builtin .min, args := #[s, x], argTypes := ts }) (hs : a.eval s = .int .i64 p) (hx : a.eval x = .int .i64 q)
    (h : wpList P ops Q rest (a.put o.dst (.int .i64 (min p q))) w) : wpList P ops Q (o :: rest) a w := by
  refine wpList_plain hw fun K hK => ?_
  have hrun : (execOp a.eval o).run P w = .ok (.value (.int .i64 (min p q))) w := by
    unfold execOp
    simp only [ho, resolve, List.map_toArray, List.map_cons, List.map_nil, hs, hx]
    simp [go_sem]
    try (simp only [Int.min_def]; split <;> first | rfl | omega | (split <;> first | rfl | omega))
  unfold Oper.wp
  rw [hrun]
  exact hK _ _ h
theorem wpList_max {P : Program} {ops : Array Oper} {rest : List Oper} {o : Oper} {a : Act} {Q : Exit → Act → World → Prop} {w : World} {s x : Operand} {ts : Array TypeId} {p q : Int} (hw : o.guard = none)
    (ho : o.op = .call { callee := .builtin .max, args := #[s, x], argTypes := ts }) (hs : a.eval s = .int .i64 p) (hx : a.eval x = .int .i64 q)
    (h : wpList P ops Q rest (a.put o.dst (.int .i64 (max p q))) w) : wpList P ops Q (o :: rest) a w := by
  refine wpList_plain hw fun K hK => ?_
  have hrun : (execOp a.eval o).run P w = .ok (.value (.int .i64 (max p q))) w := by
    unfold execOp
    simp only [ho, resolve, List.map_toArray, List.map_cons, List.map_nil, hs, hx]
    simp [go_sem]
    try (simp only [Int.max_def]; split <;> first | rfl | omega | (split <;> first | rfl | omega))
  unfold Oper.wp
  rw [hrun]
  exact hK _ _ h
end Go.Proofs.Ytadcbigioldejaa
