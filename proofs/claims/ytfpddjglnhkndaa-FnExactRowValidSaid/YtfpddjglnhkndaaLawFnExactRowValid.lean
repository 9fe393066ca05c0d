/- The walk of the law FnExactRowValid: it returns true, whatever comes in, and changes nothing that was there. No condition. -/
import Derived.Test.YtfpddjglnhkndaaRowsX
namespace Go.Proofs.Ytfpddjglnhkndaa
open Go.RowKit
set_option linter.unusedVariables false

set_option maxHeartbeats 400000 in
theorem w_FnExactRowValid (x0 : Row) (w : World) :
    Calls Try.prog 3 #[.agg #[.int .i64 x0.h, .bool x0.k, .int .i64 x0.n, .int .i64 x0.f]] w fun e w' => e = .returned (.bool true) ∧ Below w.heap.size w w' := by
  have q := Blk.new w 23 #[.int .i64 x0.h, .bool x0.k, .int .i64 x0.n, .int .i64 x0.f]
  have B := bof w (.cells #[.int .i64 x0.h, .bool x0.k, .int .i64 x0.n, .int .i64 x0.f] 23)
  go_enter Try.func3, Try.ntmps3
  go_wp2_with fail
  refine (c_toRow x0 _).mono ?_
  rintro e w1 ⟨rfl, hb⟩
  replace q := q.next hb
  replace B := bnext B hb
  clear hb
  go_wp2_with fail
  refine (c_rowValid' x0 _).mono ?_
  rintro e w2 ⟨rfl, hb⟩
  replace q := q.next hb
  replace B := bnext B hb
  clear hb
  have q0 : w2.cell? ⟨w.heap.size, 0, none⟩ = some (.int .i64 x0.h) := q.cell 0
  have q1 : w2.cell? ⟨w.heap.size, 1, none⟩ = some (.bool x0.k) := q.cell 1
  have q2 : w2.cell? ⟨w.heap.size, 2, none⟩ = some (.int .i64 x0.n) := q.cell 2
  have q3 : w2.cell? ⟨w.heap.size, 3, none⟩ = some (.int .i64 x0.f) := q.cell 3
  go_wp2_with fail
  refine (c_toRow x0 _).mono ?_
  rintro e w3 ⟨rfl, hb⟩
  replace B := bnext B hb
  clear hb q0 q1 q2 q3
  go_wp2_with fail
  refine (c_rowValid x0 _).mono ?_
  rintro e w4 ⟨rfl, hb⟩
  replace B := bnext B hb
  clear hb
  cases rowValid x0
  all_goals
    go_wp2
    go_ret
    exact ⟨rfl, B⟩
end Go.Proofs.Ytfpddjglnhkndaa
