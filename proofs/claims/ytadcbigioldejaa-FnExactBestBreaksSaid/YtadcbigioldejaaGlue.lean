/- Glue and items: when they are valid; contracts. No condition. -/
import Derived.Test.YtadcbigioldejaaItems
import Derived.Test.YtadcbigioldejaaIn
namespace Go.Proofs.Ytadcbigioldejaa
open Go.RowKit
set_option linter.unusedVariables false

def glueB (w st sh od : Int) : Bool := inB w 0 1000 && (inB st 0 1000 && (inB sh 0 w && inB od 0 1))
def isCostB (c : Int) : Bool := inB c 0 10000 || (c == -10000)
def Item.rigid (r : Item) : Bool := decide (r.st = 0) && (decide (r.sh = 0) && decide (r.od = 0))
def Item.bare (r : Item) : Bool := decide (r.cost = 0) && !r.mark
def itemValid (r : Item) : Bool :=
  glueB r.w r.st r.sh r.od && (if r.kind = 1 then r.rigid && r.bare else if r.kind = 2 then r.bare else if r.kind = 3 then r.rigid && isCostB r.cost else false)
def itemsValid (rs : List Item) : Bool := rs.all itemValid && decide (rs.length ≤ 60)
theorem itemsValid_iff {rs : List Item} : itemsValid rs = true ↔ rs.all itemValid = true ∧ rs.length ≤ 60 := by simp [itemsValid]

set_option maxHeartbeats 400000 in
theorem c_glueValid (x st sh od : Int) (w : World) :
    Calls Try.prog 78 #[.agg #[.int .i64 x, .int .i64 st, .int .i64 sh, .int .i64 od]] w fun e w' => e = .returned (.bool (glueB x st sh od)) ∧ Below w.heap.size w w' := by
  cases h1 : inB x 0 1000 <;> cases h2 : inB st 0 1000 <;> cases h3 : inB sh 0 x
  all_goals
    go_enter Try.func78, Try.ntmps78
    go_wp2_with (go_at_call 41; refine (c_in _ _ _ _).mono ?_; rintro e w' ⟨rfl, rfl⟩)
    go_ret
    exact ⟨by simp [glueB, *], bof _ _⟩
set_option maxHeartbeats 400000 in
theorem c_glueValid' (x st sh od : Int) (w : World) :
    Calls Try.prog 74 #[.agg #[.int .i64 x, .int .i64 st, .int .i64 sh, .int .i64 od]] w fun e w' => e = .returned (.bool (glueB x st sh od)) ∧ Below w.heap.size w w' := by
  cases h1 : inB x 0 1000 <;> cases h2 : inB st 0 1000 <;> cases h3 : inB sh 0 x
  all_goals
    go_enter Try.func74, Try.ntmps74
    go_wp2_with (go_at_call 37; refine (c_l1In _ _ _ _).mono ?_; rintro e w' ⟨rfl, rfl⟩)
    go_ret
    exact ⟨by simp [glueB, *], bof _ _⟩
set_option maxHeartbeats 400000 in
theorem c_isBad (n : Int) (w : World) :
    Calls Try.prog 64 #[.int .i64 n] w fun e w' => e = .returned (.bool (inB n 0 10000)) ∧ w = w' := by
  go_enter Try.func64, Try.ntmps64
  go_wp2_with (go_at_call 41; refine (c_in _ _ _ _).mono ?_; rintro e w' ⟨rfl, rfl⟩)
  go_ret
  exact ⟨rfl, rfl⟩
set_option maxHeartbeats 400000 in
theorem c_isCost (n : Int) (w : World) :
    Calls Try.prog 77 #[.int .i64 n] w fun e w' => e = .returned (.bool (isCostB n)) ∧ w = w' := by
  cases h1 : inB n 0 10000
  all_goals
    go_enter Try.func77, Try.ntmps77
    go_wp2_with (go_at_call 64; refine (c_isBad _ _).mono ?_; rintro e w' ⟨rfl, rfl⟩)
    go_ret
    exact ⟨by simp [isCostB, *], rfl⟩
end Go.Proofs.Ytadcbigioldejaa
