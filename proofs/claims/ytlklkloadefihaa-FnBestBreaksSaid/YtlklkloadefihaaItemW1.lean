/- spec.ItemValid at one kind. No condition. -/
import Derived.Test.YtlklkloadefihaaMa
namespace Go.Proofs.Ytlklkloadefihaa
open Go.RowKit
set_option linter.unusedVariables false
set_option maxHeartbeats 8000000 in
theorem c_itemValid'_1 (r : Item) (hk : r.kind = 1) (w : World) :
    Calls Try.prog 79 #[.agg #[.int .i64 r.kind, .int .i64 r.w, .int .i64 r.st, .int .i64 r.sh, .int .i64 r.od, .int .i64 r.cost, .bool r.mark]] w fun e w' => e = .returned (.bool (itemValid r)) ∧ Below w.heap.size w w' := by
  obtain ⟨kind, x, st, sh, od, cost, mark⟩ := r
  dsimp only at hk ⊢
  subst hk
  obtain ⟨gv, hgv⟩ : ∃ gv, Hid (glueB x st sh od = gv) := ⟨_, rfl⟩
  have R : st ≠ 0 ∨ (st = 0 ∧ sh ≠ 0) ∨ (st = 0 ∧ sh = 0 ∧ od ≠ 0) ∨ (st = 0 ∧ sh = 0 ∧ od = 0) := by omega
  have P : cost ≠ 0 ∨ (cost = 0 ∧ mark = true) ∨ (cost = 0 ∧ mark = false) := by cases mark <;> simp <;> omega
  rcases R with h1 | ⟨rfl, h2⟩ | ⟨rfl, rfl, h3⟩ | ⟨rfl, rfl, rfl⟩ <;> rcases P with h4 | ⟨rfl, rfl⟩ | ⟨rfl, rfl⟩ <;> cases gv
  all_goals
    go_enter Try.func79, Try.ntmps79
    go_wp2_with fail
    refine (c_glueValid' _ _ _ _ _).mono ?_
    rintro e w1 ⟨he, hb⟩
    rw [unhide hgv] at he
    subst he
    have p := (Blk.new w _ _).next hb
    have q0 := p.cell 0
    have q5 := p.cell 5
    have q6 := p.cell 6
    simp only [List.getElem?_toArray, List.getElem?_cons_succ, List.getElem?_cons_zero] at q0 q5 q6
    clear p
    go_wp2
    go_ret
    have hg := unhide hgv
    clear hgv
    exact ⟨by simp [itemValid, Item.rigid, Item.bare, *], bnext (bof _ _) hb⟩
end Go.Proofs.Ytlklkloadefihaa
