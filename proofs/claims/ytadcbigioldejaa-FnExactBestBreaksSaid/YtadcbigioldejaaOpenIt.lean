/- A slice of items that came in, opened. No condition. -/
import Derived.Test.YtadcbigioldejaaOpen
namespace Go.Proofs.Ytadcbigioldejaa
open Go.ChangeShapes Go.WideShapes Go.ChangeAt Go.RowKit Go.Deep Go.Joins
set_option linter.unusedVariables false

theorem cellsLItem : Try.prog.cellsOf 55 = 7 := by kernel_rfl
theorem cellsLGlue : Try.prog.cellsOf 53 = 4 := by kernel_rfl
theorem cellsLInt : Try.prog.cellsOf 3 = 1 := by kernel_rfl
theorem cellsLBool : Try.prog.cellsOf 4 = 1 := by kernel_rfl
theorem list7 {α : Type} {l : List α} (h : l.length = 7) : ∃ a b c d e f g, l = [a, b, c, d, e, f, g] := by
  match l, h with
  | [a, b, c, d, e, f, g], _ => exact ⟨a, b, c, d, e, f, g, rfl⟩
theorem open_items {H : Type} {enc : TypeId × Value → H} {W : World} {base : Nat} {v : Value} {d : DataW H} {p : List MemPlace} {spare : Nat → Bool} {held : Bool}
    (hv : Value.okWide Try.prog W .any base 22 v) (h : DataW.Trod enc Try.prog W 0 spare held 22 v d p) :
    ∃ A n c xs, v = .slice A n c ∧ ItemsAt W A n c xs := by
  obtain ⟨a0, len0, cap0, rfl⟩ := okWide_slice Try.underlying22 hv
  obtain ⟨fuel, hf⟩ := h
  rcases open_slice Try.underlying22 hf with ⟨hcs, _⟩ | ⟨x, l, c, m, nn, D, Pl, hcs, _, hl, hm, hmm, _, hi⟩
  · simp [Value.cells] at hcs
    obtain ⟨rfl, rfl, rfl⟩ := hcs
    exact ⟨none, 0, 0, [], rfl, Rd.nil _ _ _, by omega, by omega⟩
  · simp [Value.cells] at hcs
    obtain ⟨rfl, rfl, rfl⟩ := hcs
    have hlm : len0 ≤ m := by rw [hmm]; split <;> omega
    have hel : ∀ i, i < len0 → ∃ r : Item, ∀ j u, r.cells[j]? = some u → W.cell? (x.add (i * 7 + j)) = some u := by
      intro i hi'
      obtain ⟨cs', hc, ht'⟩ := hi i (by omega)
      rw [cellsLItem] at hc
      obtain ⟨_, hcl, hat⟩ := World.cells?_some hc
      obtain ⟨c0, c1, c2, c3, c4, c5, c6, rfl⟩ := list7 hcl
      obtain ⟨ys, n', _, _, _, hyl, hfl⟩ := DataW.trod_struct Try.underlying55 ht'
      have t0 := hfl 0 _ rfl
      have t1 := hfl 1 _ rfl
      have t2 := hfl 2 _ rfl
      have t3 := hfl 3 _ rfl
      simp only [List.getElem_toArray, List.getElem_cons_zero, List.getElem_cons_succ, cellsLInt, cellsLGlue, cellsLBool] at t0 t1 t2 t3
      have hys : ∀ j, j < 4 → ∃ y, ys[j]? = some y := fun j hj => ⟨ys[j]'(by rw [hyl]; exact hj), List.getElem?_eq_getElem _⟩
      obtain ⟨y0, e0⟩ := hys 0 (by omega)
      obtain ⟨y1, e1⟩ := hys 1 (by omega)
      obtain ⟨y2, e2⟩ := hys 2 (by omega)
      obtain ⟨y3, e3⟩ := hys 3 (by omega)
      rw [e0] at t0
      rw [e1] at t1
      rw [e2] at t2
      rw [e3] at t3
      simp at t0 t1 t2 t3
      obtain ⟨a0, q0, _, _⟩ := DataW.trod_int Try.underlying3 t0
      obtain ⟨a5, q5, _, _⟩ := DataW.trod_int Try.underlying3 t2
      obtain ⟨a6, q6, _⟩ := DataW.trod_bool Try.underlying4 t3
      obtain ⟨zs, n2, _, _, _, hzl, hgl⟩ := DataW.trod_struct Try.underlying53 t1
      have u0 := hgl 0 _ rfl
      have u1 := hgl 1 _ rfl
      have u2 := hgl 2 _ rfl
      have u3 := hgl 3 _ rfl
      simp only [List.getElem_toArray, List.getElem_cons_zero, List.getElem_cons_succ, cellsLInt] at u0 u1 u2 u3
      have hzs : ∀ j, j < 4 → ∃ y, zs[j]? = some y := fun j hj => ⟨zs[j]'(by rw [hzl]; exact hj), List.getElem?_eq_getElem _⟩
      obtain ⟨z0, f0⟩ := hzs 0 (by omega)
      obtain ⟨z1, f1⟩ := hzs 1 (by omega)
      obtain ⟨z2, f2⟩ := hzs 2 (by omega)
      obtain ⟨z3, f3⟩ := hzs 3 (by omega)
      rw [f0] at u0
      rw [f1] at u1
      rw [f2] at u2
      rw [f3] at u3
      simp at u0 u1 u2 u3
      obtain ⟨a1, q1, _, _⟩ := DataW.trod_int Try.underlying3 u0
      obtain ⟨a2, q2, _, _⟩ := DataW.trod_int Try.underlying3 u1
      obtain ⟨a3, q3, _, _⟩ := DataW.trod_int Try.underlying3 u2
      obtain ⟨a4, q4, _, _⟩ := DataW.trod_int Try.underlying3 u3
      simp at q0 q1 q2 q3 q4 q5 q6
      subst q0 q1 q2 q3 q4 q5 q6
      refine ⟨⟨a0, a1, a2, a3, a4, a5, a6⟩, fun j u hj => ?_⟩
      have hj7 : j < 7 := (List.getElem?_eq_some_iff.1 hj).1
      rw [← Go.Deep.add_add, hat j hj7]
      exact hj
    obtain ⟨xs, hxl, hxp⟩ := list_of len0 hel
    refine ⟨some x, len0, cap0, xs, rfl, ?_, hl, by unfold maxLen at hm; exact hm⟩
    rcases Nat.eq_zero_or_pos len0 with h0 | h0
    · subst h0
      obtain rfl : xs = [] := List.eq_nil_of_length_eq_zero hxl
      exact Rd.nil _ _ _
    · obtain ⟨b, off, spot⟩ := x
      have hx0 : xs[0]? = some (xs[0]'(by omega)) := List.getElem?_eq_getElem (by omega)
      have hspot : spot = none := World.cell?_spot (hxp 0 _ hx0 0 _ rfl)
      subst hspot
      have hbl := World.block_lt_of_cell? _ _ (hxp 0 _ hx0 0 _ rfl)
      rw [← hxl]
      refine rd_of_elems (by omega) Item.cells_len (by rw [add_lit'] at hbl; exact hbl) fun i r j u hr hj => ?_
      have p0 := hxp i r hr j u hj
      rwa [add_lit'] at p0
end Go.Proofs.Ytadcbigioldejaa
