/- What came in, opened: a code, integers, slices of integers and of structs. No condition. -/
import Derived.Test.YtfflnkkhemaanaaRows
import Derived.Test.YtfflnkkhemaanaaLib
import Derived.Test.YtfflnkkhemaanaaRowsA
import Derived.Test.YtfflnkkhemaanaaLeavesX
import Derived.ProofKit
import Derived.OpenShut
import Derived.ChangeOld
import Derived.Deep.Slices
import Derived.Deep.Fields
import Derived.ChangeSame
import Derived.Lib.SmallJoins
namespace Go.Proofs.Ytfflnkkhemaanaa
open Go.ChangeShapes Go.WideShapes Go.ChangeAt Go.RowKit Go.Deep Go.Joins
set_option linter.unusedVariables false

theorem own : ownKnob Try.prog.godebug = none := by kernel_rfl
theorem laidOut : laidOutB Try.prog = true := by kernel_rfl
theorem int_bd {x : Int} (h : (Lit.int .i64 x).wf = true) : -9223372036854775808 ≤ x ∧ x ≤ 9223372036854775807 := by
  have h' := bounds_i64 h; omega

section
variable {H : Type} {enc : TypeId × Value → H} {P : Program} {w : World} {base : Nat} {spare : Nat → Bool} {held : Bool}
theorem open_slice_fields {t e : TypeId} {fs : Array Field} {fuel : Nat} {cs : List Value} {x : DataW H × List MemPlace} (ht : P.underlying t = some (.slice e)) (he : P.underlying e = some (.struct fs))
    (hone : oneCellFields P fs = true) (hC : P.cellsOf e = fs.size) (h : DataW.trod enc P w base spare held fuel t cs = some x) :
    (cs = [.slice none 0 0] ∧ x = (.nil, [])) ∨
    ∃ (a : Addr) (len cap m : Nat) (D : Nat → DataW H) (Pl : Nat → List MemPlace), cs = [.slice (some a) len cap] ∧ base ≤ a.block ∧ len ≤ cap ∧ cap ≤ maxLen ∧ m = (if spare a.block then cap else len) ∧
      x = (.slice ((List.range len).map D) ((List.range (m - len)).map fun j => D (len + j)), MemPlace.row a (m * fs.size) ++ (List.range m).flatMap Pl) ∧
      ∀ i, i < m → ∃ (ys : List (DataW H × List MemPlace)) (n : Nat), D i = .agg (ys.map (·.1)) ∧ Pl i = ys.flatMap (·.2) ∧ ys.length = fs.size ∧
        ∀ (j : Nat) (f : Field), fs[j]? = some f → ∃ (v : Value) (y : DataW H × List MemPlace), w.cell? (a.add (i * fs.size + j)) = some v ∧ ys[j]? = some y ∧ DataW.trod enc P w base spare held n f.type [v] = some y := by
  rcases open_slice ht h with h0 | ⟨a, len, cap, m, n, D, Pl, hcs, hb, hl, hm, hmm, hx, hi⟩
  · exact .inl h0
  · refine .inr ⟨a, len, cap, m, D, Pl, hcs, hb, hl, hm, hmm, by rw [hC] at hx; exact hx, fun i him => ?_⟩
    obtain ⟨cs', hc, ht'⟩ := hi i him
    rw [hC] at hc
    obtain ⟨ys, n', hn', hy, hlen, hyl, hf⟩ := DataW.trod_struct he ht'
    obtain ⟨_, hcl, hat⟩ := World.cells?_some hc
    simp only [Prod.mk.injEq] at hy
    refine ⟨ys, n', hy.1, hy.2, hyl, fun j f hj => ?_⟩
    obtain ⟨ho, hk⟩ := hone_of hone j f hj
    have hjl : j < fs.size := (Array.getElem?_eq_some_iff.1 hj).1
    have hcell := hat j hjl
    have hv : cs'[j]? = some (cs'[j]'(by omega)) := List.getElem?_eq_getElem (by omega)
    have h1 := hf j f hj
    rw [ho, hk] at h1
    have hone' : (cs'.drop j).take 1 = [cs'[j]'(by omega)] := by
      rw [List.drop_eq_getElem_cons (by omega)]
      rfl
    rw [hone'] at h1
    have hys : ys[j]? = some (ys[j]'(by omega)) := List.getElem?_eq_getElem (by omega)
    refine ⟨_, _, ?_, hys, h1.trans hys⟩
    rw [← Go.Deep.add_add, hcell, hv]
end

theorem list_of {α : Type} {P : Nat → α → Prop} : ∀ n : Nat, (∀ i, i < n → ∃ r, P i r) → ∃ l : List α, l.length = n ∧ ∀ i r, l[i]? = some r → P i r
  | 0, _ => ⟨[], rfl, by simp⟩
  | n + 1, h => by
    obtain ⟨l, hl, hp⟩ := list_of n fun i hi => h i (by omega)
    obtain ⟨r, hr⟩ := h n (by omega)
    refine ⟨l ++ [r], by simp [hl], fun i x hx => ?_⟩
    by_cases hi : i < l.length
    · rw [List.getElem?_append_left hi] at hx; exact hp i x hx
    · rw [List.getElem?_append_right (by omega)] at hx
      have hi0 : i - l.length = 0 := by
        rcases Nat.eq_zero_or_pos (i - l.length) with h | h
        · exact h
        · rw [List.getElem?_eq_none (by simp; omega)] at hx; cases hx
      rw [hi0] at hx; simp at hx; subst hx
      rw [show i = n by omega]; exact hr
theorem rd_of_elems {α : Type} {f : α → List Value} {s : Nat} (hs : 0 < s) (hf : ∀ a, (f a).length = s) {w : World} {b off : Nat} {xs : List α} (hb : b < w.heap.size)
    (hc : ∀ i r j u, xs[i]? = some r → (f r)[j]? = some u → w.cell? ⟨b, off + (i * s + j), none⟩ = some u) : Rd w (some ⟨b, off, none⟩) xs.length s (xs.flatMap f) := by
  refine ⟨flatMap_len hf xs, fun _ => ⟨b, off, rfl, hb, fun q u hu => ?_⟩⟩
  have hq : q < xs.length * s := by
    have := (List.getElem?_eq_some_iff.1 hu).1
    rwa [flatMap_len hf] at this
  have hi : q / s < xs.length := by
    rw [Nat.div_lt_iff_lt_mul hs]; exact hq
  have hj : q % s < s := Nat.mod_lt _ hs
  have hqq : q / s * s + q % s = q := by rw [Nat.mul_comm]; exact Nat.div_add_mod q s
  have hx : xs[q / s]? = some (xs[q / s]'hi) := List.getElem?_eq_getElem hi
  have hg := flatMap_get hf xs (q / s) (q % s) _ hx hj
  rw [hqq, hu] at hg
  have := hc (q / s) _ (q % s) u hx hg.symm
  rwa [hqq] at this

theorem open_code {H : Type} {enc : TypeId × Value → H} {W : World} {base : Nat} {v : Value} {d : DataW H} {p : List MemPlace} {spare : Nat → Bool} {held : Bool}
    (hv : Value.okWide Try.prog W .any base 22 v) (h : DataW.Trod enc Try.prog W 0 spare held 22 v d p) :
    ∃ A n c xs, v = .slice A n c ∧ CodeAt W A n c xs := by
  obtain ⟨a0, len0, cap0, rfl⟩ := okWide_slice Try.underlying22 hv
  have lt0 : ∀ x ∈ p, x.block < W.heap.size := by obtain ⟨m, hm⟩ := h; exact DataW.trod_lt m _ _ _ hm
  obtain ⟨fuel, hf⟩ := h
  rcases open_ints Try.underlying22 Try.underlying5 (by kernel_rfl) hf with ⟨hcs, _⟩ | ⟨x, l, c, zs, hcs, _, hl, hm, hz, hp, hcell, hwz⟩
  · simp [Value.cells] at hcs
    obtain ⟨rfl, rfl, rfl⟩ := hcs
    exact ⟨none, 0, 0, [], rfl, ⟨⟨Rd.nil _ _ _, by simp⟩, Nat.le_refl _, by unfold maxLen; omega⟩⟩
  · simp [Value.cells] at hcs
    obtain ⟨rfl, rfl, rfl⟩ := hcs
    refine ⟨some x, len0, cap0, zs.take len0, rfl, ⟨⟨?_, ?_⟩, hl, hm⟩⟩
    · have hlz : len0 ≤ zs.length := by rw [hz]; split <;> omega
      refine ⟨by simp; omega, fun hn => ?_⟩
      obtain ⟨b, off, spot⟩ := x
      have hspot : spot = none := World.cell?_spot (hcell 0 (by omega))
      subst hspot
      refine ⟨b, off, rfl, World.block_lt_of_cell? _ _ (hcell 0 (by omega)), fun j u hu => ?_⟩
      rw [List.getElem?_map, List.getElem?_take] at hu
      split at hu
      · have h1 := hcell j (by omega)
        rw [add_lit'] at h1
        rw [h1]
        rw [List.getElem?_eq_getElem (by omega)] at hu
        rw [List.getD_eq_getElem?_getD, List.getElem?_eq_getElem (by omega)]
        exact hu
      · cases hu
    · intro y hy
      have := bounds_u8 (hwz y (List.mem_of_mem_take hy))
      omega
theorem open_ints' {H : Type} {enc : TypeId × Value → H} {W : World} {base : Nat} {v : Value} {d : DataW H} {p : List MemPlace} {spare : Nat → Bool} {held : Bool}
    (hv : Value.okWide Try.prog W .any base 24 v) (h : DataW.Trod enc Try.prog W 0 spare held 24 v d p) :
    ∃ A n c xs, v = .slice A n c ∧ IntsAt W A n c xs := by
  obtain ⟨a0, len0, cap0, rfl⟩ := okWide_slice Try.underlying24 hv
  obtain ⟨fuel, hf⟩ := h
  rcases open_ints Try.underlying24 Try.underlying3 (by kernel_rfl) hf with ⟨hcs, _⟩ | ⟨x, l, c, zs, hcs, _, hl, hm, hz, hp, hcell, hwz⟩
  · simp [Value.cells] at hcs
    obtain ⟨rfl, rfl, rfl⟩ := hcs
    exact ⟨none, 0, 0, [], rfl, IntsAt.nil _ _ _ (by omega)⟩
  · simp [Value.cells] at hcs
    obtain ⟨rfl, rfl, rfl⟩ := hcs
    refine ⟨some x, len0, cap0, zs.take len0, rfl, ⟨?_, hl, by unfold maxLen at hm; exact hm⟩⟩
    have hlz : len0 ≤ zs.length := by rw [hz]; split <;> omega
    refine ⟨by simp; omega, fun hn => ?_⟩
    obtain ⟨b, off, spot⟩ := x
    have hspot : spot = none := World.cell?_spot (hcell 0 (by omega))
    subst hspot
    refine ⟨b, off, rfl, World.block_lt_of_cell? _ _ (hcell 0 (by omega)), fun j u hu => ?_⟩
    rw [List.getElem?_map, List.getElem?_take] at hu
    split at hu
    · have h1 := hcell j (by omega)
      rw [add_lit'] at h1
      rw [h1]
      rw [List.getElem?_eq_getElem (by omega)] at hu
      rw [List.getD_eq_getElem?_getD, List.getElem?_eq_getElem (by omega)]
      exact hu
    · cases hu
theorem cellsRow : Try.prog.cellsOf 74 = 4 := by kernel_rfl
theorem open_row {H : Type} {enc : TypeId × Value → H} {W : World} {base : Nat} {v : Value} {d : DataW H} {p : List MemPlace} {spare : Nat → Bool} {held : Bool}
    (hv : Value.okWide Try.prog W .any base 74 v) (h : DataW.Trod enc Try.prog W 0 spare held 74 v d p) :
    ∃ r : Row, v = .agg #[.int .i64 r.h, .bool r.k, .int .i64 r.n, .int .i64 r.f] := by
  obtain ⟨c0, c1, c2, c3, y0, y1, y2, y3, m, rfl, rfl, rfl, e0, e1, e2, e3⟩ := open_agg4 Try.underlying74 (by kernel_rfl) cellsRow hv h
  obtain ⟨a0, q0, _, _⟩ := DataW.trod_int Try.underlying3 e0
  obtain ⟨a1, q1, _⟩ := DataW.trod_bool Try.underlying4 e1
  obtain ⟨a2, q2, _, _⟩ := DataW.trod_int Try.underlying3 e2
  obtain ⟨a3, q3, _, _⟩ := DataW.trod_int Try.underlying3 e3
  simp at q0 q1 q2 q3
  subst q0 q1 q2 q3
  exact ⟨⟨a0, a1, a2, a3⟩, rfl⟩
theorem open_rows {H : Type} {enc : TypeId × Value → H} {W : World} {base : Nat} {v : Value} {d : DataW H} {p : List MemPlace} {spare : Nat → Bool} {held : Bool}
    (hv : Value.okWide Try.prog W .any base 33 v) (h : DataW.Trod enc Try.prog W 0 spare held 33 v d p) :
    ∃ A n c xs, v = .slice A n c ∧ RowsAt W A n c xs := by
  obtain ⟨a0, len0, cap0, rfl⟩ := okWide_slice Try.underlying33 hv
  obtain ⟨fuel, hf⟩ := h
  rcases open_slice_fields Try.underlying33 Try.underlying74 (by kernel_rfl) cellsRow hf with ⟨hcs, _⟩ | ⟨x, l, c, m, D, Pl, hcs, _, hl, hm, hmm, _, hi⟩
  · simp [Value.cells] at hcs
    obtain ⟨rfl, rfl, rfl⟩ := hcs
    exact ⟨none, 0, 0, [], rfl, Rd.nil _ _ _, by omega, by omega⟩
  · simp [Value.cells] at hcs
    obtain ⟨rfl, rfl, rfl⟩ := hcs
    have hlm : len0 ≤ m := by rw [hmm]; split <;> omega
    have hel : ∀ i, i < len0 → ∃ r : Row, W.cell? (x.add (i * 4)) = some (.int .i64 r.h) ∧ W.cell? (x.add (i * 4 + 1)) = some (.bool r.k) ∧ W.cell? (x.add (i * 4 + 2)) = some (.int .i64 r.n) ∧ W.cell? (x.add (i * 4 + 3)) = some (.int .i64 r.f) := by
      intro i hi'
      obtain ⟨ys, q, _, _, _, hf⟩ := hi i (by omega)
      obtain ⟨v0, y0, g0, _, t0⟩ := hf 0 _ rfl
      obtain ⟨v1, y1, g1, _, t1⟩ := hf 1 _ rfl
      obtain ⟨v2, y2, g2, _, t2⟩ := hf 2 _ rfl
      obtain ⟨v3, y3, g3, _, t3⟩ := hf 3 _ rfl
      obtain ⟨a0, q0, _, _⟩ := DataW.trod_int Try.underlying3 t0
      obtain ⟨a1, q1, _⟩ := DataW.trod_bool Try.underlying4 t1
      obtain ⟨a2, q2, _, _⟩ := DataW.trod_int Try.underlying3 t2
      obtain ⟨a3, q3, _, _⟩ := DataW.trod_int Try.underlying3 t3
      simp at q0 q1 q2 q3
      subst q0 q1 q2 q3
      exact ⟨⟨a0, a1, a2, a3⟩, g0, g1, g2, g3⟩
    obtain ⟨xs, hxl, hxp⟩ := list_of len0 hel
    refine ⟨some x, len0, cap0, xs, rfl, ?_, hl, by unfold maxLen at hm; exact hm⟩
    rcases Nat.eq_zero_or_pos len0 with h0 | h0
    · subst h0
      obtain rfl : xs = [] := List.eq_nil_of_length_eq_zero hxl
      exact Rd.nil _ _ _
    · obtain ⟨b, off, spot⟩ := x
      have hx0 : xs[0]? = some (xs[0]'(by omega)) := List.getElem?_eq_getElem (by omega)
      have hspot : spot = none := World.cell?_spot (hxp 0 _ hx0).1
      subst hspot
      have hbl := World.block_lt_of_cell? _ _ (hxp 0 _ hx0).1
      rw [← hxl]
      refine rd_of_elems (by omega) Row.cells_len (by rw [add_lit'] at hbl; exact hbl) fun i r j u hr hj => ?_
      obtain ⟨p0, p1, p2, p3⟩ := hxp i r hr
      rw [add_lit'] at p0 p1 p2 p3
      match j, hj with
      | 0, hj => simp [Row.cells] at hj; subst hj; exact p0
      | 1, hj => simp [Row.cells] at hj; subst hj; exact p1
      | 2, hj => simp [Row.cells] at hj; subst hj; exact p2
      | 3, hj => simp [Row.cells] at hj; subst hj; exact p3
      | j + 4, hj => simp [Row.cells] at hj
theorem cellsLeaf : Try.prog.cellsOf 34 = 4 := by kernel_rfl
theorem ints_of_trod {H : Type} {enc : TypeId × Value → H} {W : World} {spare : Nat → Bool} {held : Bool} {n : Nat} {v : Value} {y : DataW H × List MemPlace} (hf : DataW.trod enc Try.prog W 0 spare held n 24 [v] = some y) :
    ∃ A c fs, v = .slice A fs.length c ∧ IntsAt W A fs.length c fs := by
  rcases open_ints Try.underlying24 Try.underlying3 (by kernel_rfl) hf with ⟨hcs, _⟩ | ⟨x, l, c, zs, hcs, _, hl, hm, hz, hp, hcell, hwz⟩
  · simp at hcs
    subst hcs
    exact ⟨none, 0, [], rfl, IntsAt.nil _ _ _ (by omega)⟩
  · simp at hcs
    subst hcs
    have hlz : l ≤ zs.length := by rw [hz]; split <;> omega
    have htl : (zs.take l).length = l := by rw [List.length_take]; omega
    refine ⟨some x, c, zs.take l, by rw [htl], ?_⟩
    rw [htl]
    refine ⟨?_, hl, by unfold maxLen at hm; exact hm⟩
    refine ⟨by simp; omega, fun hn => ?_⟩
    obtain ⟨b, off, spot⟩ := x
    have hspot : spot = none := World.cell?_spot (hcell 0 (by omega))
    subst hspot
    refine ⟨b, off, rfl, World.block_lt_of_cell? _ _ (hcell 0 (by omega)), fun j u hu => ?_⟩
    rw [List.getElem?_map, List.getElem?_take] at hu
    split at hu
    · have h1 := hcell j (by omega)
      rw [add_lit'] at h1
      rw [h1]
      rw [List.getElem?_eq_getElem (by omega)] at hu
      rw [List.getD_eq_getElem?_getD, List.getElem?_eq_getElem (by omega)]
      exact hu
    · cases hu
theorem open_leaf {H : Type} {enc : TypeId × Value → H} {W : World} {base : Nat} {v : Value} {d : DataW H} {p : List MemPlace} {spare : Nat → Bool} {held : Bool}
    (hv : Value.okWide Try.prog W .any base 34 v) (h : DataW.Trod enc Try.prog W 0 spare held 34 v d p) :
    ∃ r : LfV, v = .agg #[.int .i64 r.from_, .int .i64 r.to_, .int .i64 r.notes, .slice r.A r.figs.length r.c] ∧ LfAt W r := by
  obtain ⟨c0, c1, c2, c3, y0, y1, y2, y3, m, rfl, rfl, rfl, e0, e1, e2, e3⟩ := open_agg4 Try.underlying34 (by kernel_rfl) cellsLeaf hv h
  obtain ⟨a0, q0, _, _⟩ := DataW.trod_int Try.underlying3 e0
  obtain ⟨a1, q1, _, _⟩ := DataW.trod_int Try.underlying3 e1
  obtain ⟨a2, q2, _, _⟩ := DataW.trod_int Try.underlying3 e2
  obtain ⟨A3, k3, f3, q3, hI⟩ := ints_of_trod e3
  simp at q0 q1 q2
  subst q0 q1 q2 q3
  exact ⟨⟨a0, a1, a2, A3, k3, f3⟩, rfl, hI⟩
theorem open_leaves {H : Type} {enc : TypeId × Value → H} {W : World} {base : Nat} {v : Value} {d : DataW H} {p : List MemPlace} {spare : Nat → Bool} {held : Bool}
    (hv : Value.okWide Try.prog W .any base 54 v) (h : DataW.Trod enc Try.prog W 0 spare held 54 v d p) :
    ∃ A n c xs, v = .slice A n c ∧ LeavesAt W A n c xs := by
  obtain ⟨a0, len0, cap0, rfl⟩ := okWide_slice Try.underlying54 hv
  obtain ⟨fuel, hf⟩ := h
  rcases open_slice_fields Try.underlying54 Try.underlying34 (by kernel_rfl) cellsLeaf hf with ⟨hcs, _⟩ | ⟨x, l, c, m, D, Pl, hcs, _, hl, hm, hmm, _, hi⟩
  · simp [Value.cells] at hcs
    obtain ⟨rfl, rfl, rfl⟩ := hcs
    exact ⟨none, 0, 0, [], rfl, ⟨Rd.nil _ _ _, by omega, by omega⟩, by simp⟩
  · simp [Value.cells] at hcs
    obtain ⟨rfl, rfl, rfl⟩ := hcs
    have hlm : len0 ≤ m := by rw [hmm]; split <;> omega
    have hel : ∀ i, i < len0 → ∃ r : LfV, (W.cell? (x.add (i * 4)) = some (.int .i64 r.from_) ∧ W.cell? (x.add (i * 4 + 1)) = some (.int .i64 r.to_) ∧ W.cell? (x.add (i * 4 + 2)) = some (.int .i64 r.notes) ∧ W.cell? (x.add (i * 4 + 3)) = some (.slice r.A r.figs.length r.c)) ∧ LfAt W r := by
      intro i hi'
      obtain ⟨ys, q, _, _, _, hf⟩ := hi i (by omega)
      obtain ⟨v0, y0, g0, _, t0⟩ := hf 0 _ rfl
      obtain ⟨v1, y1, g1, _, t1⟩ := hf 1 _ rfl
      obtain ⟨v2, y2, g2, _, t2⟩ := hf 2 _ rfl
      obtain ⟨v3, y3, g3, _, t3⟩ := hf 3 _ rfl
      obtain ⟨a0, q0, _, _⟩ := DataW.trod_int Try.underlying3 t0
      obtain ⟨a1, q1, _, _⟩ := DataW.trod_int Try.underlying3 t1
      obtain ⟨a2, q2, _, _⟩ := DataW.trod_int Try.underlying3 t2
      obtain ⟨A3, k3, f3, q3, hI⟩ := ints_of_trod t3
      simp at q0 q1 q2
      subst q0 q1 q2 q3
      exact ⟨⟨a0, a1, a2, A3, k3, f3⟩, ⟨g0, g1, g2, g3⟩, hI⟩
    obtain ⟨xs, hxl, hxp⟩ := list_of len0 hel
    refine ⟨some x, len0, cap0, xs, rfl, ⟨?_, hl, by unfold maxLen at hm; exact hm⟩, fun l hl' => ?_⟩
    · rcases Nat.eq_zero_or_pos len0 with h0 | h0
      · subst h0
        obtain rfl : xs = [] := List.eq_nil_of_length_eq_zero hxl
        exact Rd.nil _ _ _
      · obtain ⟨b, off, spot⟩ := x
        have hx0 : xs[0]? = some (xs[0]'(by omega)) := List.getElem?_eq_getElem (by omega)
        have hspot : spot = none := World.cell?_spot (hxp 0 _ hx0).1.1
        subst hspot
        have hbl := World.block_lt_of_cell? _ _ (hxp 0 _ hx0).1.1
        rw [← hxl]
        refine rd_of_elems (by omega) LfV.cells_len (by rw [add_lit'] at hbl; exact hbl) fun i r j u hr hj => ?_
        obtain ⟨⟨p0, p1, p2, p3⟩, _⟩ := hxp i r hr
        rw [add_lit'] at p0 p1 p2 p3
        match j, hj with
        | 0, hj => simp [LfV.cells] at hj; subst hj; exact p0
        | 1, hj => simp [LfV.cells] at hj; subst hj; exact p1
        | 2, hj => simp [LfV.cells] at hj; subst hj; exact p2
        | 3, hj => simp [LfV.cells] at hj; subst hj; exact p3
        | j + 4, hj => simp [LfV.cells] at hj
    · obtain ⟨i, hi'⟩ := List.getElem?_of_mem hl'
      exact (hxp i l hi').2
end Go.Proofs.Ytfflnkkhemaanaa
