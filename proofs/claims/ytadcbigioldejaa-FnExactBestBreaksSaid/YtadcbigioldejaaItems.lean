/- Slices of Item: contracts of the small functions of the laws that copy, compare and mark them. No condition. -/
import Derived.Test.YtadcbigioldejaaInts
import Derived.Deep.RegionWith
namespace Go.Proofs.Ytadcbigioldejaa
open Go.RowKit
set_option linter.unusedVariables false

structure Item where
  kind : Int
  w : Int
  st : Int
  sh : Int
  od : Int
  cost : Int
  mark : Bool
  deriving DecidableEq
def Item.cells (r : Item) : List Value := [.int .i64 r.kind, .int .i64 r.w, .int .i64 r.st, .int .i64 r.sh, .int .i64 r.od, .int .i64 r.cost, .bool r.mark]
theorem Item.cells_len (r : Item) : r.cells.length = 7 := rfl
def ItemsAt (w : World) (A : Option Addr) (n c : Nat) (rs : List Item) : Prop := Sl w A n c 7 (rs.flatMap Item.cells)
section items
variable {w w' : World} {A : Option Addr} {n c k : Nat} {rs : List Item}
theorem ItemsAt.len (h : ItemsAt w A n c rs) : rs.length = n := by
  have := Rd.len h.1; rw [flatMap_len Item.cells_len] at this; omega
theorem ItemsAt.next (h : ItemsAt w A n c rs) (hb : Below w.heap.size w w') : ItemsAt w' A n c rs := Sl.next h hb
theorem ItemsAt.below {B : Nat} (h : ItemsAt w A n c rs) (hB : w.heap.size ≤ B) (hb : Below B w w') : ItemsAt w' A n c rs := Sl.below h hB hb
theorem ItemsAt.bd (h : ItemsAt w A n c rs) : n ≤ c ∧ c ≤ 9223372036854775807 := h.2
theorem ItemsAt.at_ (h : ItemsAt w A n c rs) (hk : k < n) : ∃ b off r, A = some ⟨b, off, none⟩ ∧ b < w.heap.size ∧ rs[k]? = some r ∧ w.cell? ⟨b, off + k * 7, none⟩ = some (.int .i64 r.kind) ∧ w.cell? ⟨b, off + k * 7 + 1, none⟩ = some (.int .i64 r.w) ∧ w.cell? ⟨b, off + k * 7 + 2, none⟩ = some (.int .i64 r.st) ∧ w.cell? ⟨b, off + k * 7 + 3, none⟩ = some (.int .i64 r.sh) ∧ w.cell? ⟨b, off + k * 7 + 4, none⟩ = some (.int .i64 r.od) ∧ w.cell? ⟨b, off + k * 7 + 5, none⟩ = some (.int .i64 r.cost) ∧ w.cell? ⟨b, off + k * 7 + 6, none⟩ = some (.bool r.mark) := by
  obtain ⟨b, off, e, hl, hc⟩ := Rd.cells h.1 (by omega)
  have hlen := h.len
  have hx : rs[k]? = some (rs[k]'(by omega)) := List.getElem?_eq_getElem (by omega)
  have hg := fun j hj => flatMap_get Item.cells_len rs k j _ hx hj
  refine ⟨b, off, _, e, hl, hx, ?_, ?_, ?_, ?_, ?_, ?_, ?_⟩
  · exact hc (k * 7 + 0) _ (hg 0 (by omega))
  · exact hc (k * 7 + 1) _ (hg 1 (by omega))
  · exact hc (k * 7 + 2) _ (hg 2 (by omega))
  · exact hc (k * 7 + 3) _ (hg 3 (by omega))
  · exact hc (k * 7 + 4) _ (hg 4 (by omega))
  · exact hc (k * 7 + 5) _ (hg 5 (by omega))
  · exact hc (k * 7 + 6) _ (hg 6 (by omega))
end items
theorem infoItem : (Try.prog.info? 51).map (fun i => (i.zero, i.size, i.bytes)) = some (some (.agg #[.int .i64 0, .int .i64 0, .int .i64 0, .int .i64 0, .int .i64 0, .int .i64 0, .bool false]), 7, 56) := by kernel_rfl
theorem flat_snoc_items (rs : List Item) (r : Item) : (rs ++ [r]).flatMap Item.cells = rs.flatMap Item.cells ++ [.int .i64 r.kind, .int .i64 r.w, .int .i64 r.st, .int .i64 r.sh, .int .i64 r.od, .int .i64 r.cost, .bool r.mark] := by simp [Item.cells]
theorem cells_new_items (w : World) (t : TypeId) (a0 a1 a2 a3 a4 a5 a6 : Value) : ∀ j u, [a0, a1, a2, a3, a4, a5, a6][j]? = some u → (w.alloc (.cells #[a0, a1, a2, a3, a4, a5, a6] t)).cell? ((⟨w.heap.size, 0, none⟩ : Addr).add j) = some u := by
  intro j u hj
  rw [add_lit', Nat.zero_add, (Blk.new w t #[a0, a1, a2, a3, a4, a5, a6]).cell j]
  simpa using hj
theorem one_items (r : Item) : ∀ u ∈ ([.int .i64 r.kind, .int .i64 r.w, .int .i64 r.st, .int .i64 r.sh, .int .i64 r.od, .int .i64 r.cost, .bool r.mark] : List Value), u.oneCell' = true := by
  intro u hu; simp at hu; rcases hu with rfl | rfl | rfl | rfl | rfl | rfl | rfl <;> rfl
/-- A slice that the call itself made, with its elements. -/
def OwnT (w : World) (B : Nat) (A : Option Addr) (c : Nat) (rs : List Item) : Prop := w.ownsRow B 51 7 (.slice A rs.length c) rs.length (rs.flatMap Item.cells)
section ownitems
variable {w w' : World} {A : Option Addr} {B c : Nat} {rs : List Item}
theorem OwnT.at_ (h : OwnT w B A c rs) : ItemsAt w A rs.length c rs := Sl.of_own h
theorem OwnT.next (h : OwnT w B A c rs) (hb : Below w.heap.size w w') : OwnT w' B A c rs := own_next h hb
theorem OwnT.of {v : Value} (h : w.ownsRow B 51 7 v rs.length (rs.flatMap Item.cells)) : ∃ A c, v = .slice A rs.length c ∧ OwnT w B A c rs := by
  obtain ⟨A, c, rfl, _, _, _, _, h'⟩ := own_form h
  exact ⟨A, c, rfl, h'⟩
end ownitems
theorem take_set_items {ys : List Value} {j : Nat} (hj : j + 6 < ys.length) (a0 a1 a2 a3 a4 a5 a6 : Value) : (((((((ys.set j a0).set (j + 1) a1).set (j + 2) a2).set (j + 3) a3).set (j + 4) a4).set (j + 5) a5).set (j + 6) a6).take (j + 7) = ys.take j ++ [a0, a1, a2, a3, a4, a5, a6] := by
  rw [show j + 7 = j + 6 + 1 from rfl, take_set (by simp; omega), show j + 6 = j + 5 + 1 from rfl, take_set (by simp; omega), show j + 5 = j + 4 + 1 from rfl, take_set (by simp; omega), show j + 4 = j + 3 + 1 from rfl, take_set (by simp; omega), show j + 3 = j + 2 + 1 from rfl, take_set (by simp; omega), show j + 2 = j + 1 + 1 from rfl, take_set (by simp; omega), take_set (by omega)]
  simp
theorem flat_take_snoc_items {rs : List Item} {k : Nat} {r : Item} (h : rs[k]? = some r) : (rs.take (k + 1)).flatMap Item.cells = (rs.take k).flatMap Item.cells ++ [.int .i64 r.kind, .int .i64 r.w, .int .i64 r.st, .int .i64 r.sh, .int .i64 r.od, .int .i64 r.cost, .bool r.mark] := by
  rw [take_snoc' h, flat_snoc_items]

set_option maxHeartbeats 400000 in
theorem c_toGlue (a b c d : Int) (w : World) :
    Calls Try.prog 54 #[.agg #[.int .i64 a, .int .i64 b, .int .i64 c, .int .i64 d]] w fun e w' => e = .returned (.agg #[.int .i64 a, .int .i64 b, .int .i64 c, .int .i64 d]) ∧ Below w.heap.size w w' := by
  go_enter Try.func54, Try.ntmps54
  go_wp2
  refine bodyPost_ret (v := .agg #[.int .i64 a, .int .i64 b, .int .i64 c, .int .i64 d]) (by simp [results, Try.results54, go_sem]) rfl ⟨rfl, ?_⟩
  exact bmk (bmk (bof _ _) _) _
set_option maxHeartbeats 1600000 in
theorem c_toItem (r : Item) (w : World) :
    Calls Try.prog 33 #[.agg #[.int .i64 r.kind, .int .i64 r.w, .int .i64 r.st, .int .i64 r.sh, .int .i64 r.od, .int .i64 r.cost, .bool r.mark]] w fun e w' => e = .returned (.agg #[.int .i64 r.kind, .int .i64 r.w, .int .i64 r.st, .int .i64 r.sh, .int .i64 r.od, .int .i64 r.cost, .bool r.mark]) ∧ Below w.heap.size w w' := by
  have hB := bmk (bmk (bof w (.cells #[.int .i64 r.kind, .int .i64 r.w, .int .i64 r.st, .int .i64 r.sh, .int .i64 r.od, .int .i64 r.cost, .bool r.mark] 55)) (.cells #[.int .i64 0, .int .i64 0, .int .i64 0, .int .i64 0, .int .i64 0, .int .i64 0, .bool false] 51)) (.cells #[.int .i64 r.kind, .int .i64 0, .int .i64 0, .int .i64 0, .int .i64 0, .int .i64 0, .bool false] 51)
  have q0 := ((Blk.new w 55 #[.int .i64 r.kind, .int .i64 r.w, .int .i64 r.st, .int .i64 r.sh, .int .i64 r.od, .int .i64 r.cost, .bool r.mark]).alloc (.cells #[.int .i64 0, .int .i64 0, .int .i64 0, .int .i64 0, .int .i64 0, .int .i64 0, .bool false] 51)).alloc (.cells #[.int .i64 r.kind, .int .i64 0, .int .i64 0, .int .i64 0, .int .i64 0, .int .i64 0, .bool false] 51)
  have q1 := (Blk.new (w.alloc (.cells #[.int .i64 r.kind, .int .i64 r.w, .int .i64 r.st, .int .i64 r.sh, .int .i64 r.od, .int .i64 r.cost, .bool r.mark] 55)) 51 #[.int .i64 0, .int .i64 0, .int .i64 0, .int .i64 0, .int .i64 0, .int .i64 0, .bool false]).alloc (.cells #[.int .i64 r.kind, .int .i64 0, .int .i64 0, .int .i64 0, .int .i64 0, .int .i64 0, .bool false] 51)
  have q2 := Blk.new ((w.alloc (.cells #[.int .i64 r.kind, .int .i64 r.w, .int .i64 r.st, .int .i64 r.sh, .int .i64 r.od, .int .i64 r.cost, .bool r.mark] 55)).alloc (.cells #[.int .i64 0, .int .i64 0, .int .i64 0, .int .i64 0, .int .i64 0, .int .i64 0, .bool false] 51)) 51 #[.int .i64 r.kind, .int .i64 0, .int .i64 0, .int .i64 0, .int .i64 0, .int .i64 0, .bool false]
  simp only [size_alloc'] at q1 q2
  go_enter Try.func33, Try.ntmps33
  go_wp2_with fail
  refine (c_toGlue r.w r.st r.sh r.od _).mono ?_
  rintro e w1 ⟨rfl, hb⟩
  replace q0 := q0.next hb
  replace q1 := q1.next hb
  replace q2 := q2.next hb
  replace hB := bnext hB hb
  have b0 : w1.cell? ⟨w.heap.size, 0, none⟩ = some (.int .i64 r.kind) := q0.cell 0
  have b1 : w1.cell? ⟨w.heap.size, 1, none⟩ = some (.int .i64 r.w) := q0.cell 1
  have b2 : w1.cell? ⟨w.heap.size, 2, none⟩ = some (.int .i64 r.st) := q0.cell 2
  have b3 : w1.cell? ⟨w.heap.size, 3, none⟩ = some (.int .i64 r.sh) := q0.cell 3
  have b4 : w1.cell? ⟨w.heap.size, 4, none⟩ = some (.int .i64 r.od) := q0.cell 4
  have b5 : w1.cell? ⟨w.heap.size, 5, none⟩ = some (.int .i64 r.cost) := q0.cell 5
  have b6 : w1.cell? ⟨w.heap.size, 6, none⟩ = some (.bool r.mark) := q0.cell 6
  have r0 : w1.cell? ⟨w.heap.size + 1, 0, none⟩ = some (.int .i64 0) := q1.cell 0
  have r1 : w1.cell? ⟨w.heap.size + 1, 1, none⟩ = some (.int .i64 0) := q1.cell 1
  have r2 : w1.cell? ⟨w.heap.size + 1, 2, none⟩ = some (.int .i64 0) := q1.cell 2
  have r3 : w1.cell? ⟨w.heap.size + 1, 3, none⟩ = some (.int .i64 0) := q1.cell 3
  have r4 : w1.cell? ⟨w.heap.size + 1, 4, none⟩ = some (.int .i64 0) := q1.cell 4
  have r5 : w1.cell? ⟨w.heap.size + 1, 5, none⟩ = some (.int .i64 0) := q1.cell 5
  have r6 : w1.cell? ⟨w.heap.size + 1, 6, none⟩ = some (.bool false) := q1.cell 6
  have o0 : w1.cell? ⟨w.heap.size + 1 + 1, 0, none⟩ = some (.int .i64 r.kind) := q2.cell 0
  have o1 : w1.cell? ⟨w.heap.size + 1 + 1, 1, none⟩ = some (.int .i64 0) := q2.cell 1
  have o2 : w1.cell? ⟨w.heap.size + 1 + 1, 2, none⟩ = some (.int .i64 0) := q2.cell 2
  have o3 : w1.cell? ⟨w.heap.size + 1 + 1, 3, none⟩ = some (.int .i64 0) := q2.cell 3
  have o4 : w1.cell? ⟨w.heap.size + 1 + 1, 4, none⟩ = some (.int .i64 0) := q2.cell 4
  have o5 : w1.cell? ⟨w.heap.size + 1 + 1, 5, none⟩ = some (.int .i64 0) := q2.cell 5
  have o6 : w1.cell? ⟨w.heap.size + 1 + 1, 6, none⟩ = some (.bool false) := q2.cell 6
  have y0 := q1.frozen 0
  have y1 := q1.frozen 1
  have y2 := q1.frozen 2
  have y3 := q1.frozen 3
  have y4 := q1.frozen 4
  have y5 := q1.frozen 5
  have y6 := q1.frozen 6
  have z1 := q2.frozen 1
  have z2 := q2.frozen 2
  have z3 := q2.frozen 3
  have z4 := q2.frozen 4
  have z5 := q2.frozen 5
  have z6 := q2.frozen 6
  clear hb q0 q1 q2
  go_wp2
  refine bodyPost_ret (v := .agg #[.int .i64 r.kind, .int .i64 r.w, .int .i64 r.st, .int .i64 r.sh, .int .i64 r.od, .int .i64 r.cost, .bool r.mark]) (by simp [results, Try.results33, go_sem, *]) rfl ⟨rfl, ?_⟩
  repeat (refine Below.setCell ?_ (by dsimp only; omega) _)
  exact hB

set_option maxHeartbeats 400000 in
theorem c_szItemS_big (A : Option Addr) (n c : Nat) (l : Int) (w : World) (hn : n ≤ 9223372036854775807) (hl : 0 ≤ l ∧ l ≤ 1048576) (h : l < n) :
    Calls Try.prog 9 #[.slice A n c, .int .i64 l] w fun e w' => e = .returned (.int .i64 (-1)) ∧ w = w' := by
  go_enter Try.func9, Try.ntmps9
  go_wp2
  go_ret
  exact ⟨rfl, rfl⟩
set_option maxHeartbeats 400000 in
theorem c_szItemS_ok (A : Option Addr) (n c : Nat) (l : Int) (w : World) (hl : l ≤ 1048576) (h : (n : Int) ≤ l) :
    Calls Try.prog 9 #[.slice A n c, .int .i64 l] w fun e w' => e = .returned (.int .i64 (l - n)) ∧ w = w' := by
  go_enter Try.func9, Try.ntmps9
  go_wp2
  go_ret
  exact ⟨rfl, rfl⟩

set_option maxHeartbeats 400000 in
theorem c_toItemS (A : Option Addr) (n c : Nat) (rs : List Item) (w : World) (h : ItemsAt w A n c rs) (hn : n ≤ 16777216) :
    Calls Try.prog 11 #[.slice A n c] w fun e w' => ∃ A' c', e = .returned (.slice A' n c') ∧ OwnT w' w.heap.size A' c' rs ∧ Below w.heap.size w w' := by
  obtain ⟨i0, hi, hz0, hz1, hz2⟩ := info_parts infoItem
  have hbd := h.bd
  have hlen := h.len
  go_enter Try.func11, Try.ntmps11
  go_wp2_with (at_make; refine wpList_make_full _ rfl _ _ 26 rfl w.heap.size 51 i0 (.agg #[.int .i64 0, .int .i64 0, .int .i64 0, .int .i64 0, .int .i64 0, .int .i64 0, .bool false]) 7 Try.underlying26 hi hz0 hz1 .i64 .i64 n n n rfl rfl rfl rfl ?b2 ?b3 (Nat.le_refl _) ?_)
  case b2 => rw [hz2]; omega
  case b3 => unfold maxLen; omega
  intro w1 hown hg
  have hb1 : Below w.heap.size w w1 := ⟨hg.os, hg.tape, hg.output, hg.size, fun k hk => hg.block k hk (by simp)⟩
  go_wp2
  go_loopw [4] (fun i wr => ∃ (k : Nat) (ys : List Value), k ≤ n ∧ i = .int .i64 k ∧ ys.take (k * 7) = (rs.take k).flatMap Item.cells ∧ wr.ownsRow w.heap.size 51 7 (.slice (some ⟨w.heap.size, 0, none⟩) n n) n ys ∧ Below w.heap.size w wr) (fun i _ => n - (intOf i).toNat)
  case atStart => exact ⟨0, _, Nat.zero_le _, rfl, by simp, hown, hb1⟩
  case round =>
    clear hown hg hb1
    obtain ⟨k, ys, hk, rfl, hys, hown, hb⟩ := hrel
    have hyl : ys.length = n * 7 := hown.1
    by_cases hlt : k < n
    · obtain ⟨b, off, r, rfl, hbl, hr, h0, h1, h2, h3, h4, h5, h6⟩ := (h.next hb).at_ hlt
      have HYS := hide hys
      clear hys
      go_wp2_with fail
      refine (c_toItem r _).mono ?_
      rintro e w2 ⟨rfl, hb2⟩
      have hown := own_next hown hb2
      have hb := bnext hb hb2
      clear h0 h1 h2 h3 h4 h5 h6 hb2
      have y0 := hown.cellAt (k * 7) (by omega)
      have y1 := hown.cellAt (k * 7 + 1) (by omega)
      have y2 := hown.cellAt (k * 7 + 2) (by omega)
      have y3 := hown.cellAt (k * 7 + 3) (by omega)
      have y4 := hown.cellAt (k * 7 + 4) (by omega)
      have y5 := hown.cellAt (k * 7 + 5) (by omega)
      have y6 := hown.cellAt (k * 7 + 6) (by omega)
      rw [List.getElem?_eq_getElem (by omega)] at y0 y1 y2 y3 y4 y5 y6
      have f0 := hown.frozenAt (k * 7)
      have f1 := hown.frozenAt (k * 7 + 1)
      have f2 := hown.frozenAt (k * 7 + 2)
      have f3 := hown.frozenAt (k * 7 + 3)
      have f4 := hown.frozenAt (k * 7 + 4)
      have f5 := hown.frozenAt (k * 7 + 5)
      have f6 := hown.frozenAt (k * 7 + 6)
      have hst := ((((((hown.stored (k * 7) (.int .i64 r.kind)).1.stored (k * 7 + 1) (.int .i64 r.w)).1.stored (k * 7 + 2) (.int .i64 r.st)).1.stored (k * 7 + 3) (.int .i64 r.sh)).1.stored (k * 7 + 4) (.int .i64 r.od)).1.stored (k * 7 + 5) (.int .i64 r.cost)).1.stored (k * 7 + 6) (.bool r.mark)
      have hb3 := (((((((hb).setCell (p := ⟨w.heap.size, k * 7, none⟩) (Nat.le_refl _) (.int .i64 r.kind)).setCell (p := ⟨w.heap.size, k * 7 + 1, none⟩) (Nat.le_refl _) (.int .i64 r.w)).setCell (p := ⟨w.heap.size, k * 7 + 2, none⟩) (Nat.le_refl _) (.int .i64 r.st)).setCell (p := ⟨w.heap.size, k * 7 + 3, none⟩) (Nat.le_refl _) (.int .i64 r.sh)).setCell (p := ⟨w.heap.size, k * 7 + 4, none⟩) (Nat.le_refl _) (.int .i64 r.od)).setCell (p := ⟨w.heap.size, k * 7 + 5, none⟩) (Nat.le_refl _) (.int .i64 r.cost)).setCell (p := ⟨w.heap.size, k * 7 + 6, none⟩) (Nat.le_refl _) (.bool r.mark)
      have hys2 := take_set_items (ys := ys) (j := k * 7) (by omega) (.int .i64 r.kind) (.int .i64 r.w) (.int .i64 r.st) (.int .i64 r.sh) (.int .i64 r.od) (.int .i64 r.cost) (.bool r.mark)
      rw [unhide HYS, ← flat_take_snoc_items hr, show k * 7 + 7 = (k + 1) * 7 from by omega] at hys2
      have H := hide hys2
      have HR := hide hr
      clear hys2 hr hown hb
      go_wp2
      go_roundw
      case rel => exact ⟨k + 1, _, by omega, by go_num, unhide H, hst.1, hb3⟩
      case measure => simp [intOf]; omega
    · obtain rfl : n = k := by omega
      have hxs : ys = rs.flatMap Item.cells := by
        rw [List.take_of_length_le (by omega), List.take_of_length_le (by omega)] at hys; exact hys
      subst hxs
      subst hlen
      go_wp2
      go_ret
      exact ⟨_, _, rfl, hown, hb⟩

set_option maxHeartbeats 400000 in
theorem c_eqGlue_same (a b c d : Int) (w : World) :
    Calls Try.prog 57 #[.agg #[.int .i64 a, .int .i64 b, .int .i64 c, .int .i64 d], .agg #[.int .i64 a, .int .i64 b, .int .i64 c, .int .i64 d]] w fun e w' => e = .returned (.bool true) ∧ Below w.heap.size w w' := by
  have e0 : (a != a) = false := by simp
  have e1 : (b != b) = false := by simp
  have e2 : (c != c) = false := by simp
  have e3 : (d != d) = false := by simp
  go_enter Try.func57, Try.ntmps57
  go_wp2
  go_ret
  exact ⟨rfl, bmk (bof _ _) _⟩
set_option maxHeartbeats 800000 in
theorem c_eqItem_same (r : Item) (w : World) :
    Calls Try.prog 35 #[.agg #[.int .i64 r.kind, .int .i64 r.w, .int .i64 r.st, .int .i64 r.sh, .int .i64 r.od, .int .i64 r.cost, .bool r.mark], .agg #[.int .i64 r.kind, .int .i64 r.w, .int .i64 r.st, .int .i64 r.sh, .int .i64 r.od, .int .i64 r.cost, .bool r.mark]] w fun e w' => e = .returned (.bool true) ∧ Below w.heap.size w w' := by
  have e0 : (r.kind != r.kind) = false := by simp
  have e5 : (r.cost != r.cost) = false := by simp
  have e6 : (!(r.mark == r.mark)) = false := by simp
  have hB := bmk (bof w (.cells #[.int .i64 r.kind, .int .i64 r.w, .int .i64 r.st, .int .i64 r.sh, .int .i64 r.od, .int .i64 r.cost, .bool r.mark] 51)) (.cells #[.int .i64 r.kind, .int .i64 r.w, .int .i64 r.st, .int .i64 r.sh, .int .i64 r.od, .int .i64 r.cost, .bool r.mark] 51)
  have p := (Blk.new w 51 #[.int .i64 r.kind, .int .i64 r.w, .int .i64 r.st, .int .i64 r.sh, .int .i64 r.od, .int .i64 r.cost, .bool r.mark]).alloc (.cells #[.int .i64 r.kind, .int .i64 r.w, .int .i64 r.st, .int .i64 r.sh, .int .i64 r.od, .int .i64 r.cost, .bool r.mark] 51)
  have q := Blk.new (w.alloc (.cells #[.int .i64 r.kind, .int .i64 r.w, .int .i64 r.st, .int .i64 r.sh, .int .i64 r.od, .int .i64 r.cost, .bool r.mark] 51)) 51 #[.int .i64 r.kind, .int .i64 r.w, .int .i64 r.st, .int .i64 r.sh, .int .i64 r.od, .int .i64 r.cost, .bool r.mark]
  simp only [size_alloc'] at q
  go_enter Try.func35, Try.ntmps35
  go_wp2_with fail
  refine (c_eqGlue_same r.w r.st r.sh r.od _).mono ?_
  rintro e w1 ⟨rfl, hb⟩
  replace p := p.next hb
  replace q := q.next hb
  replace hB := bnext hB hb
  have p5 : w1.cell? ⟨w.heap.size, 5, none⟩ = some (.int .i64 r.cost) := p.cell 5
  have p6 : w1.cell? ⟨w.heap.size, 6, none⟩ = some (.bool r.mark) := p.cell 6
  have q5 : w1.cell? ⟨w.heap.size + 1, 5, none⟩ = some (.int .i64 r.cost) := q.cell 5
  have q6 : w1.cell? ⟨w.heap.size + 1, 6, none⟩ = some (.bool r.mark) := q.cell 6
  clear hb p q
  go_wp2
  go_ret
  exact ⟨rfl, hB⟩

set_option maxHeartbeats 800000 in
theorem c_eqItemS_same (A A' : Option Addr) (n n' c c' : Nat) (xs : List Item) (w : World) (h1 : ItemsAt w A n c xs) (h2 : ItemsAt w A' n' c' xs) :
    Calls Try.prog 15 #[.slice A n c, .slice A' n' c'] w fun e w' => e = .returned (.bool true) ∧ Below w.heap.size w w' := by
  obtain rfl : n = n' := by rw [← h1.len, ← h2.len]
  have hbd := h1.bd
  have hbd2 := h2.bd
  go_enter Try.func15, Try.ntmps15
  go_wp2
  go_loopw [5] (fun i wr => ∃ k : Nat, k ≤ n ∧ i = .int .i64 k ∧ Below w.heap.size w wr) (fun i _ => n - (intOf i).toNat)
  case atStart => exact ⟨0, Nat.zero_le _, rfl, Below.refl _ _⟩
  case round =>
    obtain ⟨k, hk, rfl, hbel⟩ := hrel
    by_cases hlt : k < n
    · obtain ⟨b, off, x, rfl, hb, hx, p0, p1, p2, p3, p4, p5, p6⟩ := (h1.next hbel).at_ hlt
      obtain ⟨b', off', y, rfl, hb', hy, q0, q1, q2, q3, q4, q5, q6⟩ := (h2.next hbel).at_ hlt
      rw [hx] at hy
      injection hy with hy
      subst hy
      clear hx
      go_wp2
      go_region_with (go_at_call 35; refine (c_eqItem_same x _).mono ?_; rintro e w2 ⟨rfl, hb2⟩)
      all_goals
        go_wp2
        go_roundw
        case rel => exact ⟨k + 1, by omega, by go_num, bnext hbel.drew (by assumption)⟩
        case measure => simp [intOf]; omega
    · go_wp2
      go_ret
      exact ⟨rfl, hbel⟩

/-- The element that a mark leaves from the number q on. -/
def markItem (q : Int) : Item := ⟨q, q + 1, q + 1 + 1, q + 1 + 1 + 1, q + 1 + 1 + 1 + 1, q + 1 + 1 + 1 + 1 + 1, (q + 1 + 1 + 1 + 1 + 1 + 1) % 3 == 0⟩
def marksItem (k : Int) (n : Nat) : List Item := (List.range n).map fun (i : Nat) => markItem (k + 7 * (i : Int))
theorem marksItem_len (k : Int) (n : Nat) : (marksItem k n).length = n := by simp [marksItem]
theorem marksItem_get {k : Int} {n i : Nat} (h : i < n) : (marksItem k n)[i]? = some (markItem (k + 7 * (i : Int))) := by simp [marksItem, h]
theorem marksItem_snoc (k : Int) (n : Nat) : marksItem k (n + 1) = marksItem k n ++ [markItem (k + 7 * (n : Int))] := by simp [marksItem, List.range_succ]
theorem marks_atItemS {w : World} {B c n : Nat} {A : Option Addr} {k : Int} (h : OwnT w B A c (marksItem k n)) : ItemsAt w A n c (marksItem k n) := by
  have h' := h.at_; rwa [marksItem_len] at h'

set_option maxHeartbeats 800000 in
theorem c_markItemS (A : Option Addr) (c B : Nat) (rs : List Item) (k0 : Int) (w : World) (h : OwnT w B A c rs) (h0 : 0 ≤ k0) (h1 : k0 ≤ 1000000000000) (hn : rs.length ≤ 1000000000000) :
    Calls Try.prog 16 #[.slice A rs.length c, .int .i64 k0] w fun e w' => e = .returned (.int .i64 (k0 + 7 * rs.length)) ∧ OwnT w' B A c (marksItem k0 rs.length) ∧ w.grownBy w' (Value.slice A rs.length c).ownBlock := by
  obtain ⟨n, hn'⟩ : ∃ n, rs.length = n := ⟨_, rfl⟩
  unfold OwnT at h
  rw [hn'] at h hn ⊢
  have hA : n = 0 ∨ ∃ g, A = some ⟨g, 0, none⟩ := by
    rcases h.2 with ⟨_, h0⟩ | ⟨g, _, _, hv, _⟩
    · exact .inl h0
    · injection hv with hA; exact .inr ⟨g, hA⟩
  rcases hA with rfl | ⟨g, rfl⟩
  · have hx : rs = [] := List.eq_nil_of_length_eq_zero hn'
    subst hx
    clear hn'
    go_enter Try.func16, Try.ntmps16
    go_wp2
    refine wp_loop_rounds 1 ?_
    rw [rounds_succ]
    go_wp2
    go_ret
    exact ⟨by simp, by unfold OwnT; exact h, ⟨rfl, rfl, rfl, Nat.le_refl _, fun _ _ _ => rfl⟩⟩
  · have hbd := (Sl.of_own h).bd
    clear hn'
    go_enter Try.func16, Try.ntmps16
    go_wp2
    go_loopw [1, 5] (fun q i wr => ∃ (k : Nat) (ys : List Value), k ≤ n ∧ i = .int .i64 k ∧ q = .int .i64 (k0 + 7 * k) ∧ ys.take (k * 7) = (marksItem k0 k).flatMap Item.cells ∧ wr.ownsRow B 51 7 (.slice (some ⟨g, 0, none⟩) n c) n ys ∧ w.grownBy wr (some g)) (fun _ i _ => n - (intOf i).toNat)
    case atStart => exact ⟨0, _, Nat.zero_le _, rfl, by simp, by simp [marksItem], h, ⟨rfl, rfl, rfl, Nat.le_refl _, fun _ _ _ => rfl⟩⟩
    case round =>
      clear h
      obtain ⟨k, ys, hk, rfl, rfl, hys, hown, hg⟩ := hrel
      have hyl : ys.length = n * 7 := hown.1
      by_cases hlt : k < n
      · skip
        have y0 := hown.cellAt (k * 7) (by omega)
        have y1 := hown.cellAt (k * 7 + 1) (by omega)
        have y2 := hown.cellAt (k * 7 + 2) (by omega)
        have y3 := hown.cellAt (k * 7 + 3) (by omega)
        have y4 := hown.cellAt (k * 7 + 4) (by omega)
        have y5 := hown.cellAt (k * 7 + 5) (by omega)
        have y6 := hown.cellAt (k * 7 + 6) (by omega)
        rw [List.getElem?_eq_getElem (by omega)] at y0 y1 y2 y3 y4 y5 y6
        have f0 := hown.frozenAt (k * 7)
        have f1 := hown.frozenAt (k * 7 + 1)
        have f2 := hown.frozenAt (k * 7 + 2)
        have f3 := hown.frozenAt (k * 7 + 3)
        have f4 := hown.frozenAt (k * 7 + 4)
        have f5 := hown.frozenAt (k * 7 + 5)
        have f6 := hown.frozenAt (k * 7 + 6)
        have hys2 := take_set_items (ys := ys) (j := k * 7) (by omega) (.int .i64 (k0 + 7 * k)) (.int .i64 (k0 + 7 * k + 1)) (.int .i64 (k0 + 7 * k + 1 + 1)) (.int .i64 (k0 + 7 * k + 1 + 1 + 1)) (.int .i64 (k0 + 7 * k + 1 + 1 + 1 + 1)) (.int .i64 (k0 + 7 * k + 1 + 1 + 1 + 1 + 1)) (.bool ((k0 + 7 * k + 1 + 1 + 1 + 1 + 1 + 1) % 3 == 0))
        have hst := ((((((hown.stored (k * 7) (.int .i64 (k0 + 7 * k))).1.stored (k * 7 + 1) (.int .i64 (k0 + 7 * k + 1))).1.stored (k * 7 + 2) (.int .i64 (k0 + 7 * k + 1 + 1))).1.stored (k * 7 + 3) (.int .i64 (k0 + 7 * k + 1 + 1 + 1))).1.stored (k * 7 + 4) (.int .i64 (k0 + 7 * k + 1 + 1 + 1 + 1))).1.stored (k * 7 + 5) (.int .i64 (k0 + 7 * k + 1 + 1 + 1 + 1 + 1))).1.stored (k * 7 + 6) (.bool ((k0 + 7 * k + 1 + 1 + 1 + 1 + 1 + 1) % 3 == 0))
        have hset : ∀ (wx : World) (j : Nat) (u : Value), w.grownBy wx (some g) → w.grownBy (wx.setCell ⟨g, j, none⟩ u) (some g) := fun wx j u hg =>
          ⟨hg.os, hg.tape, hg.output, by simpa [World.setCell] using hg.size, fun i hi hne => (Below.heap_setCell wx ⟨g, j, none⟩ _ i (fun e => hne (by rw [e]))).trans (hg.block i hi hne)⟩
        have hgl := hset _ (k * 7 + 6) (.bool ((k0 + 7 * k + 1 + 1 + 1 + 1 + 1 + 1) % 3 == 0)) (hset _ (k * 7 + 5) (.int .i64 (k0 + 7 * k + 1 + 1 + 1 + 1 + 1)) (hset _ (k * 7 + 4) (.int .i64 (k0 + 7 * k + 1 + 1 + 1 + 1)) (hset _ (k * 7 + 3) (.int .i64 (k0 + 7 * k + 1 + 1 + 1)) (hset _ (k * 7 + 2) (.int .i64 (k0 + 7 * k + 1 + 1)) (hset _ (k * 7 + 1) (.int .i64 (k0 + 7 * k + 1)) (hset _ (k * 7) (.int .i64 (k0 + 7 * k)) (hg)))))))
        have hmk : (marksItem k0 (k + 1)).flatMap Item.cells = (marksItem k0 k).flatMap Item.cells ++ [.int .i64 (k0 + 7 * k), .int .i64 (k0 + 7 * k + 1), .int .i64 (k0 + 7 * k + 1 + 1), .int .i64 (k0 + 7 * k + 1 + 1 + 1), .int .i64 (k0 + 7 * k + 1 + 1 + 1 + 1), .int .i64 (k0 + 7 * k + 1 + 1 + 1 + 1 + 1), .bool ((k0 + 7 * k + 1 + 1 + 1 + 1 + 1 + 1) % 3 == 0)] := by
          rw [marksItem_snoc, flat_snoc_items]; rfl
        rw [hys, ← hmk, show k * 7 + 7 = (k + 1) * 7 from by omega] at hys2
        have H := hide hys2
        clear hys2 hys hmk hset
        go_wp2
        go_roundw
        case rel => exact ⟨k + 1, _, by omega, by go_num, by go_num, unhide H, hst.1, hgl⟩
        case measure => simp [intOf]; omega
      · obtain rfl : n = k := by omega
        have hm : ys = (marksItem k0 n).flatMap Item.cells := by
          rw [List.take_of_length_le (by omega)] at hys; exact hys
        subst hm
        go_wp2
        go_ret
        refine ⟨rfl, ?_, hg⟩
        unfold OwnT
        rw [marksItem_len]
        exact hown

end Go.Proofs.Ytadcbigioldejaa

