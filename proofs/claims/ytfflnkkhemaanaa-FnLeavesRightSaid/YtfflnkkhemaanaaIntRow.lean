/- A slice of int of the call's own that keeps its length: what is read out of it and what a store leaves. No condition. -/
import Derived.Test.YtfflnkkhemaanaaPush
import Derived.Maps.AppendAt
namespace Go.Proofs.Ytfflnkkhemaanaa
open Go.RowKit
set_option linter.unusedVariables false

def IntRow (w : World) (B g n : Nat) (xs : List Int) : Prop := w.ownsRow B 3 1 (.slice (some ⟨g, 0, none⟩) n n) n (xs.map (Value.int .i64))
section
variable {w w' : World} {B g n k : Nat} {xs : List Int}
theorem IntRow.len (h : IntRow w B g n xs) : xs.length = n := by have := h.1; simpa using this
theorem IntRow.cell {x : Int} (h : IntRow w B g n xs) (hx : xs[k]? = some x) : w.cell? ⟨g, k, none⟩ = some (.int .i64 x) := by
  have hk : k < n := by rw [← h.len]; exact get_lt hx
  rw [World.ownsRow.cellAt h k (by omega), List.getElem?_map, hx]; rfl
theorem IntRow.fz (h : IntRow w B g n xs) (k : Nat) : w.frozen? ⟨g, k, none⟩ = false := World.ownsRow.frozenAt h k
theorem IntRow.put (h : IntRow w B g n xs) (k : Nat) (y : Int) : IntRow (w.setCell ⟨g, k, none⟩ (.int .i64 y)) B g n (xs.set k y) := by
  have h1 := (World.ownsRow.stored h k (.int .i64 y)).1
  unfold IntRow; rw [List.map_set]; exact h1
theorem IntRow.lt (h : IntRow w B g n xs) : B ≤ g ∧ g < w.heap.size := World.ownsRow.lt h g rfl
theorem IntRow.next (h : IntRow w B g n xs) (hb : Below w.heap.size w w') : IntRow w' B g n xs := own_next h hb
theorem IntRow.far {p : Addr} (h : IntRow w B g n xs) (hp : g ≠ p.block) (u : Value) : IntRow (w.setCell p u) B g n xs :=
  World.ownsRow.kept h (gset (grefl w (some p.block)) (.inl rfl) u) (.inr (by simpa [Value.ownBlock] using hp))
theorem IntRow.kept {row : Option Nat} (h : IntRow w B g n xs) (hg : w.grownBy w' row) (hr : row ≠ some g) : IntRow w' B g n xs :=
  World.ownsRow.kept h hg (.inr (fun e => hr e.symm))
theorem IntRow.alloc (h : IntRow w B g n xs) (o : Obj) : IntRow (w.alloc o) B g n xs := World.ownsRow.alloc h o
theorem IntRow.drewN (h : IntRow w B g n xs) (k : Nat) : IntRow (w.drewN k) B g n xs := h
theorem IntRow.at_ (h : IntRow w B g n xs) (hn : n ≤ 1000000) : IntsAt w (some ⟨g, 0, none⟩) n n xs := Sl.of_own h
theorem IntRow.base {B' : Nat} (h : IntRow w B g n xs) (hB : B' ≤ B) : IntRow w B' g n xs := own_base h hB
end
/-- A write into such a row turns nothing that was there. -/
theorem b_put {w0 w : World} {g k : Nat} (h : Below w0.heap.size w0 w) (hg : w0.heap.size ≤ g) (u : Value) : Below w0.heap.size w0 (w.setCell ⟨g, k, none⟩ u) := h.setCell hg u
theorem set_get_ne {α : Type} {l : List α} {a z : Nat} {x y : α} (h : a ≠ z) (hx : l[z]? = some x) : (l.set a y)[z]? = some x := by rw [List.getElem?_set_ne h]; exact hx
theorem set_get_eq {α : Type} {l : List α} {a : Nat} {y : α} (h : a < l.length) : (l.set a y)[a]? = some y := by simp [h]
theorem made_ints (n : Nat) : (madeCells #[.int .i64 0] n).toList = (List.replicate n (0 : Int)).map (Value.int .i64) := by
  simp only [madeCells]
  apply List.ext_getElem
  · simp
  · intro i h1 h2
    simp [Nat.mod_one]
/-- An append of one number, and where the new slice lies. -/
theorem wpList_push_Ia {ops : Array Oper} {rest : List Oper} {o : Oper} {a : Act} {Q : Exit → Act → World → Prop} {B : Nat} {w : World} {s x : Operand} {A : Option Addr} {c : Nat} {rs : List Int} (r : Int) (hw : o.guard = none)
    (ho : o.op = .call { callee := .builtin .append, args := #[s, x], argTypes := #[24, 24] }) (hown : OwnI w B A c rs) (hs : a.eval s = .slice A rs.length c) (hx : a.eval x = .slice (some ⟨w.heap.size, 0, none⟩) 1 1) (hlen : rs.length ≤ 1000000000) (hB : B ≤ w.heap.size)
    (h : ∀ A' c' w', OwnI w' B A' c' (rs ++ [r]) → (w.alloc (.cells #[.int .i64 r] 3)).grownBy w' (Value.slice A rs.length c).ownBlock → (OwnI (w.alloc (.cells #[.int .i64 r] 3)) B A c rs) →
      (∀ g, g < w.heap.size → (Value.slice A rs.length c).ownBlock ≠ some g → (Value.slice A' (rs ++ [r]).length c').ownBlock ≠ some g) → wpList Try.prog ops Q rest (a.put o.dst (.slice A' (rs.length + 1) c')) w') :
    wpList Try.prog ops Q (o :: rest) a (w.alloc (.cells #[.int .i64 r] 3)) := by
  obtain ⟨i0, hi, hz0, hz1, hz2⟩ := info_parts infoInt
  have ho2 : OwnI (w.alloc (.cells #[.int .i64 r] 3)) B A c rs := World.ownsRow.alloc hown _
  refine wpList_append_own_at _ hw s x 24 ho B 3 i0 _ 1 8 Try.underlying24 hi hz0 hz1 hz2 rfl (by decide) _ _ _ hs ho2 ⟨w.heap.size, 0, none⟩ 1 1 [.int .i64 r] hx rfl (one_new _ _ _) (one_one _) (by unfold maxLen; omega) (by omega) (by simp; omega) ?_
  intro v3 w3 hown3 hg3 _ hat
  have hown4 : w3.ownsRow B 3 1 v3 (rs.length + 1) ((rs ++ [r]).map (Value.int .i64)) := by rw [List.map_append]; exact hown3
  obtain ⟨A4, c4, rfl, hl4, hown5⟩ := OwnI.of hown4
  have := h A4 c4 w3 hown5 hg3 ho2 (fun g hg hne => by
    rcases hat with e | e
    · rw [e]; exact hne
    · rw [e]; simp only [size_alloc']; intro e2; injection e2 with e2; omega)
  simpa using this
end Go.Proofs.Ytfflnkkhemaanaa
