/- An append of one element to a slice of the call's own; what is owned is kept over a draw. No condition. -/
import Derived.Test.YtfflnkkhemaanaaDraw
import Derived.Test.YtfflnkkhemaanaaAppend
import Derived.Test.YtfflnkkhemaanaaInts
import Derived.Test.YtfflnkkhemaanaaRowsX
namespace Go.Proofs.Ytfflnkkhemaanaa
open Go.RowKit
set_option linter.unusedVariables false

theorem own_pick {w0 w w' : World} {g e sz n : Nat} {v : Value} {xs : List Value} (h : w.ownsRow w0.heap.size e sz v n xs) (hg : w.grownBy w' (some g)) (hgl : g < w0.heap.size) : w'.ownsRow w0.heap.size e sz v n xs :=
  h.kept hg (by
    cases hv : v.ownBlock with
    | none => exact .inl rfl
    | some b => exact .inr (fun e => by have := (h.lt b hv).1; injection e with e; omega))
theorem push_rdr {w0 w w' : World} {g m e sz n : Nat} {v : Value} {xs : List Value} (h : Rdr w g m) (ho : w.ownsRow w0.heap.size e sz v n xs) (hgl : g < w0.heap.size) (hg : w.grownBy w' v.ownBlock) : Rdr w' g m :=
  h.keep hg (fun k hk => Nat.lt_of_lt_of_le hgl (ho.lt k hk).1)
theorem push_grown {w0 w w' : World} {row : Option Nat} {e sz n : Nat} {v : Value} {xs : List Value} (h : w0.grownBy w row) (ho : w.ownsRow w0.heap.size e sz v n xs) (hg : w.grownBy w' v.ownBlock) : w0.grownBy w' row :=
  gown h hg (fun k hk => (ho.lt k hk).1)
/-- The state of a draw: the reader, and what has turned since w0. -/
structure DSt (w0 : World) (g m : Nat) (w : World) : Prop where
  rd : Rdr w g m
  gr : w0.grownBy w (some g)
  lt : g < w0.heap.size
section dst
variable {w0 w w' : World} {g m m' : Nat}
theorem DSt.begin_ (h : Rdr w g m) : DSt w g m w := ⟨h, grefl _ _, h.lt⟩
theorem DSt.pick (h : DSt w0 g m w) (hr : Rdr w' g m') (hg : w.grownBy w' (some g)) : DSt w0 g m' w' := ⟨hr, gtrans h.gr hg, h.lt⟩
theorem DSt.alloc (h : DSt w0 g m w) (o : Obj) : DSt w0 g m (w.alloc o) := ⟨h.rd.alloc o, galloc h.gr o, h.lt⟩
theorem DSt.more (h : DSt w0 g m w) (hm : m ≤ m') : DSt w0 g m' w := ⟨h.rd.mono hm, h.gr, h.lt⟩
theorem DSt.push (h : DSt w0 g m w) {e sz n : Nat} {v : Value} {xs : List Value} (ho : w.ownsRow w0.heap.size e sz v n xs) (hg : w.grownBy w' v.ownBlock) : DSt w0 g m w' := ⟨push_rdr h.rd ho h.lt hg, push_grown h.gr ho hg, h.lt⟩
theorem DSt.next (h : DSt w0 g m w) (hb : Below w.heap.size w w') : DSt w0 g m w' := ⟨h.rd.next hb, gtrans h.gr (gof hb), h.lt⟩
theorem DSt.drew (h : DSt w0 g m w) : DSt w0 g m w.drew := ⟨h.rd.drew, gdrew h.gr, h.lt⟩
end dst
theorem OwnI.pick {w0 w w' : World} {g c : Nat} {A : Option Addr} {rs : List Int} (h : OwnI w w0.heap.size A c rs) (hg : w.grownBy w' (some g)) (hgl : g < w0.heap.size) : OwnI w' w0.heap.size A c rs := own_pick h hg hgl
theorem wpList_push_I {ops : Array Oper} {rest : List Oper} {o : Oper} {a : Act} {Q : Exit → Act → World → Prop} {w0 w : World} {s x : Operand} {A : Option Addr} {c : Nat} {rs : List Int} (r : Int) (hw : o.guard = none)
    (ho : o.op = .call { callee := .builtin .append, args := #[s, x], argTypes := #[24, 24] }) (hown : OwnI w w0.heap.size A c rs) (hs : a.eval s = .slice A rs.length c) (hx : a.eval x = .slice (some ⟨w.heap.size, 0, none⟩) 1 1) (hlen : rs.length ≤ 1000000000) (hB : w0.heap.size ≤ w.heap.size)
    (h : ∀ A' c' w', OwnI w' w0.heap.size A' c' (rs ++ [r]) → (w.alloc (.cells #[.int .i64 r] 3)).grownBy w' (Value.slice A rs.length c).ownBlock → (OwnI (w.alloc (.cells #[.int .i64 r] 3)) w0.heap.size A c rs) → wpList Try.prog ops Q rest (a.put o.dst (.slice A' (rs.length + 1) c')) w') :
    wpList Try.prog ops Q (o :: rest) a (w.alloc (.cells #[.int .i64 r] 3)) := by
  obtain ⟨i0, hi, hz0, hz1, hz2⟩ := info_parts infoInt
  have ho2 : OwnI (w.alloc (.cells #[.int .i64 r] 3)) w0.heap.size A c rs := World.ownsRow.alloc hown _
  refine wpList_append_own _ hw s x 24 ho w0.heap.size 3 i0 _ 1 8 Try.underlying24 hi hz0 hz1 hz2 rfl (by decide) _ _ _ hs ho2 ⟨w.heap.size, 0, none⟩ 1 1 [.int .i64 r] hx rfl (one_new _ _ _) (one_one _) (by unfold maxLen; omega) (by omega) (by simp; omega) ?_
  intro v3 w3 hown3 hg3 _
  have hown4 : w3.ownsRow w0.heap.size 3 1 v3 (rs.length + 1) ((rs ++ [r]).map (Value.int .i64)) := by rw [List.map_append]; exact hown3
  obtain ⟨A4, c4, rfl, hl4, hown5⟩ := OwnI.of hown4
  have := h A4 c4 w3 hown5 hg3 ho2
  simpa using this

theorem OwnR.pick {w0 w w' : World} {g c : Nat} {A : Option Addr} {rs : List Row} (h : OwnR w w0.heap.size A c rs) (hg : w.grownBy w' (some g)) (hgl : g < w0.heap.size) : OwnR w' w0.heap.size A c rs := own_pick h hg hgl
theorem wpList_push_rows {ops : Array Oper} {rest : List Oper} {o : Oper} {a : Act} {Q : Exit → Act → World → Prop} {w0 w : World} {s x : Operand} {A : Option Addr} {c : Nat} {rs : List Row} (r : Row) (hw : o.guard = none)
    (ho : o.op = .call { callee := .builtin .append, args := #[s, x], argTypes := #[23, 23] }) (hown : OwnR w w0.heap.size A c rs) (hs : a.eval s = .slice A rs.length c) (hx : a.eval x = .slice (some ⟨w.heap.size, 0, none⟩) 1 1) (hlen : rs.length ≤ 1000000000) (hB : w0.heap.size ≤ w.heap.size)
    (h : ∀ A' c' w', OwnR w' w0.heap.size A' c' (rs ++ [r]) → (w.alloc (.cells #[.int .i64 r.h, .bool r.k, .int .i64 r.n, .int .i64 r.f] 48)).grownBy w' (Value.slice A rs.length c).ownBlock → (OwnR (w.alloc (.cells #[.int .i64 r.h, .bool r.k, .int .i64 r.n, .int .i64 r.f] 48)) w0.heap.size A c rs) → wpList Try.prog ops Q rest (a.put o.dst (.slice A' (rs.length + 1) c')) w') :
    wpList Try.prog ops Q (o :: rest) a (w.alloc (.cells #[.int .i64 r.h, .bool r.k, .int .i64 r.n, .int .i64 r.f] 48)) := by
  obtain ⟨i0, hi, hz0, hz1, hz2⟩ := info_parts infoRow
  have ho2 : OwnR (w.alloc (.cells #[.int .i64 r.h, .bool r.k, .int .i64 r.n, .int .i64 r.f] 48)) w0.heap.size A c rs := World.ownsRow.alloc hown _
  refine wpList_append_own _ hw s x 23 ho w0.heap.size 48 i0 _ 4 32 Try.underlying23 hi hz0 hz1 hz2 rfl (by decide) _ _ _ hs ho2 ⟨w.heap.size, 0, none⟩ 1 1 [.int .i64 r.h, .bool r.k, .int .i64 r.n, .int .i64 r.f] hx rfl (cells4_new _ _ _ _ _ _ ) (row_one r) (by unfold maxLen; omega) (by omega) (by simp; omega) ?_
  intro v3 w3 hown3 hg3 _
  have hown4 : w3.ownsRow w0.heap.size 48 4 v3 (rs ++ [r]).length ((rs ++ [r]).flatMap Row.cells) := by rw [flat_snoc]; simpa using hown3
  obtain ⟨A4, c4, rfl, hown5⟩ := OwnR.of hown4
  have := h A4 c4 w3 hown5 hg3 ho2
  simpa using this

end Go.Proofs.Ytfflnkkhemaanaa
