/- The reader at its beginning. No condition. -/
import Derived.Test.YtdjilkohnhejiaaDraw
import Derived.Test.YtdjilkohnhejiaaLib
namespace Go.Proofs.Ytdjilkohnhejiaa
open Go.RowKit
set_option linter.unusedVariables false
set_option maxHeartbeats 400000 in
theorem r_open (A : Option Addr) (n c : Nat) (xs : List Int) (w : World) (h : CodeAt w A n c xs) :
    Calls Try.prog 54 #[.slice A n c] w fun e w' => ∃ g, e = .returned (.pointer (some ⟨g, 0, none⟩)) ∧ w.heap.size ≤ g ∧ Rdr w' g 0 ∧ Below w.heap.size w w' := by
  obtain ⟨hb, hnc, hcm⟩ := h
  unfold maxLen at hcm
  have hA : 0 < n → ∀ x, A = some x → x.block < w.heap.size := fun h0 x hx => by
    obtain ⟨b, off, e, hl, _⟩ := hb.1.cells h0
    rw [e] at hx; injection hx with hx; subst hx; exact hl
  by_cases h2 : 2000 < n
  · go_enter Try.func54, Try.ntmps54
    go_wp2
    go_ret
    have ht := hb.1.take (k := 2000) (by omega)
    rw [← List.map_take] at ht
    refine ⟨_, rfl, Nat.le_refl _, ⟨A, 2000, c, 0, xs.take 2000, heap_alloc_new _ _, ⟨by simpa using ht.next (bof _ _), fun x hx => hb.2 x (List.mem_of_mem_take hx)⟩, fun _ => hA (by omega), by omega, by omega⟩, bof _ _⟩
  · go_enter Try.func54, Try.ntmps54
    go_wp2
    go_ret
    refine ⟨_, rfl, Nat.le_refl _, ⟨A, n, c, 0, xs, heap_alloc_new _ _, ⟨hb.1.next (bof _ _), hb.2⟩, hA, by omega, by omega⟩, bof _ _⟩
/-- What is drawn from a new reader has turned nothing that was there. -/
theorem r_fresh {w w1 w2 : World} {g : Nat} (hg : w.heap.size ≤ g) (hb : Below w.heap.size w w1) (h2 : w1.grownBy w2 (some g)) : Below w.heap.size w w2 := bgrown hb hg h2 hb.size
end Go.Proofs.Ytdjilkohnhejiaa
