/- What came in, opened: a code, integers, slices of integers and of rows. No condition. -/
import Derived.Test.YtfpddjglnhkndaaDrawRows2
import Derived.ProofKit
import Derived.OpenShut
import Derived.ChangeOld
namespace Go.Proofs.Ytfpddjglnhkndaa
open Go.ChangeShapes Go.WideShapes Go.ChangeAt Go.RowKit

theorem own : ownKnob Try.prog.godebug = none := by kernel_rfl
theorem laidOut : laidOutB Try.prog = true := by kernel_rfl
theorem int_bd {x : Int} (h : (Lit.int .i64 x).wf = true) : -9223372036854775808 ≤ x ∧ x ≤ 9223372036854775807 := by
  have h' := bounds_i64 h; omega

theorem open_code {H : Type} {enc : TypeId × Value → H} {W : World} {base : Nat} {v : Value} {d : DataW H} {p : List MemPlace} {spare : Nat → Bool} {held : Bool}
    (hv : Value.okWide Try.prog W .any base 28 v) (h : DataW.Trod enc Try.prog W 0 spare held 28 v d p) :
    ∃ A n c xs, v = .slice A n c ∧ CodeAt W A n c xs := by
  obtain ⟨a0, len0, cap0, rfl⟩ := okWide_slice Try.underlying28 hv
  have lt0 : ∀ x ∈ p, x.block < W.heap.size := by obtain ⟨m, hm⟩ := h; exact DataW.trod_lt m _ _ _ hm
  obtain ⟨fuel, hf⟩ := h
  rcases open_ints Try.underlying28 Try.underlying5 (by kernel_rfl) hf with ⟨hcs, _⟩ | ⟨x, l, c, zs, hcs, _, hl, hm, hz, hp, hcell, hwz⟩
  · simp [Value.cells] at hcs
    obtain ⟨rfl, rfl, rfl⟩ := hcs
    exact ⟨none, 0, 0, [], rfl, ⟨⟨Rd.nil _ _ _, by simp⟩, Nat.le_refl _, by unfold maxLen; omega⟩⟩
  · simp [Value.cells] at hcs
    obtain ⟨rfl, rfl, rfl⟩ := hcs
    refine ⟨some x, len0, cap0, zs.take len0, rfl, ⟨⟨?_, ?_⟩, hl, hm⟩⟩
    · have hlz : len0 ≤ zs.length := by rw [hz]; split <;> omega
      refine ⟨by simp; omega, fun hn => ?_⟩
      obtain ⟨b, off, spot⟩ := x
      have hspot : spot = none := World.cell?_spot (hcell 0 (by omega))
      subst hspot
      refine ⟨b, off, rfl, World.block_lt_of_cell? _ _ (hcell 0 (by omega)), fun j u hu => ?_⟩
      rw [List.getElem?_map, List.getElem?_take] at hu
      split at hu
      · have h1 := hcell j (by omega)
        rw [add_lit'] at h1
        rw [h1]
        rw [List.getElem?_eq_getElem (by omega)] at hu
        rw [List.getD_eq_getElem?_getD, List.getElem?_eq_getElem (by omega)]
        exact hu
      · cases hu
    · intro y hy
      have := bounds_u8 (hwz y (List.mem_of_mem_take hy))
      omega
end Go.Proofs.Ytfpddjglnhkndaa
