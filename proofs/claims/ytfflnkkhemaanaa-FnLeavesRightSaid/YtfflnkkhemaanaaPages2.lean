/- Pages: the reference's PagesCost. No condition. -/
import Derived.Test.YtfflnkkhemaanaaPages
namespace Go.Proofs.Ytfflnkkhemaanaa
open Go.RowKit
set_option linter.unusedVariables false

theorem sub_valid {rs : List Row} (hv : rs.all rowValid = true) (hl : rs.length ≤ 30) (a k : Nat) : rowsValid ((rs.drop a).take k) = true :=
  rowsValid_iff.2 ⟨all_sub hv (fun r hr => List.mem_of_mem_drop (List.mem_of_mem_take hr)), by rw [List.length_take, List.length_drop]; omega⟩
/-- The height of a part of rows, told by the reference. -/
theorem c_segH {rs : List Row} (hv : rs.all rowValid = true) (hl : rs.length ≤ 30) {a z : Nat} {s : Int} (hs : Hid (s = seg rs a z)) {A : Option Addr} {k c : Nat} (w : World) (hR : RowsAt w A k c ((rs.drop a).take (z - a))) :
    Calls Try.prog 44 #[.slice A k c] w fun e w' => e = .returned (.int .i64 s) ∧ Below w.heap.size w w' := by
  have h1 : heightOf ((rs.drop a).take (z - a)) = s := by rw [heightOf, if_pos (sub_valid hv hl a (z - a)), unhide hs]; rfl
  rw [← h1]; exact c_heightOf' A k c _ w hR

/-! ### what a step of a good list of pages is -/
theorem cost_step {rs : List Row} {h x : Int} {a : Nat} {t : List Int} {u : Int} (e : costGo rs h a (x :: t) = some u) :
    ∃ z v : Nat × Int, x = (z.1 : Int) ∧ a < z.1 ∧ z.1 ≤ rs.length ∧ pageOk rs h a z.1 = true ∧ costGo rs h z.1 t = some v.2 ∧ u = pCost rs h a z.1 + v.2 := by
  rw [costGo] at e
  split at e
  · rename_i hc
    rw [Bool.and_eq_true, inB_iff] at hc
    cases hg : costGo rs h x.toNat t with
    | none => rw [hg] at e; cases e
    | some v =>
      rw [hg] at e
      exact ⟨(x.toNat, 0), (0, v), by dsimp only; omega, by dsimp only; omega, by dsimp only; omega, hc.2, hg, (Option.some.inj e).symm⟩
  · cases e
end Go.Proofs.Ytfflnkkhemaanaa
