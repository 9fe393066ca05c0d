/- What a line that is set says of its boxes, and how wide it is. No condition. -/
import Derived.Test.YtlklkloadefihaaFullP
namespace Go.Proofs.Ytlklkloadefihaa
open Go.RowKit
set_option linter.unusedVariables false

theorem setX_bd {rs : List Item} {after to width : Int} (h : okS rs after to width = true) : 0 ≤ setX rs after to width ∧ setX rs after to width ≤ 100000 := by
  have hk : okL rs after to = true := by simp only [okS, Bool.and_eq_true] at h; exact h.1
  have hw : 0 ≤ width ∧ width ≤ 1000 := by simp only [okS, Bool.and_eq_true] at h; exact inB_iff.1 h.2
  obtain ⟨hv, hl⟩ := okL_iff.1 hk
  obtain ⟨hv1, _⟩ := itemsValid_iff.1 hv
  obtain ⟨p1, p2, p3, p4⟩ := lineTot_parts hv1 hl
  have hok := glsOf_ok (l := lineL rs after to) hv1 (fun n hn => (lineL_valid hv1 hl n hn).1)
  have hT := (lineTot_bd hv hl).1
  have b := gSt_bd (o := gOd (glsOf rs (lineL rs after to))) hok
  have c := gSh_bd hok
  have c2 := gSh_le hok
  have a := gW_bd hok
  have X := boxW_nn (itAt_w hv1) (lineL rs after to)
  have e : 0 ≤ endW rs to.toNat := by unfold endW; split <;> first | exact itAt_w hv1 _ | omega
  rw [setX_eq h, setWs_sum]
  split
  · split <;> omega
  · split <;> omega
structure SideAt (rs : List Item) (ps : List Placed) (x : Int) (k : Nat) (p : Placed) : Prop where
  at_ : 0 ≤ p.at_ ∧ p.at_ < rs.length
  place : 0 ≤ p.place
  w : 0 ≤ (itAt rs p.at_.toNat).w
  fin : p.place + (itAt rs p.at_.toNat).w ≤ x
  nxt : ∀ q, ps[k + 1]? = some q → p.place + (itAt rs p.at_.toNat).w ≤ q.place
theorem setPs_sideAt {rs : List Item} {after to width : Int} (h : okS rs after to width = true) {k : Nat} {p : Placed} (hp : (setPs rs after to width)[k]? = some p) : SideAt rs (setPs rs after to width) (setX rs after to width) k p := by
  have hk : okL rs after to = true := by simp only [okS, Bool.and_eq_true] at h; exact h.1
  obtain ⟨hv, hl⟩ := okL_iff.1 hk
  obtain ⟨hv1, _⟩ := itemsValid_iff.1 hv
  have hw := itAt_w hv1
  have := (setPs_side h).get hw hp
  exact ⟨setPs_mem (mem_of_get hp), this.1, hw _, this.2.1, this.2.2⟩
theorem setX_full {rs : List Item} {after to width : Int} {bad : Int} {st : Bool} (hb : lineBad rs after to width = (bad, st)) (h0 : 0 ≤ bad) (h1 : bad ≠ 10000) : setX rs after to width = width := by
  have hbd := lineBad_bd rs after to width
  rw [hb] at hbd
  have := isFull_bad (rs := rs) (after := after) (to := to) (width := width) (by rw [hb]; exact h0) (by rw [hb]; dsimp only at *; omega)
  simp only [isFull, Bool.and_eq_true, decide_eq_true_eq] at this
  exact this.2
end Go.Proofs.Ytlklkloadefihaa
