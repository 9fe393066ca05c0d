/- Pages: BestPages, the program's. No condition. -/
import Derived.Test.YtpbccblenohhoaaPages3
import Derived.Test.YtpbccblenohhoaaPagesQ
import Derived.Test.YtpbccblenohhoaaIntRow
import Derived.Deep.RegionWith
namespace Go.Proofs.Ytpbccblenohhoaa
open Go.RowKit
set_option linter.unusedVariables false

/-! ### the table as two lists of numbers -/
def costs (rs : List Row) (h : Int) (j : Nat) : List Int := (List.range (rs.length + 1)).map fun i => (tab rs h j i).cost
def nexts (rs : List Row) (h : Int) (j : Nat) : List Int := (List.range (rs.length + 1)).map fun i => ((tab rs h j i).next : Int)
theorem costs_len (rs : List Row) (h : Int) (j : Nat) : (costs rs h j).length = rs.length + 1 := by simp [costs]
theorem nexts_len (rs : List Row) (h : Int) (j : Nat) : (nexts rs h j).length = rs.length + 1 := by simp [nexts]
theorem costs_get {rs : List Row} {h : Int} {j i : Nat} (hi : i ≤ rs.length) : (costs rs h j)[i]? = some (tab rs h j i).cost := by simp [costs, show i < rs.length + 1 by omega]
theorem nexts_get {rs : List Row} {h : Int} {j i : Nat} (hi : i ≤ rs.length) : (nexts rs h j)[i]? = some ((tab rs h j i).next : Int) := by simp [nexts, show i < rs.length + 1 by omega]
theorem costs_zero (rs : List Row) (h : Int) : costs rs h 0 = List.replicate (rs.length + 1) 0 := by
  apply List.ext_getElem
  · simp [costs]
  · intro i h1 h2; simp [costs, tab]
theorem nexts_zero (rs : List Row) (h : Int) : nexts rs h 0 = List.replicate (rs.length + 1) 0 := by
  apply List.ext_getElem
  · simp [nexts]
  · intro i h1 h2; simp [nexts, tab]
theorem tab_new {rs : List Row} {h : Int} {j : Nat} : tab rs h (j + 1) (rs.length - (j + 1)) = bestAt rs h (fun z => (tab rs h j z).cost) (rs.length - (j + 1)) := by rw [tab]; exact if_pos rfl
theorem tab_old {rs : List Row} {h : Int} {j i : Nat} (hi : i ≠ rs.length - (j + 1)) : tab rs h (j + 1) i = tab rs h j i := by rw [tab]; exact if_neg hi
theorem costs_step {rs : List Row} {h : Int} {j a : Nat} (hj : j < rs.length) (ha : a = rs.length - (j + 1)) : (costs rs h j).set a (bestAt rs h (fun z => (tab rs h j z).cost) a).cost = costs rs h (j + 1) := by
  apply List.ext_getElem
  · simp [costs]
  · intro i h1 h2
    rw [List.getElem_set]
    by_cases hia : a = i
    · subst hia; rw [if_pos rfl]; simp only [costs, List.getElem_map, List.getElem_range]; rw [ha, tab_new]
    · rw [if_neg hia]; simp only [costs, List.getElem_map, List.getElem_range]; rw [tab_old (by omega)]
theorem nexts_step {rs : List Row} {h : Int} {j a : Nat} (hj : j < rs.length) (ha : a = rs.length - (j + 1)) : (nexts rs h j).set a ((bestAt rs h (fun z => (tab rs h j z).cost) a).next : Int) = nexts rs h (j + 1) := by
  apply List.ext_getElem
  · simp [nexts]
  · intro i h1 h2
    rw [List.getElem_set]
    by_cases hia : a = i
    · subst hia; rw [if_pos rfl]; simp only [nexts, List.getElem_map, List.getElem_range]; rw [ha, tab_new]
    · rw [if_neg hia]; simp only [nexts, List.getElem_map, List.getElem_range]; rw [tab_old (by omega)]
/-- The bounds of what stands in the table, and that it leads on. -/
structure TabOk (rs : List Row) (h : Int) (j : Nat) : Prop where
  lo : ∀ i, -1 ≤ (tab rs h j i).cost
  hi : ∀ i, (tab rs h j i).cost ≤ 1000000 * ((rs.length - i : Nat) : Int)
  on : ∀ i, i < rs.length → rs.length - j ≤ i → 0 ≤ (tab rs h j i).cost → i < (tab rs h j i).next ∧ (tab rs h j i).next ≤ rs.length ∧ 0 ≤ (tab rs h j (tab rs h j i).next).cost
theorem cand_parts {rs : List Row} {h : Int} {least : Nat → Int} {a z : Nat} {c : Int} (e : cand rs h least a z = some c) : 0 ≤ pCost rs h a z ∧ 0 ≤ least z ∧ c = pCost rs h a z + least z := by
  unfold cand at e
  split at e
  · cases e
  · have := Option.some.inj e; omega
theorem tabOk {rs : List Row} {h : Int} (hv : rs.all rowValid = true) (hl : rs.length ≤ 30) (hh : 1 ≤ h ∧ h ≤ 1000) : ∀ j, j ≤ rs.length → TabOk rs h j
  | 0, _ => ⟨fun i => by simp [tab], fun i => by simp only [tab]; omega, fun i h1 h2 => by omega⟩
  | j + 1, hj => by
    have ih := tabOk hv hl hh j (by omega)
    have hb := bestAt_best rs h (fun z => (tab rs h j z).cost) (a := rs.length - (j + 1)) (by omega)
    have key : -1 ≤ (bestAt rs h (fun z => (tab rs h j z).cost) (rs.length - (j + 1))).cost ∧ (bestAt rs h (fun z => (tab rs h j z).cost) (rs.length - (j + 1))).cost ≤ 1000000 * ((rs.length - (rs.length - (j + 1)) : Nat) : Int) := by
      rcases Int.lt_or_le (bestAt rs h (fun z => (tab rs h j z).cost) (rs.length - (j + 1))).cost 0 with h0 | h0
      · have := (hb.none_ h0).2
        rw [this]; dsimp only; omega
      · obtain ⟨k1, k2, k3, _⟩ := hb.some_ h0
        obtain ⟨c1, c2, c3⟩ := cand_parts k3
        have c4 := pCost_bd hv hl hh k1 k2
        have c5 := ih.hi (bestAt rs h (fun z => (tab rs h j z).cost) (rs.length - (j + 1))).next
        omega
    refine ⟨fun i => ?_, fun i => ?_, fun i h1 h2 h3 => ?_⟩
    · by_cases hi : i = rs.length - (j + 1)
      · subst hi; rw [tab_new]; exact key.1
      · rw [tab_old hi]; exact ih.lo i
    · by_cases hi : i = rs.length - (j + 1)
      · subst hi; rw [tab_new]; exact key.2
      · rw [tab_old hi]; exact ih.hi i
    · by_cases hi : i = rs.length - (j + 1)
      · subst hi
        rw [tab_new] at h3 ⊢
        obtain ⟨k1, k2, k3, _⟩ := hb.some_ h3
        obtain ⟨c1, c2, c3⟩ := cand_parts k3
        exact ⟨k1, k2, by rw [tab_old (by omega)]; exact c2⟩
      · rw [tab_old hi] at h3 ⊢
        obtain ⟨k1, k2, k3⟩ := ih.on i h1 (by omega) h3
        exact ⟨k1, k2, by rw [tab_old (by omega)]; exact k3⟩
theorem set_twice {α : Type} (l : List α) (a : Nat) (x y : α) : (l.set a x).set a y = l.set a y := by simp
theorem map_set_int (l : List Int) (a : Nat) (x : Int) : (l.map (Value.int .i64)).set a (.int .i64 x) = (l.set a x).map (Value.int .i64) := by rw [List.map_set]
theorem better_cases (c : Int) (z : Nat) (b : Best) : (b.cost < 0 ∨ c < b.cost) ∧ better c z b = ⟨c, z⟩ ∨ (0 ≤ b.cost ∧ b.cost ≤ c) ∧ better c z b = b := by
  unfold better
  by_cases h : b.cost < 0 ∨ c < b.cost
  · exact .inl ⟨h, if_pos h⟩
  · exact .inr ⟨by omega, if_neg h⟩
theorem tab_fresh {rs : List Row} {h : Int} : ∀ (j i : Nat), j ≤ rs.length → i < rs.length - j → tab rs h j i = ⟨0, 0⟩
  | 0, i, _, _ => rfl
  | j + 1, i, hj, hi => by rw [tab_old (by omega)]; exact tab_fresh j i (by omega) (by omega)
theorem nexts_fresh {rs : List Row} {h : Int} {j a : Nat} (hj : j ≤ rs.length) (ha : a < rs.length - j) : (nexts rs h j).set a 0 = nexts rs h j := by
  apply List.ext_getElem
  · simp
  · intro i h1 h2
    rw [List.getElem_set]
    by_cases hia : a = i
    · subst hia
      rw [if_pos rfl]; simp only [nexts, List.getElem_map, List.getElem_range]; rw [tab_fresh j a hj ha]; rfl
    · rw [if_neg hia]
end Go.Proofs.Ytpbccblenohhoaa
