/- Pages made: how many, how many figures. No condition. -/
import Derived.Test.YtfflnkkhemaanaaMakeM
namespace Go.Proofs.Ytfflnkkhemaanaa
open Go.RowKit
set_option linter.unusedVariables false

theorem make_figs {rs : List Row} {h : Int} (hv : rs.all rowValid = true) (hl : rs.length ≤ 30) (hh : 1 ≤ h ∧ h ≤ 1000) : ∀ (f : Nat) (s : Bk) (D : List Int) (N : Int), BkOk rs h D N s → ∀ l ∈ makeGo rs h f s, l.figs.length ≤ 30
  | 0, s, D, N, hs, l, hm => by simp [makeGo] at hm
  | f + 1, s, D, N, hs, l, hm => by
    rw [makeGo] at hm
    split at hm
    · have hp := pageOf_ok hv hh hs
      rcases List.mem_cons.1 hm with rfl | hm
      · have h1 := figList_len rs (pageOf rs h s).at_
        rw [← hp.figs, List.length_append, List.length_append] at h1
        have := hp.at_
        show (pageOf rs h s).figs.length ≤ 30
        omega
      · exact make_figs hv hl hh f _ _ _ (endPg_ok hp) l hm
    · cases hm
theorem makeLeaves_figs {rs : List Row} {h : Int} {l : Leaf} (hl : l ∈ makeLeaves rs h) : l.figs.length ≤ 30 := by
  unfold makeLeaves at hl
  split at hl
  · rename_i hk
    simp only [makeOk, argsOk, Bool.and_eq_true, inB_iff] at hk
    obtain ⟨⟨h1, h2⟩, _⟩ := hk
    obtain ⟨hv, hl'⟩ := rowsValid_iff.1 h1
    exact make_figs hv hl' h2 _ _ _ _ (start_ok rs h) l hl
  · cases hl
theorem makeLeaves_len (rs : List Row) (h : Int) : (makeLeaves rs h).length ≤ 60000 := by
  unfold makeLeaves
  split
  · exact makeGo_len rs h _ _
  · simp
theorem lfs_len {rs : List Row} {h : Int} {ls : List LfV} (e : ls.map LfV.leaf = makeLeaves rs h) : ls.length ≤ 60000 := by
  have h1 := congrArg List.length e
  rw [List.length_map] at h1
  rw [h1]; exact makeLeaves_len rs h
theorem lfs_figs {rs : List Row} {h : Int} {ls : List LfV} (e : ls.map LfV.leaf = makeLeaves rs h) : ∀ l ∈ ls, l.figs.length ≤ 30 := fun l hl => by
  have h1 : l.leaf ∈ makeLeaves rs h := by rw [← e]; exact List.mem_map_of_mem hl
  exact makeLeaves_figs h1
end Go.Proofs.Ytfflnkkhemaanaa
