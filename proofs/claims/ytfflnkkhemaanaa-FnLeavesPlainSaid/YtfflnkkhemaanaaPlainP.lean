/- Rows without notes, figures and keeps: the pages made of them are the first pages. No condition. -/
import Derived.Test.YtfflnkkhemaanaaPages3
import Derived.Test.YtfflnkkhemaanaaLeavesP
namespace Go.Proofs.Ytfflnkkhemaanaa
open Go.RowKit
set_option linter.unusedVariables false

def plainRow (r : Row) : Row := ⟨r.h, false, 0, 0⟩
def Pl (ps : List Row) : Prop := ∀ r ∈ ps, r.k = false ∧ r.n = 0 ∧ r.f = 0
theorem pl_map (rs : List Row) : Pl (rs.map plainRow) := fun r hr => by
  obtain ⟨q, _, rfl⟩ := List.mem_map.1 hr
  exact ⟨rfl, rfl, rfl⟩
section
variable {ps : List Row} {h : Int}
theorem seg_more (hv : ps.all rowValid = true) {a z : Nat} (haz : a ≤ z) : ∀ d, z + d ≤ ps.length → seg ps a z ≤ seg ps a (z + d)
  | 0, _ => Int.le_refl _
  | d + 1, hd => by
    have h1 := seg_more hv haz d (by omega)
    have hr : ps[z + d]? = some (ps[z + d]'(by omega)) := List.getElem?_eq_getElem (by omega)
    have h2 := (row_bd hv hr).1
    rw [← Nat.add_assoc, seg_succ (by omega) hr]; omega
theorem fill_plain (hv : ps.all rowValid = true) (hp : Pl ps) (hh : 1 ≤ h) {a : Nat} : ∀ (f z : Nat), a ≤ z → z ≤ ps.length → ps.length ≤ z + f → seg ps a z ≤ h →
    ∃ y, z ≤ y ∧ y ≤ ps.length ∧ seg ps a y ≤ h ∧ (y = ps.length ∨ h < seg ps a (y + 1)) ∧ fillPg ps a f ⟨z, 0, [], 0, [], h - seg ps a z⟩ = ⟨y, 0, [], 0, [], h - seg ps a y⟩
  | 0, z, h1, h2, h3, h4 => ⟨z, Nat.le_refl _, h2, h4, .inl (by omega), rfl⟩
  | f + 1, z, h1, h2, h3, h4 => by
    by_cases hz : z < ps.length
    · have hr : ps[z]? = some (ps[z]'hz) := List.getElem?_eq_getElem hz
      have hs := seg_succ h1 hr
      obtain ⟨_, hn, hf⟩ := hp _ (List.getElem_mem hz)
      have hb := (row_bd hv hr).1
      by_cases hfit : h < seg ps a (z + 1)
      · refine ⟨z, Nat.le_refl _, h2, h4, .inr hfit, fill_stop (.inr (.inr ⟨_, hr, ?_⟩))⟩
        show _ ∧ _
        dsimp only
        omega
      · obtain ⟨y, y1, y2, y3, y4, y5⟩ := fill_plain hv hp hh (a := a) f (z + 1) (by omega) (by omega) (by omega) (by omega)
        refine ⟨y, by omega, y2, y3, y4, ?_⟩
        have hst : ¬ stops a (ps[z]'hz) ⟨z, 0, [], 0, [], h - seg ps a z⟩ := by
          show ¬ (_ ∧ _)
          dsimp only
          omega
        rw [fill_step rfl hr hst, ← y5]
        congr 1
        rw [addRow, if_neg (by omega), hn]
        have e1 : min 0 (h - seg ps a z - (ps[z]'hz).h) = 0 := by omega
        dsimp only
        rw [e1, hs]
        congr 1
        omega
    · exact ⟨z, Nat.le_refl _, h2, h4, .inl (by omega), fill_stop (.inr (.inl (by dsimp only; omega)))⟩
theorem keep_plain (hp : Pl ps) (i : Nat) : keepAt ps i = false := by
  unfold keepAt
  cases hr : ps[i]? with
  | none => rfl
  | some r => exact (hp r (List.mem_of_getElem? hr)).1
theorem page_plain (hv : ps.all rowValid = true) (hp : Pl ps) (hh : 1 ≤ h) {a : Nat} (ha : a ≤ ps.length) :
    ∃ q, pageOf ps h ⟨a, 0, []⟩ = ⟨a + splitN (ps.drop a) h, 0, [], 0, [], q⟩ := by
  have e1 : min 0 h = 0 := by omega
  have e0 : openPg ps h ⟨a, 0, []⟩ = ⟨a, 0, [], 0, [], h - seg ps a a⟩ := by
    rw [openPg]
    dsimp only
    rw [e1, seg_self]
    simp [figsF_nil]
  obtain ⟨y, y1, y2, y3, y4, y5⟩ := fill_plain hv hp hh (a := a) ps.length a (Nat.le_refl _) ha (by omega) (by rw [seg_self]; omega)
  refine ⟨h - seg ps a y, ?_⟩
  rw [pageOf, e0, y5]
  have hle := splitN_le (ps.drop a) h
  rw [List.length_drop] at hle
  have hy : y = a + splitN (ps.drop a) h := by
    have h1 : ¬ splitN (ps.drop a) h < y - a := fun hlt => by
      have h2 := splitDown_max (ps.drop a) h (ps.drop a).length (y - a) hlt (by rw [List.length_drop]; omega)
      have h3 : pageOk ps h a y = false := h2
      rw [pageOk_eq ps h (by omega) y2, keep_plain hp] at h3
      simp at h3; omega
    have h2 : ¬ y - a < splitN (ps.drop a) h := fun hlt => by
      have h2 := splitDown_ok (ps.drop a) h (ps.drop a).length (by show 0 < splitN _ _; omega)
      have h3 : pageOk ps h a (a + splitN (ps.drop a) h) = true := by rw [← okAt_page]; exact h2
      rw [pageOk_eq ps h (by omega) (by omega), Bool.and_eq_true, decide_eq_true_eq] at h3
      have h4 := seg_more hv (a := a) (z := y + 1) (by omega) (a + splitN (ps.drop a) h - (y + 1)) (by omega)
      rw [show y + 1 + (a + splitN (ps.drop a) h - (y + 1)) = a + splitN (ps.drop a) h by omega] at h4
      have := h3.1
      omega
    omega
  rw [hy]
def bare (l : Leaf) : Int × Int × List Int := (l.to_, l.notes, l.figs)
theorem first_make (hv : ps.all rowValid = true) (hp : Pl ps) (hh : 1 ≤ h) : ∀ (f a : Nat) (l : List Int), firstGo ps h f a = some l → a ≤ ps.length → ps.length ≤ a + f → ∀ F, ps.length ≤ a + F →
    (makeGo ps h F ⟨a, 0, []⟩).map bare = l.map fun t => (t, 0, [])
  | f, a, l, e, h1, h2, F, h3 => by
    by_cases ha : a < ps.length
    · obtain ⟨f', rfl⟩ : ∃ f', f = f' + 1 := ⟨f - 1, by omega⟩
      obtain ⟨F', rfl⟩ : ∃ F', F = F' + 1 := ⟨F - 1, by omega⟩
      by_cases hk : splitN (ps.drop a) h = 0
      · rw [first_none ha hk] at e; cases e
      · rw [first_step ha rfl hk] at e
        cases hg : firstGo ps h f' (a + splitN (ps.drop a) h) with
        | none => rw [hg] at e; cases e
        | some u =>
          rw [hg] at e
          have e := Option.some.inj e
          subst e
          have hle := splitN_le (ps.drop a) h
          rw [List.length_drop] at hle
          obtain ⟨q, hq⟩ := page_plain hv hp hh (a := a) h1
          have ih := first_make hv hp hh f' _ u hg (by omega) (by omega) F' (by omega)
          rw [make_step (more_iff.2 (.inl ha)), hq, List.map_cons, List.map_cons]
          show _ :: List.map bare (makeGo ps h F' ⟨a + splitN (ps.drop a) h, 0, []⟩) = _
          rw [ih]; rfl
    · rw [first_end (by omega)] at e
      have e := Option.some.inj e
      subst e
      rw [make_stop (by
        rw [Bool.eq_false_iff]; intro hm
        rcases more_iff.1 hm with h | h | h
        · exact ha h
        · exact absurd h (by dsimp only; omega)
        · exact h rfl)]
      rfl
  termination_by f => f
theorem low_some (hv : ps.all rowValid = true) (hp : Pl ps) (hlo : ∀ (i : Nat) (r : Row), ps[i]? = some r → r.h ≤ h) : ∀ (f a : Nat), a ≤ ps.length → ps.length ≤ a + f → ∃ l, firstGo ps h f a = some l
  | 0, a, h1, h2 => ⟨[], first_end (by omega)⟩
  | f + 1, a, h1, h2 => by
    by_cases ha : a < ps.length
    · have hr : ps[a]? = some (ps[a]'ha) := List.getElem?_eq_getElem ha
      have hk : splitN (ps.drop a) h ≠ 0 := fun hk => by
        have h3 := splitDown_max (ps.drop a) h (ps.drop a).length 1 (by show splitN _ _ < 1; omega) (by rw [List.length_drop]; omega)
        rw [okAt_page, pageOk_eq ps h (by omega) (by omega), keep_plain hp, seg_succ (Nat.le_refl _) hr, seg_self] at h3
        have := hlo a _ hr
        simp at h3; omega
      have hle := splitN_le (ps.drop a) h
      rw [List.length_drop] at hle
      obtain ⟨l, hl⟩ := low_some hv hp hlo f (a + splitN (ps.drop a) h) (by omega) (by omega)
      exact ⟨_, by rw [first_step ha rfl hk, hl]; rfl⟩
    · exact ⟨[], first_end (by omega)⟩
theorem some_low (hv : ps.all rowValid = true) : ∀ (f a : Nat) (l : List Int), firstGo ps h f a = some l → a ≤ ps.length → ps.length ≤ a + f → ∀ i r, a ≤ i → ps[i]? = some r → r.h ≤ h
  | 0, a, l, e, h1, h2, i, r, hi, hr => by have := get_lt hr; omega
  | f + 1, a, l, e, h1, h2, i, r, hi, hr => by
    have hil := get_lt hr
    have ha : a < ps.length := by omega
    by_cases hk : splitN (ps.drop a) h = 0
    · rw [first_none ha hk] at e; cases e
    · rw [first_step ha rfl hk] at e
      have hle := splitN_le (ps.drop a) h
      rw [List.length_drop] at hle
      by_cases hin : i < a + splitN (ps.drop a) h
      · have h2 := splitDown_ok (ps.drop a) h (ps.drop a).length (by show 0 < splitN _ _; omega)
        have h3 : pageOk ps h a (a + splitN (ps.drop a) h) = true := by rw [← okAt_page]; exact h2
        rw [pageOk_eq ps h (by omega) (by omega), Bool.and_eq_true, decide_eq_true_eq] at h3
        have h4 := seg_more hv (a := a) (z := i + 1) (by omega) (a + splitN (ps.drop a) h - (i + 1)) (by omega)
        rw [show i + 1 + (a + splitN (ps.drop a) h - (i + 1)) = a + splitN (ps.drop a) h by omega] at h4
        have h5 := seg_succ hi hr
        have h6 := seg_more hv (a := a) (z := a) (Nat.le_refl _) (i - a) (by omega)
        rw [show a + (i - a) = i by omega, seg_self] at h6
        have := h3.1
        omega
      · cases hg : firstGo ps h f (a + splitN (ps.drop a) h) with
        | none => rw [hg] at e; cases e
        | some u => exact some_low hv f _ u hg (by omega) (by omega) i r (by omega) hr
/-- The pages made of plain rows are the first pages. -/
theorem plain_make (hp : Pl ps) (h : Int) : makeOk ps h = (firstOf ps h).isSome ∧ (makeLeaves ps h).map bare = (firstPages ps h).map fun t => (t, 0, []) := by
  cases ha : argsOk ps h with
  | false =>
    have hm : makeOk ps h = false := by simp [makeOk, ha]
    rw [makeLeaves, firstPages, firstOf, hm, ha]
    exact ⟨rfl, rfl⟩
  | true =>
    have hF : firstOf ps h = firstGo ps h ps.length 0 := by rw [firstOf, if_pos ha]
    have ha' := ha
    simp only [argsOk, Bool.and_eq_true, inB_iff] at ha'
    obtain ⟨h1, h2⟩ := ha'
    obtain ⟨hv, hl⟩ := rowsValid_iff.1 h1
    cases hlo : lowOk ps h with
    | false =>
      have hm : makeOk ps h = false := by simp [makeOk, ha, hlo]
      have hn : firstOf ps h = none := by
        rw [hF]
        cases hg : firstGo ps h ps.length 0 with
        | none => rfl
        | some l =>
          exfalso
          have h3 : lowOk ps h = true := by
            rw [lowOk, List.all_eq_true]
            intro r hr
            obtain ⟨i, hi⟩ := List.getElem?_of_mem hr
            have h4 := some_low hv _ _ l hg (Nat.zero_le _) (by omega) i r (Nat.zero_le _) hi
            obtain ⟨_, _, hf⟩ := hp r hr
            simp only [Bool.and_eq_true, decide_eq_true_eq]
            omega
          rw [hlo] at h3; cases h3
      rw [makeLeaves, firstPages, hm, hn]
      exact ⟨rfl, rfl⟩
    | true =>
      have hm : makeOk ps h = true := by simp [makeOk, ha, hlo]
      obtain ⟨l, hg⟩ := low_some hv hp (fun i r hr => by
        have h3 := List.all_eq_true.1 hlo r (List.mem_of_getElem? hr)
        simp only [Bool.and_eq_true, decide_eq_true_eq] at h3
        exact h3.1) ps.length 0 (Nat.zero_le _) (by omega)
      have := first_make hv hp h2.1 _ _ l hg (Nat.zero_le _) (by omega) 60000 (by omega)
      rw [makeLeaves, hm, firstPages, hF, hg]
      exact ⟨rfl, this⟩
end
end Go.Proofs.Ytfflnkkhemaanaa
