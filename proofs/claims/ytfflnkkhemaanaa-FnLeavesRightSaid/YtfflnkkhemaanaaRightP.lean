/- Right pages: what it is for pages to be ones of rows, in plain Lean. No condition. -/
import Derived.Test.YtfflnkkhemaanaaLeavesP
namespace Go.Proofs.Ytfflnkkhemaanaa
open Go.RowKit
set_option linter.unusedVariables false

structure Rt where
  at_ : Nat
  notes : Int
  figs : List Int
def rightStep (rs : List Row) (h : Int) (s : Rt) (l : Leaf) : Option Rt :=
  if l.from_ = (s.at_ : Int) ∧ inB (leafHeight rs l) 0 h = true ∧ s.notes + l.notes ≤ sumN (rs.take l.to_.toNat) ∧ (l.figs.all fun x => decide (x < l.to_)) = true then some ⟨l.to_.toNat, s.notes + l.notes, s.figs ++ l.figs⟩ else none
def rightFin (rs : List Row) (s : Rt) : Bool := decide (s.at_ = rs.length) && (decide (s.notes = sumN rs) && decide (s.figs = figList rs rs.length))
def rightGo (rs : List Row) (h : Int) : List Leaf → Rt → Bool
  | [], s => rightFin rs s
  | l :: t, s => match rightStep rs h s l with | some s' => rightGo rs h t s' | none => false
def leavesRight (rs : List Row) (h : Int) (ls : List Leaf) : Bool := argsOk rs h && rightGo rs h ls ⟨0, 0, []⟩
theorem lh_ge {rs : List Row} {l : Leaf} (h : 0 ≤ leafHeight rs l) : (rowsValid rs = true ∧ (0 ≤ l.to_ ∧ l.to_ ≤ rs.length) ∧ (0 ≤ l.from_ ∧ l.from_ ≤ l.to_) ∧ (0 ≤ l.notes ∧ l.notes ≤ 1000000) ∧ l.figs.length ≤ 30) ∧ figsIn rs l.figs = true := by
  unfold leafHeight at h
  split at h
  · rename_i hc
    simp only [leafOk, Bool.and_eq_true, decide_eq_true_eq, inB_iff] at hc
    obtain ⟨⟨h1, h2, h3, h4, h5⟩, h6⟩ := hc
    exact ⟨⟨h1, h2, h3, h4, h5⟩, h6⟩
  · omega
theorem rightStep_some {rs : List Row} {h : Int} {s s' : Rt} {l : Leaf} (e : rightStep rs h s l = some s') :
    l.from_ = (s.at_ : Int) ∧ (0 ≤ leafHeight rs l ∧ leafHeight rs l ≤ h) ∧ s.notes + l.notes ≤ sumN (rs.take l.to_.toNat) ∧ (∀ x ∈ l.figs, x < l.to_) ∧ s' = ⟨l.to_.toNat, s.notes + l.notes, s.figs ++ l.figs⟩ := by
  unfold rightStep at e
  split at e
  · rename_i hc
    obtain ⟨h1, h2, h3, h4⟩ := hc
    refine ⟨h1, inB_iff.1 h2, h3, fun x hx => by have := List.all_eq_true.1 h4 x hx; simpa using this, (Option.some.inj e).symm⟩
  · cases e
/-- What has come so far is the beginning of all. -/
theorem rightGo_pre {rs : List Row} {h : Int} : ∀ (ls : List Leaf) (s : Rt), rightGo rs h ls s = true → s.figs <+: figList rs rs.length
  | [], s, e => by
    simp only [rightGo, rightFin, Bool.and_eq_true, decide_eq_true_eq] at e
    rw [e.2.2]; exact List.prefix_refl _
  | l :: t, s, e => by
    rw [rightGo] at e
    cases hs : rightStep rs h s l with
    | none => rw [hs] at e; cases e
    | some s' =>
      rw [hs] at e
      have h1 := rightGo_pre t s' e
      obtain ⟨_, _, _, _, rfl⟩ := rightStep_some hs
      exact List.IsPrefix.trans (List.prefix_append _ _) h1
theorem figList_split (rs : List Row) (k : Nat) : ∀ d, figList rs (k + d) = figList rs k ++ (((List.range d).map (k + ·)).filter fun (i : Nat) => decide (0 < figF rs (i : Int))).map fun (i : Nat) => (i : Int)
  | 0 => by simp
  | d + 1 => by
    rw [← Nat.add_assoc, figList_succ, figList_split rs k d, List.range_succ]
    simp only [List.map_append, List.filter_append, List.append_assoc, List.map_cons, List.map_nil]
    congr 2
    by_cases h : 0 < figF rs ((k + d : Nat) : Int)
    · rw [if_pos h, List.filter_cons_of_pos (p := fun (i : Nat) => decide (0 < figF rs (i : Int))) (decide_eq_true h)]; rfl
    · rw [if_neg h, List.filter_cons_of_neg (p := fun (i : Nat) => decide (0 < figF rs (i : Int))) (by rw [decide_eq_false h]; simp)]; rfl
/-- The next figure there is. -/
theorem figs_next {rs : List Row} {k : Nat} {x : Int} (hk : k ≤ rs.length) (hstop : k = rs.length ∨ 0 < figF rs (k : Int)) (h : figList rs k ++ [x] <+: figList rs rs.length) : x = (k : Int) ∧ k < rs.length := by
  obtain ⟨d, hd⟩ : ∃ d, rs.length = k + d := ⟨rs.length - k, by omega⟩
  rw [hd, figList_split] at h
  have h2 := (List.prefix_append_right_inj _).1 h
  rcases hstop with e | e
  · obtain rfl : d = 0 := by omega
    simp at h2
  · cases d with
    | zero => simp at h2
    | succ d =>
      rw [List.range_succ_eq_map, List.map_cons, List.filter_cons, if_pos (by simpa using e), List.map_cons] at h2
      obtain ⟨t, ht⟩ := h2
      rw [List.cons_append, List.nil_append] at ht
      injection ht with h3 _
      exact ⟨by rw [h3]; simp, by omega⟩
theorem figList_skip {rs : List Row} {k : Nat} (h : ¬ 0 < figF rs (k : Int)) : figList rs (k + 1) = figList rs k := by
  rw [figList_succ, if_neg h, List.append_nil]
theorem figList_take {rs : List Row} {k : Nat} (h : 0 < figF rs (k : Int)) : figList rs (k + 1) = figList rs k ++ [(k : Int)] := by
  rw [figList_succ, if_pos h]
/-! ### the law: without the last one they are wrong -/
theorem rightGo_append {rs : List Row} {h : Int} : ∀ (a : List Leaf) (l : Leaf) (s : Rt), rightGo rs h a s = true → rightGo rs h (a ++ [l]) s = true → (l.from_ = l.to_ ∧ l.notes = 0 ∧ l.figs = [])
  | [], l, s, e1, e2 => by
    simp only [rightGo, rightFin, Bool.and_eq_true, decide_eq_true_eq] at e1
    rw [List.nil_append, rightGo] at e2
    cases hs : rightStep rs h s l with
    | none => rw [hs] at e2; cases e2
    | some s' =>
      rw [hs] at e2
      obtain ⟨h1, ⟨h2, h3⟩, h4, h5, rfl⟩ := rightStep_some hs
      obtain ⟨⟨_, hto, hfr, hno, _⟩, _⟩ := lh_ge h2
      simp only [rightGo, rightFin, Bool.and_eq_true, decide_eq_true_eq] at e2
      obtain ⟨f1, f2, f3⟩ := e2
      obtain ⟨g1, g2, g3⟩ := e1
      refine ⟨by omega, by omega, ?_⟩
      rw [g3] at f3
      have := congrArg List.length f3
      rw [List.length_append] at this
      exact List.eq_nil_of_length_eq_zero (by omega)
  | m :: a, l, s, e1, e2 => by
    rw [rightGo] at e1
    rw [List.cons_append, rightGo] at e2
    cases hs : rightStep rs h s m with
    | none => rw [hs] at e1; cases e1
    | some s' =>
      rw [hs] at e1 e2
      exact rightGo_append a l s' e1 e2
theorem right_less {rs : List Row} {h : Int} {a : List Leaf} {l : Leaf} (e : leavesRight rs h (a ++ [l]) = true) (hs : l.from_ < l.to_ ∨ 0 < l.notes ∨ 0 < l.figs.length) : leavesRight rs h a = false := by
  cases h2 : leavesRight rs h a
  · rfl
  · simp only [leavesRight, Bool.and_eq_true] at e h2
    obtain ⟨h3, h4, h5⟩ := rightGo_append a l _ h2.2 e.2
    rw [h5] at hs; simp at hs; omega
/-! ### the law: pages made are right -/
theorem make_right0 {rs : List Row} {h : Int} {f : Nat} {s : Bk} {D : List Int} {N : Int} (hs : BkOk rs h D N s) (hmore : more rs s = false) : rightGo rs h (makeGo rs h f s) ⟨s.at_, N, D⟩ = true := by
  rw [make_stop hmore, rightGo, rightFin]
  have h1 : ¬ (s.at_ < rs.length ∨ 0 < s.left ∨ s.wait ≠ []) := by rw [← more_iff, hmore]; simp
  have h2 := hs.left
  have h3 := hs.at_
  have ha : s.at_ = rs.length := by omega
  have hw : s.wait = [] := by
    cases hw : s.wait with
    | nil => rfl
    | cons x t => exact absurd (.inr (.inr (by rw [hw]; simp))) h1
  have hf := hs.figs
  have hn := hs.notes
  rw [hw, List.append_nil, ha] at hf
  rw [ha, List.take_length] at hn
  simp [ha, hf]; omega
theorem make_right {rs : List Row} {h : Int} (hrv : rowsValid rs = true) (hh : 1 ≤ h ∧ h ≤ 1000) (hlo : lowOk rs h = true) : ∀ (f : Nat) (s : Bk) (D : List Int) (N : Int), BkOk rs h D N s → msr rs s ≤ f → rightGo rs h (makeGo rs h f s) ⟨s.at_, N, D⟩ = true := by
  intro f
  induction f with
  | zero =>
    intro s D N hs hm
    obtain ⟨hv, hl⟩ := rowsValid_iff.1 hrv
    cases hmore : more rs s with
    | false => exact make_right0 hs hmore
    | true =>
      have hless := page_less hv hh hlo hs hmore
      omega
  | succ f' ih =>
    intro s D N hs hm
    obtain ⟨hv, hl⟩ := rowsValid_iff.1 hrv
    cases hmore : more rs s with
    | false => exact make_right0 hs hmore
    | true =>
      have hless := page_less hv hh hlo hs hmore
      have hp := pageOf_ok hv hh hs
      rw [make_step hmore, rightGo]
      have hb := endPg_ok hp
      have hfl : ∀ x ∈ (pageOf rs h s).figs, 0 ≤ x ∧ x < (pageOf rs h s).at_ := fun x hx => by
        have := figList_mem (rs := rs) (k := (pageOf rs h s).at_) (x := x) (by rw [← hp.figs]; simp [hx])
        exact ⟨this.1, this.2.1⟩
      have hlen : (pageOf rs h s).figs.length ≤ 30 := by
        have h1 := figList_len rs (pageOf rs h s).at_
        rw [← hp.figs, List.length_append, List.length_append] at h1
        have := hp.at_; omega
      have hH : leafHeight rs (leafOf s (pageOf rs h s)) = h - (pageOf rs h s).room := by
        unfold leafHeight
        rw [if_pos, hp.room]
        · unfold leafOf; dsimp only; simp only [Int.toNat_natCast]; omega
        · have h1 := hp.at_; have h2 := hp.from_; have h3 := hp.notes0
          simp only [leafOk, leafOf, Bool.and_eq_true, inB_iff, hrv, true_and, figsIn, List.all_eq_true]
          refine ⟨⟨by omega, by omega, by omega, decide_eq_true hlen⟩, fun x hx => ?_⟩
          have := hfl x hx; omega
      have hstep : rightStep rs h ⟨s.at_, N, D⟩ (leafOf s (pageOf rs h s)) = some ⟨(pageOf rs h s).at_, N + (pageOf rs h s).notes, D ++ (pageOf rs h s).figs⟩ := by
        unfold rightStep
        have h0 := hp.room0
        have h4 : (pageOf rs h s).room ≤ h := by
          have h1 := hp.room
          have h2 := (figsF_bd hv (pageOf rs h s).figs).1
          have h3 := (seg_bd hv hl s.at_ (pageOf rs h s).at_).1
          have h5 := hp.notes0
          omega
        rw [if_pos]
        · rfl
        · refine ⟨rfl, ?_, ?_, ?_⟩
          · rw [hH, inB_iff]; omega
          · show N + (pageOf rs h s).notes ≤ sumN (rs.take ((pageOf rs h s).at_ : Int).toNat)
            rw [Int.toNat_natCast]
            have h1 := hp.notes
            have h2 := hp.left
            omega
          · rw [List.all_eq_true]
            intro x hx
            have := (hfl x hx).2
            show decide (x < ((pageOf rs h s).at_ : Int)) = true
            simpa using this
      rw [hstep]
      exact ih _ _ _ hb (by omega)
theorem msr_start (rs : List Row) (h : Int) (hl : rs.length ≤ 30) : msr rs ⟨0, 0, []⟩ ≤ 60000 := by unfold msr; simp; omega
theorem makeLeaves_right {rs : List Row} {h : Int} (hk : makeOk rs h = true) : leavesRight rs h (makeLeaves rs h) = true := by
  simp only [makeOk, argsOk, Bool.and_eq_true, inB_iff] at hk
  obtain ⟨⟨h1, h2⟩, h3⟩ := hk
  have hm : makeOk rs h = true := by simp only [makeOk, argsOk, Bool.and_eq_true, inB_iff]; exact ⟨⟨h1, h2⟩, h3⟩
  rw [leavesRight, makeLeaves, if_pos hm, Bool.and_eq_true]
  refine ⟨by simp only [argsOk, Bool.and_eq_true, inB_iff]; exact ⟨h1, h2⟩, make_right h1 h2 h3 _ _ _ _ (start_ok rs h) (msr_start rs h (rowsValid_iff.1 h1).2)⟩
end Go.Proofs.Ytfflnkkhemaanaa
