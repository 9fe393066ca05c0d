/- The best breaks in plain words; laws of these words. No condition. -/
import Derived.Test.YtadcbigioldejaaCost3
namespace Go.Proofs.Ytadcbigioldejaa
open Go.RowKit
set_option linter.unusedVariables false

/-- The least cost of all that follows, and the line that comes next. -/
structure Ch where
  cost : Int
  nx : St
  deriving DecidableEq
def Ch.zero : Ch := ⟨0, St.zero⟩
def Ch.none : Ch := ⟨-1, St.zero⟩
def updC (rs : List Item) (width most : Int) (B : St → Ch) (s : St) (c : Ch) (to : Nat) : Ch :=
  match stepOf rs width most s to with
  | Option.none => c
  | some (k, e) => if 0 ≤ (B e).cost ∧ (c.cost < 0 ∨ k + (B e).cost < c.cost) then ⟨k + (B e).cost, e⟩ else c
/-- After the first j of n - 1, n - 2, .. -/
def accN (rs : List Item) (width most : Int) (B : St → Ch) (s : St) : Nat → Ch
  | 0 => Ch.none
  | j + 1 => updC rs width most B s (accN rs width most B s j) (rs.length - 1 - j)
def left (rs : List Item) (s : St) : Nat := ((rs.length : Int) - 1 - s.at_).toNat
def bestF (rs : List Item) (width most : Int) : Nat → St → Ch
  | 0, _ => Ch.zero
  | d + 1, s => if s.at_ = (rs.length : Int) - 1 then Ch.zero else accN rs width most (bestF rs width most d) s (left rs s)
def best (rs : List Item) (width most : Int) (s : St) : Ch := bestF rs width most (left rs s) s
section
variable {rs : List Item} {width most : Int}
theorem accN_congr {B B' : St → Ch} {s : St} (h : ∀ e : St, s.at_ < e.at_ → e.at_ < rs.length → B e = B' e) : ∀ j, accN rs width most B s j = accN rs width most B' s j
  | 0 => rfl
  | j + 1 => by
    rw [accN, accN, accN_congr h j, updC, updC]
    cases hs : stepOf rs width most s ((rs.length - 1 - j : Nat) : Int) with
    | none => rfl
    | some p =>
      obtain ⟨k, e⟩ := p
      have hb := stepOf_bd hs
      have := h e (by omega) (by omega)
      dsimp only
      rw [this]
theorem left_lt {s e : St} (h : s.at_ < e.at_) (he : e.at_ < rs.length) : left rs e < left rs s := by unfold left; omega
theorem bestF_fuel : ∀ (d : Nat) (s : St), -1 ≤ s.at_ → s.at_ < rs.length → left rs s ≤ d → bestF rs width most d s = best rs width most s := by
  intro d
  induction d using Nat.strongRecOn with
  | ind d ih =>
    intro s h1 h2 h3
    unfold best
    rcases Nat.eq_zero_or_pos (left rs s) with h0 | h0
    · have hat : s.at_ = (rs.length : Int) - 1 := by unfold left at h0; omega
      rw [h0]
      cases d with
      | zero => rfl
      | succ d => rw [bestF, bestF, if_pos hat]
    · have hat : ¬ s.at_ = (rs.length : Int) - 1 := by unfold left at h0; omega
      obtain ⟨m, hm⟩ : ∃ m, left rs s = m + 1 := ⟨left rs s - 1, by omega⟩
      obtain ⟨d', rfl⟩ : ∃ d', d = d' + 1 := ⟨d - 1, by omega⟩
      rw [hm, bestF, bestF, if_neg hat, if_neg hat]
      refine accN_congr (fun e he1 he2 => ?_) _
      have hl := left_lt he1 he2
      rw [ih d' (by omega) e (by omega) he2 (by omega)]
      rw [ih m (by omega) e (by omega) he2 (by omega)]
theorem best_end {s : St} (h : s.at_ = (rs.length : Int) - 1) : best rs width most s = Ch.zero := by
  have h0 : left rs s = 0 := by unfold left; omega
  rw [best, h0]; rfl
theorem best_eq {s : St} (h1 : -1 ≤ s.at_) (h2 : s.at_ < (rs.length : Int) - 1) : best rs width most s = accN rs width most (best rs width most) s (left rs s) := by
  have h0 : 0 < left rs s := by unfold left; omega
  obtain ⟨m, hm⟩ : ∃ m, left rs s = m + 1 := ⟨left rs s - 1, by omega⟩
  have hat : ¬ s.at_ = (rs.length : Int) - 1 := by omega
  have e : best rs width most s = bestF rs width most (m + 1) s := by rw [best, hm]
  rw [e, bestF, if_neg hat]
  refine accN_congr (fun e he1 he2 => ?_) _
  have hl := left_lt he1 he2
  exact bestF_fuel m e (by omega) he2 (by omega)
/-- What is known of a choice: none; or a line that is possible, with the best behind it. -/
def ChOk (rs : List Item) (width most : Int) (s : St) (c : Ch) : Prop :=
  c = Ch.none ∨ ∃ k, stepOf rs width most s c.nx.at_ = some (k, c.nx) ∧ 0 ≤ (best rs width most c.nx).cost ∧ c.cost = k + (best rs width most c.nx).cost
theorem upd_ok {s : St} {c : Ch} {to : Nat} (h : ChOk rs width most s c) : ChOk rs width most s (updC rs width most (best rs width most) s c to) := by
  unfold updC
  cases hs : stepOf rs width most s to with
  | none => exact h
  | some p =>
    obtain ⟨k, e⟩ := p
    dsimp only
    split
    · rename_i hc
      have hb := stepOf_bd hs
      exact .inr ⟨k, by rw [hb.2.2.1]; exact hs, hc.1, rfl⟩
    · exact h
theorem acc_ok (s : St) : ∀ j, ChOk rs width most s (accN rs width most (best rs width most) s j)
  | 0 => .inl rfl
  | j + 1 => by rw [accN]; exact upd_ok (acc_ok s j)
theorem best_bd : ∀ (d : Nat) (s : St), -1 ≤ s.at_ → s.at_ < rs.length → left rs s ≤ d → -1 ≤ (best rs width most s).cost ∧ (best rs width most s).cost ≤ 210006000 * ((rs.length : Int) - 1 - s.at_)
  | d, s, h1, h2, h3 => by
    induction d using Nat.strongRecOn generalizing s with
    | ind d ih =>
      by_cases hat : s.at_ = (rs.length : Int) - 1
      · rw [best_end hat]; simp [Ch.zero]; omega
      · rw [best_eq h1 (by omega)]
        rcases acc_ok (rs := rs) (width := width) (most := most) s (left rs s) with h | ⟨k, hs, h0, hc⟩
        · rw [h]; simp [Ch.none]; omega
        · have hb := stepOf_bd hs
          have hl := left_lt (rs := rs) (s := s) (e := (accN rs width most (best rs width most) s (left rs s)).nx) (by omega) (by omega)
          have := ih (left rs (accN rs width most (best rs width most) s (left rs s)).nx) (by omega) (accN rs width most (best rs width most) s (left rs s)).nx (by omega) (by omega) (Nat.le_refl _)
          rw [hc]
          omega
theorem best_bound {s : St} (h1 : -1 ≤ s.at_) (h2 : s.at_ < rs.length) : -1 ≤ (best rs width most s).cost ∧ (best rs width most s).cost ≤ 210006000 * ((rs.length : Int) - 1 - s.at_) := best_bd (left rs s) s h1 h2 (Nat.le_refl _)
theorem best_ok {s : St} (h1 : -1 ≤ s.at_) (h2 : s.at_ < (rs.length : Int) - 1) : ChOk rs width most s (best rs width most s) := by
  rw [best_eq h1 h2]; exact acc_ok s _
/-- The last of the costs seen, while the choice is made, is in bounds. -/
theorem acc_bd {s : St} (h1 : -1 ≤ s.at_) (h2 : s.at_ < rs.length) (j : Nat) : -1 ≤ (accN rs width most (best rs width most) s j).cost ∧ (accN rs width most (best rs width most) s j).cost ≤ 210006000 * ((rs.length : Int) - 1 - s.at_) := by
  rcases acc_ok (rs := rs) (width := width) (most := most) s j with h | ⟨k, hs, h0, hc⟩
  · rw [h]; simp [Ch.none]; omega
  · have hb := stepOf_bd hs
    have := best_bound (rs := rs) (width := width) (most := most) (s := (accN rs width most (best rs width most) s j).nx) (by omega) (by omega)
    rw [hc]
    omega
/-- The look of what was before the first line does not count. -/
theorem best_first {m m' : Bool} {l l' : Int} (hn : 0 < rs.length) : best rs width most ⟨-1, m, l⟩ = best rs width most ⟨-1, m', l'⟩ := by
  rw [best_eq (by simp) (by dsimp only; omega), best_eq (by simp) (by dsimp only; omega)]
  have : ∀ j, accN rs width most (best rs width most) ⟨-1, m, l⟩ j = accN rs width most (best rs width most) ⟨-1, m', l'⟩ j := by
    intro j
    induction j with
    | zero => rfl
    | succ j ih => rw [accN, accN, ih, updC, updC, stepOf_first]
  exact this _
def follow (rs : List Item) (width most : Int) : Nat → St → List Int
  | 0, _ => []
  | f + 1, s => if s.at_ = (rs.length : Int) - 1 then [] else (best rs width most s).nx.at_ :: follow rs width most f (best rs width most s).nx
def bestBr (rs : List Item) (width most : Int) : Option (List Int) :=
  if argsB rs width most then (if 0 ≤ (best rs width most St.start).cost then some (follow rs width most rs.length St.start) else Option.none) else Option.none
def bestBreaks (rs : List Item) (width most : Int) : List Int := (bestBr rs width most).getD []
theorem follow_len : ∀ (f : Nat) (s : St), (follow rs width most f s).length ≤ f
  | 0, s => by simp [follow]
  | f + 1, s => by
    rw [follow]; split
    · simp
    · rw [List.length_cons]; have := follow_len f (best rs width most s).nx; omega
theorem bestBreaks_len : (bestBreaks rs width most).length ≤ rs.length := by
  unfold bestBreaks bestBr
  split
  · split
    · exact follow_len _ _
    · simp
  · simp
/-- One line further on the best way. -/
theorem follow_step {s : St} {f : Nat} (h1 : -1 ≤ s.at_) (h2 : s.at_ < (rs.length : Int) - 1) (hf : left rs s ≤ f) (hc : 0 ≤ (best rs width most s).cost) :
    ∃ g, follow rs width most f s = (best rs width most s).nx.at_ :: follow rs width most g (best rs width most s).nx ∧ left rs (best rs width most s).nx ≤ g ∧ 0 ≤ (best rs width most (best rs width most s).nx).cost ∧ s.at_ < (best rs width most s).nx.at_ ∧ (best rs width most s).nx.at_ < rs.length ∧ 0 ≤ (best rs width most s).nx.looks ∧ (best rs width most s).nx.looks ≤ 3 ∧ (best rs width most s).nx.mark = (itAt rs (best rs width most s).nx.at_.toNat).mark := by
  rcases best_ok (rs := rs) (width := width) (most := most) h1 h2 with h | ⟨k, hs, h0, _⟩
  · rw [h] at hc; simp [Ch.none] at hc
  · have hb := stepOf_bd hs
    have hl := left_lt (rs := rs) (s := s) (e := (best rs width most s).nx) (by omega) (by omega)
    obtain ⟨g, rfl⟩ : ∃ g, f = g + 1 := ⟨f - 1, by omega⟩
    refine ⟨g, ?_, by omega, h0, by omega, by omega, hb.2.2.2.2.2.2.1, hb.2.2.2.2.2.2.2.1, hb.2.2.2.2.2.2.2.2.1⟩
    rw [follow, if_neg (by omega)]
theorem follow_end {s : St} {f : Nat} (h : s.at_ = (rs.length : Int) - 1) : follow rs width most f s = [] := by
  cases f with
  | zero => rfl
  | succ f => rw [follow, if_pos h]
end
end Go.Proofs.Ytadcbigioldejaa
