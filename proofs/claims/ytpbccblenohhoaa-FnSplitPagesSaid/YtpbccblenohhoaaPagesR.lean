/- Pages: the laws on costs and numbers of pages, in plain Lean. No condition. -/
import Derived.Test.YtpbccblenohhoaaPages4
namespace Go.Proofs.Ytpbccblenohhoaa
open Go.RowKit
set_option linter.unusedVariables false

/-! ### the table, read at its end -/
theorem tab_mono {rs : List Row} {h : Int} {j i : Nat} (hi : rs.length - j ≤ i) : ∀ d, j + d ≤ rs.length → tab rs h (j + d) i = tab rs h j i
  | 0, _ => rfl
  | d + 1, hd => by
    rw [show j + (d + 1) = (j + d) + 1 by omega, tab_old (by omega)]
    exact tab_mono hi d (by omega)
theorem bestTab_end (rs : List Row) (h : Int) : bestTab rs h rs.length = ⟨0, 0⟩ := by
  have := tab_mono (rs := rs) (h := h) (j := 0) (i := rs.length) (by omega) rs.length (by omega)
  rw [Nat.zero_add] at this
  rw [bestTab, this]; rfl
theorem cand_congr {rs : List Row} {h : Int} {least least' : Nat → Int} {a z : Nat} (e : least z = least' z) : cand rs h least a z = cand rs h least' a z := by
  unfold cand; rw [e]
theorem IsBest.congr {P P' : Nat → Option Int} {lo hi : Nat} {b : Best} (h : IsBest P lo hi b) (e : ∀ z, lo < z → z ≤ hi → P z = P' z) : IsBest P' lo hi b :=
  ⟨fun h0 => ⟨fun z h1 h2 => by rw [← e z h1 h2]; exact (h.none_ h0).1 z h1 h2, (h.none_ h0).2⟩,
   fun h0 => by
    obtain ⟨k1, k2, k3, k4⟩ := h.some_ h0
    exact ⟨k1, k2, by rw [← e _ k1 k2]; exact k3, fun z c h1 h2 h3 => k4 z c h1 h2 (by rw [e z h1 h2]; exact h3)⟩⟩
theorem bestTab_best {rs : List Row} {h : Int} {a : Nat} (ha : a < rs.length) : IsBest (cand rs h (fun z => (bestTab rs h z).cost) a) a rs.length (bestTab rs h a) := by
  have h1 : bestTab rs h a = bestAt rs h (fun z => (tab rs h (rs.length - a - 1) z).cost) a := by
    have h2 := tab_mono (rs := rs) (h := h) (j := rs.length - a - 1 + 1) (i := a) (by omega) a (by omega)
    rw [show rs.length - a - 1 + 1 + a = rs.length by omega] at h2
    rw [bestTab, h2]
    have h3 := tab_new (rs := rs) (h := h) (j := rs.length - a - 1)
    rw [show rs.length - (rs.length - a - 1 + 1) = a by omega] at h3
    exact h3
  rw [h1]
  refine (bestAt_best rs h _ (by omega)).congr (fun z h1 h2 => cand_congr ?_)
  have h4 := tab_mono (rs := rs) (h := h) (j := rs.length - a - 1) (i := z) (by omega) (a + 1) (by omega)
  rw [show rs.length - a - 1 + (a + 1) = rs.length by omega] at h4
  rw [bestTab, h4]
/-- No other pages cost less. -/
theorem best_le {rs : List Row} {h : Int} : ∀ (es : List Int) (a : Nat) (s : Int), costGo rs h a es = some s → 0 ≤ (bestTab rs h a).cost ∧ (bestTab rs h a).cost ≤ s
  | [], a, s, e => by
    rw [costGo] at e
    split at e
    · rename_i ha
      have := Option.some.inj e
      rw [ha, bestTab_end]; dsimp only; omega
    · cases e
  | x :: t, a, s, e => by
    obtain ⟨⟨z, _⟩, ⟨_, v⟩, _, hz1, hz2, hok, hgv, htv⟩ := cost_step e
    dsimp only at hz1 hz2 hok hgv htv
    obtain ⟨i1, i2⟩ := best_le t z v hgv
    have hb := bestTab_best (rs := rs) (h := h) (a := a) (by omega)
    have hc : cand rs h (fun z => (bestTab rs h z).cost) a z = some (pCost rs h a z + (bestTab rs h z).cost) := by
      have := pCost_nonneg.2 hok
      rw [cand, if_neg (by omega)]
    rcases Int.lt_or_le (bestTab rs h a).cost 0 with h0 | h0
    · rw [(hb.none_ h0).1 z hz1 hz2] at hc; cases hc
    · have := (hb.some_ h0).2.2.2 z _ hz1 hz2 hc
      omega
/-- The best pages are pages, with that cost. -/
theorem follow_cost {rs : List Row} {h : Int} : ∀ (f a : Nat), a ≤ rs.length → rs.length ≤ a + f → 0 ≤ (bestTab rs h a).cost → costGo rs h a (follow rs (bestTab rs h) f a) = some (bestTab rs h a).cost
  | 0, a, h1, h2, h3 => by
    obtain rfl : a = rs.length := by omega
    rw [follow, costGo, if_pos rfl, bestTab_end]
  | f + 1, a, h1, h2, h3 => by
    rw [follow]
    by_cases ha : a < rs.length
    · rw [if_pos ha]
      obtain ⟨k1, k2, k3, _⟩ := (bestTab_best ha).some_ h3
      obtain ⟨c1, c2, c3⟩ := cand_parts k3
      have ih := follow_cost f (bestTab rs h a).next k2 (by omega) c2
      rw [costGo, Int.toNat_natCast, if_pos, ih]
      · rw [c3]; rfl
      · rw [Bool.and_eq_true, inB_iff]
        exact ⟨by omega, pCost_nonneg.1 c1⟩
    · obtain rfl : a = rs.length := by omega
      rw [if_neg ha, costGo, if_pos rfl, bestTab_end]
theorem follow_ne {rs : List Row} {t : Nat → Best} {f : Nat} (h : 0 < rs.length) (hf : rs.length ≤ f) : (follow rs t f 0).length ≠ 0 := by
  obtain ⟨g, rfl⟩ : ∃ g, f = g + 1 := ⟨f - 1, by omega⟩
  rw [follow, if_pos h]; simp
/-! ### the first pages -/
theorem pageOk_later {rs : List Row} {h : Int} (hv : rs.all rowValid = true) {b a z : Nat} (h1 : b ≤ a) (h2 : a < z) (h3 : z ≤ rs.length) (hok : pageOk rs h b z = true) : pageOk rs h a z = true := by
  rw [pageOk_eq rs h (by omega) h3] at hok
  rw [pageOk_eq rs h h2 h3]
  simp only [Bool.and_eq_true, decide_eq_true_eq] at hok ⊢
  refine ⟨?_, hok.2⟩
  have e : seg rs b z = seg rs b a + seg rs a z := by
    rw [seg, seg, seg, ← sumH_append]
    congr 1
    have e1 : (rs.drop b).take (z - b) = (rs.drop b).take (a - b) ++ ((rs.drop b).drop (a - b)).take (z - a) := by
      rw [show z - b = (a - b) + (z - a) by omega, List.take_add]
    rw [e1, List.drop_drop, show b + (a - b) = a by omega]
  have h4 := sumH_bd (rs := (rs.drop b).take (a - b)) (all_sub hv (fun r hr => List.mem_of_mem_drop (List.mem_of_mem_take hr)))
  have h5 : 0 ≤ seg rs b a := h4.1
  omega
theorem split_ge {rs : List Row} {h : Int} {a z : Nat} (h2 : a < z) (h3 : z ≤ rs.length) (hok : pageOk rs h a z = true) : z ≤ a + splitN (rs.drop a) h ∧ a + splitN (rs.drop a) h ≤ rs.length := by
  have h4 := splitN_le (rs.drop a) h
  rw [List.length_drop] at h4
  refine ⟨?_, by omega⟩
  rcases Nat.lt_or_ge (splitN (rs.drop a) h) (z - a) with h5 | h5
  · have := splitDown_max (rs.drop a) h (rs.drop a).length (z - a) h5 (by rw [List.length_drop]; omega)
    rw [pageOk] at hok; rw [this] at hok; cases hok
  · omega
theorem first_nil {rs : List Row} {h : Int} {f a : Nat} (ha : rs.length ≤ a) : firstGo rs h f a = some [] := by
  cases f with
  | zero => rw [firstGo, if_neg (by omega)]
  | succ f => rw [firstGo, if_neg (by omega)]
/-- There are not more first pages than others, wherever these have come to. -/
theorem first_le {rs : List Row} {h : Int} (hv : rs.all rowValid = true) : ∀ (es : List Int) (b a f : Nat) (s : Int), costGo rs h b es = some s → b ≤ a → a ≤ rs.length → rs.length ≤ a + f → ∃ l, firstGo rs h f a = some l ∧ l.length ≤ es.length
  | [], b, a, f, s, e, h1, h2, h3 => by
    rw [costGo] at e
    split at e
    · exact ⟨[], first_nil (by omega), Nat.le_refl _⟩
    · cases e
  | x :: t, b, a, f, s, e, h1, h2, h3 => by
    obtain ⟨⟨z, _⟩, ⟨_, v⟩, _, hz1, hz2, hok, hgv, htv⟩ := cost_step e
    dsimp only at hz1 hz2 hok hgv htv
    by_cases hza : z ≤ a
    · obtain ⟨l, e1, e2⟩ := first_le hv t z a f v hgv hza h2 h3
      exact ⟨l, e1, by simp; omega⟩
    · by_cases haf : a < rs.length
      · have hok2 := pageOk_later hv h1 (by omega) hz2 hok
        obtain ⟨g1, g2⟩ := split_ge (by omega) hz2 hok2
        obtain ⟨f', rfl⟩ : ∃ f', f = f' + 1 := ⟨f - 1, by omega⟩
        obtain ⟨l, e1, e2⟩ := first_le hv t z (a + splitN (rs.drop a) h) f' v hgv g1 g2 (by omega)
        refine ⟨((a + splitN (rs.drop a) h : Nat) : Int) :: l, ?_, by simp; omega⟩
        rw [firstGo, if_pos haf, if_neg (by omega), e1]; rfl
      · exact ⟨[], first_nil (by omega), by simp⟩
/-- First pages are pages. -/
theorem first_pages {rs : List Row} {h : Int} : ∀ (f a : Nat) (l : List Int), a ≤ rs.length → firstGo rs h f a = some l → ∃ s, costGo rs h a l = some s
  | 0, a, l, h1, e => by
    rw [firstGo] at e
    split at e
    · cases e
    · have := Option.some.inj e; subst this
      exact ⟨0, by rw [costGo, if_pos (by omega)]⟩
  | f + 1, a, l, h1, e => by
    rw [firstGo] at e
    split at e
    · rename_i ha
      split at e
      · cases e
      · rename_i hs
        cases hg : firstGo rs h f (a + splitN (rs.drop a) h) with
        | none => rw [hg] at e; cases e
        | some u =>
          rw [hg] at e
          have h4 := splitN_le (rs.drop a) h
          rw [List.length_drop] at h4
          obtain ⟨s, hs'⟩ := first_pages f _ u (by omega) hg
          have e2 := Option.some.inj e
          subst e2
          have hsp : 0 < splitN (rs.drop a) h := by omega
          have hok := splitDown_ok (rs.drop a) h (rs.drop a).length hsp
          refine ⟨pCost rs h a (a + splitN (rs.drop a) h) + s, ?_⟩
          rw [costGo, Int.toNat_natCast, if_pos, hs']
          · rfl
          · rw [Bool.and_eq_true, inB_iff]
            refine ⟨by omega, ?_⟩
            rw [pageOk, Nat.add_sub_cancel_left]; exact hok
    · have := Option.some.inj e; subst this
      exact ⟨0, by rw [costGo, if_pos (by omega)]⟩
theorem pageOk_higher {rs : List Row} {h h' : Int} (hh : h ≤ h') {a z : Nat} (h1 : a < z) (h2 : z ≤ rs.length) (hok : pageOk rs h a z = true) : pageOk rs h' a z = true := by
  rw [pageOk_eq rs h h1 h2] at hok
  rw [pageOk_eq rs h' h1 h2]
  simp only [Bool.and_eq_true, decide_eq_true_eq] at hok ⊢
  exact ⟨by omega, hok.2⟩
theorem cost_higher {rs : List Row} {h h' : Int} (hh : h ≤ h') : ∀ (es : List Int) (a : Nat) (s : Int), costGo rs h a es = some s → ∃ s', costGo rs h' a es = some s'
  | [], a, s, e => by
    rw [costGo] at e ⊢
    split at e
    · rename_i ha; exact ⟨0, if_pos ha⟩
    · cases e
  | x :: t, a, s, e => by
    obtain ⟨⟨z, _⟩, ⟨_, v⟩, hx, hz1, hz2, hok, hgv, htv⟩ := cost_step e
    dsimp only at hx hz1 hz2 hok hgv htv
    obtain ⟨s', hs'⟩ := cost_higher hh t z v hgv
    refine ⟨pCost rs h' a z + s', ?_⟩
    rw [hx, costGo, Int.toNat_natCast, if_pos, hs']
    · rfl
    · rw [Bool.and_eq_true, inB_iff]
      exact ⟨by omega, pageOk_higher hh hz1 hz2 hok⟩
end Go.Proofs.Ytpbccblenohhoaa
