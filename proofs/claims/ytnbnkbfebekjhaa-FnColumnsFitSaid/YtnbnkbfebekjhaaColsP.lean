/- Columns of rows: the plain laws. No condition. -/
import Derived.Test.YtnbnkbfebekjhaaCols
namespace Go.Proofs.Ytnbnkbfebekjhaa
open Go.RowKit
set_option linter.unusedVariables false

/-- How many rows stand in many columns, from a row on. -/
def colEnd (rs : List Row) (h : Int) : Nat → Nat → Nat
  | 0, a => a
  | k + 1, a => colEnd rs h k (a + splitN (rs.drop a) h)
def colList (rs : List Row) (h : Int) : Nat → Nat → List Int
  | 0, _ => []
  | k + 1, a => (splitN (rs.drop a) h : Int) :: colList rs h k (a + splitN (rs.drop a) h)
theorem colList_len (rs : List Row) (h : Int) : ∀ k a, (colList rs h k a).length = k
  | 0, _ => rfl
  | k + 1, a => by simp [colList, colList_len rs h k]
theorem splitGo_cols {rs : List Row} {h : Int} (hin : inB h 0 1000000 = true) : ∀ (k a : Nat) (acc : List Int), splitGo rs (List.replicate k h) a acc = some (acc ++ colList rs h k a, rs.length - colEnd rs h k a)
  | 0, a, acc => by rw [List.replicate_zero, splitGo, colList, colEnd, List.append_nil]
  | k + 1, a, acc => by
    rw [List.replicate_succ, splitGo, if_pos hin, splitGo_cols hin k, colList, colEnd]; simp
theorem splitN_drop_le (rs : List Row) (h : Int) {a : Nat} (ha : a ≤ rs.length) : a + splitN (rs.drop a) h ≤ rs.length := by
  have := splitN_le (rs.drop a) h
  rw [List.length_drop] at this; omega
theorem colEnd_le (rs : List Row) (h : Int) : ∀ k a, a ≤ rs.length → colEnd rs h k a ≤ rs.length
  | 0, _, ha => ha
  | k + 1, a, ha => by rw [colEnd]; exact colEnd_le rs h k _ (splitN_drop_le rs h ha)
theorem colEnd_ge (rs : List Row) (h : Int) : ∀ k a, a ≤ colEnd rs h k a
  | 0, _ => Nat.le_refl _
  | k + 1, a => by
    have := colEnd_ge rs h k (a + splitN (rs.drop a) h)
    rw [colEnd]; omega
theorem colEnd_succ (rs : List Row) (h : Int) : ∀ k a, colEnd rs h k a ≤ colEnd rs h (k + 1) a
  | 0, a => by rw [colEnd, colEnd, colEnd]; omega
  | k + 1, a => by
    rw [colEnd, colEnd]
    exact colEnd_succ rs h k _
theorem splitN_sum {rs : List Row} {h : Int} (h0 : 0 ≤ h) : sumH (rs.take (splitN rs h)) ≤ h := by
  rcases Nat.eq_zero_or_pos (splitN rs h) with hz | hz
  · rw [hz]; simpa [sumH] using h0
  · have := splitDown_ok rs h rs.length hz
    simp only [okAt, Bool.and_eq_true, decide_eq_true_eq] at this
    exact this.1
theorem take_add_sum (rs : List Row) (a d : Nat) : sumH (rs.take (a + d)) = sumH (rs.take a) + sumH ((rs.drop a).take d) := by
  rw [List.take_add, sumH_append]
theorem colEnd_sum {rs : List Row} {h : Int} (h0 : 0 ≤ h) : ∀ k a, sumH (rs.take (colEnd rs h k a)) ≤ sumH (rs.take a) + k * h
  | 0, a => by rw [colEnd]; simp
  | k + 1, a => by
    rw [colEnd]
    have h1 := colEnd_sum (rs := rs) h0 k (a + splitN (rs.drop a) h)
    rw [take_add_sum] at h1
    have h2 := splitN_sum (rs := rs.drop a) h0
    have h3 : ((k + 1 : Nat) : Int) * h = (k : Int) * h + h := by rw [Int.natCast_add, Int.add_mul]; simp
    omega
theorem splitN_all {rs : List Row} {h : Int} (hs : sumH rs ≤ h) : splitN rs h = rs.length := by
  have h1 := splitN_le rs h
  rcases Nat.lt_or_ge (splitN rs h) rs.length with h2 | h2
  · have := splitDown_max rs h rs.length rs.length h2 (Nat.le_refl _)
    simp [okAt, List.take_length, hs] at this
  · omega
theorem colsOf_valid {rs : List Row} {M : Nat} {h : Int} (hv : rowsValid rs = true) (hM : 1 ≤ M ∧ M ≤ 6) (hin : inB h 0 1000000 = true) : colsOf rs M h = (colList rs h M 0, ((rs.length - colEnd rs h M 0 : Nat) : Int)) := by
  rw [colsOf_in (inB_iff.2 (by omega)), splitAll, if_pos (by simp [hv]; omega), splitGo_cols hin]; rfl
theorem splitGo_out {rs : List Row} {h : Int} (hin : inB h 0 1000000 = false) (k : Nat) (a : Nat) (acc : List Int) : splitGo rs (List.replicate (k + 1) h) a acc = none := by
  rw [List.replicate_succ, splitGo, if_neg (by simp [hin])]
theorem colsOf_cases (rs : List Row) (m h : Int) : colsOf rs m h = ([], -1) ∨ ∃ M : Nat, m = M ∧ 1 ≤ M ∧ M ≤ 6 ∧ rowsValid rs = true ∧ inB h 0 1000000 = true ∧ colsOf rs m h = (colList rs h M 0, ((rs.length - colEnd rs h M 0 : Nat) : Int)) := by
  cases hm : inB m 1 6
  · exact .inl (colsOf_out hm)
  · obtain ⟨hm1, hm6⟩ := inB_iff.1 hm
    obtain ⟨M, rfl⟩ := Int.eq_ofNat_of_zero_le (show 0 ≤ m by omega)
    cases hv : rowsValid rs
    · exact .inl (by rw [colsOf_in hm, splitAll, hv]; rfl)
    · cases hh : inB h 0 1000000
      · refine .inl ?_
        rw [colsOf_in hm, splitAll, if_pos (by simp [hv]; omega)]
        obtain ⟨k, rfl⟩ : ∃ k, M = k + 1 := ⟨M - 1, by omega⟩
        rw [splitGo_out hh]; rfl
      · exact .inr ⟨M, rfl, by omega, by omega, rfl, rfl, colsOf_valid hv (by omega) hh⟩
theorem colsOf_len (rs : List Row) (m h : Int) : (colsOf rs m h).1.length ≤ 6 := by
  rcases colsOf_cases rs m h with e | ⟨M, _, _, h6, _, _, e⟩
  · rw [e]; simp
  · rw [e]; simpa [colList_len] using h6
theorem fits_iff {rs : List Row} {M : Nat} {h : Int} (hv : rowsValid rs = true) (hM : 1 ≤ M ∧ M ≤ 6) : fitsB rs M h = true ↔ inB h 0 1000000 = true ∧ colEnd rs h M 0 = rs.length := by
  have hle := colEnd_le rs h M 0 (by omega)
  cases hin : inB h 0 1000000
  · obtain ⟨k, rfl⟩ : ∃ k, M = k + 1 := ⟨M - 1, by omega⟩
    rw [fitsB, colsOf_in (inB_iff.2 (by omega)), splitAll, if_pos (by simp [hv]; omega), splitGo_out hin]
    simp [ofGo]
  · rw [fitsB, colsOf_valid hv hM hin]
    simp; omega
/-! ### the least height -/
def leastFrom (p : Nat → Bool) : Nat → Nat → Nat
  | 0, h => h
  | f + 1, h => if p h then h else leastFrom p f (h + 1)
theorem leastFrom_spec (p : Nat → Bool) : ∀ f h, p (h + f) = true → p (leastFrom p f h) = true ∧ leastFrom p f h ≤ h + f ∧ ∀ j, h ≤ j → j < leastFrom p f h → p j = false
  | 0, h, hp => ⟨hp, Nat.le_refl _, fun j h1 h2 => by rw [leastFrom] at h2; omega⟩
  | f + 1, h, hp => by
    rw [leastFrom]
    cases hq : p h
    · obtain ⟨i1, i2, i3⟩ := leastFrom_spec p f (h + 1) (by rw [show h + 1 + f = h + (f + 1) by omega]; exact hp)
      refine ⟨i1, by simp; omega, fun j h1 h2 => ?_⟩
      rcases Nat.lt_or_ge h j with h3 | h3
      · exact i3 j h3 h2
      · rw [show j = h by omega]; exact hq
    · exact ⟨by simp [hq], by simp, fun j h1 h2 => by simp at h2; omega⟩
def balN (rs : List Row) (m : Int) : Nat := leastFrom (fun j => fitsB rs m (j : Int)) (sumH rs).toNat 0
def balance (rs : List Row) (m : Int) : Int := if rowsValid rs && inB m 1 6 then (balN rs m : Int) else -1
def balCols (rs : List Row) (m : Int) : List Int := if rowsValid rs && inB m 1 6 then (colsOf rs m (balN rs m : Int)).1 else []
structure IsBal (rs : List Row) (m : Int) (b : Nat) : Prop where
  fit : fitsB rs m (b : Int) = true
  le : (b : Int) ≤ sumH rs
  bd : b ≤ 30000
  no : ∀ j, j < b → fitsB rs m (j : Int) = false
theorem bal_is {rs : List Row} {m : Int} (hv : rowsValid rs = true) (hm : inB m 1 6 = true) : IsBal rs m (balN rs m) := by
  obtain ⟨hm1, hm6⟩ := inB_iff.1 hm
  obtain ⟨M, rfl⟩ := Int.eq_ofNat_of_zero_le (show 0 ≤ m by omega)
  have hs := sumH_bd (rowsValid_iff.1 hv).1
  have hl := (rowsValid_iff.1 hv).2
  have hfull : fitsB rs (M : Int) ((0 + (sumH rs).toNat : Nat) : Int) = true := by
    rw [show ((0 + (sumH rs).toNat : Nat) : Int) = sumH rs by omega]
    refine (fits_iff hv (by omega)).2 ⟨inB_iff.2 (by omega), ?_⟩
    obtain ⟨k, rfl⟩ : ∃ k, M = k + 1 := ⟨M - 1, by omega⟩
    have h1 := colEnd_le rs (sumH rs) (k + 1) 0 (by omega)
    have h2 : splitN (rs.drop 0) (sumH rs) = rs.length := by rw [List.drop_zero]; exact splitN_all (Int.le_refl _)
    have h3 := colEnd_ge rs (sumH rs) k (0 + splitN (rs.drop 0) (sumH rs))
    rw [h2] at h3
    rw [colEnd, h2] at h1 ⊢
    omega
  obtain ⟨i1, i2, i3⟩ := leastFrom_spec (fun j => fitsB rs (M : Int) (j : Int)) (sumH rs).toNat 0 hfull
  refine ⟨i1, ?_, ?_, fun j hj => i3 j (Nat.zero_le _) hj⟩
  · show ((leastFrom _ _ _ : Nat) : Int) ≤ _; omega
  · show leastFrom _ _ _ ≤ _; omega
end Go.Proofs.Ytnbnkbfebekjhaa
