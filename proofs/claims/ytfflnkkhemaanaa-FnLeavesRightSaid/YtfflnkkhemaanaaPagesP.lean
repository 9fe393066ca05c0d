/- Pages: what the functions compute, as plain functions. No condition. -/
import Derived.Test.YtfflnkkhemaanaaSplit
namespace Go.Proofs.Ytfflnkkhemaanaa
open Go.RowKit
set_option linter.unusedVariables false

/-- Whether the rows from a up to z may be a page of the height h. -/
def pageOk (rs : List Row) (h : Int) (a z : Nat) : Bool := okAt (rs.drop a) h (z - a)
/-- The height of the rows from a up to z. -/
def seg (rs : List Row) (a z : Nat) : Int := sumH ((rs.drop a).take (z - a))
def pCost (rs : List Row) (h : Int) (a z : Nat) : Int := if pageOk rs h a z then (if z = rs.length then 0 else (h - seg rs a z) * (h - seg rs a z)) else -1
theorem keep_drop (rs : List Row) {a z : Nat} (h : a < z) : keepAt (rs.drop a) (z - a - 1) = keepAt rs (z - 1) := by
  unfold keepAt; rw [List.getElem?_drop, show a + (z - a - 1) = z - 1 by omega]
theorem pageOk_eq (rs : List Row) (h : Int) {a z : Nat} (h1 : a < z) (h2 : z ≤ rs.length) : pageOk rs h a z = (decide (seg rs a z ≤ h) && (decide (z = rs.length) || !keepAt rs (z - 1))) := by
  rw [pageOk, okAt, keep_drop rs h1, seg, List.length_drop]
  congr 2
  rw [Bool.eq_iff_iff]; simp; omega
theorem seg_bd {rs : List Row} (hv : rs.all rowValid = true) (hl : rs.length ≤ 30) (a z : Nat) : 0 ≤ seg rs a z ∧ seg rs a z ≤ 30000 := by
  have h1 := sumH_bd (rs := (rs.drop a).take (z - a)) (all_sub hv (fun r hr => List.mem_of_mem_drop (List.mem_of_mem_take hr)))
  have h2 : ((rs.drop a).take (z - a)).length ≤ 30 := by rw [List.length_take, List.length_drop]; omega
  rw [seg]; omega
theorem pCost_bd {rs : List Row} {h : Int} (hv : rs.all rowValid = true) (hl : rs.length ≤ 30) (hh : 1 ≤ h ∧ h ≤ 1000) {a z : Nat} (h1 : a < z) (h2 : z ≤ rs.length) : -1 ≤ pCost rs h a z ∧ pCost rs h a z ≤ 1000000 := by
  unfold pCost
  split
  · rename_i hok
    rw [pageOk_eq rs h h1 h2] at hok
    simp only [Bool.and_eq_true, decide_eq_true_eq] at hok
    have hs := seg_bd hv hl a z
    split
    · omega
    · have h3 : 0 ≤ h - seg rs a z := by omega
      have h4 : h - seg rs a z ≤ 1000 := by omega
      have h5 : 0 ≤ (h - seg rs a z) * (h - seg rs a z) := Int.mul_nonneg h3 h3
      have h6 : (h - seg rs a z) * (h - seg rs a z) ≤ 1000 * 1000 := Int.mul_le_mul h4 h4 h3 (by omega)
      omega
  · omega
theorem pCost_nonneg {rs : List Row} {h : Int} {a z : Nat} : 0 ≤ pCost rs h a z ↔ pageOk rs h a z = true := by
  unfold pCost
  split
  · rename_i hok
    simp only [hok, iff_true]
    split
    · omega
    · rcases Int.le_total 0 (h - seg rs a z) with h3 | h3
      · exact Int.mul_nonneg h3 h3
      · exact Int.mul_nonneg_of_nonpos_of_nonpos h3 h3
  · rename_i hok
    simp [hok]
/-- The cost of pages from the row a on, if they are pages. -/
def costGo (rs : List Row) (h : Int) : Nat → List Int → Option Int
  | a, [] => if a = rs.length then some 0 else none
  | a, x :: t => if inB x (a + 1) rs.length && pageOk rs h a x.toNat then (costGo rs h x.toNat t).map (pCost rs h a x.toNat + ·) else none
def argsOk (rs : List Row) (h : Int) : Bool := rowsValid rs && inB h 1 1000
def pagesCost (rs : List Row) (h : Int) (es : List Int) : Int := if argsOk rs h then (costGo rs h 0 es).getD (-1) else -1
theorem costGo_len (rs : List Row) (h : Int) : ∀ (es : List Int) (a : Nat) (s : Int), costGo rs h a es = some s → a + es.length ≤ rs.length
  | [], a, s, e => by
    rw [costGo] at e
    split at e
    · simp; omega
    · cases e
  | x :: t, a, s, e => by
    rw [costGo] at e
    split at e
    · rename_i hc
      rw [Bool.and_eq_true, inB_iff] at hc
      cases hg : costGo rs h x.toNat t with
      | none => rw [hg] at e; cases e
      | some u =>
        have := costGo_len rs h t _ u hg
        simp only [List.length_cons]; omega
    · cases e
theorem costGo_nonneg (rs : List Row) (h : Int) : ∀ (es : List Int) (a : Nat) (s : Int), costGo rs h a es = some s → 0 ≤ s
  | [], a, s, e => by
    rw [costGo] at e
    split at e
    · have := Option.some.inj e; omega
    · cases e
  | x :: t, a, s, e => by
    rw [costGo] at e
    split at e
    · rename_i hc
      rw [Bool.and_eq_true] at hc
      cases hg : costGo rs h x.toNat t with
      | none => rw [hg] at e; cases e
      | some u =>
        rw [hg] at e
        have h1 := costGo_nonneg rs h t _ u hg
        have h2 := pCost_nonneg.2 hc.2
        have h3 : pCost rs h a x.toNat + u = s := Option.some.inj e
        omega
    · cases e
/-- The first pages from the row a on. -/
def firstGo (rs : List Row) (h : Int) : Nat → Nat → Option (List Int)
  | 0, a => if a < rs.length then none else some []
  | f + 1, a => if a < rs.length then
      (if splitN (rs.drop a) h = 0 then none else (firstGo rs h f (a + splitN (rs.drop a) h)).map (((a + splitN (rs.drop a) h : Nat) : Int) :: ·))
    else some []
def firstOf (rs : List Row) (h : Int) : Option (List Int) := if argsOk rs h then firstGo rs h rs.length 0 else none
def firstPages (rs : List Row) (h : Int) : List Int := (firstOf rs h).getD []
theorem firstGo_len (rs : List Row) (h : Int) : ∀ (f a : Nat) (l : List Int), firstGo rs h f a = some l → l.length ≤ f
  | 0, a, l, e => by
    rw [firstGo] at e
    split at e
    · cases e
    · have := Option.some.inj e; subst this; simp
  | f + 1, a, l, e => by
    rw [firstGo] at e
    split at e
    · split at e
      · cases e
      · cases hg : firstGo rs h f (a + splitN (rs.drop a) h) with
        | none => rw [hg] at e; cases e
        | some u =>
          rw [hg] at e
          have h1 := firstGo_len rs h f _ u hg
          have := Option.some.inj e
          subst this; simp; omega
    · have := Option.some.inj e; subst this; simp
theorem firstPages_len (rs : List Row) (h : Int) : (firstPages rs h).length ≤ 30 := by
  unfold firstPages firstOf
  split
  · rename_i hk
    cases hg : firstGo rs h rs.length 0 with
    | none => simp
    | some l =>
      have := firstGo_len rs h _ _ l hg
      simp only [argsOk, Bool.and_eq_true] at hk
      have := (rowsValid_iff.1 hk.1).2
      simp; omega
  · simp
/-! ### the best pages -/
/-- What is known of the pages from a row on: the least cost (or -1) and where the first one ends. -/
structure Best where
  cost : Int
  next : Nat
/-- A candidate: the first page ends with z, the rest costs what is known there. -/
def better (c : Int) (z : Nat) (b : Best) : Best := if b.cost < 0 ∨ c < b.cost then ⟨c, z⟩ else b
def stepDown (rs : List Row) (h : Int) (least : Nat → Int) (a : Nat) (z : Nat) (b : Best) : Best :=
  if pCost rs h a z < 0 ∨ least z < 0 then b else better (pCost rs h a z + least z) z b
/-- The ends z = a + j down to a + 1 have been looked at. -/
def lookDown (rs : List Row) (h : Int) (least : Nat → Int) (a : Nat) (n : Nat) : Nat → Best
  | 0 => ⟨-1, 0⟩
  | j + 1 => stepDown rs h least a (n - j) (lookDown rs h least a n j)
def bestAt (rs : List Row) (h : Int) (least : Nat → Int) (a : Nat) : Best := lookDown rs h least a rs.length (rs.length - a)
/-- The table from the row n - j on. -/
def tab (rs : List Row) (h : Int) : Nat → Nat → Best
  | 0 => fun i => ⟨0, 0⟩
  | j + 1 => fun i => if i = rs.length - (j + 1) then bestAt rs h (fun z => (tab rs h j z).cost) i else tab rs h j i
def bestTab (rs : List Row) (h : Int) : Nat → Best := tab rs h rs.length
def follow (rs : List Row) (t : Nat → Best) : Nat → Nat → List Int
  | 0, _ => []
  | f + 1, a => if a < rs.length then ((t a).next : Int) :: follow rs t f (t a).next else []
def bestOf (rs : List Row) (h : Int) : Option (List Int) := if argsOk rs h && decide (0 ≤ (bestTab rs h 0).cost) then some (follow rs (bestTab rs h) rs.length 0) else none
def bestPages (rs : List Row) (h : Int) : List Int := (bestOf rs h).getD []
theorem follow_len (rs : List Row) (t : Nat → Best) : ∀ f a, (follow rs t f a).length ≤ f
  | 0, _ => by simp [follow]
  | f + 1, a => by
    rw [follow]; split
    · have := follow_len rs t f (t a).next; simp; omega
    · simp
theorem bestPages_len (rs : List Row) (h : Int) : (bestPages rs h).length ≤ 30 := by
  unfold bestPages bestOf
  split
  · rename_i hk
    have := follow_len rs (bestTab rs h) rs.length 0
    simp only [argsOk, Bool.and_eq_true] at hk
    have := (rowsValid_iff.1 hk.1.1).2
    simp; omega
  · simp
end Go.Proofs.Ytfflnkkhemaanaa
