/- Splitting rows: contracts of impl.split, SplitRows, SplitAll and of the reference's. No condition. -/
import Derived.Test.YtfflnkkhemaanaaHeights
import Derived.Test.YtfflnkkhemaanaaRowsX
namespace Go.Proofs.Ytfflnkkhemaanaa
open Go.RowKit
set_option linter.unusedVariables false

/-- Whether the row i is kept with the next one. -/
def keepAt (rs : List Row) (i : Nat) : Bool := (rs[i]?.map Row.k).getD false
/-- Whether the first n rows may stand in a height. -/
def okAt (rs : List Row) (h : Int) (n : Nat) : Bool := decide (sumH (rs.take n) ≤ h) && (decide (n = rs.length) || !keepAt rs (n - 1))
/-- The greatest number of at most n rows that may stand in a height, or 0. -/
def splitDown (rs : List Row) (h : Int) : Nat → Nat
  | 0 => 0
  | n + 1 => if okAt rs h (n + 1) then n + 1 else splitDown rs h n
def splitN (rs : List Row) (h : Int) : Nat := splitDown rs h rs.length
theorem splitDown_le (rs : List Row) (h : Int) : ∀ n, splitDown rs h n ≤ n
  | 0 => Nat.le_refl _
  | n + 1 => by
    rw [splitDown]; split
    · exact Nat.le_refl _
    · exact Nat.le_trans (splitDown_le rs h n) (Nat.le_succ _)
theorem splitN_le (rs : List Row) (h : Int) : splitN rs h ≤ rs.length := splitDown_le rs h _
theorem splitDown_ok (rs : List Row) (h : Int) : ∀ n, 0 < splitDown rs h n → okAt rs h (splitDown rs h n) = true
  | 0, hp => by simp [splitDown] at hp
  | n + 1, hp => by
    rw [splitDown] at hp ⊢
    split
    · assumption
    · rename_i hno; rw [if_neg hno] at hp; exact splitDown_ok rs h n hp
theorem splitDown_max (rs : List Row) (h : Int) : ∀ n k, splitDown rs h n < k → k ≤ n → okAt rs h k = false
  | 0, k, h1, h2 => by simp [splitDown] at h1; omega
  | n + 1, k, h1, h2 => by
    rw [splitDown] at h1
    split at h1
    · omega
    · rename_i hno
      by_cases hk : k = n + 1
      · subst hk; simpa using hno
      · exact splitDown_max rs h n k h1 (by omega)
def splitRows (rs : List Row) (h : Int) : Int := if rowsValid rs && inB h 0 1000000 then (splitN rs h : Int) else -1
/-- All rows split by several heights: the numbers so far are acc, the first `at` rows are behind. -/
def splitGo (rs : List Row) : List Int → Nat → List Int → Option (List Int × Nat)
  | [], a, acc => some (acc, rs.length - a)
  | h :: t, a, acc => if inB h 0 1000000 then splitGo rs t (a + splitN (rs.drop a) h) (acc ++ [(splitN (rs.drop a) h : Int)]) else none
def ofGo : Option (List Int × Nat) → List Int × Int
  | some (l, n) => (l, (n : Int))
  | none => ([], -1)
def splitAll (rs : List Row) (hs : List Int) : List Int × Int :=
  if rowsValid rs && decide (hs.length ≤ 30) then
    ofGo (splitGo rs hs 0 []) else ([], -1)
theorem keepAt_get {rs : List Row} {i : Nat} {r : Row} (h : rs[i]? = some r) : keepAt rs i = r.k := by simp [keepAt, h]
theorem RowsAt.take {w : World} {A : Option Addr} {n c k : Nat} {rs : List Row} (h : RowsAt w A n c rs) (hk : k ≤ n) : RowsAt w A k c (rs.take k) := by
  refine ⟨?_, by have := h.bd; omega⟩
  rw [flatMap_take Row.cells_len]
  exact h.1.take hk
theorem RowsAt.cut {w : World} {A : Option Addr} {n c i j : Nat} {rs : List Row} (h : RowsAt w A n c rs) (hi : i ≤ j) (hj : j ≤ n) :
    RowsAt w (A.map (·.add (i * 4))) (j - i) (c - i) ((rs.drop i).take (j - i)) := by
  refine ⟨?_, by have := h.bd; omega⟩
  rw [flatMap_take Row.cells_len, flatMap_drop Row.cells_len]
  exact h.1.cut hi hj
theorem RowsAt.congrA {w : World} {A A' : Option Addr} {n c : Nat} {rs : List Row} (h : RowsAt w A n c rs) (e : 0 < n → A' = A) : RowsAt w A' n c rs := ⟨h.1.congrA e, h.2⟩
theorem RowsAt.from_ {w : World} {A : Option Addr} {n c m : Nat} {rs : List Row} (h : RowsAt w A n c rs) (hm : m ≤ n) :
    RowsAt w (if c = m then A else A.map (fun x => x.add (m * 4))) (n - m) (c - m) (rs.drop m) := by
  have h1 := h.cut hm (Nat.le_refl n)
  rw [List.take_of_length_le (by rw [List.length_drop, h.len]; exact Nat.le_refl _)] at h1
  exact h1.congrA (fun hn => by rw [if_neg (by have := h.bd; omega)])
/-- The rest of a slice, its address under one name. -/
theorem rows_from {w : World} {A : Option Addr} {n c m : Nat} {rs : List Row} (h : RowsAt w A n c rs) (hm : m ≤ n) :
    ∃ A1, RowsAt w A1 (n - m) (c - m) (rs.drop m) ∧ ∀ wx : World, (Instr.slice 23 (.slice A n c) (some (.int .i64 (m : Int))) none none).run Try.prog wx = .ok (.slice A1 (n - m) (c - m)) wx := by
  refine ⟨_, h.from_ hm, fun wx => ?_⟩
  have := h.bd
  simp [go_sem, hm]
theorem rowsValid_drop {rs : List Row} (h : rowsValid rs = true) (k : Nat) : rowsValid (rs.drop k) = true := by
  rw [rowsValid_iff] at h ⊢
  exact ⟨all_drop' h.1 k, by rw [List.length_drop]; omega⟩

end Go.Proofs.Ytfflnkkhemaanaa
