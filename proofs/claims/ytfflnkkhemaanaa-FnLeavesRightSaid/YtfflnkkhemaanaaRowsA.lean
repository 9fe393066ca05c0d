/- Rows: what the functions on rows compute, as plain functions, and their contracts: a call returns just that and changes nothing that was there. No condition. -/
import Derived.Test.YtfflnkkhemaanaaRows
import Derived.Test.YtfflnkkhemaanaaLib
namespace Go.Proofs.Ytfflnkkhemaanaa
open Go.RowKit
set_option linter.unusedVariables false

structure Row where
  h : Int
  k : Bool
  n : Int
  f : Int
  deriving DecidableEq
def Row.cells (r : Row) : List Value := [.int .i64 r.h, .bool r.k, .int .i64 r.n, .int .i64 r.f]
theorem Row.cells_len (r : Row) : r.cells.length = 4 := rfl
def RowsAt (w : World) (A : Option Addr) (n c : Nat) (rs : List Row) : Prop := Sl w A n c 4 (rs.flatMap Row.cells)
section rows
variable {w w' : World} {A : Option Addr} {n c k : Nat} {rs : List Row}
theorem RowsAt.len (h : RowsAt w A n c rs) : rs.length = n := by
  have := Rd.len h.1; rw [flatMap_len Row.cells_len] at this; omega
theorem RowsAt.next (h : RowsAt w A n c rs) (hb : Below w.heap.size w w') : RowsAt w' A n c rs := Sl.next h hb
theorem RowsAt.below {B : Nat} (h : RowsAt w A n c rs) (hB : w.heap.size ≤ B) (hb : Below B w w') : RowsAt w' A n c rs := Sl.below h hB hb
theorem RowsAt.bd (h : RowsAt w A n c rs) : n ≤ c ∧ c ≤ 9223372036854775807 := h.2
theorem RowsAt.at_ (h : RowsAt w A n c rs) (hk : k < n) : ∃ b off r, A = some ⟨b, off, none⟩ ∧ b < w.heap.size ∧ rs[k]? = some r ∧
    w.cell? ⟨b, off + k * 4, none⟩ = some (.int .i64 r.h) ∧ w.cell? ⟨b, off + k * 4 + 1, none⟩ = some (.bool r.k) ∧
    w.cell? ⟨b, off + k * 4 + 2, none⟩ = some (.int .i64 r.n) ∧ w.cell? ⟨b, off + k * 4 + 3, none⟩ = some (.int .i64 r.f) := by
  obtain ⟨b, off, e, hl, hc⟩ := Rd.cells h.1 (by omega)
  have hlen := h.len
  have hx : rs[k]? = some (rs[k]'(by omega)) := List.getElem?_eq_getElem (by omega)
  have hg := fun j hj => flatMap_get Row.cells_len rs k j _ hx hj
  refine ⟨b, off, _, e, hl, hx, ?_, ?_, ?_, ?_⟩
  · exact hc (k * 4 + 0) _ (hg 0 (by omega))
  · exact hc (k * 4 + 1) _ (hg 1 (by omega))
  · exact hc (k * 4 + 2) _ (hg 2 (by omega))
  · exact hc (k * 4 + 3) _ (hg 3 (by omega))
end rows

def inB (n lo hi : Int) : Bool := decide (lo ≤ n) && decide (n ≤ hi)
theorem inB_iff {n lo hi : Int} : inB n lo hi = true ↔ lo ≤ n ∧ n ≤ hi := by simp [inB]
theorem inB_not {n lo hi : Int} : inB n lo hi = false ↔ n < lo ∨ hi < n := by rw [← Bool.not_eq_true, inB_iff]; omega
def rowValid (r : Row) : Bool := inB r.h 1 1000 && inB r.n 0 1000 && inB r.f 0 1000
def rowsValid (rs : List Row) : Bool := rs.all rowValid && decide (rs.length ≤ 30)
/-- The sum of the heights. -/
def sumH (rs : List Row) : Int := (rs.map Row.h).sum
def heightOf (rs : List Row) : Int := if rowsValid rs then sumH rs else -1
theorem sumH_nil : sumH [] = 0 := rfl
theorem sumH_append (a b : List Row) : sumH (a ++ b) = sumH a + sumH b := by simp [sumH, List.sum_append]
theorem sumH_snoc {rs : List Row} {k : Nat} {r : Row} (h : rs[k]? = some r) : sumH (rs.take (k + 1)) = sumH (rs.take k) + r.h := by
  rw [take_snoc' h, sumH_append]; simp [sumH]
theorem sumH_bd : ∀ {rs : List Row}, rs.all rowValid = true → 0 ≤ sumH rs ∧ sumH rs ≤ rs.length * 1000
  | [], _ => by simp [sumH]
  | r :: t, h => by
    simp only [List.all_cons, Bool.and_eq_true] at h
    have ih := sumH_bd h.2
    have hr := h.1
    simp only [rowValid, Bool.and_eq_true, inB_iff] at hr
    have : sumH (r :: t) = r.h + sumH t := by simp [sumH]
    rw [this, List.length_cons]; omega
theorem all_sub {rs : List Row} {l : List Row} (h : rs.all rowValid = true) (hs : ∀ r ∈ l, r ∈ rs) : l.all rowValid = true := by
  rw [List.all_eq_true] at h ⊢; exact fun r hr => h r (hs r hr)
theorem all_take' {rs : List Row} (h : rs.all rowValid = true) (k : Nat) : (rs.take k).all rowValid = true := all_sub h fun _ hr => List.mem_of_mem_take hr
theorem all_drop' {rs : List Row} (h : rs.all rowValid = true) (k : Nat) : (rs.drop k).all rowValid = true := all_sub h fun _ hr => List.mem_of_mem_drop hr
theorem rowsValid_iff {rs : List Row} : rowsValid rs = true ↔ rs.all rowValid = true ∧ rs.length ≤ 30 := by simp [rowsValid]

/-! ### contracts -/
set_option maxHeartbeats 400000 in
theorem c_in (n lo hi : Int) (w : World) :
    Calls Try.prog 40 #[.int .i64 n, .int .i64 lo, .int .i64 hi] w fun e w' => e = .returned (.bool (inB n lo hi)) ∧ w = w' := by
  by_cases h1 : lo ≤ n
  all_goals
    go_enter Try.func40, Try.ntmps40
    go_wp2
    go_ret
    exact ⟨by simp [inB, *]; try omega, rfl⟩
set_option maxHeartbeats 400000 in
theorem c_l1In (n lo hi : Int) (w : World) :
    Calls Try.prog 43 #[.int .i64 n, .int .i64 lo, .int .i64 hi] w fun e w' => e = .returned (.bool (inB n lo hi)) ∧ w = w' := by
  by_cases h1 : lo ≤ n
  all_goals
    go_enter Try.func43, Try.ntmps43
    go_wp2
    go_ret
    exact ⟨by simp [inB, *]; try omega, rfl⟩
set_option maxHeartbeats 400000 in
theorem c_isHeight (n : Int) (w : World) :
    Calls Try.prog 62 #[.int .i64 n] w fun e w' => e = .returned (.bool (inB n 1 1000)) ∧ w = w' := by
  go_enter Try.func62, Try.ntmps62
  go_wp2_with (go_at_call 40; refine (c_in _ _ _ _).mono ?_; rintro e w' ⟨rfl, rfl⟩)
  go_ret
  exact ⟨rfl, rfl⟩
set_option maxHeartbeats 400000 in
theorem c_rowValid (r : Row) (w : World) :
    Calls Try.prog 60 #[.agg #[.int .i64 r.h, .bool r.k, .int .i64 r.n, .int .i64 r.f]] w fun e w' => e = .returned (.bool (rowValid r)) ∧ Below w.heap.size w w' := by
  cases h1 : inB r.h 1 1000 <;> cases h2 : inB r.n 0 1000
  all_goals
    go_enter Try.func60, Try.ntmps60
    go_wp2_with (first | (go_at_call 62; refine (c_isHeight _ _).mono ?_; rintro e w' ⟨rfl, rfl⟩) | (go_at_call 40; refine (c_in _ _ _ _).mono ?_; rintro e w' ⟨rfl, rfl⟩))
    go_ret
    exact ⟨by simp [rowValid, *], bof _ _⟩
set_option maxHeartbeats 400000 in
theorem c_rowValid' (r : Row) (w : World) :
    Calls Try.prog 61 #[.agg #[.int .i64 r.h, .bool r.k, .int .i64 r.n, .int .i64 r.f]] w fun e w' => e = .returned (.bool (rowValid r)) ∧ Below w.heap.size w w' := by
  cases h1 : inB r.h 1 1000 <;> cases h2 : inB r.n 0 1000
  all_goals
    go_enter Try.func61, Try.ntmps61
    go_wp2_with (go_at_call 43; refine (c_l1In _ _ _ _).mono ?_; rintro e w' ⟨rfl, rfl⟩)
    go_ret
    exact ⟨by simp [rowValid, *], bof _ _⟩

set_option maxHeartbeats 400000 in
theorem c_rowsValid (A : Option Addr) (n c : Nat) (rs : List Row) (w : World) (hR : RowsAt w A n c rs) :
    Calls Try.prog 39 #[.slice A n c] w fun e w' => e = .returned (.bool (rowsValid rs)) ∧ Below w.heap.size w w' := by
  have hbd := hR.bd
  go_enter Try.func39, Try.ntmps39
  go_wp2
  go_loopw [7] (fun i wr => ∃ k : Nat, k ≤ n ∧ i = .int .i64 k ∧ (rs.take k).all rowValid = true ∧ Below w.heap.size w wr) (fun i _ => n - (intOf i).toNat)
  case atStart => exact ⟨0, Nat.zero_le _, rfl, rfl, Below.refl _ _⟩
  case round =>
    obtain ⟨k, hk, rfl, hv, hbel⟩ := hrel
    by_cases hlt : k < n
    · obtain ⟨b, off, r, rfl, hb, hr, h0, h1, h2, h3⟩ := (hR.next hbel).at_ hlt
      go_wp2_with fail
      refine (c_rowValid r _).mono ?_
      rintro e w1 ⟨rfl, hb1⟩
      have hbel' := bnext (bmk hbel _) hb1
      cases hrv : rowValid r
      · go_wp2
        go_ret
        exact ⟨by rw [rowsValid, all_not hr hrv]; rfl, hbel'⟩
      · go_wp2
        go_roundw
        case rel => exact ⟨k + 1, by omega, by go_num, all_snoc hr hv hrv, hbel'⟩
        case measure => simp [intOf]; omega
    · have hlen := hR.len
      have hall := all_end (l := rs) (by omega) hv
      go_wp2
      go_ret
      exact ⟨by rw [rowsValid, hall, hlen]; simp; omega, hbel⟩
set_option maxHeartbeats 400000 in
theorem c_rowsValid' (A : Option Addr) (n c : Nat) (rs : List Row) (w : World) (hR : RowsAt w A n c rs) :
    Calls Try.prog 42 #[.slice A n c] w fun e w' => e = .returned (.bool (rowsValid rs)) ∧ Below w.heap.size w w' := by
  have hbd := hR.bd
  go_enter Try.func42, Try.ntmps42
  go_wp2
  go_loopw [3] (fun i wr => ∃ k : Nat, k ≤ n ∧ i = .int .i64 k ∧ (rs.take k).all rowValid = true ∧ Below w.heap.size w wr) (fun i _ => n - (intOf i).toNat)
  case atStart => exact ⟨0, Nat.zero_le _, rfl, rfl, Below.refl _ _⟩
  case round =>
    obtain ⟨k, hk, rfl, hv, hbel⟩ := hrel
    by_cases hlt : k < n
    · obtain ⟨b, off, r, rfl, hb, hr, h0, h1, h2, h3⟩ := (hR.next hbel).at_ hlt
      go_wp2_with fail
      refine (c_rowValid' r _).mono ?_
      rintro e w1 ⟨rfl, hb1⟩
      have hbel' := bnext hbel hb1
      cases hrv : rowValid r
      · go_wp2
        go_ret
        exact ⟨by rw [rowsValid, all_not hr hrv]; rfl, hbel'⟩
      · go_wp2
        go_roundw
        case rel => exact ⟨k + 1, by omega, by go_num, all_snoc hr hv hrv, hbel'⟩
        case measure => simp [intOf]; omega
    · have hlen := hR.len
      have hall := all_end (l := rs) (by omega) hv
      go_wp2
      go_ret
      exact ⟨by rw [rowsValid, hall, hlen]; simp; omega, hbel⟩
end Go.Proofs.Ytfflnkkhemaanaa
