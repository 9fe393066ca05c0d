/- Columns of rows: what the program and the reference tell of them. No condition. -/
import Derived.Test.YtnbnkbfebekjhaaSplit2
import Derived.Test.YtnbnkbfebekjhaaSplit3
import Derived.Test.YtnbnkbfebekjhaaIntRow
namespace Go.Proofs.Ytnbnkbfebekjhaa
open Go.RowKit
set_option linter.unusedVariables false

theorem c_in_b {n lo hi : Int} {b : Bool} (h : inB n lo hi = b) (w : World) :
    Calls Try.prog 33 #[.int .i64 n, .int .i64 lo, .int .i64 hi] w fun e w' => e = .returned (.bool b) ∧ w' = w := by
  rw [← h]; exact (c_in n lo hi w).mono (by rintro e w' ⟨rfl, rfl⟩; exact ⟨rfl, rfl⟩)
theorem c_l1In_b {n lo hi : Int} {b : Bool} (h : inB n lo hi = b) (w : World) :
    Calls Try.prog 30 #[.int .i64 n, .int .i64 lo, .int .i64 hi] w fun e w' => e = .returned (.bool b) ∧ w' = w := by
  rw [← h]; exact (c_l1In n lo hi w).mono (by rintro e w' ⟨rfl, rfl⟩; exact ⟨rfl, rfl⟩)
theorem c_rowsValid_b {A : Option Addr} {n c : Nat} {rs : List Row} {b : Bool} (h : rowsValid rs = b) (w : World) (hR : RowsAt w A n c rs) :
    Calls Try.prog 40 #[.slice A n c] w fun e w' => e = .returned (.bool b) ∧ Below w.heap.size w w' := by
  rw [← h]; exact c_rowsValid A n c rs w hR
theorem c_rowsValid_b' {A : Option Addr} {n c : Nat} {rs : List Row} {b : Bool} (h : rowsValid rs = b) (w : World) (hR : RowsAt w A n c rs) :
    Calls Try.prog 29 #[.slice A n c] w fun e w' => e = .returned (.bool b) ∧ Below w.heap.size w w' := by
  rw [← h]; exact c_rowsValid' A n c rs w hR
def fillL (m k : Nat) (y : Int) : List Int := (List.range m).map fun i => if i < k then y else 0
theorem fillL_zero (m : Nat) (y : Int) : fillL m 0 y = List.replicate m 0 := by
  apply List.ext_getElem
  · simp [fillL]
  · intro i h1 h2; simp [fillL]
theorem fillL_full (m : Nat) (y : Int) : fillL m m y = List.replicate m y := by
  apply List.ext_getElem
  · simp [fillL]
  · intro i h1 h2
    have : i < m := by simpa using h2
    simp [fillL, this]
theorem fillL_set {m k : Nat} {y : Int} (hk : k < m) : (fillL m k y).set k y = fillL m (k + 1) y := by
  apply List.ext_getElem
  · simp [fillL]
  · intro i h1 h2
    rw [List.getElem_set]
    by_cases hik : k = i
    · subst hik; simp [fillL]
    · rw [if_neg hik]
      simp only [fillL, List.getElem_map, List.getElem_range]
      by_cases h3 : i < k
      · rw [if_pos h3, if_pos (by omega)]
      · rw [if_neg h3, if_neg (by omega)]
/-- The rows in many columns of a height, and those left over. -/
def colsOf (rs : List Row) (m h : Int) : List Int × Int := if inB m 1 6 then splitAll rs (List.replicate m.toNat h) else ([], -1)
def fitsB (rs : List Row) (m h : Int) : Bool := decide ((colsOf rs m h).2 = 0)
theorem colsOf_out {rs : List Row} {m h : Int} (e : inB m 1 6 = false) : colsOf rs m h = ([], -1) := by rw [colsOf, e]; rfl
theorem colsOf_in {rs : List Row} {M : Nat} {h : Int} (e : inB (M : Int) 1 6 = true) : colsOf rs M h = splitAll rs (List.replicate M h) := by rw [colsOf, e]; rfl
set_option maxHeartbeats 1600000 in
theorem c_columnsFit (A : Option Addr) (n c : Nat) (rs : List Row) (m h : Int) (w : World) (hR : RowsAt w A n c rs) :
    Calls Try.prog 13 #[.slice A n c, .int .i64 m, .int .i64 h] w fun e w' => ∃ A' c', e = .returned (.tuple #[.slice A' (colsOf rs m h).1.length c', .bool (fitsB rs m h)]) ∧ OwnI w' w.heap.size A' c' (colsOf rs m h).1 ∧ Below w.heap.size w w' := by
  have hlen := hR.len
  have hbd := hR.bd
  cases hin : inB m 1 6
  · have H : Hid (colsOf rs m h = ([], -1) ∧ fitsB rs m h = false) := ⟨colsOf_out hin, by rw [fitsB, colsOf_out hin]; rfl⟩
    go_enter Try.func13, Try.ntmps13
    go_wp2_with fail
    refine (c_in_b hin _).mono ?_
    rintro e w1 ⟨rfl, rfl⟩
    go_wp2
    go_ret2
    rw [(unhide H).1, (unhide H).2]
    exact ⟨none, 0, rfl, OwnI.nil_ _ _, Below.refl _ _⟩
  · obtain ⟨hm1, hm6⟩ := inB_iff.1 hin
    obtain ⟨M, rfl⟩ := Int.eq_ofNat_of_zero_le (show 0 ≤ m by omega)
    have HC := hide (colsOf_in (rs := rs) (h := h) hin)
    go_enter Try.func13, Try.ntmps13
    go_wp2_with fail
    refine (c_in_b hin _).mono ?_
    rintro e w1 ⟨rfl, rfl⟩
    obtain ⟨w0, rfl⟩ : ∃ w0 : World, w0 = w1 := ⟨_, rfl⟩
    go_wp2_with fail
    go_loopw [8, 15] (fun v i wr => ∃ (AI : Option Addr) (cI : Nat) (hs : List Int), hs.length ≤ M ∧ i = .int .i64 hs.length ∧ v = .slice AI hs.length cI ∧ Hid (hs = List.replicate hs.length h) ∧ OwnI wr w0.heap.size AI cI hs ∧ Below w0.heap.size w0 wr) (fun _ i _ => M - (intOf i).toNat)
    case atStart => exact ⟨none, 0, [], by simp, by go_num, rfl, rfl, OwnI.nil_ _ _, Below.refl _ _⟩
    case round =>
      obtain ⟨AI, cI, hs, hk, rfl, rfl, hhs, I, B⟩ := hrel
      have hbs := B.size
      by_cases hlt : (hs.length : Int) < (M : Int)
      · go_wp2_with (at_builtin; refine wpList_push_I (w0 := w0) h rfl rfl I rfl rfl (by omega) hbs ?_; intro A6 c6 w6 O6 hg6 hpre; have B6 : Below w0.heap.size w0 w6 := b_own (bmk B _) hpre (Nat.le_refl _) hg6; clear hg6 hpre I B hbs)
        go_roundw
        case rel => exact ⟨A6, c6, hs ++ [h], by simp; omega, by simp, by simp, by show _ = _; rw [List.length_append, List.length_singleton, List.replicate_succ', ← unhide hhs], O6, B6⟩
        case measure => simp [intOf]; omega
      · have hM : hs.length = M := by omega
        have H2 : Hid (colsOf rs (M : Int) h = splitAll rs hs) := by show _ = _; rw [unhide HC, ← hM, ← unhide hhs]
        clear hhs HC hM
        go_wp2_with fail
        refine (c_splitAll A n c rs AI _ cI hs _ (hR.next B) I.at_).mono ?_
        rintro e w2 ⟨A2, c2, rfl, X, hb⟩
        have B2 := bnext B hb
        have X2 := own_base X B.size
        rw [← unhide H2] at X2
        rw [← unhide H2]
        clear hb X I B hR H2
        obtain ⟨q, HQ⟩ : ∃ q, Hid (q = (colsOf rs (M : Int) h).2) := ⟨_, rfl⟩
        rw [← unhide HQ]
        by_cases hq : q = 0
        · have hz : (q == 0) = true := by simp [hq]
          have hf : Hid (fitsB rs (M : Int) h = true) := by show _ = _; rw [fitsB, ← unhide HQ]; simp [hq]
          clear HQ
          go_wp2
          go_ret2
          rw [unhide hf]
          exact ⟨A2, c2, by simp, X2, B2⟩
        · have hz : (q == 0) = false := by simp [hq]
          have hf : Hid (fitsB rs (M : Int) h = false) := by show _ = _; rw [fitsB, ← unhide HQ]; simp [hq]
          clear HQ
          go_wp2
          go_ret2
          rw [unhide hf]
          exact ⟨A2, c2, by simp, X2, B2⟩
set_option maxHeartbeats 1600000 in
theorem c_columnsFit' (A : Option Addr) (n c : Nat) (rs : List Row) (m h : Int) (w : World) (hR : RowsAt w A n c rs) :
    Calls Try.prog 11 #[.slice A n c, .int .i64 m, .int .i64 h] w fun e w' => ∃ A' c', e = .returned (.tuple #[.slice A' (colsOf rs m h).1.length c', .bool (fitsB rs m h)]) ∧ OwnI w' w.heap.size A' c' (colsOf rs m h).1 ∧ Below w.heap.size w w' := by
  obtain ⟨i0, hi, hz0, hz1, hz2⟩ := info_parts infoInt
  have hlen := hR.len
  have hbd := hR.bd
  cases hin : inB m 1 6
  · have H : Hid (colsOf rs m h = ([], -1) ∧ fitsB rs m h = false) := ⟨colsOf_out hin, by rw [fitsB, colsOf_out hin]; rfl⟩
    have E0 : OwnI (w.alloc (.cells #[] 3)) w.heap.size (some ⟨w.heap.size, 0, none⟩) 0 [] := World.ownsRow_made w #[] 0 (Nat.le_refl _) (Nat.zero_le _) rfl
    have hB0 := bof w (.cells #[] 3)
    go_enter Try.func11, Try.ntmps11
    go_wp2_with fail
    refine (c_l1In_b hin _).mono ?_
    rintro e w1 ⟨rfl, rfl⟩
    go_wp2
    go_ret2
    rw [(unhide H).1, (unhide H).2]
    exact ⟨_, 0, rfl, E0, hB0⟩
  · obtain ⟨hm1, hm6⟩ := inB_iff.1 hin
    obtain ⟨M, rfl⟩ := Int.eq_ofNat_of_zero_le (show 0 ≤ m by omega)
    have HC := hide (colsOf_in (rs := rs) (h := h) hin)
    go_enter Try.func11, Try.ntmps11
    go_wp2_with fail
    refine (c_l1In_b hin _).mono ?_
    rintro e w1 ⟨rfl, rfl⟩
    obtain ⟨w0, rfl⟩ : ∃ w0 : World, w0 = w1 := ⟨_, rfl⟩
    go_wp2_with (at_make; refine wpList_make_full _ rfl _ _ 24 rfl w0.heap.size 3 i0 (.int .i64 0) 1 Try.underlying24 hi hz0 hz1 .i64 .i64 (M : Int) (M : Int) M rfl rfl rfl rfl ?b2 ?b3 (Nat.le_refl _) ?_)
    case b2 => rw [hz2]; omega
    case b3 => unfold maxLen; omega
    intro w5 L hg1
    have B5 : Below w0.heap.size w0 w5 := ⟨hg1.os, hg1.tape, hg1.output, hg1.size, fun k hk => hg1.block k hk (by simp)⟩
    obtain ⟨g1, HG1⟩ : ∃ g, Hid (g = w0.heap.size) := ⟨_, rfl⟩
    have L1 : IntRow w5 w0.heap.size g1 M (fillL M 0 h) := by
      unfold IntRow; rw [fillL_zero, ← made_ints, unhide HG1]; exact L
    rw [← unhide HG1]
    have hgb1 := L1.lt.1
    clear L hg1 HG1
    go_wp2
    go_loopw [9] (fun i wr => ∃ k : Nat, k ≤ M ∧ i = .int .i64 k ∧ IntRow wr w0.heap.size g1 M (fillL M k h) ∧ Below w0.heap.size w0 wr) (fun i _ => M - (intOf i).toNat)
    case atStart => exact ⟨0, by omega, by go_num, L1, B5⟩
    case round =>
      clear L1 B5
      obtain ⟨k, hk, rfl, L1, B5⟩ := hrel
      by_cases hlt : (k : Int) < (M : Int)
      · have hfz := L1.fz k
        have hcl := L1.cell (k := k) (x := (fillL M k h)[k]'(by simp [fillL]; omega)) (List.getElem?_eq_getElem _)
        have L2 := L1.put k h
        rw [fillL_set (by omega)] at L2
        have B6 := b_put (k := k) B5 hgb1 (.int .i64 h)
        clear L1 B5
        go_wp2
        go_roundw
        case rel => exact ⟨k + 1, by omega, by go_num, L2, B6⟩
        case measure => simp [intOf]; omega
      · obtain rfl : k = M := by omega
        have H2 : Hid (colsOf rs (k : Int) h = splitAll rs (fillL k k h)) := by show _ = _; rw [unhide HC, fillL_full]
        have LA := L1.at_ (by omega)
        clear L1 HC
        go_wp2_with fail
        refine (c_splitAll' A n c rs _ _ _ _ _ (hR.next B5) LA).mono ?_
        rintro e w2 ⟨A2, c2, rfl, X, hb⟩
        have B2 := bnext B5 hb
        have X2 := own_base X B5.size
        rw [← unhide H2] at X2
        rw [← unhide H2]
        clear hb X LA B5 hR H2
        obtain ⟨q, HQ⟩ : ∃ q, Hid (q = (colsOf rs (k : Int) h).2) := ⟨_, rfl⟩
        rw [← unhide HQ]
        by_cases hq : q = 0
        · have hz : (q == 0) = true := by simp [hq]
          have hf : Hid (fitsB rs (k : Int) h = true) := by show _ = _; rw [fitsB, ← unhide HQ]; simp [hq]
          clear HQ
          go_wp2
          go_ret2
          rw [unhide hf]
          exact ⟨A2, c2, by simp, X2, B2⟩
        · have hz : (q == 0) = false := by simp [hq]
          have hf : Hid (fitsB rs (k : Int) h = false) := by show _ = _; rw [fitsB, ← unhide HQ]; simp [hq]
          clear HQ
          go_wp2
          go_ret2
          rw [unhide hf]
          exact ⟨A2, c2, by simp, X2, B2⟩
end Go.Proofs.Ytnbnkbfebekjhaa
