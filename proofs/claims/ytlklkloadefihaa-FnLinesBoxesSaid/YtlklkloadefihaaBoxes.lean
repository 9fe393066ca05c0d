/- The boxes of items: BoxesOf's contract; the boxes of a line and of all lines in plain words. No condition. -/
import Derived.Test.YtlklkloadefihaaFullQ
import Derived.Test.YtlklkloadefihaaMc
namespace Go.Proofs.Ytlklkloadefihaa
open Go.RowKit
set_option linter.unusedVariables false

def boxB (rs : List Item) (n : Nat) : Bool := decide ((itAt rs n).kind = 1)
def bxTo (rs : List Item) (m : Nat) : List Int := ((List.range m).filter (boxB rs)).map fun n => (itAt rs n).w
def boxesOf (rs : List Item) : List Int := if itemsValid rs then bxTo rs rs.length else []
theorem bxTo_yes {rs : List Item} {m : Nat} (h : (itAt rs m).kind = 1) : bxTo rs (m + 1) = bxTo rs m ++ [(itAt rs m).w] := by
  unfold bxTo; rw [List.range_succ, List.filter_append]; simp [boxB, h]
theorem bxTo_no {rs : List Item} {m : Nat} (h : (itAt rs m).kind ≠ 1) : bxTo rs (m + 1) = bxTo rs m := by
  unfold bxTo; rw [List.range_succ, List.filter_append]; simp [boxB, h]
theorem bxTo_len (rs : List Item) (m : Nat) : (bxTo rs m).length ≤ m := by
  unfold bxTo; rw [List.length_map]
  have := List.length_filter_le (boxB rs) (List.range m)
  simpa using this
theorem skip_of {rs : List Item} : ∀ (d k n : Nat), rs.length - k ≤ d → k ≤ n → n < startOf rs k → (itAt rs n).kind ≠ 1
  | 0, k, n, hd, hk, hn => by rw [startOf_end (by omega)] at hn; omega
  | d + 1, k, n, hd, hk, hn => by
    rcases Nat.lt_or_ge k rs.length with h1 | h1
    · cases hs : skipB (itAt rs k)
      · rw [startOf_stop (get_itAt h1) hs] at hn; omega
      · rw [startOf_go (get_itAt h1) hs] at hn
        by_cases he : n = k
        · subst he
          simp only [skipB, Bool.and_eq_true, Bool.not_eq_true', decide_eq_false_iff_not] at hs
          exact hs.1
        · exact skip_of d (k + 1) n (by omega) (by omega) hn
    · rw [startOf_end h1] at hn; omega
theorem range_split {p : Nat → Bool} {a : Nat} : ∀ {m : Nat}, a ≤ m → (List.range m).filter p = (List.range a).filter p ++ (List.range m).filter (fun n => decide (a ≤ n) && p n)
  | 0, h => by
    have : a = 0 := by omega
    subst this; simp
  | m + 1, h => by
    by_cases ha : a = m + 1
    · subst ha
      have : (List.range (m + 1)).filter (fun n => decide (m + 1 ≤ n) && p n) = [] := by
        rw [List.filter_eq_nil_iff]; intro x hx; simp at hx ⊢; omega
      rw [this, List.append_nil]
    · have e : [m].filter p = [m].filter (fun n => decide (a ≤ n) && p n) := by simp [List.filter_cons, show a ≤ m by omega]
      rw [List.range_succ, List.filter_append, List.filter_append, range_split (p := p) (a := a) (m := m) (by omega), List.append_assoc, e]
/-- The boxes of a line are the boxes between its ends. -/
theorem line_boxes {rs : List Item} {after to : Int} {width : Int} (h : okS rs after to width = true) :
    bxTo rs (to + 1).toNat = bxTo rs (after + 1).toNat ++ (setPs rs after to width).map fun p => (itAt rs p.at_.toNat).w := by
  have hk : okL rs after to = true := by simp only [okS, Bool.and_eq_true] at h; exact h.1
  obtain ⟨hv, hl⟩ := okL_iff.1 hk
  obtain ⟨hv1, _⟩ := itemsValid_iff.1 hv
  have hb := lineOk_bd hl
  have hto : mayB rs to = true := by simp only [lineOk, Bool.and_eq_true] at hl; exact hl.2.1
  have hst : (startOf rs (after + 1).toNat : Int) ≤ to := by simp only [lineOk, Bool.and_eq_true, decide_eq_true_eq] at hl; exact hl.2.2.2.1
  have hbk : breakB rs to.toNat = true := by simp only [mayB, Bool.and_eq_true] at hto; exact hto.2
  have e1 : (to + 1).toNat = to.toNat + 1 := by omega
  rw [e1, bxTo_no (by have := break_kind hbk; omega)]
  have e2 : (setPs rs after to width).map (fun p => (itAt rs p.at_.toNat).w) = ((lineL rs after to).filter fun n => !decide ((itAt rs n).kind = 2)).map fun n => (itAt rs n).w := by
    have e3 : (setPs rs after to width).map (fun p => (itAt rs p.at_.toNat).w) = ((setPs rs after to width).map Placed.at_).map (fun x : Int => (itAt rs x.toNat).w) := by simp
    rw [e3, setPs_at h, ints, List.map_map]
    apply List.map_congr_left
    intro n _
    simp
  rw [e2]
  unfold bxTo
  have hge := startOf_ge rs (after + 1).toNat
  rw [range_split (p := boxB rs) (a := (after + 1).toNat) (m := to.toNat) (by omega), List.map_append]
  congr 2
  unfold lineL idxs
  rw [List.filter_filter]
  apply List.filter_congr
  intro n hn
  have hn' : n < to.toNat := by simpa using hn
  have hkd := kind_of (itAt_valid hv1 (show n < rs.length by omega))
  by_cases h1 : (itAt rs n).kind = 1
  · have h4 : (startOf rs (after + 1).toNat ≤ n) ↔ (after + 1).toNat ≤ n := by
      refine ⟨fun h => by omega, fun h5 => ?_⟩
      rcases Nat.lt_or_ge n (startOf rs (after + 1).toNat) with h6 | h6
      · exact absurd h1 (skip_of _ _ n (Nat.le_refl _) h5 h6)
      · exact h6
    simp [boxB, h1, h4]
  · rcases hkd with h2 | h2 | h2
    · exact absurd h2 h1
    · simp [boxB, h2]
    · simp [boxB, h2]
set_option maxRecDepth 100000 in
set_option maxHeartbeats 1600000 in
theorem c_boxesOf (A : Option Addr) (n c : Nat) (rs : List Item) (w : World) (hR : ItemsAt w A n c rs) :
    Calls Try.prog 38 #[.slice A n c] w fun e w' => ∃ A' c', e = .returned (.slice A' (boxesOf rs).length c') ∧ OwnI w' w.heap.size A' c' (boxesOf rs) ∧ Below w.heap.size w w' := by
  have hlen := hR.len
  have hbd := hR.bd
  subst hlen
  go_enter Try.func38, Try.ntmps38
  go_wp2_with fail
  refine (c_itemsValid A _ c rs _ hR).mono ?_
  rintro e w1 ⟨rfl, hb1⟩
  cases hv : itemsValid rs
  · have HB : Hid (boxesOf rs = []) := by show _ = _; rw [boxesOf, hv]; rfl
    clear hv
    go_wp2
    go_ret
    rw [unhide HB]
    exact ⟨none, 0, rfl, OwnI.nil_ _ _, hb1⟩
  · have HB : Hid (boxesOf rs = bxTo rs rs.length) := by show _ = _; rw [boxesOf, hv]; rfl
    have hn60 := (itemsValid_iff.1 hv).2
    clear hv
    go_wp2
    go_loopw [3, 11] (fun v i wr => ∃ (k : Nat) (A' : Option Addr) (c' : Nat) (es : List Int), k ≤ rs.length ∧ i = .int .i64 k ∧ v = .slice A' es.length c' ∧ Hid (es = bxTo rs k) ∧ es.length ≤ k ∧ OwnI wr w.heap.size A' c' es ∧ Below w.heap.size w wr) (fun _ i _ => rs.length - (intOf i).toNat)
    case atStart => exact ⟨0, none, 0, [], Nat.zero_le _, rfl, rfl, rfl, Nat.le_refl _, OwnI.nil_ _ _, hb1⟩
    case round =>
      clear hb1
      obtain ⟨k, A', c', es, hk, rfl, rfl, HE, hel, I, B⟩ := hrel
      have hws := B.size
      by_cases hlt : k < rs.length
      · obtain ⟨b, off, r, rfl, hbl, hr, d0, d1, d2, d3, d4, d5, d6⟩ := (hR.next B).at_ hlt
        have hit := itAt_of hr
        have q := Blk.new wr 51 #[.int .i64 r.kind, .int .i64 r.w, .int .i64 r.st, .int .i64 r.sh, .int .i64 r.od, .int .i64 r.cost, .bool r.mark]
        have k0 := q.cell 0
        have k1 := q.cell 1
        have I2 : OwnI _ w.heap.size A' c' es := World.ownsRow.alloc I (.cells #[.int .i64 r.kind, .int .i64 r.w, .int .i64 r.st, .int .i64 r.sh, .int .i64 r.od, .int .i64 r.cost, .bool r.mark] 51)
        have B2 := bmk B (.cells #[.int .i64 r.kind, .int .i64 r.w, .int .i64 r.st, .int .i64 r.sh, .int .i64 r.od, .int .i64 r.cost, .bool r.mark] 51)
        clear q hr
        by_cases hk1 : r.kind = 1
        · have g1 : (r.kind == 1) = true := by simp [hk1]
          have HN : Hid (es ++ [r.w] = bxTo rs (k + 1)) := by show _ = _; rw [bxTo_yes (by rw [hit]; exact hk1), hit, ← unhide HE]
          clear hit hk1 HE
          go_wp2_with (at_builtin; refine wpList_push_L r.w rfl rfl I2 rfl rfl (by simp) (by omega) (by simp; omega) ?_; intro A6 c6 w6 I6 hg6 hpre _; have B6 : Below w.heap.size w w6 := b_own (bmk B2 _) hpre (Nat.le_refl _) hg6; clear hg6 hpre I I2 B B2)
          go_roundw
          case rel => exact ⟨k + 1, A6, c6, es ++ [r.w], by omega, by go_num, by simp, HN, by simp; omega, I6, B6⟩
          case measure => simp [intOf]; omega
        · have g1 : (r.kind == 1) = false := by simp [hk1]
          have HN : Hid (es = bxTo rs (k + 1)) := by show _ = _; rw [bxTo_no (by rw [hit]; exact hk1), ← unhide HE]
          clear hit hk1 HE
          go_wp2
          go_roundw
          case rel => exact ⟨k + 1, A', c', es, by omega, by go_num, rfl, HN, by omega, I2, B2⟩
          case measure => simp [intOf]; omega
      · obtain rfl : rs.length = k := by omega
        have he := unhide HE
        go_wp2
        go_ret
        rw [unhide HB, ← he]
        exact ⟨_, _, rfl, I, B⟩
end Go.Proofs.Ytlklkloadefihaa
