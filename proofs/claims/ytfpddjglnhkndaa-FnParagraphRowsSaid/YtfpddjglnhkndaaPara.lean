/- Paragraphs become rows: contracts of ParagraphRows, the program's and the reference's. No condition. -/
import Derived.Test.YtfpddjglnhkndaaRowsX
namespace Go.Proofs.Ytfpddjglnhkndaa
open Go.RowKit
set_option linter.unusedVariables false

/-- The row j of a paragraph of n lines. -/
def paraRow (h : Int) (n j : Nat) : Row := ⟨h, (decide (j = 0) && decide (2 ≤ n)) || (decide (j + 2 = n) && decide (3 ≤ n)), 0, 0⟩
theorem para_case (h : Int) (m j : Nat) (hj : j < m) :
    (((j : Int) == 0) = true ∧ decide ((2 : Int) ≤ (m : Int)) = true ∧ decide ((1 : Int) < (m : Int)) = true ∧ paraRow h m j = ⟨h, true, 0, 0⟩) ∨
    (((j : Int) == 0) = true ∧ decide ((2 : Int) ≤ (m : Int)) = false ∧ decide ((1 : Int) < (m : Int)) = false ∧ ((j : Int) == (m : Int) - 2) = false ∧ paraRow h m j = ⟨h, false, 0, 0⟩) ∨
    (((j : Int) == 0) = false ∧ ((j : Int) == (m : Int) - 2) = true ∧ decide ((3 : Int) ≤ (m : Int)) = true ∧ decide ((2 : Int) < (m : Int)) = true ∧ paraRow h m j = ⟨h, true, 0, 0⟩) ∨
    (((j : Int) == 0) = false ∧ ((j : Int) == (m : Int) - 2) = false ∧ paraRow h m j = ⟨h, false, 0, 0⟩) := by
  by_cases h0 : j = 0
  · by_cases h2 : 2 ≤ m
    · exact .inl ⟨by simp [h0], by simp; omega, by simp; omega, by simp [paraRow, h0, h2]⟩
    · exact .inr (.inl ⟨by simp [h0], by simp; omega, by simp; omega, by simp; omega, by simp [paraRow, h2]; omega⟩)
  · by_cases h2 : j + 2 = m
    · exact .inr (.inr (.inl ⟨by simp; omega, by simp; omega, by simp; omega, by simp; omega, by simp [paraRow, h0, h2]; omega⟩))
    · exact .inr (.inr (.inr ⟨by simp; omega, by simp; omega, by simp [paraRow, h0, h2]⟩))
def paraGo (h : Int) : List Int → List Row → Option (List Row)
  | [], acc => some acc
  | n :: t, acc => if 1 ≤ n ∧ n ≤ 30 - (acc.length : Int) then paraGo h t (acc ++ (List.range n.toNat).map (paraRow h n.toNat)) else none
def paraRows (lines : List Int) (h : Int) : List Row := if inB h 1 1000 then (paraGo h lines []).getD [] else []
theorem paraGo_len (h : Int) : ∀ (l : List Int) (acc r : List Row), acc.length ≤ 30 → paraGo h l acc = some r → r.length ≤ 30
  | [], acc, r, h0, e => by simp [paraGo] at e; subst e; exact h0
  | n :: t, acc, r, h0, e => by
    rw [paraGo] at e
    split at e
    · exact paraGo_len h t _ r (by simp; omega) e
    · cases e
theorem paraRows_len (lines : List Int) (h : Int) : (paraRows lines h).length ≤ 30 := by
  unfold paraRows
  split
  · cases e : paraGo h lines [] with
    | none => simp
    | some r => exact paraGo_len h lines [] r (by simp) e
  · simp

set_option maxHeartbeats 1600000 in
theorem c_paragraphRows (A : Option Addr) (n c : Nat) (xs : List Int) (h : Int) (w : World) (hI : IntsAt w A n c xs) :
    Calls Try.prog 31 #[.slice A n c, .int .i64 h] w fun e w' => ∃ A' c', e = .returned (.slice A' (paraRows xs h).length c') ∧ OwnR w' w.heap.size A' c' (paraRows xs h) ∧ Below w.heap.size w w' := by
  obtain ⟨i0, hi, hz0, hz1, hz2⟩ := info_parts infoRow
  have hlen := hI.len
  have hbd := hI.bd
  cases hh : inB h 1 1000
  · have H : Hid (paraRows xs h = []) := by show _ = _; simp [paraRows, hh]
    go_enter Try.func31, Try.ntmps31
    go_wp2_with (go_at_call 48; refine (c_isHeight _ _).mono ?_; rintro e w' ⟨rfl, rfl⟩)
    go_ret
    rw [unhide H]
    exact ⟨none, 0, rfl, World.ownsRow_nil w _ _ _, Below.refl _ _⟩
  · have H : Hid (paraRows xs h = (paraGo h xs []).getD []) := by show _ = _; simp [paraRows, hh]
    have HL := hide hlen
    clear hlen
    go_enter Try.func31, Try.ntmps31
    go_wp2_with (go_at_call 48; refine (c_isHeight _ _).mono ?_; rintro e w' ⟨rfl, rfl⟩)
    go_loopw [5, 14] (fun o i wr => ∃ (k : Nat) (AO : Option Addr) (cO : Nat) (acc : List Row), k ≤ n ∧ i = .int .i64 k ∧ o = .slice AO acc.length cO ∧ OwnR wr w.heap.size AO cO acc ∧ acc.length ≤ 30 ∧
        Hid (paraGo h xs [] = paraGo h (xs.drop k) acc) ∧ Below w.heap.size w wr) (fun _ i _ => n - (intOf i).toNat)
    case atStart => exact ⟨0, none, 0, [], Nat.zero_le _, rfl, rfl, World.ownsRow_nil w _ _ _, by simp, rfl, Below.refl _ _⟩
    case round =>
      obtain ⟨k, AO, cO, acc, hk, rfl, rfl, hown, hacc, hgo, hb⟩ := hrel
      by_cases hlt : k < n
      · obtain ⟨b, off, x, rfl, hbl, hx, hc⟩ := (hI.next hb).at_ hlt
        have HX := hide hx
        clear hx
        cases hv : inB x 1 (30 - (acc.length : Int))
        · have HG : Hid (paraGo h xs [] = none) := by
            show _ = _; rw [unhide hgo, drop_get (unhide HX), paraGo, if_neg (by rw [inB_not] at hv; omega)]
          go_wp2_with (go_at_call 49; refine (c_in _ _ _ _).mono ?_; rintro e w' ⟨rfl, rfl⟩)
          go_ret
          rw [unhide H, unhide HG]
          exact ⟨none, 0, rfl, World.ownsRow_nil _ _ _ _, hb⟩
        · have hv' := inB_iff.1 hv
          obtain ⟨m, rfl⟩ := Int.eq_ofNat_of_zero_le (show 0 ≤ x by omega)
          have HG : Hid (paraGo h xs [] = paraGo h (xs.drop (k + 1)) (acc ++ (List.range m).map (paraRow h m))) := by
            show _ = _; rw [unhide hgo, drop_get (unhide HX), paraGo, if_pos (by omega)]; rfl
          go_wp2_with (go_at_call 49; refine (c_in _ _ _ _).mono ?_; rintro e w' ⟨rfl, rfl⟩)
          obtain ⟨wo, rfl⟩ : ∃ wo : World, wo = wr := ⟨_, rfl⟩
          go_loopw [5, 25] (fun o i wr => ∃ (j : Nat) (AO : Option Addr) (cO : Nat) (oj : List Row), j ≤ m ∧ i = .int .i64 j ∧ o = .slice AO oj.length cO ∧ OwnR wr w.heap.size AO cO oj ∧ oj.length ≤ acc.length + j ∧
            Hid (oj = acc ++ (List.range j).map (paraRow h m)) ∧ Below w.heap.size w wr) (fun _ i _ => m - (intOf i).toNat)
          case atStart => exact ⟨0, AO, cO, acc, Nat.zero_le _, rfl, rfl, hown, by omega, by show _ = _; simp, hb⟩
          case round =>
            clear hown hb hc
            obtain ⟨j, AJ, cJ, oj, hjm, rfl, rfl, hownj, hjl, hoj, hbj⟩ := hrel
            by_cases hj : j < m
            · rcases para_case h m j hj with ⟨z0, z1, z1', hp⟩ | ⟨z0, z1, z1', z2, hp⟩ | ⟨z0, z2, z1, z1', hp⟩ | ⟨z0, z2, hp⟩
              · have HP := hide hp
                clear hp
                go_wp2_with (at_builtin; refine wpList_append_own _ rfl _ _ 35 rfl w.heap.size 25 i0 _ 4 32 Try.underlying35 hi hz0 hz1 hz2 rfl (by decide) _ _ _ rfl (World.ownsRow.alloc hownj _) ⟨wr.heap.size, 0, none⟩ 1 1 [.int .i64 h, .bool true, .int .i64 0, .int .i64 0] rfl rfl ?p0a ?p0b ?p0c ?p0d ?p0e ?_)
                case p0a => exact cells4_new _ _ _ _ _ _
                case p0b => exact row_one ⟨h, true, 0, 0⟩
                case p0c => unfold maxLen; omega
                case p0d => omega
                case p0e => have := hbj.size; simp; omega
                intro v3 w3 hown3 hg3 _
                have hb4 := b_own (bmk hbj _) (World.ownsRow.alloc hownj _) (Nat.le_refl _) hg3
                have hown4 : w3.ownsRow w.heap.size 25 4 v3 (oj ++ [paraRow h m j]).length ((oj ++ [paraRow h m j]).flatMap Row.cells) := by
                  rw [unhide HP, flat_snoc]; simpa using hown3
                obtain ⟨A4, c4, rfl, hown5⟩ := OwnR.of hown4
                have HO : Hid (oj ++ [paraRow h m j] = acc ++ (List.range (j + 1)).map (paraRow h m)) := by show _ = _; rw [unhide hoj, List.range_succ]; simp
                clear hownj hbj hown3 hg3 hown4
                go_wp2
                go_roundw
                case rel => exact ⟨j + 1, A4, c4, oj ++ [paraRow h m j], by omega, by go_num, rfl, hown5, by simp; omega, HO, hb4⟩
                case measure => simp [intOf]; omega
              · have HP := hide hp
                clear hp
                go_wp2_with (at_builtin; refine wpList_append_own _ rfl _ _ 35 rfl w.heap.size 25 i0 _ 4 32 Try.underlying35 hi hz0 hz1 hz2 rfl (by decide) _ _ _ rfl (World.ownsRow.alloc hownj _) ⟨wr.heap.size, 0, none⟩ 1 1 [.int .i64 h, .bool false, .int .i64 0, .int .i64 0] rfl rfl ?p1a ?p1b ?p1c ?p1d ?p1e ?_)
                case p1a => exact cells4_new _ _ _ _ _ _
                case p1b => exact row_one ⟨h, false, 0, 0⟩
                case p1c => unfold maxLen; omega
                case p1d => omega
                case p1e => have := hbj.size; simp; omega
                intro v3 w3 hown3 hg3 _
                have hb4 := b_own (bmk hbj _) (World.ownsRow.alloc hownj _) (Nat.le_refl _) hg3
                have hown4 : w3.ownsRow w.heap.size 25 4 v3 (oj ++ [paraRow h m j]).length ((oj ++ [paraRow h m j]).flatMap Row.cells) := by
                  rw [unhide HP, flat_snoc]; simpa using hown3
                obtain ⟨A4, c4, rfl, hown5⟩ := OwnR.of hown4
                have HO : Hid (oj ++ [paraRow h m j] = acc ++ (List.range (j + 1)).map (paraRow h m)) := by show _ = _; rw [unhide hoj, List.range_succ]; simp
                clear hownj hbj hown3 hg3 hown4
                go_wp2
                go_roundw
                case rel => exact ⟨j + 1, A4, c4, oj ++ [paraRow h m j], by omega, by go_num, rfl, hown5, by simp; omega, HO, hb4⟩
                case measure => simp [intOf]; omega
              · have HP := hide hp
                clear hp
                go_wp2_with (at_builtin; refine wpList_append_own _ rfl _ _ 35 rfl w.heap.size 25 i0 _ 4 32 Try.underlying35 hi hz0 hz1 hz2 rfl (by decide) _ _ _ rfl (World.ownsRow.alloc hownj _) ⟨wr.heap.size, 0, none⟩ 1 1 [.int .i64 h, .bool true, .int .i64 0, .int .i64 0] rfl rfl ?p2a ?p2b ?p2c ?p2d ?p2e ?_)
                case p2a => exact cells4_new _ _ _ _ _ _
                case p2b => exact row_one ⟨h, true, 0, 0⟩
                case p2c => unfold maxLen; omega
                case p2d => omega
                case p2e => have := hbj.size; simp; omega
                intro v3 w3 hown3 hg3 _
                have hb4 := b_own (bmk hbj _) (World.ownsRow.alloc hownj _) (Nat.le_refl _) hg3
                have hown4 : w3.ownsRow w.heap.size 25 4 v3 (oj ++ [paraRow h m j]).length ((oj ++ [paraRow h m j]).flatMap Row.cells) := by
                  rw [unhide HP, flat_snoc]; simpa using hown3
                obtain ⟨A4, c4, rfl, hown5⟩ := OwnR.of hown4
                have HO : Hid (oj ++ [paraRow h m j] = acc ++ (List.range (j + 1)).map (paraRow h m)) := by show _ = _; rw [unhide hoj, List.range_succ]; simp
                clear hownj hbj hown3 hg3 hown4
                go_wp2
                go_roundw
                case rel => exact ⟨j + 1, A4, c4, oj ++ [paraRow h m j], by omega, by go_num, rfl, hown5, by simp; omega, HO, hb4⟩
                case measure => simp [intOf]; omega
              · have HP := hide hp
                clear hp
                go_wp2_with (at_builtin; refine wpList_append_own _ rfl _ _ 35 rfl w.heap.size 25 i0 _ 4 32 Try.underlying35 hi hz0 hz1 hz2 rfl (by decide) _ _ _ rfl (World.ownsRow.alloc hownj _) ⟨wr.heap.size, 0, none⟩ 1 1 [.int .i64 h, .bool false, .int .i64 0, .int .i64 0] rfl rfl ?p3a ?p3b ?p3c ?p3d ?p3e ?_)
                case p3a => exact cells4_new _ _ _ _ _ _
                case p3b => exact row_one ⟨h, false, 0, 0⟩
                case p3c => unfold maxLen; omega
                case p3d => omega
                case p3e => have := hbj.size; simp; omega
                intro v3 w3 hown3 hg3 _
                have hb4 := b_own (bmk hbj _) (World.ownsRow.alloc hownj _) (Nat.le_refl _) hg3
                have hown4 : w3.ownsRow w.heap.size 25 4 v3 (oj ++ [paraRow h m j]).length ((oj ++ [paraRow h m j]).flatMap Row.cells) := by
                  rw [unhide HP, flat_snoc]; simpa using hown3
                obtain ⟨A4, c4, rfl, hown5⟩ := OwnR.of hown4
                have HO : Hid (oj ++ [paraRow h m j] = acc ++ (List.range (j + 1)).map (paraRow h m)) := by show _ = _; rw [unhide hoj, List.range_succ]; simp
                clear hownj hbj hown3 hg3 hown4
                go_wp2
                go_roundw
                case rel => exact ⟨j + 1, A4, c4, oj ++ [paraRow h m j], by omega, by go_num, rfl, hown5, by simp; omega, HO, hb4⟩
                case measure => simp [intOf]; omega
            · obtain rfl : m = j := by omega
              go_wp2
              go_roundw
              case rel => exact ⟨k + 1, AJ, cJ, oj, by omega, by go_num, rfl, hownj, by omega, by show _ = _; rw [unhide HG, unhide hoj], hbj⟩
              case measure => simp [intOf]; omega
      · have HG : Hid (paraGo h xs [] = some acc) := by
          show _ = _; rw [unhide hgo, drop_end (by rw [unhide HL]; omega), paraGo]
        go_wp2
        go_ret
        rw [unhide H, unhide HG]
        exact ⟨AO, cO, rfl, hown, hb⟩

set_option maxHeartbeats 1600000 in
theorem c_paragraphRows' (A : Option Addr) (n c : Nat) (xs : List Int) (h : Int) (w : World) (hI : IntsAt w A n c xs) :
    Calls Try.prog 29 #[.slice A n c, .int .i64 h] w fun e w' => ∃ A' c', e = .returned (.slice A' (paraRows xs h).length c') ∧ OwnR w' w.heap.size A' c' (paraRows xs h) ∧ Below w.heap.size w w' := by
  obtain ⟨i0, hi, hz0, hz1, hz2⟩ := info_parts infoRow
  have hlen := hI.len
  have hbd := hI.bd
  have HL := hide hlen
  have hown0 : OwnR (w.alloc (.cells #[] 25)) w.heap.size (some ⟨w.heap.size, 0, none⟩) 0 [] := World.ownsRow_made w #[] 0 (Nat.le_refl _) (Nat.zero_le _) rfl
  clear hlen
  go_enter Try.func29, Try.ntmps29
  go_wp2
  go_loopw [5, 6] (fun o i wr => ∃ (k : Nat) (AO : Option Addr) (cO : Nat) (acc : List Row), k ≤ n ∧ i = .int .i64 k ∧ o = .slice AO acc.length cO ∧ OwnR wr w.heap.size AO cO acc ∧ acc.length ≤ 30 ∧
      Hid (paraGo h xs [] = paraGo h (xs.drop k) acc) ∧ Below w.heap.size w wr) (fun _ i _ => n - (intOf i).toNat)
  case atStart => exact ⟨0, _, 0, [], Nat.zero_le _, rfl, rfl, hown0, by simp, rfl, bof _ _⟩
  case round =>
    clear hown0
    obtain ⟨k, AO, cO, acc, hk, rfl, rfl, hown, hacc, hgo, hb⟩ := hrel
    by_cases hlt : k < n
    · obtain ⟨b, off, x, rfl, hbl, hx, hc⟩ := (hI.next hb).at_ hlt
      have HX := hide hx
      clear hx
      by_cases hv : 1 ≤ x ∧ x ≤ 30 - (acc.length : Int)
      · obtain ⟨m, rfl⟩ := Int.eq_ofNat_of_zero_le (show 0 ≤ x by omega)
        have HG : Hid (paraGo h xs [] = paraGo h (xs.drop (k + 1)) (acc ++ (List.range m).map (paraRow h m))) := by
          show _ = _; rw [unhide hgo, drop_get (unhide HX), paraGo, if_pos (by omega)]; rfl
        have hv1 : inB (m : Int) 1 30 = true := inB_iff.2 (by omega)
        obtain ⟨hv2, hv3⟩ := hv
        go_wp2_with (go_at_call 47; refine (c_l1In _ _ _ _).mono ?_; rintro e w' ⟨rfl, rfl⟩)
        obtain ⟨wo, rfl⟩ : ∃ wo : World, wo = wr := ⟨_, rfl⟩
        clear hv1
        go_loopw [5, 7] (fun o i wr => ∃ (j : Nat) (AO : Option Addr) (cO : Nat) (oj : List Row), j ≤ m ∧ i = .int .i64 j ∧ o = .slice AO oj.length cO ∧ OwnR wr w.heap.size AO cO oj ∧ oj.length ≤ acc.length + j ∧
          Hid (oj = acc ++ (List.range j).map (paraRow h m)) ∧ Below w.heap.size w wr) (fun _ i _ => m - (intOf i).toNat)
        case atStart => exact ⟨0, AO, cO, acc, Nat.zero_le _, rfl, rfl, hown, by omega, by show _ = _; simp, hb⟩
        case round =>
          clear hown hb
          obtain ⟨j, AJ, cJ, oj, hjm, rfl, rfl, hownj, hjl, hoj, hbj⟩ := hrel
          have hcj : wr.cell? ⟨b, off + k, none⟩ = some (.int .i64 m) := by
            obtain ⟨b', off', x', he, _, hx', hc'⟩ := (hI.next hbj).at_ hlt
            injection he with he
            obtain ⟨rfl, rfl⟩ : b = b' ∧ off = off' := by injection he with e1 e2; exact ⟨e1, e2⟩
            rw [unhide HX] at hx'
            injection hx' with hx'
            rw [hc', ← hx']
          clear hc
          by_cases hj : j < m
          · rcases para_case h m j hj with ⟨z0, z1, z1', hp⟩ | ⟨z0, z1, z1', z2, hp⟩ | ⟨z0, z2, z1, z1', hp⟩ | ⟨z0, z2, hp⟩
            · have HP := hide hp
              clear hp
              go_wp2_with (at_builtin; refine wpList_append_own _ rfl _ _ 35 rfl w.heap.size 25 i0 _ 4 32 Try.underlying35 hi hz0 hz1 hz2 rfl (by decide) _ _ _ rfl (World.ownsRow.alloc hownj _) ⟨wr.heap.size, 0, none⟩ 1 1 [.int .i64 h, .bool true, .int .i64 0, .int .i64 0] rfl rfl ?s0a ?s0b ?s0c ?s0d ?s0e ?_)
              case s0a => exact cells4_new _ _ _ _ _ _
              case s0b => exact row_one ⟨h, true, 0, 0⟩
              case s0c => unfold maxLen; omega
              case s0d => omega
              case s0e => have := hbj.size; simp; omega
              intro v3 w3 hown3 hg3 _
              have hb4 := b_own (bmk hbj _) (World.ownsRow.alloc hownj _) (Nat.le_refl _) hg3
              have hown4 : w3.ownsRow w.heap.size 25 4 v3 (oj ++ [paraRow h m j]).length ((oj ++ [paraRow h m j]).flatMap Row.cells) := by
                rw [unhide HP, flat_snoc]; simpa using hown3
              obtain ⟨A4, c4, rfl, hown5⟩ := OwnR.of hown4
              have HO : Hid (oj ++ [paraRow h m j] = acc ++ (List.range (j + 1)).map (paraRow h m)) := by show _ = _; rw [unhide hoj, List.range_succ]; simp
              clear hownj hbj hown3 hg3 hown4
              go_wp2
              go_roundw
              case rel => exact ⟨j + 1, A4, c4, oj ++ [paraRow h m j], by omega, by go_num, rfl, hown5, by simp; omega, HO, hb4⟩
              case measure => simp [intOf]; omega
            · have HP := hide hp
              clear hp
              go_wp2_with (at_builtin; refine wpList_append_own _ rfl _ _ 35 rfl w.heap.size 25 i0 _ 4 32 Try.underlying35 hi hz0 hz1 hz2 rfl (by decide) _ _ _ rfl (World.ownsRow.alloc hownj _) ⟨wr.heap.size, 0, none⟩ 1 1 [.int .i64 h, .bool false, .int .i64 0, .int .i64 0] rfl rfl ?s1a ?s1b ?s1c ?s1d ?s1e ?_)
              case s1a => exact cells4_new _ _ _ _ _ _
              case s1b => exact row_one ⟨h, false, 0, 0⟩
              case s1c => unfold maxLen; omega
              case s1d => omega
              case s1e => have := hbj.size; simp; omega
              intro v3 w3 hown3 hg3 _
              have hb4 := b_own (bmk hbj _) (World.ownsRow.alloc hownj _) (Nat.le_refl _) hg3
              have hown4 : w3.ownsRow w.heap.size 25 4 v3 (oj ++ [paraRow h m j]).length ((oj ++ [paraRow h m j]).flatMap Row.cells) := by
                rw [unhide HP, flat_snoc]; simpa using hown3
              obtain ⟨A4, c4, rfl, hown5⟩ := OwnR.of hown4
              have HO : Hid (oj ++ [paraRow h m j] = acc ++ (List.range (j + 1)).map (paraRow h m)) := by show _ = _; rw [unhide hoj, List.range_succ]; simp
              clear hownj hbj hown3 hg3 hown4
              go_wp2
              go_roundw
              case rel => exact ⟨j + 1, A4, c4, oj ++ [paraRow h m j], by omega, by go_num, rfl, hown5, by simp; omega, HO, hb4⟩
              case measure => simp [intOf]; omega
            · have HP := hide hp
              clear hp
              go_wp2_with (at_builtin; refine wpList_append_own _ rfl _ _ 35 rfl w.heap.size 25 i0 _ 4 32 Try.underlying35 hi hz0 hz1 hz2 rfl (by decide) _ _ _ rfl (World.ownsRow.alloc hownj _) ⟨wr.heap.size, 0, none⟩ 1 1 [.int .i64 h, .bool true, .int .i64 0, .int .i64 0] rfl rfl ?s2a ?s2b ?s2c ?s2d ?s2e ?_)
              case s2a => exact cells4_new _ _ _ _ _ _
              case s2b => exact row_one ⟨h, true, 0, 0⟩
              case s2c => unfold maxLen; omega
              case s2d => omega
              case s2e => have := hbj.size; simp; omega
              intro v3 w3 hown3 hg3 _
              have hb4 := b_own (bmk hbj _) (World.ownsRow.alloc hownj _) (Nat.le_refl _) hg3
              have hown4 : w3.ownsRow w.heap.size 25 4 v3 (oj ++ [paraRow h m j]).length ((oj ++ [paraRow h m j]).flatMap Row.cells) := by
                rw [unhide HP, flat_snoc]; simpa using hown3
              obtain ⟨A4, c4, rfl, hown5⟩ := OwnR.of hown4
              have HO : Hid (oj ++ [paraRow h m j] = acc ++ (List.range (j + 1)).map (paraRow h m)) := by show _ = _; rw [unhide hoj, List.range_succ]; simp
              clear hownj hbj hown3 hg3 hown4
              go_wp2
              go_roundw
              case rel => exact ⟨j + 1, A4, c4, oj ++ [paraRow h m j], by omega, by go_num, rfl, hown5, by simp; omega, HO, hb4⟩
              case measure => simp [intOf]; omega
            · have HP := hide hp
              clear hp
              go_wp2_with (at_builtin; refine wpList_append_own _ rfl _ _ 35 rfl w.heap.size 25 i0 _ 4 32 Try.underlying35 hi hz0 hz1 hz2 rfl (by decide) _ _ _ rfl (World.ownsRow.alloc hownj _) ⟨wr.heap.size, 0, none⟩ 1 1 [.int .i64 h, .bool false, .int .i64 0, .int .i64 0] rfl rfl ?s3a ?s3b ?s3c ?s3d ?s3e ?_)
              case s3a => exact cells4_new _ _ _ _ _ _
              case s3b => exact row_one ⟨h, false, 0, 0⟩
              case s3c => unfold maxLen; omega
              case s3d => omega
              case s3e => have := hbj.size; simp; omega
              intro v3 w3 hown3 hg3 _
              have hb4 := b_own (bmk hbj _) (World.ownsRow.alloc hownj _) (Nat.le_refl _) hg3
              have hown4 : w3.ownsRow w.heap.size 25 4 v3 (oj ++ [paraRow h m j]).length ((oj ++ [paraRow h m j]).flatMap Row.cells) := by
                rw [unhide HP, flat_snoc]; simpa using hown3
              obtain ⟨A4, c4, rfl, hown5⟩ := OwnR.of hown4
              have HO : Hid (oj ++ [paraRow h m j] = acc ++ (List.range (j + 1)).map (paraRow h m)) := by show _ = _; rw [unhide hoj, List.range_succ]; simp
              clear hownj hbj hown3 hg3 hown4
              go_wp2
              go_roundw
              case rel => exact ⟨j + 1, A4, c4, oj ++ [paraRow h m j], by omega, by go_num, rfl, hown5, by simp; omega, HO, hb4⟩
              case measure => simp [intOf]; omega
          · obtain rfl : m = j := by omega
            go_wp2
            go_roundw
            case rel => exact ⟨k + 1, AJ, cJ, oj, by omega, by go_num, rfl, hownj, by omega, by show _ = _; rw [unhide HG, unhide hoj], hbj⟩
            case measure => simp [intOf]; omega
      · have HG : Hid ((if inB h 1 1000 then (paraGo h xs []).getD [] else []) = []) := by
          show _ = _; rw [unhide hgo, drop_get (unhide HX), paraGo, if_neg hv]; simp
        cases hv1 : inB x 1 30
        · go_wp2_with (go_at_call 47; refine (c_l1In _ _ _ _).mono ?_; rintro e w' ⟨rfl, rfl⟩)
          go_ret
          rw [paraRows, unhide HG]
          exact ⟨_, 0, rfl, World.ownsRow_made _ #[] 0 hb.size (Nat.zero_le _) rfl, bmk hb _⟩
        · have hv2 := inB_iff.1 hv1
          have hv3 : 30 < (acc.length : Int) + x := by omega
          go_wp2_with (go_at_call 47; refine (c_l1In _ _ _ _).mono ?_; rintro e w' ⟨rfl, rfl⟩)
          go_ret
          rw [paraRows, unhide HG]
          exact ⟨_, 0, rfl, World.ownsRow_made _ #[] 0 hb.size (Nat.zero_le _) rfl, bmk hb _⟩
    · have HG : Hid (paraGo h xs [] = some acc) := by
        show _ = _; rw [unhide hgo, drop_end (by rw [unhide HL]; omega), paraGo]
      cases hh : inB h 1 1000
      · have H : Hid (paraRows xs h = []) := by show _ = _; simp [paraRows, hh]
        go_wp2_with (go_at_call 47; refine (c_l1In _ _ _ _).mono ?_; rintro e w' ⟨rfl, rfl⟩)
        go_ret
        rw [unhide H]
        exact ⟨_, 0, rfl, World.ownsRow_made _ #[] 0 hb.size (Nat.zero_le _) rfl, bmk hb _⟩
      · have H : Hid (paraRows xs h = (paraGo h xs []).getD []) := by show _ = _; simp [paraRows, hh]
        go_wp2_with (go_at_call 47; refine (c_l1In _ _ _ _).mono ?_; rintro e w' ⟨rfl, rfl⟩)
        go_ret
        rw [unhide H, unhide HG]
        exact ⟨AO, cO, rfl, hown, hb⟩
end Go.Proofs.Ytfpddjglnhkndaa
