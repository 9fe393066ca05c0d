/- The reference's splitting of rows at several heights. No condition. -/
import Derived.Test.YtnbnkbfebekjhaaSplit2
namespace Go.Proofs.Ytnbnkbfebekjhaa
open Go.RowKit
set_option linter.unusedVariables false

set_option maxHeartbeats 800000 in
theorem c_splitAll' (A : Option Addr) (n c : Nat) (rs : List Row) (A2 : Option Addr) (n2 c2 : Nat) (hs : List Int) (w : World) (hR : RowsAt w A n c rs) (hI : IntsAt w A2 n2 c2 hs) :
    Calls Try.prog 31 #[.slice A n c, .slice A2 n2 c2] w fun e w' => ∃ A' c', e = .returned (.tuple #[.slice A' (splitAll rs hs).1.length c', .int .i64 (splitAll rs hs).2]) ∧ OwnI w' w.heap.size A' c' (splitAll rs hs).1 ∧ Below w.heap.size w w' := by
  obtain ⟨i0, hi, hz0, hz1, hz2⟩ := info_parts infoInt
  have hlen := hR.len
  have hbd := hR.bd
  have hlen2 := hI.len
  have hbd2 := hI.bd
  have hown0 : OwnI (w.alloc (.cells #[] 3)) w.heap.size (some ⟨w.heap.size, 0, none⟩) 0 [] := World.ownsRow_made w #[] 0 (Nat.le_refl _) (Nat.zero_le _) rfl
  cases hv : rowsValid rs
  · have H : Hid (splitAll rs hs = ([], -1)) := by show _ = _; simp [splitAll, hv]
    clear hlen hlen2
    go_enter Try.func31, Try.ntmps31
    go_wp2_with fail
    refine (c_rowsValid' A n c rs _ (hR.next (bof _ _))).mono ?_
    rintro e w1 ⟨he, hb1⟩
    rw [hv] at he
    subst he
    go_wp2
    go_ret2
    rw [unhide H]
    exact ⟨_, 0, rfl, hown0.next hb1, bnext (bof _ _) hb1⟩
  · by_cases h30 : 30 < n2
    · have H : Hid (splitAll rs hs = ([], -1)) := by show _ = _; simp [splitAll, hlen2]; omega
      clear hlen hlen2
      go_enter Try.func31, Try.ntmps31
      go_wp2_with fail
      refine (c_rowsValid' A n c rs _ (hR.next (bof _ _))).mono ?_
      rintro e w1 ⟨he, hb1⟩
      rw [hv] at he
      subst he
      go_wp2
      go_ret2
      rw [unhide H]
      exact ⟨_, 0, rfl, hown0.next hb1, bnext (bof _ _) hb1⟩
    · have H : Hid (splitAll rs hs = ofGo (splitGo rs hs 0 [])) := by
        show _ = _; simp [splitAll, hv, hlen2, show n2 ≤ 30 by omega]
      have HL := hide hlen
      have HL2 := hide hlen2
      clear hlen hlen2
      go_enter Try.func31, Try.ntmps31
      go_wp2_with fail
      refine (c_rowsValid' A n c rs _ (hR.next (bof _ _))).mono ?_
      rintro e w1 ⟨he, hb1⟩
      rw [hv] at he
      subst he
      go_wp2
      go_loopw [6, 7, 8] (fun o v i wr => ∃ (k a : Nat) (AO : Option Addr) (cO : Nat) (acc : List Int), k ≤ n2 ∧ i = .int .i64 k ∧ a ≤ n ∧ v = .int .i64 a ∧
          o = .slice AO acc.length cO ∧ OwnI wr w.heap.size AO cO acc ∧ acc.length ≤ k ∧ Hid (splitGo rs hs 0 [] = splitGo rs (hs.drop k) a acc) ∧ Below w.heap.size w wr) (fun _ _ i _ => n2 - (intOf i).toNat)
      case atStart => exact ⟨0, 0, _, 0, [], Nat.zero_le _, rfl, Nat.zero_le _, rfl, rfl, hown0.next hb1, Nat.le_refl _, rfl, bnext (bof _ _) hb1⟩
      case round =>
        clear hb1 hown0
        obtain ⟨k, a, AO, cO, acc, hk, rfl, ha, rfl, rfl, hown, hacc, hgo, hb⟩ := hrel
        by_cases hlt : k < n2
        · obtain ⟨b, off, x, rfl, hbl, hx, hc⟩ := (hI.next hb).at_ hlt
          have HX := hide hx
          clear hx
          obtain ⟨A1, hRa, hsl⟩ := rows_from hR ha
          cases hh : inB x 0 1000000
          · have HG : Hid (splitGo rs hs 0 [] = none) := by show _ = _; rw [unhide hgo, drop_get (unhide HX), splitGo, hh]; rfl
            have HS : splitRows (rs.drop a) x = -1 := by simp [splitRows, hh]
            go_wp2
            go_region_with (go_at_call 44; refine (c_splitRows' A1 (n - a) (c - a) (rs.drop a) x _ (hRa.next hb.drew)).mono ?_; rintro e w2 ⟨he, hb2⟩; rw [HS] at he; subst he)
            go_wp2
            go_ret2
            rw [unhide H, unhide HG]
            exact ⟨_, 0, rfl, World.ownsRow_made _ #[] 0 (bnext hb.drew hb2).size (Nat.zero_le _) rfl, bmk (bnext hb.drew hb2) _⟩
          · have HG : Hid (splitGo rs hs 0 [] = splitGo rs (hs.drop (k + 1)) (a + splitN (rs.drop a) x) (acc ++ [(splitN (rs.drop a) x : Int)])) := by
              show _ = _; rw [unhide hgo, drop_get (unhide HX), splitGo, hh]; rfl
            have HS : splitRows (rs.drop a) x = (splitN (rs.drop a) x : Int) := by simp [splitRows, hh, rowsValid_drop hv a]
            have hle : splitN (rs.drop a) x ≤ n - a := by have := splitN_le (rs.drop a) x; rw [hRa.len] at this; exact this
            generalize splitN (rs.drop a) x = m at HG hle HS
            go_wp2
            go_region_with (go_at_call 44; refine (c_splitRows' A1 (n - a) (c - a) (rs.drop a) x _ (hRa.next hb.drew)).mono ?_; rintro e w2 ⟨he, hb2⟩; rw [HS] at he; subst he)
            have hown2 := OwnI.next (OwnI.next hown ((Below.refl _ _).drew)) hb2
            have hb3 := bnext hb.drew hb2
            clear hown hb hb2 hRa
            go_wp2_with (at_builtin; refine wpList_append_own _ rfl _ _ 24 rfl w.heap.size 3 i0 _ 1 8 Try.underlying24 hi hz0 hz1 hz2 rfl (by decide) _ _ _ rfl (World.ownsRow.alloc hown2 _) ⟨w2.heap.size, 0, none⟩ 1 1 [.int .i64 m] rfl rfl ?c1 ?c2 ?c3 ?c4 ?c5 ?_)
            case c1 => exact one_new _ _ _
            case c2 => exact one_one _
            case c3 => unfold maxLen; omega
            case c4 => omega
            case c5 => have := hb3.size; simp; omega
            intro v3 w3 hown3 hg3 _
            have hb4 := b_own (bmk hb3 _) (World.ownsRow.alloc hown2 _) (Nat.le_refl _) hg3
            have hown4 : w3.ownsRow w.heap.size 3 1 v3 (acc.length + 1) ((acc ++ [(m : Int)]).map (Value.int .i64)) := by rw [List.map_append]; exact hown3
            obtain ⟨A4, c4, rfl, _, hown5⟩ := OwnI.of hown4
            clear hown2 hb3 hown3 hg3 hown4
            go_wp2
            go_roundw
            case rel => exact ⟨k + 1, a + m, A4, c4, acc ++ [(m : Int)], by omega, by go_num, by omega, by go_num, by simp, hown5, by simp; omega, HG, hb4⟩
            case measure => simp [intOf]; omega
        · have HG : Hid (splitGo rs hs 0 [] = some (acc, rs.length - a)) := by
            show _ = _; rw [unhide hgo, drop_end (by rw [unhide HL2]; omega), splitGo]
          go_wp2
          go_ret2
          rw [unhide H, unhide HG, unhide HL]
          refine ⟨AO, cO, ?_, hown, hb⟩
          simp [ofGo]; omega
theorem splitGo_len (rs : List Row) : ∀ (hs : List Int) (a : Nat) (acc : List Int) (l : List Int) (m : Nat), splitGo rs hs a acc = some (l, m) → l.length = acc.length + hs.length
  | [], a, acc, l, m, h => by simp [splitGo] at h; obtain ⟨rfl, _⟩ := h; rfl
  | x :: t, a, acc, l, m, h => by
    rw [splitGo] at h
    split at h
    · have := splitGo_len rs t _ _ l m h; simp at this; simp; omega
    · cases h
theorem splitAll_len (rs : List Row) (hs : List Int) : (splitAll rs hs).1.length ≤ 30 := by
  unfold splitAll
  split
  · rename_i h
    simp only [Bool.and_eq_true, decide_eq_true_eq] at h
    cases hg : splitGo rs hs 0 [] with
    | none => simp [ofGo]
    | some p =>
      obtain ⟨l, m⟩ := p
      have := splitGo_len rs hs 0 [] l m hg
      simp [ofGo] at this ⊢; omega
  · simp
end Go.Proofs.Ytnbnkbfebekjhaa
