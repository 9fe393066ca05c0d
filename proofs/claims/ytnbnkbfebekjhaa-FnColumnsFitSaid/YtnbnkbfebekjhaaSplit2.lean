/- Splitting rows at several heights: contracts. No condition. -/
import Derived.Test.YtnbnkbfebekjhaaSplit
namespace Go.Proofs.Ytnbnkbfebekjhaa
open Go.RowKit
set_option linter.unusedVariables false


set_option maxHeartbeats 800000 in
theorem c_splitRows' (A : Option Addr) (n c : Nat) (rs : List Row) (h : Int) (w : World) (hR : RowsAt w A n c rs) :
    Calls Try.prog 44 #[.slice A n c, .int .i64 h] w fun e w' => e = .returned (.int .i64 (splitRows rs h)) ∧ Below w.heap.size w w' := by
  have hlen := hR.len
  have hbd := hR.bd
  cases hv : rowsValid rs
  · have H : Hid (splitRows rs h = -1) := by show _ = _; simp [splitRows, hv]
    clear hlen
    go_enter Try.func44, Try.ntmps44
    go_wp2_with fail
    refine (c_rowsValid' A n c rs _ hR).mono ?_
    rintro e w1 ⟨he, hb1⟩
    rw [hv] at he
    subst he
    go_wp2
    go_ret
    exact ⟨by rw [unhide H]; rfl, hb1⟩
  · cases hh : inB h 0 1000000
    · have H : Hid (splitRows rs h = -1) := by show _ = _; simp [splitRows, hh]
      clear hlen
      go_enter Try.func44, Try.ntmps44
      go_wp2_with fail
      refine (c_rowsValid' A n c rs _ hR).mono ?_
      rintro e w1 ⟨he, hb1⟩
      rw [hv] at he
      subst he
      go_wp2_with (go_at_call 30; refine (c_l1In _ _ _ _).mono ?_; rintro e w' ⟨rfl, rfl⟩)
      go_ret
      exact ⟨by rw [unhide H]; rfl, hb1⟩
    · have H : Hid (splitRows rs h = (splitN rs h : Int)) := by show _ = _; simp [splitRows, hh, hv]
      have HL := hide hlen
      have hv' := rowsValid_iff.1 hv
      have hn30 : n ≤ 30 := by omega
      clear hlen
      go_enter Try.func44, Try.ntmps44
      go_wp2_with fail
      refine (c_rowsValid' A n c rs _ hR).mono ?_
      rintro e w1 ⟨he, hb1⟩
      rw [hv] at he
      subst he
      go_wp2_with (go_at_call 30; refine (c_l1In _ _ _ _).mono ?_; rintro e w' ⟨rfl, rfl⟩)
      go_loopw [5, 6, 7] (fun m s i wr => ∃ (k j : Nat) (q : Int), k ≤ n ∧ i = .int .i64 k ∧ m = .int .i64 j ∧ s = .int .i64 q ∧ Hid (splitDown rs h k = j) ∧ Hid (q = sumH (rs.take k)) ∧ 0 ≤ q ∧ q ≤ k * 1000 ∧ Below w.heap.size w wr) (fun _ _ i _ => n - (intOf i).toNat)
      case atStart => exact ⟨0, 0, 0, Nat.zero_le _, rfl, rfl, rfl, rfl, rfl, by omega, by omega, hb1⟩
      case round =>
        clear hb1
        obtain ⟨k, j, q, hk, rfl, rfl, rfl, hs, hq, hq0, hq1, hb⟩ := hrel
        by_cases hlt : k < n
        · obtain ⟨b, off, r, rfl, hbl, hr, h0, h1, h2, h3⟩ := (hR.next hb).at_ hlt
          have hrv : rowValid r = true := List.all_eq_true.1 hv'.1 r (mem_of_get hr)
          simp only [rowValid, Bool.and_eq_true, inB_iff] at hrv
          have hrb : 1 ≤ r.h ∧ r.h ≤ 1000 := hrv.1.1
          have HQ : Hid (q + r.h = sumH (rs.take (k + 1))) := by show _ = _; rw [sumH_snoc hr, ← unhide hq]
          have HO : Hid (splitDown rs h (k + 1) = if (decide (q + r.h ≤ h) && (decide (k + 1 = n) || !r.k)) then k + 1 else j) := by
            show _ = _
            rw [splitDown, okAt, unhide hs, ← unhide HQ, unhide HL, Nat.add_sub_cancel, keepAt_get hr]
          clear hr hrv h2 h3
          by_cases hs1 : q + r.h ≤ h
          · by_cases hkn : k + 1 = n
            · have hz : ((k : Int) == (n : Int) - 1) = true := by simp; omega
              have H1 : Hid (splitDown rs h (k + 1) = k + 1) := by show _ = _; rw [unhide HO]; simp [hs1, hkn]
              have HKN := hide hkn
              clear hkn
              go_wp2
              go_roundw
              case rel => exact ⟨k + 1, k + 1, q + r.h, by omega, by go_num, by go_num, rfl, H1, HQ, by omega, by omega, hb⟩
              case measure => simp [intOf]; omega
            · have hz : ((k : Int) == (n : Int) - 1) = false := by simp; omega
              cases hrk : r.k
              · have H1 : Hid (splitDown rs h (k + 1) = k + 1) := by show _ = _; rw [unhide HO]; simp [hs1, hrk]
                go_wp2
                go_roundw
                case rel => exact ⟨k + 1, k + 1, q + r.h, by omega, by go_num, by go_num, rfl, H1, HQ, by omega, by omega, hb⟩
                case measure => simp [intOf]; omega
              · have H1 : Hid (splitDown rs h (k + 1) = j) := by show _ = _; rw [unhide HO]; simp [hrk, hkn]
                go_wp2
                go_roundw
                case rel => exact ⟨k + 1, j, q + r.h, by omega, by go_num, by go_num, rfl, H1, HQ, by omega, by omega, hb⟩
                case measure => simp [intOf]; omega
          · have H1 : Hid (splitDown rs h (k + 1) = j) := by show _ = _; rw [unhide HO]; simp [hs1]
            go_wp2
            go_roundw
            case rel => exact ⟨k + 1, j, q + r.h, by omega, by go_num, by go_num, rfl, H1, HQ, by omega, by omega, hb⟩
            case measure => simp [intOf]; omega
        · obtain rfl : n = k := by omega
          have H2 : Hid (splitN rs h = j) := by show _ = _; rw [splitN, unhide HL, unhide hs]
          go_wp2
          go_ret
          exact ⟨by rw [unhide H, unhide H2]; rfl, hb⟩

set_option maxHeartbeats 800000 in
theorem c_splitAll (A : Option Addr) (n c : Nat) (rs : List Row) (A2 : Option Addr) (n2 c2 : Nat) (hs : List Int) (w : World) (hR : RowsAt w A n c rs) (hI : IntsAt w A2 n2 c2 hs) :
    Calls Try.prog 34 #[.slice A n c, .slice A2 n2 c2] w fun e w' => ∃ A' c', e = .returned (.tuple #[.slice A' (splitAll rs hs).1.length c', .int .i64 (splitAll rs hs).2]) ∧ OwnI w' w.heap.size A' c' (splitAll rs hs).1 ∧ Below w.heap.size w w' := by
  obtain ⟨i0, hi, hz0, hz1, hz2⟩ := info_parts infoInt
  have hlen := hR.len
  have hbd := hR.bd
  have hlen2 := hI.len
  have hbd2 := hI.bd
  cases hv : rowsValid rs
  · have H : Hid (splitAll rs hs = ([], -1)) := by show _ = _; simp [splitAll, hv]
    clear hlen hlen2
    go_enter Try.func34, Try.ntmps34
    go_wp2_with fail
    refine (c_rowsValid A n c rs _ hR).mono ?_
    rintro e w1 ⟨he, hb1⟩
    rw [hv] at he
    subst he
    go_wp2
    go_ret2
    rw [unhide H]
    exact ⟨none, 0, rfl, OwnI.nil_ _ _, hb1⟩
  · by_cases h30 : 30 < n2
    · have H : Hid (splitAll rs hs = ([], -1)) := by show _ = _; simp [splitAll, hlen2]; omega
      clear hlen hlen2
      go_enter Try.func34, Try.ntmps34
      go_wp2_with fail
      refine (c_rowsValid A n c rs _ hR).mono ?_
      rintro e w1 ⟨he, hb1⟩
      rw [hv] at he
      subst he
      go_wp2
      go_ret2
      rw [unhide H]
      exact ⟨none, 0, rfl, OwnI.nil_ _ _, hb1⟩
    · have H : Hid (splitAll rs hs = ofGo (splitGo rs hs 0 [])) := by
        show _ = _; simp [splitAll, hv, hlen2, show n2 ≤ 30 by omega]
      have HL := hide hlen
      have HL2 := hide hlen2
      clear hlen hlen2
      go_enter Try.func34, Try.ntmps34
      go_wp2_with fail
      refine (c_rowsValid A n c rs _ hR).mono ?_
      rintro e w1 ⟨he, hb1⟩
      rw [hv] at he
      subst he
      go_wp2
      go_loopw [0, 6, 20] (fun l o i wr => ∃ (k a : Nat) (A' : Option Addr) (c' : Nat) (AO : Option Addr) (cO : Nat) (acc : List Int), k ≤ n2 ∧ i = .int .i64 k ∧ a ≤ n ∧ l = .slice A' (n - a) c' ∧ RowsAt w A' (n - a) c' (rs.drop a) ∧
          o = .slice AO acc.length cO ∧ OwnI wr w.heap.size AO cO acc ∧ acc.length ≤ k ∧ Hid (splitGo rs hs 0 [] = splitGo rs (hs.drop k) a acc) ∧ Below w.heap.size w wr) (fun _ _ i _ => n2 - (intOf i).toNat)
      case atStart => exact ⟨0, 0, A, c, none, 0, [], Nat.zero_le _, rfl, Nat.zero_le _, rfl, hR, rfl, OwnI.nil_ _ _, Nat.le_refl _, rfl, hb1⟩
      case round =>
        clear hb1
        obtain ⟨k, a, A', c', AO, cO, acc, hk, rfl, ha, rfl, hRa, rfl, hown, hacc, hgo, hb⟩ := hrel
        by_cases hlt : k < n2
        · obtain ⟨b, off, x, rfl, hbl, hx, hc⟩ := (hI.next hb).at_ hlt
          have HX := hide hx
          clear hx
          cases hh : inB x 0 1000000
          · have HG : Hid (splitGo rs hs 0 [] = none) := by show _ = _; rw [unhide hgo, drop_get (unhide HX), splitGo, hh]; rfl
            go_wp2_with (go_at_call 33; refine (c_in _ _ _ _).mono ?_; rintro e w' ⟨rfl, rfl⟩)
            go_ret2
            rw [unhide H, unhide HG]
            exact ⟨none, 0, rfl, OwnI.nil_ _ _, hb⟩
          · have HG : Hid (splitGo rs hs 0 [] = splitGo rs (hs.drop (k + 1)) (a + splitN (rs.drop a) x) (acc ++ [(splitN (rs.drop a) x : Int)])) := by
              show _ = _; rw [unhide hgo, drop_get (unhide HX), splitGo, hh]; rfl
            have hle : splitN (rs.drop a) x ≤ n - a := by have := splitN_le (rs.drop a) x; rw [hRa.len] at this; exact this
            go_wp2_with (go_at_call 33; refine (c_in _ _ _ _).mono ?_; rintro e w' ⟨rfl, rfl⟩)
            refine (c_split A' (n - a) c' (rs.drop a) x _ (hRa.next hb) (rowsValid_drop hv a)).mono ?_
            rintro e w2 ⟨rfl, hb2⟩
            generalize splitN (rs.drop a) x = m at HG hle ⊢
            have hown2 := hown.next hb2
            have hb3 := bnext hb hb2
            clear hown hb hb2
            go_wp2_with (at_builtin; refine wpList_append_own _ rfl _ _ 24 rfl w.heap.size 3 i0 _ 1 8 Try.underlying24 hi hz0 hz1 hz2 rfl (by decide) _ _ _ rfl (World.ownsRow.alloc hown2 _) ⟨w2.heap.size, 0, none⟩ 1 1 [.int .i64 m] rfl rfl ?c1 ?c2 ?c3 ?c4 ?c5 ?_)
            case c1 => exact one_new _ _ _
            case c2 => exact one_one _
            case c3 => unfold maxLen; omega
            case c4 => omega
            case c5 => have := hb3.size; simp; omega
            intro v3 w3 hown3 hg3 _
            have hb4 := b_own (bmk hb3 _) (World.ownsRow.alloc hown2 _) (Nat.le_refl _) hg3
            have hRa3 := hRa.from_ hle
            have hown4 : w3.ownsRow w.heap.size 3 1 v3 (acc.length + 1) ((acc ++ [(m : Int)]).map (Value.int .i64)) := by rw [List.map_append]; exact hown3
            obtain ⟨A4, c4, rfl, _, hown5⟩ := OwnI.of hown4
            clear hown2 hb3 hown3 hg3 hown4
            go_wp2
            go_roundw
            case rel => exact ⟨k + 1, a + m, _, _, A4, c4, acc ++ [(m : Int)], by omega, by go_num, by omega, by rw [Nat.sub_sub], by rw [← Nat.sub_sub, ← List.drop_drop]; exact hRa3, by simp, hown5, by simp; omega, HG, hb4⟩
            case measure => simp [intOf]; omega
        · have HG : Hid (splitGo rs hs 0 [] = some (acc, rs.length - a)) := by
            show _ = _; rw [unhide hgo, drop_end (by rw [unhide HL2]; omega), splitGo]
          go_wp2
          go_ret2
          rw [unhide H, unhide HG, unhide HL]
          exact ⟨AO, cO, rfl, hown, hb⟩
end Go.Proofs.Ytnbnkbfebekjhaa
