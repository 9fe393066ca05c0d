/- The badness of every line: contracts. No condition. -/
import Derived.Test.YtadcbigioldejaaLine6
import Derived.Test.YtadcbigioldejaaLine7
namespace Go.Proofs.Ytadcbigioldejaa
open Go.RowKit
set_option linter.unusedVariables false

def badsGo (rs : List Item) (width : Int) : Int → List Int → Option (List Int)
  | _, [] => some []
  | after, to :: t => if (lineBad rs after to width).1 < 0 then none else (badsGo rs width to t).map ((lineBad rs after to width).1 :: ·)
def lineBads (rs : List Item) (width : Int) (breaks : List Int) : List Int := (badsGo rs width (-1) breaks).getD []
theorem badsGo_step {rs : List Item} {width after to : Int} {t acc bs : List Int} {bad : Int} (hb : (lineBad rs after to width).1 = bad) (h0 : ¬ bad < 0) (h : badsGo rs width (-1) bs = (badsGo rs width after (to :: t)).map (acc ++ ·)) : badsGo rs width (-1) bs = (badsGo rs width to t).map ((acc ++ [bad]) ++ ·) := by
  rw [h, badsGo, hb, if_neg h0]
  cases badsGo rs width to t <;> simp
theorem badsGo_stop {rs : List Item} {width after to : Int} {t acc bs : List Int} {bad : Int} (hb : (lineBad rs after to width).1 = bad) (h0 : bad < 0) (h : badsGo rs width (-1) bs = (badsGo rs width after (to :: t)).map (acc ++ ·)) : lineBads rs width bs = [] := by
  rw [lineBads, h, badsGo, hb, if_pos h0]; rfl
theorem badsGo_end {rs : List Item} {width after : Int} {acc bs : List Int} (h : badsGo rs width (-1) bs = (badsGo rs width after []).map (acc ++ ·)) : lineBads rs width bs = acc := by
  rw [lineBads, h, badsGo]; simp

theorem badsGo_len {rs : List Item} {width : Int} : ∀ (bs : List Int) (after : Int) (l : List Int), badsGo rs width after bs = some l → l.length = bs.length
  | [], _, l, h => by simp [badsGo] at h; simp [← h]
  | to :: t, after, l, h => by
    rw [badsGo] at h
    split at h
    · cases h
    · cases ht : badsGo rs width to t with
      | none => rw [ht] at h; cases h
      | some l' => rw [ht] at h; simp at h; rw [← h, List.length_cons, List.length_cons, badsGo_len t to l' ht]
theorem lineBads_len (rs : List Item) (width : Int) (bs : List Int) : (lineBads rs width bs).length ≤ bs.length := by
  unfold lineBads
  cases h : badsGo rs width (-1) bs with
  | none => simp
  | some l => simp [badsGo_len bs _ l h]

set_option maxHeartbeats 1600000 in
theorem c_lineBadnesses (A : Option Addr) (n c : Nat) (rs : List Item) (width : Int) (A2 : Option Addr) (n2 c2 : Nat) (bs : List Int) (w : World) (hR : ItemsAt w A n c rs) (hI : IntsAt w A2 n2 c2 bs) (hn2 : n2 ≤ 100000000) :
    Calls Try.prog 13 #[.slice A n c, .int .i64 width, .slice A2 n2 c2] w fun e w' => ∃ A' c', e = .returned (.slice A' (lineBads rs width bs).length c') ∧ OwnI w' w.heap.size A' c' (lineBads rs width bs) ∧ Below w.heap.size w w' := by
  have hbd := hR.bd
  have hbd2 := hI.bd
  have HLEN2 := hide hI.len
  go_enter Try.func13, Try.ntmps13
  go_wp2
  go_loopw [7, 8, 15] (fun o a i wr => ∃ (k : Nat) (A' : Option Addr) (c' : Nat) (acc : List Int) (after : Int), k ≤ n2 ∧ i = .int .i64 k ∧ a = .int .i64 after ∧ o = .slice A' acc.length c' ∧ acc.length ≤ k ∧ Hid (badsGo rs width (-1) bs = (badsGo rs width after (bs.drop k)).map (acc ++ ·)) ∧ OwnI wr w.heap.size A' c' acc ∧ Below w.heap.size w wr) (fun _ _ i _ => n2 - (intOf i).toNat)
  case atStart => exact ⟨0, none, 0, [], -1, Nat.zero_le _, rfl, rfl, rfl, Nat.zero_le _, by show _ = _; simp, OwnI.nil_ _ _, Below.refl _ _⟩
  case round =>
    obtain ⟨k, A', c', acc, after, hk, rfl, rfl, rfl, hal, hgo, hown, hb⟩ := hrel
    by_cases hlt : k < n2
    · obtain ⟨b1, off1, x, rfl, hbl1, hx, hcx⟩ := (hI.next hb).at_ hlt
      have hgo2 := unhide hgo
      rw [drop_get hx] at hgo2
      have HGO := hide hgo2
      clear hgo hx hgo2
      go_wp2_with fail
      refine (c_lineBadness A n c rs after x width _ (hR.next hb)).mono ?_
      obtain ⟨bad, st, HB⟩ : ∃ bad st, Hid (lineBad rs after x width = (bad, st)) := ⟨_, _, rfl⟩
      rw [unhide HB]
      rintro e w1 ⟨rfl, hb1⟩
      have own2 := hown.next hb1
      have hb2 := bnext hb hb1
      have hs2 := hb2.size
      clear hown hb hb1
      by_cases h0 : bad < 0
      · have H : Hid (lineBads rs width bs = []) := badsGo_stop (by rw [unhide HB]) h0 (unhide HGO)
        clear HGO HB
        go_wp2
        go_ret
        rw [unhide H]
        exact ⟨none, 0, rfl, OwnI.nil_ _ _, hb2⟩
      · have H := hide (badsGo_step (by rw [unhide HB]) h0 (unhide HGO))
        clear HGO HB
        go_wp2_with (at_builtin; refine wpList_push_N bad rfl rfl own2 rfl rfl (by omega) (by omega) ?_; intro A3 c3 w2 hown2 hg2 ho2)
        go_roundw
        case rel => exact ⟨k + 1, A3, c3, _, _, by omega, by go_num, rfl, by simp, by simp; omega, H, hown2, b_own (bmk hb2 _) ho2 (Nat.le_refl _) hg2⟩
        case measure => simp [intOf]; omega
    · obtain rfl : n2 = k := by omega
      have hgo2 := unhide hgo
      rw [drop_end (by rw [unhide HLEN2]; exact Nat.le_refl _)] at hgo2
      have H := hide (badsGo_end hgo2)
      clear hgo hgo2
      go_wp2
      go_ret
      rw [unhide H]
      exact ⟨_, _, rfl, hown, hb⟩
theorem OwnI.fresh (w : World) : OwnI (w.alloc (.cells #[] 3)) w.heap.size (some ⟨w.heap.size, 0, none⟩) 0 [] := World.ownsRow_made w #[] 0 (Nat.le_refl _) (Nat.zero_le _) rfl
set_option maxHeartbeats 1600000 in
theorem c_lineBadnesses' (A : Option Addr) (n c : Nat) (rs : List Item) (width : Int) (A2 : Option Addr) (n2 c2 : Nat) (bs : List Int) (w : World) (hR : ItemsAt w A n c rs) (hI : IntsAt w A2 n2 c2 bs) (hn2 : n2 ≤ 100000000) :
    Calls Try.prog 10 #[.slice A n c, .int .i64 width, .slice A2 n2 c2] w fun e w' => ∃ A' c', e = .returned (.slice A' (lineBads rs width bs).length c') ∧ OwnI w' w.heap.size A' c' (lineBads rs width bs) ∧ Below w.heap.size w w' := by
  have hbd := hR.bd
  have hbd2 := hI.bd
  have HLEN2 := hide hI.len
  go_enter Try.func10, Try.ntmps10
  go_wp2
  go_loopw [7, 8, 9] (fun o a i wr => ∃ (k : Nat) (A' : Option Addr) (c' : Nat) (acc : List Int) (after : Int), k ≤ n2 ∧ i = .int .i64 k ∧ a = .int .i64 after ∧ o = .slice A' acc.length c' ∧ acc.length ≤ k ∧ Hid (badsGo rs width (-1) bs = (badsGo rs width after (bs.drop k)).map (acc ++ ·)) ∧ OwnI wr w.heap.size A' c' acc ∧ Below w.heap.size w wr) (fun _ _ i _ => n2 - (intOf i).toNat)
  case atStart => exact ⟨0, _, 0, [], -1, Nat.zero_le _, rfl, rfl, rfl, Nat.zero_le _, by show _ = _; simp, OwnI.fresh w, bof _ _⟩
  case round =>
    obtain ⟨k, A', c', acc, after, hk, rfl, rfl, rfl, hal, hgo, hown, hb⟩ := hrel
    by_cases hlt : k < n2
    · obtain ⟨b1, off1, x, rfl, hbl1, hx, hcx⟩ := (hI.next hb).at_ hlt
      have hgo2 := unhide hgo
      rw [drop_get hx] at hgo2
      have HGO := hide hgo2
      have HX := hide hx
      clear hgo hx hgo2
      go_wp2_with fail
      refine (c_lineBadness' A n c rs after x width _ (hR.next hb)).mono ?_
      obtain ⟨bad, st, HB⟩ : ∃ bad st, Hid (lineBad rs after x width = (bad, st)) := ⟨_, _, rfl⟩
      rw [unhide HB]
      rintro e w1 ⟨rfl, hb1⟩
      have own2 := hown.next hb1
      have hb2 := bnext hb hb1
      have hs2 := hb2.size
      clear hown hb hb1 hcx
      by_cases h0 : bad < 0
      · have H : Hid (lineBads rs width bs = []) := badsGo_stop (by rw [unhide HB]) h0 (unhide HGO)
        clear HGO HB
        go_wp2
        go_ret
        rw [unhide H]
        exact ⟨_, 0, rfl, own_base (OwnI.fresh w1) hs2, bmk hb2 _⟩
      · have H := hide (badsGo_step (by rw [unhide HB]) h0 (unhide HGO))
        clear HGO HB
        go_wp2_with (at_builtin; refine wpList_push_N bad rfl rfl own2 rfl rfl (by omega) (by omega) ?_; intro A3 c3 w2 hown2 hg2 ho2; have hb3 := b_own (bmk hb2 (.cells #[.int .i64 bad] 3)) ho2 (Nat.le_refl _) hg2; obtain ⟨b4, off4, x4, e4, hbl4, hx4, hcx4⟩ := (hI.next hb3).at_ hlt; obtain ⟨rfl, rfl⟩ : b1 = b4 ∧ off1 = off4 := (by simpa using e4); obtain rfl : x = x4 := (by have hxx := unhide HX; rw [hx4] at hxx; exact (Option.some.inj hxx).symm); clear hx4 e4 hg2 ho2)
        go_roundw
        case rel => exact ⟨k + 1, A3, c3, _, _, by omega, by go_num, rfl, by simp, by simp; omega, H, hown2, hb3⟩
        case measure => simp [intOf]; omega
    · obtain rfl : n2 = k := by omega
      have hgo2 := unhide hgo
      rw [drop_end (by rw [unhide HLEN2]; exact Nat.le_refl _)] at hgo2
      have H := hide (badsGo_end hgo2)
      clear hgo hgo2
      go_wp2
      go_ret
      rw [unhide H]
      exact ⟨_, _, rfl, hown, hb⟩
end Go.Proofs.Ytadcbigioldejaa
