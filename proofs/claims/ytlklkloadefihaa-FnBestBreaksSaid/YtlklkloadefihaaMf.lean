/- The badness of every line: contracts. · FirstBreaks on both sides: contracts. · The reference's FirstBreaks: contract. No condition. -/
import Derived.Test.YtlklkloadefihaaMli
namespace Go.Proofs.Ytlklkloadefihaa
open Go.RowKit
set_option linter.unusedVariables false

def badsGo (rs : List Item) (width : Int) : Int → List Int → Option (List Int)
  | _, [] => some []
  | after, to :: t => if (lineBad rs after to width).1 < 0 then none else (badsGo rs width to t).map ((lineBad rs after to width).1 :: ·)
def lineBads (rs : List Item) (width : Int) (breaks : List Int) : List Int := (badsGo rs width (-1) breaks).getD []
theorem badsGo_step {rs : List Item} {width after to : Int} {t acc bs : List Int} {bad : Int} (hb : (lineBad rs after to width).1 = bad) (h0 : ¬ bad < 0) (h : badsGo rs width (-1) bs = (badsGo rs width after (to :: t)).map (acc ++ ·)) : badsGo rs width (-1) bs = (badsGo rs width to t).map ((acc ++ [bad]) ++ ·) := by
  rw [h, badsGo, hb, if_neg h0]
  cases badsGo rs width to t <;> simp
theorem badsGo_stop {rs : List Item} {width after to : Int} {t acc bs : List Int} {bad : Int} (hb : (lineBad rs after to width).1 = bad) (h0 : bad < 0) (h : badsGo rs width (-1) bs = (badsGo rs width after (to :: t)).map (acc ++ ·)) : lineBads rs width bs = [] := by
  rw [lineBads, h, badsGo, hb, if_pos h0]; rfl
theorem badsGo_end {rs : List Item} {width after : Int} {acc bs : List Int} (h : badsGo rs width (-1) bs = (badsGo rs width after []).map (acc ++ ·)) : lineBads rs width bs = acc := by
  rw [lineBads, h, badsGo]; simp

theorem badsGo_len {rs : List Item} {width : Int} : ∀ (bs : List Int) (after : Int) (l : List Int), badsGo rs width after bs = some l → l.length = bs.length
  | [], _, l, h => by simp [badsGo] at h; simp [← h]
  | to :: t, after, l, h => by
    rw [badsGo] at h
    split at h
    · cases h
    · cases ht : badsGo rs width to t with
      | none => rw [ht] at h; cases h
      | some l' => rw [ht] at h; simp at h; rw [← h, List.length_cons, List.length_cons, badsGo_len t to l' ht]
theorem lineBads_len (rs : List Item) (width : Int) (bs : List Int) : (lineBads rs width bs).length ≤ bs.length := by
  unfold lineBads
  cases h : badsGo rs width (-1) bs with
  | none => simp
  | some l => simp [badsGo_len bs _ l h]

set_option maxHeartbeats 1600000 in
theorem c_lineBadnesses (A : Option Addr) (n c : Nat) (rs : List Item) (width : Int) (A2 : Option Addr) (n2 c2 : Nat) (bs : List Int) (w : World) (hR : ItemsAt w A n c rs) (hI : IntsAt w A2 n2 c2 bs) (hn2 : n2 ≤ 100000000) :
    Calls Try.prog 19 #[.slice A n c, .int .i64 width, .slice A2 n2 c2] w fun e w' => ∃ A' c', e = .returned (.slice A' (lineBads rs width bs).length c') ∧ OwnI w' w.heap.size A' c' (lineBads rs width bs) ∧ Below w.heap.size w w' := by
  have hbd := hR.bd
  have hbd2 := hI.bd
  have HLEN2 := hide hI.len
  go_enter Try.func19, Try.ntmps19
  go_wp2
  go_loopw [7, 8, 15] (fun o a i wr => ∃ (k : Nat) (A' : Option Addr) (c' : Nat) (acc : List Int) (after : Int), k ≤ n2 ∧ i = .int .i64 k ∧ a = .int .i64 after ∧ o = .slice A' acc.length c' ∧ acc.length ≤ k ∧ Hid (badsGo rs width (-1) bs = (badsGo rs width after (bs.drop k)).map (acc ++ ·)) ∧ OwnI wr w.heap.size A' c' acc ∧ Below w.heap.size w wr) (fun _ _ i _ => n2 - (intOf i).toNat)
  case atStart => exact ⟨0, none, 0, [], -1, Nat.zero_le _, rfl, rfl, rfl, Nat.zero_le _, by show _ = _; simp, OwnI.nil_ _ _, Below.refl _ _⟩
  case round =>
    obtain ⟨k, A', c', acc, after, hk, rfl, rfl, rfl, hal, hgo, hown, hb⟩ := hrel
    by_cases hlt : k < n2
    · obtain ⟨b1, off1, x, rfl, hbl1, hx, hcx⟩ := (hI.next hb).at_ hlt
      have hgo2 := unhide hgo
      rw [drop_get hx] at hgo2
      have HGO := hide hgo2
      clear hgo hx hgo2
      go_wp2_with fail
      refine (c_lineBadness A n c rs after x width _ (hR.next hb)).mono ?_
      obtain ⟨bad, st, HB⟩ : ∃ bad st, Hid (lineBad rs after x width = (bad, st)) := ⟨_, _, rfl⟩
      rw [unhide HB]
      rintro e w1 ⟨rfl, hb1⟩
      have own2 := hown.next hb1
      have hb2 := bnext hb hb1
      have hs2 := hb2.size
      clear hown hb hb1
      by_cases h0 : bad < 0
      · have H : Hid (lineBads rs width bs = []) := badsGo_stop (by rw [unhide HB]) h0 (unhide HGO)
        clear HGO HB
        go_wp2
        go_ret
        rw [unhide H]
        exact ⟨none, 0, rfl, OwnI.nil_ _ _, hb2⟩
      · have H := hide (badsGo_step (by rw [unhide HB]) h0 (unhide HGO))
        clear HGO HB
        go_wp2_with (at_builtin; refine wpList_push_N bad rfl rfl own2 rfl rfl (by omega) (by omega) ?_; intro A3 c3 w2 hown2 hg2 ho2)
        go_roundw
        case rel => exact ⟨k + 1, A3, c3, _, _, by omega, by go_num, rfl, by simp, by simp; omega, H, hown2, b_own (bmk hb2 _) ho2 (Nat.le_refl _) hg2⟩
        case measure => simp [intOf]; omega
    · obtain rfl : n2 = k := by omega
      have hgo2 := unhide hgo
      rw [drop_end (by rw [unhide HLEN2]; exact Nat.le_refl _)] at hgo2
      have H := hide (badsGo_end hgo2)
      clear hgo hgo2
      go_wp2
      go_ret
      rw [unhide H]
      exact ⟨_, _, rfl, hown, hb⟩
theorem OwnI.fresh (w : World) : OwnI (w.alloc (.cells #[] 3)) w.heap.size (some ⟨w.heap.size, 0, none⟩) 0 [] := World.ownsRow_made w #[] 0 (Nat.le_refl _) (Nat.zero_le _) rfl
set_option maxHeartbeats 1600000 in
theorem c_lineBadnesses' (A : Option Addr) (n c : Nat) (rs : List Item) (width : Int) (A2 : Option Addr) (n2 c2 : Nat) (bs : List Int) (w : World) (hR : ItemsAt w A n c rs) (hI : IntsAt w A2 n2 c2 bs) (hn2 : n2 ≤ 100000000) :
    Calls Try.prog 21 #[.slice A n c, .int .i64 width, .slice A2 n2 c2] w fun e w' => ∃ A' c', e = .returned (.slice A' (lineBads rs width bs).length c') ∧ OwnI w' w.heap.size A' c' (lineBads rs width bs) ∧ Below w.heap.size w w' := by
  have hbd := hR.bd
  have hbd2 := hI.bd
  have HLEN2 := hide hI.len
  go_enter Try.func21, Try.ntmps21
  go_wp2
  go_loopw [7, 8, 9] (fun o a i wr => ∃ (k : Nat) (A' : Option Addr) (c' : Nat) (acc : List Int) (after : Int), k ≤ n2 ∧ i = .int .i64 k ∧ a = .int .i64 after ∧ o = .slice A' acc.length c' ∧ acc.length ≤ k ∧ Hid (badsGo rs width (-1) bs = (badsGo rs width after (bs.drop k)).map (acc ++ ·)) ∧ OwnI wr w.heap.size A' c' acc ∧ Below w.heap.size w wr) (fun _ _ i _ => n2 - (intOf i).toNat)
  case atStart => exact ⟨0, _, 0, [], -1, Nat.zero_le _, rfl, rfl, rfl, Nat.zero_le _, by show _ = _; simp, OwnI.fresh w, bof _ _⟩
  case round =>
    obtain ⟨k, A', c', acc, after, hk, rfl, rfl, rfl, hal, hgo, hown, hb⟩ := hrel
    by_cases hlt : k < n2
    · obtain ⟨b1, off1, x, rfl, hbl1, hx, hcx⟩ := (hI.next hb).at_ hlt
      have hgo2 := unhide hgo
      rw [drop_get hx] at hgo2
      have HGO := hide hgo2
      have HX := hide hx
      clear hgo hx hgo2
      go_wp2_with fail
      refine (c_lineBadness' A n c rs after x width _ (hR.next hb)).mono ?_
      obtain ⟨bad, st, HB⟩ : ∃ bad st, Hid (lineBad rs after x width = (bad, st)) := ⟨_, _, rfl⟩
      rw [unhide HB]
      rintro e w1 ⟨rfl, hb1⟩
      have own2 := hown.next hb1
      have hb2 := bnext hb hb1
      have hs2 := hb2.size
      clear hown hb hb1 hcx
      by_cases h0 : bad < 0
      · have H : Hid (lineBads rs width bs = []) := badsGo_stop (by rw [unhide HB]) h0 (unhide HGO)
        clear HGO HB
        go_wp2
        go_ret
        rw [unhide H]
        exact ⟨_, 0, rfl, own_base (OwnI.fresh w1) hs2, bmk hb2 _⟩
      · have H := hide (badsGo_step (by rw [unhide HB]) h0 (unhide HGO))
        clear HGO HB
        go_wp2_with (at_builtin; refine wpList_push_N bad rfl rfl own2 rfl rfl (by omega) (by omega) ?_; intro A3 c3 w2 hown2 hg2 ho2; have hb3 := b_own (bmk hb2 (.cells #[.int .i64 bad] 3)) ho2 (Nat.le_refl _) hg2; obtain ⟨b4, off4, x4, e4, hbl4, hx4, hcx4⟩ := (hI.next hb3).at_ hlt; obtain ⟨rfl, rfl⟩ : b1 = b4 ∧ off1 = off4 := (by simpa using e4); obtain rfl : x = x4 := (by have hxx := unhide HX; rw [hx4] at hxx; exact (Option.some.inj hxx).symm); clear hx4 e4 hg2 ho2)
        go_roundw
        case rel => exact ⟨k + 1, A3, c3, _, _, by omega, by go_num, rfl, by simp, by simp; omega, H, hown2, hb3⟩
        case measure => simp [intOf]; omega
    · obtain rfl : n2 = k := by omega
      have hgo2 := unhide hgo
      rw [drop_end (by rw [unhide HLEN2]; exact Nat.le_refl _)] at hgo2
      have H := hide (badsGo_end hgo2)
      clear hgo hgo2
      go_wp2
      go_ret
      rw [unhide H]
      exact ⟨_, _, rfl, hown, hb⟩
end Go.Proofs.Ytlklkloadefihaa

namespace Go.Proofs.Ytlklkloadefihaa
open Go.RowKit
set_option linter.unusedVariables false

def argsB (rs : List Item) (width most : Int) : Bool := itemsValid rs && (decide (0 < rs.length) && (inB width 0 1000 && inB most 0 10000))
theorem argsB_iff {rs : List Item} {width most : Int} : argsB rs width most = true ↔ itemsValid rs = true ∧ 0 < rs.length ∧ (0 ≤ width ∧ width ≤ 1000) ∧ 0 ≤ most ∧ most ≤ 10000 := by
  simp [argsB, inB]
/-- May a line from behind a - 1 end at J - 1? -/
def fitJ (rs : List Item) (width most : Int) (a J : Nat) : Bool := inB (lineBad rs ((a : Int) - 1) ((J : Int) - 1) width).1 0 most
def lastGood (p : Nat → Bool) : Nat → Nat
  | 0 => 0
  | J + 1 => if p (J + 1) then J + 1 else lastGood p J
theorem lastGood_le (p : Nat → Bool) : ∀ J, lastGood p J ≤ J
  | 0 => Nat.le_refl _
  | J + 1 => by rw [lastGood]; split; · exact Nat.le_refl _
                exact Nat.le_trans (lastGood_le p J) (by omega)
theorem lastGood_zero {p : Nat → Bool} : ∀ {a : Nat}, (∀ J, J ≤ a → p J = false) → lastGood p a = 0
  | 0, _ => rfl
  | a + 1, h => by rw [lastGood, h (a + 1) (Nat.le_refl _)]; exact lastGood_zero fun J hJ => h J (by omega)
theorem lastGood_good {p : Nat → Bool} : ∀ {J : Nat}, 0 < lastGood p J → p (lastGood p J) = true
  | J + 1, h => by
    rw [lastGood] at h ⊢
    by_cases hp : p (J + 1) = true
    · rw [if_pos hp]; exact hp
    · rw [if_neg hp] at h ⊢; exact lastGood_good h
theorem lastGood_last {p : Nat → Bool} : ∀ {J K : Nat}, lastGood p J < K → K ≤ J → p K = false
  | 0, K, h, hK => by omega
  | J + 1, K, h, hK => by
    rw [lastGood] at h
    by_cases hp : p (J + 1) = true
    · rw [if_pos hp] at h; omega
    · rw [if_neg hp] at h
      rcases Nat.lt_or_ge J K with hlt | hge
      · rw [show K = J + 1 by omega]; simpa using hp
      · exact lastGood_last h hge
theorem lineBad_low {rs : List Item} {after to width : Int} (h : to ≤ after) : (lineBad rs after to width).1 = -1 := by
  have : fitsB rs after to width = false := by
    cases hf : fitsB rs after to width
    · rfl
    · have := lineOk_bd (fitsB_iff.1 hf).2.1; omega
  rw [lineBad, this]; rfl
theorem lineBad_high {rs : List Item} {after to width : Int} (h : (rs.length : Int) ≤ to) : (lineBad rs after to width).1 = -1 := by
  have : fitsB rs after to width = false := by
    cases hf : fitsB rs after to width
    · rfl
    · have := lineOk_bd (fitsB_iff.1 hf).2.1; omega
  rw [lineBad, this]; rfl
theorem fitJ_low {rs : List Item} {width most : Int} {a J : Nat} (h : J ≤ a) : fitJ rs width most a J = false := by
  unfold fitJ; rw [lineBad_low (by omega)]; simp [inB]
theorem lastGood_low {rs : List Item} {width most : Int} {a : Nat} : lastGood (fitJ rs width most a) a = 0 := lastGood_zero fun J hJ => fitJ_low hJ
theorem lastGood_gt {rs : List Item} {width most : Int} {a J : Nat} (h : 0 < lastGood (fitJ rs width most a) J) : a < lastGood (fitJ rs width most a) J := by
  have := lastGood_good h
  rcases Nat.lt_or_ge a (lastGood (fitJ rs width most a) J) with h1 | h1
  · exact h1
  · rw [fitJ_low h1] at this; cases this
def firstGo (rs : List Item) (width most : Int) : Nat → Nat → Option (List Int)
  | 0, _ => some []
  | f + 1, a => if rs.length ≤ a then some [] else
    if lastGood (fitJ rs width most a) rs.length = 0 then none else
      (firstGo rs width most f (lastGood (fitJ rs width most a) rs.length)).map ((((lastGood (fitJ rs width most a) rs.length : Nat) : Int) - 1) :: ·)
def firstBr (rs : List Item) (width most : Int) : Option (List Int) := if argsB rs width most then firstGo rs width most rs.length 0 else none
def firstBreaks (rs : List Item) (width most : Int) : List Int := (firstBr rs width most).getD []
theorem firstGo_len {rs : List Item} {width most : Int} : ∀ (f a : Nat) (l : List Int), firstGo rs width most f a = some l → l.length ≤ f
  | 0, _, l, h => by simp [firstGo] at h; simp [h]
  | f + 1, a, l, h => by
    rw [firstGo] at h
    split at h
    · simp at h; simp [h]
    · split at h
      · cases h
      · cases ht : firstGo rs width most f (lastGood (fitJ rs width most a) rs.length) with
        | none => rw [ht] at h; cases h
        | some l' => rw [ht] at h; simp at h; rw [← h, List.length_cons]; have := firstGo_len f _ l' ht; omega
theorem firstBreaks_len (rs : List Item) (width most : Int) : (firstBreaks rs width most).length ≤ rs.length := by
  unfold firstBreaks firstBr
  split
  · cases h : firstGo rs width most rs.length 0 with
    | none => simp
    | some l => simp [firstGo_len _ _ l h]
  · simp
theorem firstGo_none {rs : List Item} {width most : Int} {f a : Nat} {acc : List Int} {X : Option (List Int)} (h : X = (firstGo rs width most f a).map (acc ++ ·)) (hf : rs.length - a ≤ f) (ha : a < rs.length) (h0 : lastGood (fitJ rs width most a) rs.length = 0) : X = none := by
  obtain ⟨g, rfl⟩ : ∃ g, f = g + 1 := ⟨f - 1, by omega⟩
  rw [h, firstGo, if_neg (by omega), if_pos h0]; rfl
theorem firstGo_some {rs : List Item} {width most : Int} {f a J : Nat} {acc : List Int} {X : Option (List Int)} (h : X = (firstGo rs width most f a).map (acc ++ ·)) (hf : rs.length - a ≤ f) (ha : a < rs.length) (h0 : lastGood (fitJ rs width most a) rs.length = J + 1) :
    ∃ g, X = (firstGo rs width most g (J + 1)).map ((acc ++ [(J : Int)]) ++ ·) ∧ rs.length - (J + 1) ≤ g := by
  obtain ⟨g, rfl⟩ : ∃ g, f = g + 1 := ⟨f - 1, by omega⟩
  have hgt := lastGood_gt (rs := rs) (width := width) (most := most) (a := a) (J := rs.length) (by omega)
  refine ⟨g, ?_, by omega⟩
  rw [h, firstGo, if_neg (by omega), if_neg (by omega), h0]
  have e : (((J + 1 : Nat) : Int) - 1) = (J : Int) := by omega
  rw [e]
  cases firstGo rs width most g (J + 1) <;> simp
theorem firstGo_end {rs : List Item} {width most : Int} {f a : Nat} {acc : List Int} {X : Option (List Int)} (h : X = (firstGo rs width most f a).map (acc ++ ·)) (ha : rs.length ≤ a) : X = some acc := by
  rw [h]
  cases f with
  | zero => simp [firstGo]
  | succ f => rw [firstGo, if_pos ha]; simp
theorem firstBr_not {rs : List Item} {width most : Int} (h : argsB rs width most = false) : firstBreaks rs width most = [] ∧ (firstBr rs width most).isSome = false := by simp [firstBreaks, firstBr, h]

set_option maxHeartbeats 400000 in
theorem c_lineArguments (A : Option Addr) (n c : Nat) (rs : List Item) (width most : Int) (w : World) (hR : ItemsAt w A n c rs) :
    Calls Try.prog 52 #[.slice A n c, .int .i64 width, .int .i64 most] w fun e w' => e = .returned (.bool (argsB rs width most)) ∧ Below w.heap.size w w' := by
  have hlen := hR.len
  have hbd := hR.bd
  have H : Hid (argsB rs width most = (itemsValid rs && (decide (0 < n) && (inB width 0 1000 && inB most 0 10000)))) := by show _ = _; rw [argsB, hlen]
  clear hlen
  rw [unhide H]
  clear H
  go_enter Try.func52, Try.ntmps52
  go_wp2_with fail
  refine (c_itemsValid A n c rs _ hR).mono ?_
  rintro e w1 ⟨rfl, hb1⟩
  cases hv : itemsValid rs
  · go_wp2
    go_ret
    exact ⟨by simp [hv], hb1⟩
  · by_cases h0 : 0 < n
    · cases hw : inB width 0 1000 <;> cases hm : inB most 0 10000
      all_goals
        go_wp2_with (first | (go_at_call 45; refine (c_in _ _ _ _).mono ?_; rintro e w' ⟨rfl, rfl⟩) | (go_at_call 78; refine (c_isBad _ _).mono ?_; rintro e w' ⟨rfl, rfl⟩))
        go_ret
        exact ⟨by simp [*], hb1⟩
    · obtain rfl : n = 0 := by omega
      go_wp2
      go_ret
      exact ⟨by simp, hb1⟩
set_option maxRecDepth 100000 in
set_option maxHeartbeats 3200000 in
theorem c_firstBreaks (A : Option Addr) (n c : Nat) (rs : List Item) (width most : Int) (w : World) (hR : ItemsAt w A n c rs) :
    Calls Try.prog 26 #[.slice A n c, .int .i64 width, .int .i64 most] w fun e w' => ∃ A' c', e = .returned (.tuple #[.slice A' (firstBreaks rs width most).length c', .bool (firstBr rs width most).isSome]) ∧ OwnI w' w.heap.size A' c' (firstBreaks rs width most) ∧ Below w.heap.size w w' := by
  have hlen := hR.len
  have hbd := hR.bd
  go_enter Try.func26, Try.ntmps26
  go_wp2_with fail
  refine (c_lineArguments A n c rs width most _ hR).mono ?_
  rintro e w1 ⟨rfl, hb1⟩
  cases hargs : argsB rs width most
  · have H := hide (firstBr_not hargs)
    clear hlen
    go_wp2
    go_ret2
    rw [(unhide H).1, (unhide H).2]
    exact ⟨none, 0, rfl, OwnI.nil_ _ _, hb1⟩
  · obtain ⟨hv, hn0, ⟨hw0, hw1⟩, hm0, hm1⟩ := argsB_iff.1 hargs
    have hn60 := (itemsValid_iff.1 hv).2
    rw [hlen] at hn60 hn0
    have HLEN := hide hlen
    obtain ⟨X, HX⟩ : ∃ X, Hid (firstBr rs width most = X) := ⟨_, rfl⟩
    have HX2 : Hid (X = firstGo rs width most n 0) := by show _ = _; rw [← unhide HX, firstBr, if_pos hargs, hlen]
    have HXB : Hid (firstBreaks rs width most = X.getD []) := by show _ = _; rw [firstBreaks, unhide HX]
    clear hlen hv hargs
    go_wp2
    go_loopw [8, 9] (fun o t wr => ∃ (a f : Nat) (A' : Option Addr) (c' : Nat) (acc : List Int), a ≤ n ∧ t = .int .i64 ((a : Int) - 1) ∧ o = .slice A' acc.length c' ∧ acc.length ≤ a ∧ Hid (X = (firstGo rs width most f a).map (acc ++ ·) ∧ n - a ≤ f) ∧ OwnI wr w.heap.size A' c' acc ∧ Below w.heap.size w wr) (fun _ t _ => n - (intOf t + 1).toNat)
    case atStart => exact ⟨0, n, none, 0, [], Nat.zero_le _, rfl, rfl, Nat.zero_le _, ⟨by rw [unhide HX2]; simp, by omega⟩, OwnI.nil_ _ _, hb1⟩
    case round =>
      clear hb1
      obtain ⟨a, f, A', c', acc, ha, rfl, rfl, hal, hgo, hown, hb⟩ := hrel
      by_cases hlt : a < n
      · have hlt' : (a : Int) - 1 < (n : Int) - 1 := by omega
        go_wp2
        obtain ⟨wL, rfl⟩ : ∃ wL : World, wL = wr := ⟨_, rfl⟩
        go_loopw [10] (fun t wr => ∃ J : Nat, a ≤ J ∧ J ≤ n ∧ t = .int .i64 ((J : Int) - 1) ∧ Hid (lastGood (fitJ rs width most a) n = lastGood (fitJ rs width most a) J) ∧ Below wL.heap.size wL wr) (fun t _ => (intOf t + 1).toNat)
        case atStart => exact ⟨n, by omega, Nat.le_refl _, by go_num, rfl, Below.refl _ _⟩
        case round =>
          obtain ⟨J, hJa, hJn, rfl, hlg, hbL⟩ := hrel
          by_cases hgt : a < J
          · have hgt' : (a : Int) - 1 < (J : Int) - 1 := by omega
            go_wp2_with fail
            refine (c_lineBadness A n c rs _ _ width _ (hR.next (bnext hb hbL))).mono ?_
            obtain ⟨bad, st, HB⟩ : ∃ bad st, Hid (lineBad rs ((a : Int) - 1) ((J : Int) - 1) width = (bad, st)) := ⟨_, _, rfl⟩
            rw [unhide HB]
            rintro e w2 ⟨rfl, hb2⟩
            replace hbL := bnext hbL hb2
            clear hb2
            have HF : Hid (fitJ rs width most a J = inB bad 0 most) := by show _ = _; rw [fitJ, unhide HB]
            clear HB
            obtain ⟨K, rfl⟩ : ∃ K, J = K + 1 := ⟨J - 1, by omega⟩
            cases hin : inB bad 0 most
            · have H : Hid (lastGood (fitJ rs width most a) n = lastGood (fitJ rs width most a) K) := by
                show _ = _; rw [unhide hlg, lastGood, unhide HF, hin]; rfl
              clear HF hlg
              go_wp2_with (go_at_call 45; refine (c_in _ _ _ _).mono ?_; rintro e w' ⟨rfl, rfl⟩)
              go_roundw
              case rel => exact ⟨K, by omega, by omega, by go_num, H, hbL⟩
              case measure => simp [intOf] <;> omega
            · have H : Hid (lastGood (fitJ rs width most a) n = K + 1) := by
                show _ = _; rw [unhide hlg, lastGood, unhide HF, hin]; rfl
              clear HF hlg
              obtain ⟨g, HG⟩ : ∃ g, Hid (X = (firstGo rs width most g (K + 1)).map ((acc ++ [(K : Int)]) ++ ·) ∧ n - (K + 1) ≤ g) := by
                have hg := unhide hgo
                have := firstGo_some (f := f) hg.1 (by rw [unhide HLEN]; exact hg.2) (by rw [unhide HLEN]; exact hlt) (by rw [unhide HLEN]; exact unhide H)
                rw [unhide HLEN] at this
                exact this
              have hne : (((K + 1 : Nat) : Int) - 1 == (a : Int) - 1) = false := by simp; omega
              have hne2 : ((K : Int) == (a : Int) - 1) = false := by simp; omega
              have own2 := hown.next hbL
              replace hbL := bnext hb hbL
              have hs2 := hbL.size
              clear H hgo hown
              go_wp2_with (first | (go_at_call 45; refine (c_in _ _ _ _).mono ?_; rintro e w' ⟨rfl, rfl⟩) | (at_builtin; refine wpList_push_N (K : Int) rfl rfl own2 rfl rfl (by omega) (by omega) ?_; intro A3 c3 w3 hown3 hg3 ho3))
              go_roundw
              case rel => exact ⟨K + 1, g, A3, c3, _, by omega, by go_num, by simp, by simp; omega, HG, hown3, b_own (bmk hbL _) ho3 (Nat.le_refl _) hg3⟩
              case measure => simp [intOf]; omega
          · obtain rfl : a = J := by omega
            have H : Hid (X = none) := by
              show _ = _
              have hg := unhide hgo
              refine firstGo_none (f := f) hg.1 (by rw [unhide HLEN]; exact hg.2) (by rw [unhide HLEN]; exact hlt) ?_
              rw [unhide HLEN, unhide hlg, lastGood_low]
            clear hgo hlg
            go_wp2
            go_ret2
            rw [unhide HXB, unhide HX, unhide H]
            exact ⟨none, 0, rfl, OwnI.nil_ _ _, bnext hb hbL⟩
      · obtain rfl : n = a := by omega
        have H : Hid (X = some acc) := firstGo_end (unhide hgo).1 (by rw [unhide HLEN]; exact Nat.le_refl _)
        clear hgo
        go_wp2
        go_ret2
        rw [unhide HXB, unhide HX, unhide H]
        exact ⟨_, _, rfl, hown, hb⟩
end Go.Proofs.Ytlklkloadefihaa

namespace Go.Proofs.Ytlklkloadefihaa
open Go.RowKit
set_option linter.unusedVariables false

theorem lineBad_not {rs : List Item} {after to width : Int} (h : lineOk rs after to = false) : lineBad rs after to width = (-1, false) := by
  have : fitsB rs after to width = false := by rw [fitsB, h]; simp
  rw [lineBad, this]; rfl
theorem lineBad_ok {rs : List Item} {after to width : Int} (hv : itemsValid rs = true) (hl : lineOk rs after to = true) (hw : 0 ≤ width ∧ width ≤ 1000) : lineBad rs after to width = badOf (lineTot rs after to) width := by
  rw [lineBad, if_pos (fitsB_iff.2 ⟨hv, hl, hw⟩)]
theorem last_yes {p : Nat → Bool} {J : Nat} (h : p (J + 1) = true) : lastGood p (J + 1) = J + 1 := by rw [lastGood, if_pos h]
theorem last_no {p : Nat → Bool} {J : Nat} (h : p (J + 1) = false) : lastGood p (J + 1) = lastGood p J := by rw [lastGood, h]; rfl
theorem fitJ_at {rs : List Item} {width most : Int} {a J : Nat} {bad : Int} (h : (lineBad rs ((a : Int) - 1) (J : Int) width).1 = bad) : fitJ rs width most a (J + 1) = inB bad 0 most := by
  have e : (((J + 1 : Nat) : Int) - 1) = (J : Int) := by omega
  rw [fitJ, e, h]
set_option maxRecDepth 100000 in
set_option maxHeartbeats 3200000 in
theorem c_firstBreaks' (A : Option Addr) (n c : Nat) (rs : List Item) (width most : Int) (w : World) (hR : ItemsAt w A n c rs) :
    Calls Try.prog 27 #[.slice A n c, .int .i64 width, .int .i64 most] w fun e w' => ∃ A' c', e = .returned (.tuple #[.slice A' (firstBreaks rs width most).length c', .bool (firstBr rs width most).isSome]) ∧ OwnI w' w.heap.size A' c' (firstBreaks rs width most) ∧ Below w.heap.size w w' := by
  have hlen := hR.len
  have hbd := hR.bd
  have O0 := OwnI.fresh w
  have hb0 := bof w (.cells #[] 3)
  have HLEN := hide hlen
  clear hlen
  go_enter Try.func27, Try.ntmps27
  go_wp2_with fail
  refine (c_itemsValid' A n c rs _ (hR.next hb0)).mono ?_
  rintro e w1 ⟨rfl, hb1⟩
  replace O0 := O0.next hb1
  replace hb0 := bnext hb0 hb1
  clear hb1
  by_cases hargs : argsB rs width most = true
  case' neg =>
    have H := hide (firstBr_not (show argsB rs width most = false by simpa using hargs))
    have HN : itemsValid rs = false ∨ (itemsValid rs = true ∧ inB width 0 1000 = false) ∨ (itemsValid rs = true ∧ inB width 0 1000 = true ∧ inB most 0 10000 = false) ∨ (itemsValid rs = true ∧ inB width 0 1000 = true ∧ inB most 0 10000 = true ∧ n = 0) := by
      have hh : argsB rs width most = false := by simpa using hargs
      rw [argsB, unhide HLEN] at hh
      cases h1 : itemsValid rs <;> cases h2 : inB width 0 1000 <;> cases h3 : inB most 0 10000 <;> simp [h1, h2, h3] at hh ⊢
      exact hh
    clear hargs
    rcases HN with h | ⟨h, h2⟩ | ⟨h, h2, h3⟩ | ⟨h, h2, h3, rfl⟩
    all_goals
      rw [h]
      go_wp2_with (go_at_call 47; refine (c_l1In _ _ _ _).mono ?_; rintro e w' ⟨rfl, rfl⟩)
      go_ret2
      rw [(unhide H).1, (unhide H).2]
      exact ⟨_, 0, rfl, O0, hb0⟩
  case' pos =>
    obtain ⟨hv, hn0, hw, hm⟩ := argsB_iff.1 hargs
    have hn60 := (itemsValid_iff.1 hv).2
    have HVAL := hide (itemsValid_iff.1 hv).1
    rw [unhide HLEN] at hn60 hn0
    have i1 : inB width 0 1000 = true := inB_iff.2 hw
    have i2 : inB most 0 10000 = true := inB_iff.2 hm
    have hnz : ((n : Int) == 0) = false := by simp; omega
    have HW := hide hw
    obtain ⟨X, HX⟩ : ∃ X, Hid (firstBr rs width most = X) := ⟨_, rfl⟩
    have HX2 : Hid (X = firstGo rs width most n 0) := by show _ = _; rw [← unhide HX, firstBr, if_pos hargs, unhide HLEN]
    have HXB : Hid (firstBreaks rs width most = X.getD []) := by show _ = _; rw [firstBreaks, unhide HX]
    have HV := hide hv
    rw [hv]
    clear hv hargs
    go_wp2_with (go_at_call 47; refine (c_l1In _ _ _ _).mono ?_; rintro e w' ⟨rfl, rfl⟩)
    clear i1 i2
    go_loopw [8, 9] (fun o t wr => ∃ (a f : Nat) (A' : Option Addr) (c' : Nat) (acc : List Int), a ≤ n ∧ t = .int .i64 ((a : Int) - 1) ∧ o = .slice A' acc.length c' ∧ acc.length ≤ a ∧ Hid (X = (firstGo rs width most f a).map (acc ++ ·) ∧ n - a ≤ f) ∧ OwnI wr w.heap.size A' c' acc ∧ Below w.heap.size w wr) (fun _ t _ => n - (intOf t + 1).toNat)
    case atStart => exact ⟨0, n, _, 0, [], Nat.zero_le _, rfl, rfl, Nat.zero_le _, ⟨by rw [unhide HX2]; simp, by omega⟩, O0, hb0⟩
    case round =>
      clear hb0 O0
      obtain ⟨a, f, A', c', acc, ha, rfl, rfl, hal, hgo, hown, hb⟩ := hrel
      by_cases hlt : a < n
      · have hlt' : (a : Int) - 1 < (n : Int) - 1 := by omega
        go_wp2
        obtain ⟨wL, rfl⟩ : ∃ wL : World, wL = wr := ⟨_, rfl⟩
        go_loopw [10, 11] (fun fo t wr => ∃ (J : Nat) (K : Int), a ≤ J ∧ J ≤ n ∧ t = .int .i64 J ∧ fo = .int .i64 K ∧ Hid (K = (lastGood (fitJ rs width most a) J : Int) - 1) ∧ Below wL.heap.size wL wr) (fun _ t _ => n - (intOf t).toNat)
        case atStart => exact ⟨a, -1, Nat.le_refl _, by omega, by go_num, rfl, by show _ = _; rw [lastGood_low]; rfl, Below.refl _ _⟩
        case round =>
          obtain ⟨J, K, hJa, hJn, rfl, rfl, hlg, hbL⟩ := hrel
          by_cases hgt : J < n
          · go_wp2_with fail
            refine (c_l7Line A n c rs _ _ _ (hR.next (bnext hb hbL)) (unhide HVAL) hn60).mono ?_
            rintro e w2 ⟨rfl, hb2⟩
            replace hbL := bnext hbL hb2
            clear hb2
            cases hl : lineOk rs ((a : Int) - 1) (J : Int)
            · have H : Hid (K = (lastGood (fitJ rs width most a) (J + 1) : Int) - 1) := by
                show _ = _; rw [unhide hlg, last_no (by rw [fitJ_at (by rw [lineBad_not hl])]; rfl)]
              clear hlg hl
              go_wp2
              go_roundw
              case rel => exact ⟨J + 1, K, by omega, by omega, by go_num, rfl, H, hbL⟩
              case measure => simp [intOf] <;> omega
            · obtain ⟨bad, st, HB⟩ : ∃ bad st, Hid (badOf (lineTot rs ((a : Int) - 1) (J : Int)) width = (bad, st)) := ⟨_, _, rfl⟩
              have HF : Hid (fitJ rs width most a (J + 1) = inB bad 0 most) := fitJ_at (by rw [lineBad_ok (unhide HV) hl (unhide HW), unhide HB])
              have HLO := hide hl
              clear hl
              go_wp2_with fail
              refine (c_l7Bad A n c rs _ _ width _ (hR.next (bnext hb hbL)) (unhide HV) (unhide HLO) (unhide HW) bad st HB).mono ?_
              rintro e w3 ⟨rfl, hb3⟩
              replace hbL := bnext hbL hb3
              clear hb3 HB HLO
              by_cases hb0 : 0 ≤ bad
              · by_cases hb1 : bad ≤ most
                · have H : Hid ((J : Int) = (lastGood (fitJ rs width most a) (J + 1) : Int) - 1) := by
                    show _ = _; rw [last_yes (by rw [unhide HF]; exact inB_iff.2 ⟨hb0, hb1⟩)]; omega
                  clear hlg HF
                  go_wp2
                  go_roundw
                  case rel => exact ⟨J + 1, J, by omega, by omega, by go_num, rfl, H, hbL⟩
                  case measure => simp [intOf] <;> omega
                · have H : Hid (K = (lastGood (fitJ rs width most a) (J + 1) : Int) - 1) := by
                    show _ = _; rw [unhide hlg, last_no (by rw [unhide HF]; exact inB_not.2 (.inr (by omega)))]
                  have hd : decide (bad ≤ most) = false := by simpa using hb1
                  clear hlg HF
                  go_wp2
                  go_roundw
                  case rel => exact ⟨J + 1, K, by omega, by omega, by go_num, rfl, H, hbL⟩
                  case measure => simp [intOf] <;> omega
              · have H : Hid (K = (lastGood (fitJ rs width most a) (J + 1) : Int) - 1) := by
                  show _ = _; rw [unhide hlg, last_no (by rw [unhide HF]; exact inB_not.2 (.inl (by omega)))]
                have hd : decide (0 ≤ bad) = false := by simpa using hb0
                clear hlg HF
                go_wp2
                go_roundw
                case rel => exact ⟨J + 1, K, by omega, by omega, by go_num, rfl, H, hbL⟩
                case measure => simp [intOf] <;> omega
          · obtain rfl : J = n := by omega
            have hg := unhide hgo
            have own2 := hown.next hbL
            replace hbL := bnext hb hbL
            have hs2 := hbL.size
            by_cases hz : lastGood (fitJ rs width most a) J = 0
            · have H : Hid (X = none) := by
                show _ = _
                exact firstGo_none (f := f) hg.1 (by rw [unhide HLEN]; exact hg.2) (by rw [unhide HLEN]; exact hlt) (by rw [unhide HLEN]; exact hz)
              have hK : K < 0 := by rw [unhide hlg, hz]; decide
              clear hgo hlg hz hg
              rename World => w5
              go_wp2
              go_ret2
              rw [unhide HXB, unhide HX, unhide H]
              exact ⟨_, 0, rfl, own_base (OwnI.fresh _) hs2, bmk hbL _⟩
            · obtain ⟨Q, hQ⟩ : ∃ Q, lastGood (fitJ rs width most a) J = Q + 1 := ⟨lastGood (fitJ rs width most a) J - 1, by omega⟩
              obtain ⟨g, HG⟩ : ∃ g, Hid (X = (firstGo rs width most g (Q + 1)).map ((acc ++ [(Q : Int)]) ++ ·) ∧ J - (Q + 1) ≤ g) := by
                have := firstGo_some (f := f) hg.1 (by rw [unhide HLEN]; exact hg.2) (by rw [unhide HLEN]; exact hlt) (by rw [unhide HLEN]; exact hQ)
                rw [unhide HLEN] at this
                exact this
              have hgt2 := lastGood_gt (rs := rs) (width := width) (most := most) (a := a) (J := J) (by omega)
              have hle2 := lastGood_le (fitJ rs width most a) J
              rw [hQ] at hgt2 hle2
              obtain rfl : K = (Q : Int) := by rw [unhide hlg, hQ]; omega
              clear hgo hlg hz hg hQ hown
              go_wp2_with (at_builtin; refine wpList_push_N (Q : Int) rfl rfl own2 rfl rfl (by omega) (by omega) ?_; intro A3 c3 w3 hown3 hg3 ho3)
              go_roundw
              case rel => exact ⟨Q + 1, g, A3, c3, _, by omega, by go_num, by simp, by simp; omega, HG, hown3, b_own (bmk hbL _) ho3 (Nat.le_refl _) hg3⟩
              case measure => simp [intOf] <;> omega
      · obtain rfl : n = a := by omega
        have H : Hid (X = some acc) := firstGo_end (unhide hgo).1 (by rw [unhide HLEN]; exact Nat.le_refl _)
        clear hgo
        go_wp2
        go_ret2
        rw [unhide HXB, unhide HX, unhide H]
        exact ⟨_, _, rfl, hown, hb⟩
end Go.Proofs.Ytlklkloadefihaa
