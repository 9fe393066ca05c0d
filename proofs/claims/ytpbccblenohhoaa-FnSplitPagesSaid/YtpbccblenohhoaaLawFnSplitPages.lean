/- The walk of the law FnSplitPages: for every code it returns true and changes nothing that was there. No condition. -/
import Derived.Test.YtpbccblenohhoaaPagesR
import Derived.Test.YtpbccblenohhoaaIntRow
import Derived.Test.YtpbccblenohhoaaDrawPages
import Derived.Test.YtpbccblenohhoaaSplit2
import Derived.Test.YtpbccblenohhoaaAlive
namespace Go.Proofs.Ytpbccblenohhoaa
open Go.RowKit
set_option linter.unusedVariables false

theorem firstOf_args {rs : List Row} {h : Int} {l : List Int} (e : firstOf rs h = some l) : argsOk rs h = true ∧ firstGo rs h rs.length 0 = some l := by
  unfold firstOf at e
  split at e
  · rename_i ha; exact ⟨ha, e⟩
  · cases e
/-- Numbers that lead from end to end. -/
def Adv : Int → List Int → List Int → Prop
  | _, [], [] => True
  | a, d :: ds, x :: l => (x = a + d ∧ 0 ≤ x ∧ x ≤ 31) ∧ Adv x ds l
  | _, [], _ :: _ => False
  | _, _ :: _, [] => False
theorem Adv.len : ∀ {a : Int} {ds l : List Int}, Adv a ds l → ds.length = l.length
  | _, [], [], _ => rfl
  | _, _ :: ds, _ :: l, h => by rw [Adv] at h; simp [Adv.len h.2]
  | _, [], _ :: _, h => by rw [Adv] at h; exact h.elim
  | _, _ :: _, [], h => by rw [Adv] at h; exact h.elim
theorem split_first {rs : List Row} {h : Int} (hl : rs.length ≤ 31) (hin : inB h 0 1000000 = true) : ∀ (f a : Nat) (l acc : List Int), firstGo rs h f a = some l → ∃ ds : List Int, splitGo rs (List.replicate l.length h) a acc = some (acc ++ ds, 0) ∧ Adv a ds l
  | 0, a, l, acc, e => by
    rw [firstGo] at e
    split at e
    · cases e
    · have := Option.some.inj e; subst this
      refine ⟨[], ?_, by rw [Adv]; trivial⟩
      rw [List.length_nil, List.replicate_zero, splitGo, List.append_nil, show rs.length - a = 0 by omega]
  | f + 1, a, l, acc, e => by
    rw [firstGo] at e
    split at e
    · rename_i ha
      split at e
      · cases e
      · cases hg : firstGo rs h f (a + splitN (rs.drop a) h) with
        | none => rw [hg] at e; cases e
        | some u =>
          rw [hg] at e
          have h4 := splitN_le (rs.drop a) h
          rw [List.length_drop] at h4
          have e2 := Option.some.inj e
          subst e2
          obtain ⟨ds, h1, h2⟩ := split_first hl hin f (a + splitN (rs.drop a) h) u (acc ++ [(splitN (rs.drop a) h : Int)]) hg
          refine ⟨(splitN (rs.drop a) h : Int) :: ds, ?_, ?_⟩
          · rw [List.length_cons, List.replicate_succ, splitGo, if_pos hin, h1]; simp
          · rw [Adv]; exact ⟨by omega, h2⟩
    · have := Option.some.inj e; subst this
      refine ⟨[], ?_, by rw [Adv]; trivial⟩
      rw [List.length_nil, List.replicate_zero, splitGo, List.append_nil, show rs.length - a = 0 by omega]
theorem splitPages_law {rs : List Row} {h : Int} {l : List Int} (e : firstOf rs h = some l) : ∃ ds, splitAll rs (List.replicate l.length h) = (ds, 0) ∧ Adv 0 ds l ∧ l.length ≤ 30 := by
  obtain ⟨ha, hg⟩ := firstOf_args e
  obtain ⟨hva, hv, hl, hh1, hh2⟩ := args_parts ha
  have hll := firstGo_len rs h _ _ _ hg
  obtain ⟨ds, h1, h2⟩ := split_first (by omega) (inB_iff.2 (by omega)) _ _ _ [] hg
  refine ⟨ds, ?_, h2, by omega⟩
  rw [splitAll, if_pos (by simp [hva]; omega), h1]; rfl
def fillL (m k : Nat) (y : Int) : List Int := (List.range m).map fun i => if i < k then y else 0
theorem fillL_zero (m : Nat) (y : Int) : fillL m 0 y = List.replicate m 0 := by
  apply List.ext_getElem
  · simp [fillL]
  · intro i h1 h2; simp [fillL]
theorem fillL_full (m : Nat) (y : Int) : fillL m m y = List.replicate m y := by
  apply List.ext_getElem
  · simp [fillL]
  · intro i h1 h2
    have : i < m := by simpa using h2
    simp [fillL, this]
theorem fillL_set {m k : Nat} {y : Int} (hk : k < m) : (fillL m k y).set k y = fillL m (k + 1) y := by
  apply List.ext_getElem
  · simp [fillL]
  · intro i h1 h2
    rw [List.getElem_set]
    by_cases hik : k = i
    · subst hik; simp [fillL]
    · rw [if_neg hik]
      simp only [fillL, List.getElem_map, List.getElem_range]
      by_cases h3 : i < k
      · rw [if_pos h3, if_pos (by omega)]
      · rw [if_neg h3, if_neg (by omega)]
set_option maxRecDepth 100000 in
set_option maxHeartbeats 3200000 in
theorem w_FnSplitPages (A : Option Addr) (n c : Nat) (xs : List Int) (w : World) (h : CodeAt w A n c xs) :
    Calls Try.prog 10 #[.slice A n c] w fun e w' => e = .returned (.bool true) ∧ Below w.heap.size w w' := by
  obtain ⟨i0, hi, hz0, hz1, hz2⟩ := info_parts infoInt
  have hcm := h.2
  unfold maxLen at hcm
  by_cases hbig : 1048576 < n
  · go_enter Try.func10, Try.ntmps10
    go_wp2
    go_ret
    exact ⟨rfl, Below.refl _ _⟩
  · go_enter Try.func10, Try.ntmps10
    go_wp2_with fail
    refine (c_drawFirstPages A n c xs _ h).mono ?_
    rintro e w1 ⟨A1, c1, rs, y, rfl, hl1, ⟨hy0, hy1⟩, R, B⟩
    have hbdR := R.at_.bd
    clear hbig hcm h
    cases hq : firstOf rs y with
    | none =>
      have hP : firstPages rs y = [] := by rw [firstPages, hq]; rfl
      have HQ := hide hq
      clear hq
      go_wp2_with fail
      refine (c_firstPages A1 _ c1 rs y _ R.at_).mono ?_
      rintro e w2 ⟨A2, c2, he, X, hb⟩
      rw [hP, unhide HQ] at he
      rw [hP] at X
      subst he
      replace B := bnext B hb
      replace R := R.next hb
      clear hb
      go_wp2_with fail
      refine (c_firstPages' A1 _ c1 rs y _ R.at_).mono ?_
      rintro e w3 ⟨A3, c3, he, Y, hb⟩
      rw [hP, unhide HQ] at he
      rw [hP] at Y
      subst he
      replace B := bnext B hb
      replace X := X.next hb
      clear hb hP HQ
      go_wp2_with fail
      refine (c_sameInts_same _ _ _ _ _ _ [] _ X.at_ Y.at_).mono ?_
      rintro e w4 ⟨rfl, hb⟩
      replace B := bnext B hb
      clear hb
      go_wp2_with fail
      refine (c_alive _).mono ?_
      rintro e w5 ⟨rfl, hb⟩
      go_wp2
      go_ret
      exact ⟨rfl, bnext B hb⟩
    | some l =>
      have hP : firstPages rs y = l := by rw [firstPages, hq]; rfl
      obtain ⟨ds, hsp, hadv, hll⟩ := splitPages_law hq
      have hdl := hadv.len
      have HQ := hide hq
      have HSP := hide hsp
      have HADV : Hid (Adv 0 (ds.drop 0) (l.drop 0)) := hadv
      clear hq hsp hadv
      go_wp2_with fail
      refine (c_firstPages A1 _ c1 rs y _ R.at_).mono ?_
      rintro e w2 ⟨A2, c2, he, X, hb⟩
      rw [hP, unhide HQ] at he
      rw [hP] at X
      subst he
      replace B := bnext B hb
      replace R := R.next hb
      clear hb
      go_wp2_with fail
      refine (c_firstPages' A1 _ c1 rs y _ R.at_).mono ?_
      rintro e w3 ⟨A3, c3, he, Y, hb⟩
      rw [hP, unhide HQ] at he
      rw [hP] at Y
      subst he
      replace B := bnext B hb
      replace R := R.next hb
      replace X := X.next hb
      clear hb hP HQ
      go_wp2_with fail
      refine (c_sameInts_same _ _ _ _ _ _ l _ X.at_ Y.at_).mono ?_
      rintro e w4 ⟨rfl, hb⟩
      replace B := bnext B hb
      replace R := R.next hb
      replace X := X.next hb
      clear hb Y
      have hbdX := X.at_.bd
      go_wp2_with (at_make; refine wpList_make_full _ rfl _ _ 23 rfl w4.heap.size 3 i0 (.int .i64 0) 1 Try.underlying23 hi hz0 hz1 .i64 .i64 (l.length : Int) (l.length : Int) l.length rfl rfl rfl rfl ?b2 ?b3 (Nat.le_refl _) ?_)
      case b2 => rw [hz2]; omega
      case b3 => unfold maxLen; omega
      intro w5 L hg1
      have B5 : Below w4.heap.size w4 w5 := ⟨hg1.os, hg1.tape, hg1.output, hg1.size, fun k hk => hg1.block k hk (by simp)⟩
      obtain ⟨g1, HG1⟩ : ∃ g, Hid (g = w4.heap.size) := ⟨_, rfl⟩
      have L1 : IntRow w5 w4.heap.size g1 l.length (fillL l.length 0 y) := by
        unfold IntRow; rw [fillL_zero, ← made_ints, unhide HG1]; exact L
      rw [← unhide HG1]
      have hgb1 := L1.lt.1
      clear L hg1 HG1
      go_wp2
      go_loopw [10] (fun i wr => ∃ k : Nat, k ≤ l.length ∧ i = .int .i64 k ∧ IntRow wr w4.heap.size g1 l.length (fillL l.length k y) ∧ Below w4.heap.size w4 wr) (fun i _ => l.length - (intOf i).toNat)
      case atStart => exact ⟨0, by omega, by go_num, L1, B5⟩
      case round =>
        clear L1 B5
        obtain ⟨k, hk, rfl, L1, B5⟩ := hrel
        by_cases hlt : (k : Int) < (l.length : Int)
        · have hfz := L1.fz k
          have hcl := L1.cell (k := k) (x := (fillL l.length k y)[k]'(by simp [fillL]; omega)) (List.getElem?_eq_getElem _)
          have L2 := L1.put k y
          rw [fillL_set (by omega)] at L2
          have B6 := b_put (k := k) B5 hgb1 (.int .i64 y)
          clear L1 B5
          go_wp2
          go_roundw
          case rel => exact ⟨k + 1, by omega, by go_num, L2, B6⟩
          case measure => simp [intOf]; omega
        · obtain rfl : k = l.length := by omega
          have hsp : splitAll rs (fillL l.length l.length y) = (ds, 0) := by rw [fillL_full]; exact unhide HSP
          have R5 := R.next B5
          have X5 := X.next B5
          have B9 := bnext B B5
          have HS := hide hsp
          have LA := L1.at_ (by omega)
          clear B5 B R X HSP L1 hsp
          go_wp2_with fail
          refine (c_splitAll A1 _ c1 rs _ _ _ _ _ R5.at_ LA).mono ?_
          rintro e w6 ⟨A6, c6, he, Z, hb⟩
          rw [unhide HS] at he Z
          dsimp only at he Z
          subst he
          replace B9 := bnext B9 hb
          have X6 := X5.next hb
          have hbdZ := Z.at_.bd
          clear hb R5 X5 LA HS
          go_wp2
          go_loopw [13, 14] (fun t i wr => ∃ (j : Nat) (a : Int), j ≤ l.length ∧ i = .int .i64 j ∧ t = .int .i64 a ∧ 0 ≤ a ∧ a ≤ 31 ∧ Hid (Adv a (ds.drop j) (l.drop j)) ∧ wr = w6) (fun _ i _ => l.length - (intOf i).toNat)
          case atStart => exact ⟨0, 0, by omega, by go_num, rfl, by omega, by omega, HADV, rfl⟩
          case round =>
            clear HADV
            obtain ⟨j, a, hj, rfl, rfl, ha0, ha1, had, rfl⟩ := hrel
            by_cases hlj : j < l.length
            · obtain ⟨b, off, d, rfl, hbl, hd, hc⟩ := Z.at_.at_ (k := j) (by omega)
              obtain ⟨b2, off2, x, rfl, hbl2, hx, hc2⟩ := X6.at_.at_ (k := j) hlj
              have had2 := unhide had
              rw [drop_get hd, drop_get hx, Adv] at had2
              obtain ⟨⟨rfl, hx0, hx1⟩, had3⟩ := had2
              have HAD := hide had3
              have hj1 : (j : Int) < (ds.length : Int) := by omega
              have hj2 : (j : Int) < (l.length : Int) := by omega
              clear had3 had hd hx
              go_wp2
              go_roundw
              case rel => exact ⟨j + 1, a + d, by omega, by go_num, rfl, by omega, by omega, HAD, trivial⟩
              case measure => simp [intOf]; omega
            · have hz : ((ds.length : Int) == (l.length : Int)) = true := by simp [hdl]
              have hj1 : (ds.length : Int) ≤ (j : Int) := by omega
              go_wp2
              go_ret
              exact ⟨rfl, B9⟩
end Go.Proofs.Ytpbccblenohhoaa
