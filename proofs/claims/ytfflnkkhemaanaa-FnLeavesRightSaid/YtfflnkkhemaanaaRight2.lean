/- LeavesRight, the reference's. No condition. -/
import Derived.Test.YtfflnkkhemaanaaRight
namespace Go.Proofs.Ytfflnkkhemaanaa
open Go.RowKit
set_option linter.unusedVariables false

theorem right_stop {rs : List Row} {h : Int} {ls : List Leaf} {s s' : Rt} {l : Leaf} {p : List Int} {x : Int} {k : Nat} {t : List Int} (e : rightStep rs h s l = some s') (hp : s.figs ++ p = figList rs k) (hl : l.figs = p ++ x :: t) (hk : k ≤ rs.length) (hstop : k = rs.length ∨ 0 < figF rs (k : Int)) (hx : x ≠ (k : Int)) : rightGo rs h ls s' = false := by
  cases hg : rightGo rs h ls s' with
  | false => rfl
  | true =>
    have h1 := rightGo_pre ls s' hg
    obtain ⟨_, _, _, _, rfl⟩ := rightStep_some e
    dsimp only at h1
    refine absurd (figs_next hk hstop ?_).1 hx
    refine List.IsPrefix.trans ?_ h1
    rw [← hp, hl, List.append_assoc]
    exact (List.prefix_append_right_inj _).2 ((List.prefix_append_right_inj _).2 ⟨t, rfl⟩)

set_option maxRecDepth 100000 in
set_option maxHeartbeats 8000000 in
theorem c_leavesRight' (A : Option Addr) (n c : Nat) (rs : List Row) (h : Int) (A2 : Option Addr) (m c2 : Nat) (ls : List LfV) (w : World) (hR : RowsAt w A n c rs) (hL : LeavesAt w A2 m c2 ls) (hm : m ≤ 2000000) :
    Calls Try.prog 27 #[.slice A n c, .int .i64 h, .slice A2 m c2] w fun e w' => e = .returned (.bool (leavesRight rs h (ls.map LfV.leaf))) ∧ Below w.heap.size w w' := by
  have hlen := hR.len
  have hbd := hR.bd
  have hbd2 := hL.bd
  cases h1 : rowsValid rs
  · have H : Hid (leavesRight rs h (ls.map LfV.leaf) = false) := by show _ = _; simp [leavesRight, argsOk, h1]
    go_enter Try.func27, Try.ntmps27
    go_wp2_with fail
    refine (c_rowsValid_b' h1 _ hR).mono ?_
    rintro e w1 ⟨rfl, hb1⟩
    go_wp2
    go_ret
    exact ⟨by rw [unhide H] <;> rfl, hb1⟩
  cases h2 : inB h 1 1000
  · have H : Hid (leavesRight rs h (ls.map LfV.leaf) = false) := by show _ = _; simp [leavesRight, argsOk, h2]
    go_enter Try.func27, Try.ntmps27
    go_wp2_with fail
    refine (c_rowsValid_b' h1 _ hR).mono ?_
    rintro e w1 ⟨rfl, hb1⟩
    go_wp2_with fail
    refine (c_l1In_b h2 _).mono ?_
    rintro e w2 ⟨rfl, rfl⟩
    go_wp2
    go_ret
    exact ⟨by rw [unhide H] <;> rfl, hb1⟩
  have hao : argsOk rs h = true := by simp [argsOk, h1, h2]
  obtain ⟨hva, hv, hl, hh1, hh2⟩ := args_parts hao
  have HLL := hide hL.len
  have HLEN := hide hlen
  have HV := hide hv
  have hn30 : n ≤ 30 := by omega
  have HRES : Hid (leavesRight rs h (ls.map LfV.leaf) = rightGo rs h (ls.map LfV.leaf) ⟨0, 0, []⟩) := by show _ = _; simp [leavesRight, hao]
  clear hva hv hl hlen hao
  go_enter Try.func27, Try.ntmps27
  go_wp2_with fail
  refine (c_rowsValid_b' h1 _ hR).mono ?_
  rintro e w1 ⟨rfl, hb1⟩
  go_wp2_with fail
  refine (c_l1In_b h2 _).mono ?_
  rintro e w2 ⟨rfl, rfl⟩
  clear h1 h2
  go_wp2
  go_loopw [7, 8, 9, 10, 11] (fun a no du nx i wr => ∃ (k : Nat) (s : Rt) (d : Int) (x : Nat), k ≤ m ∧ i = .int .i64 k ∧ a = .int .i64 s.at_ ∧ no = .int .i64 s.notes ∧ du = .int .i64 d ∧ nx = .int .i64 x ∧ Hid (d = sumN (rs.take s.at_)) ∧ 0 ≤ d ∧ d ≤ 30000 ∧ s.at_ ≤ n ∧ 0 ≤ s.notes ∧ s.notes ≤ d ∧ x ≤ n ∧ Hid (s.figs = figList rs x) ∧ Hid (leavesRight rs h (ls.map LfV.leaf) = rightGo rs h ((ls.map LfV.leaf).drop k) s) ∧ Below w.heap.size w wr) (fun _ _ _ _ i _ => m - (intOf i).toNat)
  case atStart => exact ⟨0, ⟨0, 0, []⟩, 0, 0, Nat.zero_le _, rfl, rfl, rfl, rfl, rfl, (show _ = _ by simp [sumN]), by omega, by omega, Nat.zero_le _, by simp, by simp, Nat.zero_le _, (show _ = _ by simp [figList]), HRES, hb1⟩
  case round =>
    clear hb1
    obtain ⟨k, ⟨aN, no, fg⟩, d, xN, hk, rfl, rfl, rfl, rfl, rfl, hd, hd0, hd1, haN, hno0, hno1, hxN, hfg, hgo, hb⟩ := hrel
    dsimp only at hd haN hno0 hno1 hfg hgo ⊢
    by_cases hlt : k < m
    · obtain ⟨b, off, ⟨x, y, z, A1, c1, fs⟩, rfl, hbl, hx, hf, p0, p1, p2, p3⟩ := hL.at_ hlt
      have hgo2 : leavesRight rs h (ls.map LfV.leaf) = match rightStep rs h ⟨aN, no, fg⟩ ⟨x, y, z, fs⟩ with | some s' => rightGo rs h ((ls.map LfV.leaf).drop (k + 1)) s' | none => false := by
        rw [unhide hgo, drop_get (show (ls.map LfV.leaf)[k]? = some ⟨x, y, z, fs⟩ by rw [List.getElem?_map, hx]; rfl), rightGo]; rfl
      have HS0 : Hid (rightStep rs h ⟨aN, no, fg⟩ ⟨x, y, z, fs⟩ = none → leavesRight rs h (ls.map LfV.leaf) = false) := fun e => by rw [hgo2, e]
      have HS1 : Hid (∀ s', rightStep rs h ⟨aN, no, fg⟩ ⟨x, y, z, fs⟩ = some s' → leavesRight rs h (ls.map LfV.leaf) = rightGo rs h ((ls.map LfV.leaf).drop (k + 1)) s') := fun s' e => by rw [hgo2, e]
      have HST : Hid (rightStep rs h ⟨aN, no, fg⟩ ⟨x, y, z, fs⟩ = if x = (aN : Int) ∧ inB (leafHeight rs ⟨x, y, z, fs⟩) 0 h = true ∧ no + z ≤ sumN (rs.take y.toNat) ∧ (fs.all fun v => decide (v < y)) = true then some ⟨y.toNat, no + z, fg ++ fs⟩ else none) := rfl
      dsimp only at p0 p1 p2 p3
      have hf0 : IntsAt w A1 fs.length c1 fs := hf
      have hfbd := hf0.bd
      have P0 := hide p0
      have P1 := hide p1
      have P2 := hide p2
      have P3 := hide p3
      have q0 := (hb.cell (p := ⟨b, off + k * 4, none⟩) hbl).trans p0
      have q1 := (hb.cell (p := ⟨b, off + k * 4 + 1, none⟩) hbl).trans p1
      have q2 := (hb.cell (p := ⟨b, off + k * 4 + 2, none⟩) hbl).trans p2
      have q3 := (hb.cell (p := ⟨b, off + k * 4 + 3, none⟩) hbl).trans p3
      clear hgo hgo2 hx hf p0 p1 p2 p3
      go_wp2_with fail
      refine (c_leafHeight' A n c rs x y z A1 _ c1 fs _ (hR.next hb) (hf0.next hb)).mono ?_
      rintro e w3 ⟨he, hb3⟩
      obtain ⟨v, HVV⟩ : ∃ v, Hid (v = leafHeight rs ⟨x, y, z, fs⟩) := ⟨_, rfl⟩
      rw [← unhide HVV] at he
      subst he
      replace hb := bnext hb hb3
      clear hb3 q0 q1 q2 q3
      have q0 := (hb.cell (p := ⟨b, off + k * 4, none⟩) hbl).trans (unhide P0)
      have q1 := (hb.cell (p := ⟨b, off + k * 4 + 1, none⟩) hbl).trans (unhide P1)
      have hbad : ¬ (x = (aN : Int) ∧ 0 ≤ v ∧ v ≤ h) → Hid (leavesRight rs h (ls.map LfV.leaf) = false) := fun hn => unhide HS0 (by
        rw [unhide HST, if_neg]
        rintro ⟨h1, h2, _⟩
        rw [← unhide HVV] at h2
        exact hn ⟨h1, (inB_iff.1 h2).1, (inB_iff.1 h2).2⟩)
      have HBAD := hide hbad
      clear hbad
      by_cases hxa : x = (aN : Int)
      · subst hxa
        have hne : ((aN : Int) != (aN : Int)) = false := by simp
        by_cases hv0 : 0 ≤ v
        · by_cases hvh : v ≤ h
          · obtain ⟨⟨_, ⟨hy0, hy1⟩, ⟨_, hxy⟩, ⟨hz0, hz1'⟩, hfs⟩, _⟩ := lh_ge (rs := rs) (l := ⟨aN, y, z, fs⟩) (by rw [← unhide HVV]; exact hv0)
            dsimp only at hy0 hy1 hxy hz0 hz1' hfs
            rw [unhide HLEN] at hy1
            obtain ⟨t, rfl⟩ := Int.eq_ofNat_of_zero_le hy0
            rw [Int.toNat_natCast] at HST
            have hat : aN ≤ t := by omega
            have htn : t ≤ n := by omega
            obtain ⟨d2, HD2⟩ : ∃ d2, Hid (d2 = sumN (rs.take t)) := ⟨_, rfl⟩
            have hd2 : 0 ≤ d2 ∧ d2 ≤ 30000 := by
              have := sumN_bd (all_take' (unhide HV) t)
              have h30 : (rs.take t).length ≤ 30 := by rw [List.length_take, unhide HLEN]; omega
              rw [← unhide HD2] at this; omega
            obtain ⟨hd20, hd21⟩ := hd2
            have HIN : Hid (inB (leafHeight rs ⟨aN, t, z, fs⟩) 0 h = true) := by show _ = _; rw [← unhide HVV]; exact inB_iff.2 ⟨hv0, hvh⟩
            clear hxy hy0 hy1
            go_wp2
            go_loopw [9, 13] (fun du i wq => ∃ (j : Nat) (dd : Int), aN ≤ j ∧ j ≤ t ∧ i = .int .i64 j ∧ du = .int .i64 dd ∧ Hid (dd = sumN (rs.take j)) ∧ 0 ≤ dd ∧ dd ≤ 30000 ∧ Below w.heap.size w wq) (fun _ i _ => t - (intOf i).toNat)
            case atStart => exact ⟨aN, d, Nat.le_refl _, hat, rfl, rfl, hd, hd0, hd1, hb⟩
            case round =>
              clear q0 q1 hb
              obtain ⟨j, dd, hja, hjt, rfl, rfl, hdd, hdd0, hdd1, hb⟩ := hrel
              have q1 := (hb.cell (p := ⟨b, off + k * 4 + 1, none⟩) hbl).trans (unhide P1)
              by_cases hjl : j < t
              · obtain ⟨b3, off3, r, rfl, hbl3, hr, h0, h1, h2, h3⟩ := (hR.next hb).at_ (k := j) (by omega)
                have hs2 : dd + r.n = sumN (rs.take (j + 1)) := by rw [sumN_snoc hr, ← unhide hdd]
                have hbn := sumN_bd (all_take' (unhide HV) (j + 1))
                have h30 : (rs.take (j + 1)).length ≤ 30 := by rw [List.length_take, unhide HLEN]; omega
                rw [← hs2] at hbn
                have HS := hide hs2
                have hbn1 : 0 ≤ dd + r.n := hbn.1
                have hbn2 : dd + r.n ≤ 30000 := by omega
                clear hs2 hr hbn h30
                go_wp2
                go_roundw
                case rel => exact ⟨j + 1, dd + r.n, by omega, by omega, by go_num, rfl, HS, hbn1, hbn2, hb⟩
                case measure => simp [intOf]; omega
              · have hdd2 : dd = d2 := by rw [unhide hdd, unhide HD2, show j = t by omega]
                subst hdd2
                have q2 := (hb.cell (p := ⟨b, off + k * 4 + 2, none⟩) hbl).trans (unhide P2)
                clear hdd
                by_cases hnz : no + z ≤ dd
                · go_wp2
                  go_loopw [10, 14] (fun nx i wq => ∃ (j x : Nat), j ≤ fs.length ∧ i = .int .i64 j ∧ x ≤ n ∧ nx = .int .i64 x ∧ Hid (fg ++ fs.take j = figList rs x) ∧ Hid ((fs.take j).all (fun v => decide (v < (t : Int))) = true) ∧ Below w.heap.size w wq) (fun _ i _ => fs.length - (intOf i).toNat)
                  case atStart => exact ⟨0, xN, Nat.zero_le _, rfl, hxN, rfl, (show _ = _ by simpa using unhide hfg), (show _ = _ from rfl), hb⟩
                  case round =>
                    clear q1 q2 hb
                    obtain ⟨j, xJ, hjf, rfl, hxJ, rfl, hpre, hall, hb⟩ := hrel
                    have q3 := (hb.cell (p := ⟨b, off + k * 4 + 3, none⟩) hbl).trans (unhide P3)
                    by_cases hjl : j < fs.length
                    · go_wp2
                      go_loopw [10] (fun nx wq => ∃ (x : Nat), x ≤ n ∧ nx = .int .i64 x ∧ Hid (fg ++ fs.take j = figList rs x) ∧ Below w.heap.size w wq) (fun nx _ => n - (intOf nx).toNat)
                      case atStart => exact ⟨xJ, hxJ, rfl, hpre, hb⟩
                      case round =>
                        clear q3 hb hpre hxJ
                        obtain ⟨xJ, hxJ, rfl, hpre, hb⟩ := hrel
                        have q3 := (hb.cell (p := ⟨b, off + k * 4 + 3, none⟩) hbl).trans (unhide P3)
                        obtain ⟨bF, offF, v2, rfl, hblF, hvx, hcv⟩ := (hf0.next hb).at_ hjl
                        have hsplit : fs = fs.take j ++ v2 :: fs.drop (j + 1) := by rw [← drop_get hvx, List.take_append_drop]
                        have hcmp : (xJ = n ∨ 0 < figF rs (xJ : Int)) → v2 ≠ (xJ : Int) → leavesRight rs h (ls.map LfV.leaf) = false := fun hst hne => by
                          cases hs : rightStep rs h ⟨aN, no, fg⟩ ⟨aN, t, z, fs⟩ with
                          | none => exact unhide HS0 hs
                          | some s' =>
                            rw [unhide HS1 s' hs]
                            exact right_stop hs (unhide hpre) hsplit (by rw [unhide HLEN]; exact hxJ) (by rw [unhide HLEN]; exact hst) hne
                        have hge : v2 = (xJ : Int) → t ≤ xJ → leavesRight rs h (ls.map LfV.leaf) = false := fun e hle => unhide HS0 (by
                          rw [unhide HST, if_neg]
                          rintro ⟨_, _, _, h4⟩
                          rw [all_not hvx (by simp; omega)] at h4; cases h4)
                        have hnx : v2 = (xJ : Int) → (0 < figF rs (xJ : Int)) → fg ++ fs.take (j + 1) = figList rs (xJ + 1) := fun e hf => by
                          rw [take_snoc' hvx, ← List.append_assoc, unhide hpre, figList_take hf, e]
                        have hal : v2 < (t : Int) → (fs.take (j + 1)).all (fun v => decide (v < (t : Int))) = true := fun e => all_snoc hvx (unhide hall) (by simpa using e)
                        have hin2 : figsIn rs fs = true := (lh_ge (rs := rs) (l := ⟨aN, t, z, fs⟩) (by rw [← unhide HVV]; exact hv0)).2
                        have hv2n : 0 ≤ v2 ∧ v2 ≤ (n : Int) - 1 := by
                          have := List.all_eq_true.1 hin2 v2 (mem_of_get hvx)
                          rw [unhide HLEN] at this; exact inB_iff.1 this
                        have HCMP := hide hcmp
                        have HGE := hide hge
                        have HNX := hide hnx
                        have HAL := hide hal
                        clear hsplit hcmp hge hnx hal hin2 hvx
                        by_cases hxl : xJ < n
                        · obtain ⟨b3, off3, r, rfl, hbl3, hr, h0, h1, h2, h3⟩ := (hR.next hb).at_ (k := xJ) hxl
                          have hrb := (row_bd (unhide HV) hr).2.2
                          have hfq := figF_get hr
                          by_cases hf0' : r.f = 0
                          · have hz : (r.f == 0) = true := by simp [hf0']
                            have hpre2 : fg ++ fs.take j = figList rs (xJ + 1) := by rw [figList_skip (by rw [hfq]; omega)]; exact unhide hpre
                            have HP := hide hpre2
                            clear hpre2 hfq hr hpre
                            go_wp2
                            go_roundw
                            case rel => exact ⟨xJ + 1, by omega, by go_num, HP, hb⟩
                            case measure => simp [intOf]; omega
                          · have hz : (r.f == 0) = false := by simp [hf0']
                            have hfp : 0 < figF rs (xJ : Int) := by rw [hfq]; omega
                            have HFP := hide hfp
                            clear hfq hr hfp
                            by_cases hvq : v2 = (xJ : Int)
                            · subst hvq
                              have hne3 : ((xJ : Int) != (xJ : Int)) = false := by simp
                              by_cases hxt : xJ < t
                              · have H1 := hide (unhide HNX rfl (unhide HFP))
                                have H2 := hide (unhide HAL (by omega))
                                clear hpre
                                go_wp2
                                go_roundw
                                case rel => exact ⟨j + 1, xJ + 1, by omega, by go_num, by omega, by go_num, H1, H2, hb⟩
                                case measure => simp [intOf]; omega
                              · have HN := hide (unhide HGE rfl (by omega))
                                clear hpre
                                go_wp2
                                go_ret
                                exact ⟨by rw [unhide HN] <;> rfl, hb⟩
                            · have HN := hide (unhide HCMP (.inr (unhide HFP)) hvq)
                              have hne3 : (v2 != (xJ : Int)) = true := by simp [hvq]
                              clear hpre
                              go_wp2
                              go_ret
                              exact ⟨by rw [unhide HN] <;> rfl, hb⟩
                        · have hxn : xJ = n := by omega
                          have hvq : v2 ≠ (xJ : Int) := by omega
                          have HN := hide (unhide HCMP (.inl hxn) hvq)
                          have hne3 : (v2 != (xJ : Int)) = true := by simp [hvq]
                          clear hpre
                          go_wp2
                          go_ret
                          exact ⟨by rw [unhide HN] <;> rfl, hb⟩
                    · have hall2 : fs.all (fun v => decide (v < (t : Int))) = true := all_end (by omega) (unhide hall)
                      have htk : fs.take j = fs := List.take_of_length_le (by omega)
                      have hpre2 : fg ++ fs = figList rs xJ := by have := unhide hpre; rwa [htk] at this
                      have HP := hide hpre2
                      have HG := hide (unhide HS1 ⟨t, no + z, fg ++ fs⟩ (by rw [unhide HST, if_pos]; exact ⟨by first | trivial | rfl, unhide HIN, by rw [← unhide HD2]; exact hnz, hall2⟩))
                      clear hall hall2 htk hpre2 hpre
                      go_wp2
                      go_roundw
                      case rel => exact ⟨k + 1, ⟨t, no + z, fg ++ fs⟩, dd, xJ, by omega, by go_num, rfl, rfl, rfl, rfl, HD2, hd20, hd21, htn, (by show 0 ≤ no + z; omega), hnz, hxJ, HP, HG, hb⟩
                      case measure => simp [intOf]; omega
                · have HN : Hid (leavesRight rs h (ls.map LfV.leaf) = false) := unhide HS0 (by rw [unhide HST, if_neg]; rintro ⟨_, _, h3, _⟩; rw [← unhide HD2] at h3; exact hnz h3)
                  go_wp2
                  go_ret
                  exact ⟨by rw [unhide HN] <;> rfl, hb⟩
          · have HN := unhide HBAD (fun hc => hvh hc.2.2)
            go_wp2
            go_ret
            exact ⟨by rw [unhide HN] <;> rfl, hb⟩
        · have HN := unhide HBAD (fun hc => hv0 hc.2.1)
          go_wp2
          go_ret
          exact ⟨by rw [unhide HN] <;> rfl, hb⟩
      · have HN := unhide HBAD (fun hc => hxa hc.1)
        have hne : (x != (aN : Int)) = true := by simp [hxa]
        go_wp2
        go_ret
        exact ⟨by rw [unhide HN] <;> rfl, hb⟩
    · have hdk : (ls.map LfV.leaf).drop k = [] := List.drop_eq_nil_of_le (by rw [List.length_map, unhide HLL]; omega)
      have hgo2 : leavesRight rs h (ls.map LfV.leaf) = rightFin rs ⟨aN, no, fg⟩ := by rw [unhide hgo, hdk, rightGo]
      unfold rightFin at hgo2
      dsimp only at hgo2
      have HG := hide hgo2
      clear hgo hgo2 hdk
      go_wp2
      go_loopw [10] (fun nx wq => ∃ (x : Nat), x ≤ n ∧ nx = .int .i64 x ∧ Hid (fg = figList rs x) ∧ Below w.heap.size w wq) (fun nx _ => n - (intOf nx).toNat)
      case atStart => exact ⟨xN, hxN, rfl, hfg, hb⟩
      case round =>
        clear hb hfg hxN
        obtain ⟨xN, hxN, rfl, hfg, hb⟩ := hrel
        have hfin : (xN = n ∨ (xN < n ∧ 0 < figF rs (xN : Int))) → leavesRight rs h (ls.map LfV.leaf) = (decide (aN = n) && (decide (no = sumN rs) && decide (xN = n))) := fun hst => by
          rw [unhide HG, unhide HLEN]
          congr 2
          rcases hst with e | ⟨e1, e2⟩
          · subst e; simp [unhide hfg]
          · have := figs_mis (rs := rs) (k := xN) (fr := []) (by rw [unhide HLEN]; exact e1) e2 (.inl rfl)
            rw [List.append_nil, ← unhide hfg, unhide HLEN] at this
            simp [this]; omega
        have HFIN := hide hfin
        clear hfin
        have hdn : aN = n → d = sumN rs := fun e => by rw [unhide hd, List.take_of_length_le (by rw [unhide HLEN]; omega)]
        have HDN := hide hdn
        clear hdn
        by_cases hxl : xN < n
        · obtain ⟨b3, off3, r, rfl, hbl3, hr, h0, h1, h2, h3⟩ := (hR.next hb).at_ (k := xN) hxl
          have hrb := (row_bd (unhide HV) hr).2.2
          have hfq := figF_get hr
          by_cases hf0' : r.f = 0
          · have hz : (r.f == 0) = true := by simp [hf0']
            have hpre2 : fg = figList rs (xN + 1) := by rw [figList_skip (by rw [hfq]; omega)]; exact unhide hfg
            have HP := hide hpre2
            clear hpre2 hfq hr hfg
            go_wp2
            go_roundw
            case rel => exact ⟨xN + 1, by omega, by go_num, HP, hb⟩
            case measure => simp [intOf]; omega
          · have hz : (r.f == 0) = false := by simp [hf0']
            have hfp : 0 < figF rs (xN : Int) := by rw [hfq]; omega
            have hF := unhide HFIN (.inr ⟨hxl, hfp⟩)
            have HN : Hid (leavesRight rs h (ls.map LfV.leaf) = false) := by show _ = _; rw [hF]; simp; omega
            have hne : ((xN : Int) == (n : Int)) = false := by simp; omega
            clear hfq hr hfp hF hfg
            by_cases han : aN = n
            · subst han
              have e1 : ((aN : Int) == (aN : Int)) = true := by simp
              by_cases hnd : no = d
              · subst hnd
                have e2 : (no == no) = true := by simp
                go_wp2
                go_ret
                exact ⟨by rw [unhide HN] <;> rfl, hb⟩
              · have e2 : (no == d) = false := by simp [hnd]
                go_wp2
                go_ret
                exact ⟨by rw [unhide HN] <;> rfl, hb⟩
            · have e1 : ((aN : Int) == (n : Int)) = false := by simp; omega
              go_wp2
              go_ret
              exact ⟨by rw [unhide HN] <;> rfl, hb⟩
        · obtain rfl : xN = n := by omega
          have hF := unhide HFIN (.inl rfl)
          have HF := hide hF
          have hne : ((xN : Int) == (xN : Int)) = true := by simp
          clear hF hfg
          by_cases han : aN = xN
          · subst han
            by_cases hnd : no = d
            · subst hnd
              have e2 : (no == no) = true := by simp
              have HN : Hid (leavesRight rs h (ls.map LfV.leaf) = true) := by show _ = _; rw [unhide HF, ← unhide HDN rfl]; simp
              go_wp2
              go_ret
              exact ⟨by rw [unhide HN] <;> rfl, hb⟩
            · have e2 : (no == d) = false := by simp [hnd]
              have HN : Hid (leavesRight rs h (ls.map LfV.leaf) = false) := by show _ = _; rw [unhide HF, ← unhide HDN rfl]; simp [hnd]
              go_wp2
              go_ret
              exact ⟨by rw [unhide HN] <;> rfl, hb⟩
          · have e1 : ((aN : Int) == (xN : Int)) = false := by simp; omega
            have HN : Hid (leavesRight rs h (ls.map LfV.leaf) = false) := by show _ = _; rw [unhide HF]; simp [han]
            go_wp2
            go_ret
            exact ⟨by rw [unhide HN] <;> rfl, hb⟩
end Go.Proofs.Ytfflnkkhemaanaa
