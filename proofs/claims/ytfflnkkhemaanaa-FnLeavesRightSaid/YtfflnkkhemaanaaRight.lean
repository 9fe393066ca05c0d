/- LeavesRight, the program's. No condition. -/
import Derived.Test.YtfflnkkhemaanaaRightP
import Derived.Test.YtfflnkkhemaanaaLeafH
import Derived.Test.YtfflnkkhemaanaaQueue
namespace Go.Proofs.Ytfflnkkhemaanaa
open Go.RowKit
set_option linter.unusedVariables false

/-- A part of a slice of int from its second element on. -/
theorem ints_tail {w : World} {A : Option Addr} {n c : Nat} {x : Int} {xs : List Int} (h : IntsAt w A n c (x :: xs)) :
    ∃ A1, IntsAt w A1 (n - 1) (c - 1) xs ∧ ∀ wx : World, (Instr.slice 24 (.slice A n c) (some (.int .i64 1)) none none).run Try.prog wx = .ok (.slice A1 (n - 1) (c - 1)) wx := by
  have hbd := h.bd
  have hlen := h.len
  rw [List.length_cons] at hlen
  refine ⟨if c = 1 then A else A.map (fun x => x.add (1 * 1)), ?_, fun wx => ?_⟩
  · refine ⟨?_, by omega⟩
    have h1 := Rd.cut (i := 1) (j := n) h.1 (by omega) (Nat.le_refl _)
    have e : (((x :: xs).map (Value.int .i64)).drop (1 * 1)).take ((n - 1) * 1) = xs.map (Value.int .i64) := by
      simp only [Nat.mul_one, List.map_cons, List.drop_succ_cons, List.drop_zero]
      exact List.take_of_length_le (by simp; omega)
    rw [e] at h1
    exact h1.congrA (fun hn => by rw [if_neg (by omega)])
  · have h3 : ¬ ((n : Int) < 1) := by omega
    simp [go_sem, h3]
theorem ints_one (fs : List Int) : ∀ u ∈ fs.map (Value.int .i64), u.oneCell' = true := by
  intro u hu; obtain ⟨x, _, rfl⟩ := List.mem_map.1 hu; rfl
theorem figList_pre (rs : List Row) {k n : Nat} (h : k ≤ n) : figList rs k <+: figList rs n := by
  obtain ⟨d, rfl⟩ : ∃ d, n = k + d := ⟨n - k, by omega⟩
  rw [figList_split]; exact List.prefix_append _ _
theorem figs_mis {rs : List Row} {k : Nat} {fr : List Int} (hk : k < rs.length) (hf : 0 < figF rs (k : Int)) (h : fr = [] ∨ ∃ x t, fr = x :: t ∧ x ≠ (k : Int)) : figList rs k ++ fr ≠ figList rs rs.length := by
  intro e
  rcases h with rfl | ⟨x, t, rfl, hx⟩
  · rw [List.append_nil] at e
    have h1 := (figList_pre rs (show k + 1 ≤ rs.length by omega)).length_le
    rw [figList_take hf, ← e, List.length_append] at h1
    simp at h1; omega
  · refine hx (figs_next (by omega) (.inr hf) ?_).1
    rw [← e]
    exact (List.prefix_append_right_inj _).2 ⟨t, rfl⟩

set_option maxRecDepth 100000 in
set_option maxHeartbeats 4000000 in
theorem c_leavesRight (A : Option Addr) (n c : Nat) (rs : List Row) (h : Int) (A2 : Option Addr) (m c2 : Nat) (ls : List LfV) (w : World) (hR : RowsAt w A n c rs) (hL : LeavesAt w A2 m c2 ls) (hm : m ≤ 2000000) :
    Calls Try.prog 26 #[.slice A n c, .int .i64 h, .slice A2 m c2] w fun e w' => e = .returned (.bool (leavesRight rs h (ls.map LfV.leaf))) ∧ Below w.heap.size w w' := by
  have hlen := hR.len
  have hbd := hR.bd
  have hbd2 := hL.bd
  obtain ⟨i0, hi, hi0, hi1, hi2⟩ := info_parts infoInt
  cases h1 : argsOk rs h
  · have H : Hid (leavesRight rs h (ls.map LfV.leaf) = false) := by show _ = _; simp [leavesRight, h1]
    go_enter Try.func26, Try.ntmps26
    go_wp2_with fail
    refine (c_pageArguments h1 _ hR).mono ?_
    rintro e w1 ⟨rfl, hb1⟩
    go_wp2
    go_ret
    exact ⟨by rw [unhide H] <;> rfl, hb1⟩
  · obtain ⟨hva, hv, hl, hh1, hh2⟩ := args_parts h1
    have HLL := hide hL.len
    have HLEN := hide hlen
    have HV := hide hv
    have hn30 : n ≤ 30 := by omega
    have HRES : Hid (leavesRight rs h (ls.map LfV.leaf) = rightGo rs h (ls.map LfV.leaf) ⟨0, 0, []⟩) := by show _ = _; simp [leavesRight, h1]
    clear hva hv hl hlen
    go_enter Try.func26, Try.ntmps26
    go_wp2_with fail
    refine (c_pageArguments h1 _ hR).mono ?_
    rintro e w1 ⟨rfl, hb1⟩
    clear h1
    go_wp2
    go_loopw [7, 8, 9, 10, 25] (fun a no du fi i wr => ∃ (k : Nat) (s : Rt) (d : Int) (AF : Option Addr) (cF : Nat), k ≤ m ∧ i = .int .i64 k ∧ a = .int .i64 s.at_ ∧ no = .int .i64 s.notes ∧ du = .int .i64 d ∧ fi = .slice AF s.figs.length cF ∧ Hid (d = sumN (rs.take s.at_)) ∧ 0 ≤ d ∧ d ≤ 30000 ∧ s.at_ ≤ n ∧ 0 ≤ s.notes ∧ s.notes ≤ d ∧ Hid (s.figs.length ≤ 30 * k) ∧ OwnI wr w.heap.size AF cF s.figs ∧ Hid (leavesRight rs h (ls.map LfV.leaf) = rightGo rs h ((ls.map LfV.leaf).drop k) s) ∧ Below w.heap.size w wr) (fun _ _ _ _ i _ => m - (intOf i).toNat)
    case atStart => exact ⟨0, ⟨0, 0, []⟩, 0, none, 0, Nat.zero_le _, rfl, rfl, rfl, rfl, rfl, (show _ = _ by simp [sumN]), by omega, by omega, Nat.zero_le _, by simp, by simp, (show _ ≤ _ by simp), OwnI.nil_ _ _, HRES, hb1⟩
    case round =>
      clear hb1
      obtain ⟨k, ⟨aN, no, fg⟩, d, AF, cF, hk, rfl, rfl, rfl, rfl, rfl, hd, hd0, hd1, haN, hno0, hno1, hfl, O, hgo, hb⟩ := hrel
      dsimp only at hd haN hno0 hno1 hfl O hgo ⊢
      by_cases hlt : k < m
      · obtain ⟨b, off, ⟨x, y, z, A1, c1, fs⟩, rfl, hbl, hx, hf, q0, q1, q2, q3⟩ := (hL.next hb).at_ hlt
        have hgo2 : leavesRight rs h (ls.map LfV.leaf) = match rightStep rs h ⟨aN, no, fg⟩ ⟨x, y, z, fs⟩ with | some s' => rightGo rs h ((ls.map LfV.leaf).drop (k + 1)) s' | none => false := by
          rw [unhide hgo, drop_get (show (ls.map LfV.leaf)[k]? = some ⟨x, y, z, fs⟩ by rw [List.getElem?_map, hx]; rfl), rightGo]; rfl
        have hstep0 : (rightStep rs h ⟨aN, no, fg⟩ ⟨x, y, z, fs⟩ = none → leavesRight rs h (ls.map LfV.leaf) = false) := fun e => by rw [hgo2, e]
        have hstep1 : (∀ s', rightStep rs h ⟨aN, no, fg⟩ ⟨x, y, z, fs⟩ = some s' → leavesRight rs h (ls.map LfV.leaf) = rightGo rs h ((ls.map LfV.leaf).drop (k + 1)) s') := fun s' e => by rw [hgo2, e]
        unfold rightStep at hstep0 hstep1
        dsimp only at hstep0 hstep1 q0 q1 q2 q3
        have HS0 := hide hstep0
        have HS1 := hide hstep1
        have hf' : IntsAt wr A1 fs.length c1 fs := hf
        have hfbd := hf'.bd
        clear hgo hgo2 hx hstep0 hstep1 hf
        by_cases hxa : x = (aN : Int)
        · subst hxa
          have hne : ((aN : Int) != (aN : Int)) = false := by simp
          have B5 := bmk hb (.cells #[.int .i64 aN, .int .i64 y, .int .i64 z, .slice A1 fs.length c1] 26)
          have q := Blk.new wr 26 #[.int .i64 aN, .int .i64 y, .int .i64 z, .slice A1 fs.length c1]
          go_wp2_with fail
          refine (c_leafHeight A n c rs aN y z A1 _ c1 fs _ (hR.next B5) (hf'.next (bof _ _))).mono ?_
          rintro e w3 ⟨rfl, hb3⟩
          replace q := q.next hb3
          replace O := (OwnI.next O (bof wr (.cells #[.int .i64 aN, .int .i64 y, .int .i64 z, .slice A1 fs.length c1] 26))).next hb3
          have hf3 := (hf'.next (bof wr (.cells #[.int .i64 aN, .int .i64 y, .int .i64 z, .slice A1 fs.length c1] 26))).next hb3
          have B3 := bnext B5 hb3
          clear hb3 B5 hne q0 q1 q2 q3 hf' hb
          cases hin : inB (leafHeight rs ⟨aN, y, z, fs⟩) 0 h
          · have HN : Hid (leavesRight rs h (ls.map LfV.leaf) = false) := unhide HS0 (by rw [hin]; simp)
            go_wp2_with fail
            refine (c_in_b hin _).mono ?_
            rintro e w4 ⟨rfl, rfl⟩
            go_wp2
            go_ret
            exact ⟨by rw [unhide HN] <;> rfl, B3⟩
          · go_wp2_with fail
            refine (c_in_b hin _).mono ?_
            rintro e w4 ⟨rfl, rfl⟩
            have hin' := hin
            obtain ⟨hin0, hin1⟩ := inB_iff.1 hin'
            obtain ⟨⟨_, ⟨hy0, hy1⟩, ⟨_, hxy⟩, ⟨hz0, hz1'⟩, hfs⟩, _⟩ := lh_ge hin0
            dsimp only at hy0 hy1 hxy hz0 hz1' hfs
            rw [unhide HLEN] at hy1
            rw [hin] at HS0 HS1
            obtain ⟨t, rfl⟩ := Int.eq_ofNat_of_zero_le hy0
            rw [Int.toNat_natCast] at HS0 HS1
            have hat : aN ≤ t := by omega
            have htn : t ≤ n := by omega
            obtain ⟨d2, HD2⟩ : ∃ d2, Hid (d2 = sumN (rs.take t)) := ⟨_, rfl⟩
            have hd2 : 0 ≤ d2 ∧ d2 ≤ 30000 := by
              have := sumN_bd (all_take' (unhide HV) t)
              have h30 : (rs.take t).length ≤ 30 := by rw [List.length_take, unhide HLEN]; omega
              rw [← unhide HD2] at this; omega
            obtain ⟨hd20, hd21⟩ := hd2
            obtain ⟨AM, hRM, hsl0⟩ := rows_mid (hR.next B3) hat htn
            have hsl := fun wx => hsl0 wx
            have q1 : w4.cell? ⟨wr.heap.size, 1, none⟩ = some (.int .i64 t) := q.cell 1
            have q2 : w4.cell? ⟨wr.heap.size, 2, none⟩ = some (.int .i64 z) := q.cell 2
            have q3 : w4.cell? ⟨wr.heap.size, 3, none⟩ = some (.slice A1 fs.length c1) := q.cell 3
            obtain ⟨gx, hgx⟩ : ∃ gx, gx = wr.heap.size := ⟨_, rfl⟩
            rw [← hgx] at q q1 q2 q3 ⊢
            have HGX := hide hgx
            clear hgx hin hin' hin0 hin1 hxy hy0 hy1 hsl0
            have hRM' := hRM
            go_wp2
            go_loopw [9, 47] (fun du i wq => ∃ (j : Nat) (dd : Int), aN + j ≤ t ∧ i = .int .i64 j ∧ du = .int .i64 dd ∧ Hid (dd = sumN (rs.take (aN + j))) ∧ 0 ≤ dd ∧ dd ≤ 30000 ∧ Below w4.heap.size w4 wq) (fun _ i _ => t - aN - (intOf i).toNat)
            case atStart => exact ⟨0, d, by omega, rfl, rfl, hd, hd0, hd1, Below.refl _ _⟩
            case round =>
              clear q1 q2 q3
              obtain ⟨j, dd, hjt, rfl, rfl, hdd, hdd0, hdd1, hbI⟩ := hrel
              by_cases hjl : j < t - aN
              · obtain ⟨b3, off3, r, rfl, hbl3, hr, h0, h1, h2, h3⟩ := (hRM.next hbI).at_ hjl
                have hr' : rs[aN + j]? = some r := by
                  rw [List.getElem?_take, if_pos hjl, List.getElem?_drop] at hr; exact hr
                have hs2 : dd + r.n = sumN (rs.take (aN + j + 1)) := by rw [sumN_snoc hr', ← unhide hdd]
                have hbn := sumN_bd (all_take' (unhide HV) (aN + j + 1))
                have h30 : (rs.take (aN + j + 1)).length ≤ 30 := by rw [List.length_take, unhide HLEN]; omega
                rw [← hs2] at hbn
                have HS := hide hs2
                have hbn1 : 0 ≤ dd + r.n := hbn.1
                have hbn2 : dd + r.n ≤ 30000 := by omega
                clear hs2 hr hr' hbn h30
                go_wp2
                go_roundw
                case rel => exact ⟨j + 1, dd + r.n, by omega, by go_num, rfl, HS, hbn1, hbn2, bmk hbI _⟩
                case measure => simp [intOf]; omega
              · have hdd2 : dd = d2 := by rw [unhide hdd, unhide HD2, show aN + j = t by omega]
                subst hdd2
                obtain ⟨wE, rfl⟩ : ∃ wE : World, wE = wr := ⟨_, rfl⟩
                replace q := q.next hbI
                replace O := OwnI.next O hbI
                have hfE := hf3.next hbI
                have BE := bnext B3 hbI
                have q1 : wE.cell? ⟨gx, 1, none⟩ = some (.int .i64 t) := q.cell 1
                have q2 : wE.cell? ⟨gx, 2, none⟩ = some (.int .i64 z) := q.cell 2
                have q3 : wE.cell? ⟨gx, 3, none⟩ = some (.slice A1 fs.length c1) := q.cell 3
                clear hdd hbI hRM hRM' hsl hf3 B3
                by_cases hnz : no + z ≤ dd
                · go_wp2
                  go_loopw [68] (fun i wq => ∃ j : Nat, j ≤ fs.length ∧ i = .int .i64 j ∧ Hid ((fs.take j).all (fun x => decide (x < (t : Int))) = true) ∧ Below wE.heap.size wE wq) (fun i _ => fs.length - (intOf i).toNat)
                  case atStart => exact ⟨0, Nat.zero_le _, rfl, (show _ = _ from rfl), Below.refl _ _⟩
                  case round =>
                    clear q1 q2 q3
                    obtain ⟨j, hjf, rfl, hall, hbI⟩ := hrel
                    by_cases hjl : j < fs.length
                    · obtain ⟨bF, offF, v, rfl, hblF, hvx, hcv⟩ := (hfE.next hbI).at_ hjl
                      by_cases hvt : v < (t : Int)
                      · have hall2 := hide (all_snoc hvx (unhide hall) (by simpa using hvt))
                        clear hvx
                        go_wp2
                        go_roundw
                        case rel => exact ⟨j + 1, by omega, by go_num, hall2, hbI⟩
                        case measure => simp [intOf]; omega
                      · have HN : Hid (leavesRight rs h (ls.map LfV.leaf) = false) := unhide HS0 (by
                          rw [if_neg]
                          rintro ⟨_, _, _, h4⟩
                          rw [all_not hvx (by simpa using hvt)] at h4; cases h4)
                        clear hvx
                        go_wp2
                        go_ret
                        exact ⟨by rw [unhide HN] <;> rfl, bnext BE hbI⟩
                    · have hall2 : fs.all (fun x => decide (x < (t : Int))) = true := all_end (by omega) (unhide hall)
                      have HG := hide (unhide HS1 _ (by rw [if_pos]; exact ⟨by first | trivial | rfl, by first | trivial | rfl, by rw [← unhide HD2]; exact hnz, hall2⟩))
                      have hfl2 : (fg ++ fs).length ≤ 30 * (k + 1) := by rw [List.length_append]; have := unhide hfl; omega
                      have HFL2 := hide hfl2
                      have hfgl : fg.length ≤ 60000000 := by have := unhide hfl; omega
                      obtain ⟨wF, rfl⟩ : ∃ wF : World, wF = wr := ⟨_, rfl⟩
                      replace q := q.next hbI
                      replace O := OwnI.next O hbI
                      have hfF := hfE.next hbI
                      have BF := bnext BE hbI
                      have hBs := BF.size
                      have q3 : wF.cell? ⟨gx, 3, none⟩ = some (.slice A1 fs.length c1) := q.cell 3
                      clear hall hall2 hbI hfE BE hfl2
                      go_wp2_with (at_builtin; go_loud (refine wpList_append_rd _ (by rfl) (.tmp 76) (.tmp 78) 24 rfl w.heap.size 3 i0 _ 1 8 Try.underlying24 hi hi0 hi1 hi2 rfl (by decide) _ _ _ rfl O A1 fs.length c1 (fs.map (Value.int .i64)) rfl hfF.1 (ints_one fs) (by unfold maxLen; omega) (by omega) hBs ?_); intro v6 w6 hown6 hg6)
                      have hown7 : w6.ownsRow w.heap.size 3 1 v6 (fg.length + fs.length) ((fg ++ fs).map (Value.int .i64)) := by rw [List.map_append]; exact hown6
                      obtain ⟨A6, c6, rfl, hl6, O6⟩ := OwnI.of hown7
                      have B6 := b_own BF O (Nat.le_refl _) hg6
                      have hl6' : fg.length + fs.length = (fg ++ fs).length := by simp
                      clear hown6 hown7 hg6 q3 q hfF BF O hl6 hl6'
                      go_roundw
                      case rel => exact ⟨k + 1, ⟨t, no + z, fg ++ fs⟩, dd, A6, c6, by omega, by go_num, rfl, rfl, rfl, (by rw [List.length_append]), HD2, hd20, hd21, htn, (by show 0 ≤ no + z; omega), hnz, HFL2, O6, HG, B6⟩
                      case measure => simp [intOf]; omega
                · have HN : Hid (leavesRight rs h (ls.map LfV.leaf) = false) := unhide HS0 (by rw [if_neg]; rintro ⟨_, _, h3, _⟩; rw [← unhide HD2] at h3; exact hnz h3)
                  go_wp2
                  go_ret
                  exact ⟨by rw [unhide HN] <;> rfl, BE⟩
        · have HN : Hid (leavesRight rs h (ls.map LfV.leaf) = false) := unhide HS0 (by rw [if_neg]; intro hc; exact hxa hc.1)
          have hne : (x != (aN : Int)) = true := by simp [hxa]
          go_wp2
          go_ret
          exact ⟨by rw [unhide HN] <;> rfl, bmk hb _⟩
      · have hdk : (ls.map LfV.leaf).drop k = [] := List.drop_eq_nil_of_le (by rw [List.length_map, unhide HLL]; omega)
        have hgo2 : leavesRight rs h (ls.map LfV.leaf) = rightFin rs ⟨aN, no, fg⟩ := by rw [unhide hgo, hdk, rightGo]
        unfold rightFin at hgo2
        dsimp only at hgo2
        have HG := hide hgo2
        clear hgo hgo2 hdk
        by_cases han : aN = n
        · subst han
          have hne : ((aN : Int) != (aN : Int)) = false := by simp
          have hdt : d = sumN rs := by rw [unhide hd, List.take_of_length_le (by rw [unhide HLEN]; exact Nat.le_refl _)]
          have HDT := hide hdt
          clear hdt
          by_cases hnd : no = d
          · subst hnd
            have hne2 : (no != no) = false := by simp
            have HG2 : Hid (leavesRight rs h (ls.map LfV.leaf) = decide (fg = figList rs aN)) := by
              show _ = _; rw [unhide HG, unhide HLEN, unhide HDT]; simp
            have F0 := O.at_
            clear O HG
            go_wp2
            go_loopw [10, 92] (fun fi i wq => ∃ (k : Nat) (AG : Option Addr) (cG : Nat) (fr : List Int), k ≤ aN ∧ i = .int .i64 k ∧ fi = .slice AG fr.length cG ∧ Hid (fg = figList rs k ++ fr) ∧ IntsAt wq AG fr.length cG fr ∧ Below w.heap.size w wq) (fun _ i _ => aN - (intOf i).toNat)
            case atStart => exact ⟨0, AF, cF, fg, Nat.zero_le _, rfl, rfl, (show _ = _ by simp [figList]), F0, hb⟩
            case round =>
              clear F0 hb
              obtain ⟨q, AG, cG, fr, hq, rfl, rfl, hfr, F, hb⟩ := hrel
              by_cases hql : q < aN
              · obtain ⟨b3, off3, r, rfl, hbl3, hr, h0, h1, h2, h3⟩ := (hR.next hb).at_ hql
                have hrb := (row_bd (unhide HV) hr).2.2
                have hfq := figF_get hr
                have hmis : 0 < r.f → (fr = [] ∨ ∃ x t, fr = x :: t ∧ x ≠ (q : Int)) → leavesRight rs h (ls.map LfV.leaf) = false := fun h1 h2 => by
                  rw [unhide HG2, unhide hfr, decide_eq_false_iff_not]
                  have := figs_mis (rs := rs) (k := q) (by rw [unhide HLEN]; exact hql) (by rw [hfq]; exact h1) h2
                  rw [unhide HLEN] at this; exact this
                have HMIS := hide hmis
                by_cases hf0 : r.f = 0
                · have hfr2 : fg = figList rs (q + 1) ++ fr := by rw [figList_skip (by rw [hfq]; omega)]; exact unhide hfr
                  have HFR := hide hfr2
                  have hz : (r.f == 0) = true := by simp [hf0]
                  clear hmis hfr hfr2 hfq hr
                  go_wp2
                  go_roundw
                  case rel => exact ⟨q + 1, AG, cG, fr, by omega, by go_num, rfl, HFR, F.next (bof _ _), bmk hb _⟩
                  case measure => simp [intOf]; omega
                · have hz : (r.f == 0) = false := by simp [hf0]
                  have hfp : 0 < r.f := by omega
                  cases fr with
                  | nil =>
                    have HN := hide (unhide HMIS hfp (.inl rfl))
                    clear hmis hfr hfq hr
                    go_wp2
                    go_ret
                    exact ⟨by rw [unhide HN] <;> rfl, bmk hb _⟩
                  | cons x fr =>
                    have hFbd := F.bd
                    obtain ⟨bF, offF, v, rfl, hblF, hvx, hcv⟩ := (F.next (bof wr (.cells #[.int .i64 r.h, .bool r.k, .int .i64 r.n, .int .i64 r.f] 48))).at_ (k := 0) (by simp)
                    simp at hvx
                    subst hvx
                    rw [Nat.add_zero] at hcv
                    by_cases hxq : x = (q : Int)
                    · subst hxq
                      have hne3 : ((q : Int) != (q : Int)) = false := by simp
                      have hfr2 : fg = figList rs (q + 1) ++ fr := by rw [figList_take (by rw [hfq]; exact hfp), unhide hfr]; simp
                      have HFR := hide hfr2
                      obtain ⟨AT, hT, hsl0⟩ := ints_tail F
                      have hsl := fun wx => hsl0 wx
                      simp only [List.length_cons, Nat.add_sub_cancel] at hT hsl hFbd
                      clear hmis hfr hfr2 hfq hr hsl0
                      go_wp2
                      go_roundw
                      case rel => exact ⟨q + 1, AT, cG - 1, fr, by omega, by go_num, by rfl, HFR, hT.next (bof _ _), bmk hb _⟩
                      case measure => simp [intOf]; omega
                    · have HN := hide (unhide HMIS hfp (.inr ⟨x, fr, rfl, hxq⟩))
                      have hne3 : (x != (q : Int)) = true := by simp [hxq]
                      clear hmis hfr hfq hr
                      go_wp2
                      go_ret
                      exact ⟨by rw [unhide HN] <;> rfl, bmk hb _⟩
              · obtain rfl : q = aN := by omega
                have HN : Hid (leavesRight rs h (ls.map LfV.leaf) = decide (fr.length = 0)) := by
                  show _ = _; rw [unhide HG2, unhide hfr]
                  cases fr <;> simp
                cases fr with
                | nil =>
                  clear hfr
                  go_wp2
                  go_ret
                  exact ⟨by rw [unhide HN] <;> rfl, hb⟩
                | cons x fr =>
                  have hz : (((x :: fr).length : Int) == 0) = false := by simp; omega
                  clear hfr
                  go_wp2
                  go_ret
                  exact ⟨by rw [unhide HN] <;> simp <;> omega, hb⟩
          · have HN : Hid (leavesRight rs h (ls.map LfV.leaf) = false) := by
              show _ = _; rw [unhide HG]; have := unhide HDT; rw [← this]; simp [hnd]
            have hne2 : (no != d) = true := by simp [hnd]
            go_wp2
            go_ret
            exact ⟨by rw [unhide HN] <;> rfl, hb⟩
        · have HN : Hid (leavesRight rs h (ls.map LfV.leaf) = false) := by
            show _ = _; rw [unhide HG, unhide HLEN]; simp [han]
          have hne : ((aN : Int) != (n : Int)) = true := by simp; omega
          go_wp2
          go_ret
          exact ⟨by rw [unhide HN] <;> rfl, hb⟩
end Go.Proofs.Ytfflnkkhemaanaa
