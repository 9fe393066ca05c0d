/- Pages: the walk of the program's BestPages. No condition. -/
import Derived.Test.YtpbccblenohhoaaPages4
import Derived.Deep.QuietTactic
import Derived.BigQuiet
namespace Go.Proofs.Ytpbccblenohhoaa
open Go.RowKit
set_option linter.unusedVariables false

theorem stepDown_skip {rs : List Row} {h : Int} {least : Nat → Int} {a z : Nat} {b : Best} (e : pCost rs h a z < 0 ∨ least z < 0) : stepDown rs h least a z b = b := by rw [stepDown, if_pos e]
theorem stepDown_take {rs : List Row} {h : Int} {least : Nat → Int} {a z : Nat} {b : Best} (e1 : 0 ≤ pCost rs h a z) (e2 : 0 ≤ least z) : stepDown rs h least a z b = better (pCost rs h a z + least z) z b := by rw [stepDown, if_neg (by omega)]
theorem lookDown_bd {rs : List Row} {h : Int} {least : Nat → Int} {a n : Nat} {K : Int} (hK : ∀ z, a < z → z ≤ n → pCost rs h a z + least z ≤ K) (hK0 : -1 ≤ K) : ∀ j, j ≤ n - a → -1 ≤ (lookDown rs h least a n j).cost ∧ (lookDown rs h least a n j).cost ≤ K ∧ (lookDown rs h least a n j).next ≤ n
  | 0, _ => by simp [lookDown]; omega
  | j + 1, hj => by
    have ih := lookDown_bd hK hK0 j (by omega)
    rw [lookDown]
    by_cases hc : pCost rs h a (n - j) < 0 ∨ least (n - j) < 0
    · rw [stepDown_skip hc]; exact ih
    · rw [stepDown_take (by omega) (by omega)]
      have hk := hK (n - j) (by omega) (by omega)
      rcases better_cases (pCost rs h a (n - j) + least (n - j)) (n - j) (lookDown rs h least a n j) with ⟨_, e⟩ | ⟨_, e⟩
      · rw [e]; dsimp only; omega
      · rw [e]; exact ih
set_option maxHeartbeats 8000000 in
theorem c_bestPages (A : Option Addr) (n c : Nat) (rs : List Row) (h : Int) (w : World) (hR : RowsAt w A n c rs) :
    Calls Try.prog 28 #[.slice A n c, .int .i64 h] w fun e w' => ∃ A' c', e = .returned (.tuple #[.slice A' (bestPages rs h).length c', .bool (bestOf rs h).isSome]) ∧ OwnI w' w.heap.size A' c' (bestPages rs h) ∧ Below w.heap.size w w' := by
  obtain ⟨i0, hi, hz0, hz1, hz2⟩ := info_parts infoInt
  have hlen := hR.len
  have hbd := hR.bd
  cases h1 : argsOk rs h
  · have H : Hid (bestPages rs h = [] ∧ (bestOf rs h).isSome = false) := by show _ ∧ _; simp [bestPages, bestOf, h1]
    go_enter Try.func28, Try.ntmps28
    go_wp2_with fail
    refine (c_pageArguments h1 _ hR).mono ?_
    rintro e w1 ⟨rfl, hb1⟩
    go_wp2
    go_ret2
    rw [(unhide H).1, (unhide H).2]
    exact ⟨none, 0, rfl, OwnI.nil_ _ _, hb1⟩
  · obtain ⟨hva, hv, hl, hh1, hh2⟩ := args_parts h1
    have hF : bestOf rs h = if 0 ≤ (bestTab rs h 0).cost then some (follow rs (bestTab rs h) n 0) else none := by simp [bestOf, h1, hlen]
    have hTB := fun j hj => tabOk hv hl ⟨hh1, hh2⟩ j hj
    have HTB := hide hTB
    have HF := hide hF
    have HLEN := hide hlen
    have HV := hide hv
    have HL := hide hl
    have hn30 : n ≤ 30 := by omega
    clear hva hv hl hlen hF hTB
    go_enter Try.func28, Try.ntmps28
    go_wp2_with fail
    refine (c_pageArguments h1 _ hR).mono ?_
    rintro e w1 ⟨rfl, hb1⟩
    clear h1
    have hs1 := hb1.size
    go_wp2_with (at_make; refine wpList_make_full _ rfl _ _ 23 rfl w.heap.size 3 i0 (.int .i64 0) 1 Try.underlying23 hi hz0 hz1 .i64 .i64 ((n : Int) + 1) ((n : Int) + 1) (n + 1) rfl rfl rfl rfl ?b2 ?b3 hs1 ?_)
    case b2 => rw [hz2]; omega
    case b3 => unfold maxLen; omega
    intro w2 L hg1
    have hb2 : Below w.heap.size w w2 := bnext hb1 ⟨hg1.os, hg1.tape, hg1.output, hg1.size, fun k hk => hg1.block k hk (by simp)⟩
    obtain ⟨g1, HG1⟩ : ∃ g, Hid (g = w1.heap.size) := ⟨_, rfl⟩
    have L1 : IntRow w2 w.heap.size g1 (n + 1) (List.replicate (n + 1) 0) := by
      unfold IntRow; rw [← made_ints, unhide HG1]; exact L
    rw [← unhide HG1]
    have hs2 := hb2.size
    have hgs1 := L1.lt
    clear L hg1 HG1 hb1 hs1
    go_wp2_with (at_make; refine wpList_make_full _ rfl _ _ 23 rfl w.heap.size 3 i0 (.int .i64 0) 1 Try.underlying23 hi hz0 hz1 .i64 .i64 ((n : Int) + 1) ((n : Int) + 1) (n + 1) rfl rfl rfl rfl ?d2 ?d3 hs2 ?_)
    case d2 => rw [hz2]; omega
    case d3 => unfold maxLen; omega
    intro w3 L hg2
    have hB23 : Below w2.heap.size w2 w3 := ⟨hg2.os, hg2.tape, hg2.output, hg2.size, fun k hk => hg2.block k hk (by simp)⟩
    have hb3 : Below w.heap.size w w3 := bnext hb2 hB23
    obtain ⟨g2, HG2⟩ : ∃ g, Hid (g = w2.heap.size) := ⟨_, rfl⟩
    have N1 : IntRow w3 w.heap.size g2 (n + 1) (List.replicate (n + 1) 0) := by
      unfold IntRow; rw [← made_ints, unhide HG2]; exact L
    rw [← unhide HG2]
    have hg12 : g1 ≠ g2 := by rw [unhide HG2]; omega
    have hg21 : g2 ≠ g1 := fun e => hg12 e.symm
    replace L1 := L1.next hB23
    rw [← unhide HLEN] at L1 N1
    rw [← costs_zero rs h] at L1
    rw [← nexts_zero rs h] at N1
    rw [unhide HLEN] at L1 N1
    have hgb1 : w.heap.size ≤ g1 := hgs1.1
    have hgb2 : w.heap.size ≤ g2 := N1.lt.1
    clear L hg2 HG2 hB23 hb2 hs2 hgs1
    go_wp2
    go_loopw [9] (fun i wr => ∃ (j : Nat) (x : Int), j ≤ n ∧ i = .int .i64 x ∧ Hid (x = (n : Int) - (j : Int) - 1) ∧ -1 ≤ x ∧ x < n ∧ IntRow wr w.heap.size g1 (n + 1) (costs rs h j) ∧ IntRow wr w.heap.size g2 (n + 1) (nexts rs h j) ∧ Below w.heap.size w wr) (fun i _ => (intOf i + 1).toNat)
    case atStart => exact ⟨0, _, Nat.zero_le _, rfl, by show _ = _; omega, by omega, by omega, L1, N1, hb3⟩
    case round =>
      clear L1 N1 hb3
      obtain ⟨j, x, hj, rfl, hx, hx0, hx1, L1, N1, hb⟩ := hrel
      by_cases hpos : 0 ≤ x
      · obtain ⟨a, rfl⟩ := Int.eq_ofNat_of_zero_le hpos
        have haj : a = rs.length - (j + 1) := by have := unhide hx; rw [unhide HLEN]; omega
        have hjl : j < rs.length := by have := unhide hx; rw [unhide HLEN]; omega
        have han : a < n := by omega
        have hfr := nexts_fresh (rs := rs) (h := h) (j := j) (a := a) (by omega) (by omega)
        have hbds : ∀ jj, jj ≤ n - a → -1 ≤ (lookDown rs h (fun z => (tab rs h j z).cost) a n jj).cost ∧ (lookDown rs h (fun z => (tab rs h j z).cost) a n jj).cost ≤ 31000000 ∧ (lookDown rs h (fun z => (tab rs h j z).cost) a n jj).next ≤ n :=
          lookDown_bd (fun z h1 h2 => by
            have c1 := pCost_bd (unhide HV) (unhide HL) ⟨hh1, hh2⟩ h1 (by rw [unhide HLEN]; exact h2)
            have c2 := (unhide HTB j (by omega)).hi z
            rw [unhide HLEN] at c2
            omega) (by omega)
        have HAJ := hide haj
        have HJL := hide hjl
        have HBDS := hide hbds
        have hfz1 := L1.fz a
        have hcl := L1.cell (costs_get (rs := rs) (h := h) (j := j) (i := a) (by rw [unhide HLEN]; omega))
        have L2 := L1.put a (-1)
        have N2 := N1.far (p := ⟨g1, a, none⟩) hg21 (.int .i64 (-1))
        rw [← hfr] at N2
        have hb2 := b_put (k := a) hb hgb1 (.int .i64 (-1))
        clear haj hjl hbds hfr hx L1 N1 hb
        go_wp2
        clear hfz1 hcl
        go_loopw [10] (fun t wr => ∃ (j2 z : Nat) (b : Best), z ≤ n ∧ a ≤ z ∧ t = .int .i64 z ∧ Hid (z = n - j2 ∧ j2 ≤ n - a) ∧ Hid (b = lookDown rs h (fun z => (tab rs h j z).cost) a n j2) ∧ IntRow wr w.heap.size g1 (n + 1) ((costs rs h j).set a b.cost) ∧ IntRow wr w.heap.size g2 (n + 1) ((nexts rs h j).set a (b.next : Int)) ∧ Below w.heap.size w wr) (fun t _ => (intOf t).toNat)
        case atStart => exact ⟨0, n, ⟨-1, 0⟩, Nat.le_refl _, by omega, rfl, ⟨by omega, by omega⟩, rfl, L2, N2, hb2⟩
        case round =>
          clear L2 N2 hb2
          obtain ⟨j2, z, b, hz, haz0, rfl, hj2, hbb, L1, N1, hb⟩ := hrel
          by_cases haz : a < z
          · have hbd3 := unhide HBDS j2 (unhide hj2).2
            rw [← unhide hbb] at hbd3
            obtain ⟨bc, bn⟩ := b
            dsimp only at hbd3 L1 N1
            obtain ⟨hbc0, hbc1, hbn⟩ := hbd3
            obtain ⟨p, HP⟩ : ∃ p, Hid (p = pCost rs h a z) := ⟨_, rfl⟩
            obtain ⟨l, HLz⟩ : ∃ l, Hid (l = (tab rs h j z).cost) := ⟨_, rfl⟩
            have hpb := pCost_bd (unhide HV) (unhide HL) ⟨hh1, hh2⟩ haz (by rw [unhide HLEN]; exact hz)
            have hlb1 := (unhide HTB j (Nat.le_of_lt (unhide HJL))).lo z
            have hlb2 := (unhide HTB j (Nat.le_of_lt (unhide HJL))).hi z
            rw [← unhide HP] at hpb
            rw [← unhide HLz] at hlb1 hlb2
            obtain ⟨hp1, hp2⟩ := hpb
            have hlb3 : l ≤ 31000000 := by rw [unhide HLEN] at hlb2; omega
            have hnext : lookDown rs h (fun z => (tab rs h j z).cost) a n (j2 + 1) = stepDown rs h (fun z => (tab rs h j z).cost) a z ⟨bc, bn⟩ := by
              rw [lookDown, ← unhide hbb, (unhide hj2).1]
            have HNX := hide hnext
            have hj3 : Hid (z - 1 = n - (j2 + 1) ∧ j2 + 1 ≤ n - a) := by
              have := unhide hj2
              exact ⟨by omega, by omega⟩
            have hcz := fun (wx : World) (hx : IntRow wx w.heap.size g1 (n + 1) ((costs rs h j).set a bc)) => hx.cell (set_get_ne (Nat.ne_of_lt haz) (costs_get (rs := rs) (h := h) (j := j) (i := z) (by rw [unhide HLEN]; exact hz)))
            have hca := fun (wx : World) (hx : IntRow wx w.heap.size g1 (n + 1) ((costs rs h j).set a bc)) => hx.cell (set_get_eq (a := a) (y := bc) (l := costs rs h j) (by rw [costs_len, unhide HLEN]; omega))
            rw [← unhide HLz] at hcz
            have hcn := fun (wx : World) (hx : IntRow wx w.heap.size g2 (n + 1) ((nexts rs h j).set a (bn : Int))) => hx.cell (set_get_eq (a := a) (y := (bn : Int)) (l := nexts rs h j) (by rw [nexts_len, unhide HLEN]; omega))
            have HCZ := hide hcz
            have HCA := hide hca
            have HCN := hide hcn
            clear hnext hlb2 hcz hca hcn hj2 hbb
            go_wp2_with fail
            refine (c_pageCost A n c rs h a z _ (hR.next hb) (unhide HV) hn30 ⟨hh1, hh2⟩ haz hz).mono ?_
            rintro e w5 ⟨he, hb5⟩
            rw [← unhide HP] at he
            subst he
            replace L1 := L1.next hb5
            replace N1 := N1.next hb5
            replace hb := bnext hb hb5
            clear hb5
            have hz1 := unhide HCZ _ L1
            have ha1 := unhide HCA _ L1
            have hn1 := unhide HCN _ N1
            have hf1 := L1.fz a
            have hf2 := N1.fz a
            by_cases hpn : p < 0
            · have HB : Hid ((⟨bc, bn⟩ : Best) = lookDown rs h (fun z => (tab rs h j z).cost) a n (j2 + 1)) := by
                show _ = _; rw [unhide HNX, stepDown_skip (.inl (by rw [← unhide HP]; exact hpn))]
              go_wp2
              go_roundw
              case rel => exact ⟨j2 + 1, z - 1, ⟨bc, bn⟩, by omega, by omega, by congr 1 <;> omega, hj3, HB, L1, N1, hb⟩
              case measure => simp [intOf]; omega
            · by_cases hln : l < 0
              · have HB : Hid ((⟨bc, bn⟩ : Best) = lookDown rs h (fun z => (tab rs h j z).cost) a n (j2 + 1)) := by
                  show _ = _; rw [unhide HNX, stepDown_skip (.inr (by rw [← unhide HLz]; exact hln))]
                go_wp2
                go_roundw
                case rel => exact ⟨j2 + 1, z - 1, ⟨bc, bn⟩, by omega, by omega, by congr 1 <;> omega, hj3, HB, L1, N1, hb⟩
                case measure => simp [intOf]; omega
              · have hstep : lookDown rs h (fun z => (tab rs h j z).cost) a n (j2 + 1) = better (p + l) z ⟨bc, bn⟩ := by
                  rw [unhide HNX, stepDown_take (by rw [← unhide HP]; omega) (by rw [← unhide HLz]; omega), ← unhide HP, ← unhide HLz]
                have HST := hide hstep
                clear hstep
                have hwr : IntKind.i64.wrap (p + l) = p + l := IntWalk.i64_in _ (by omega)
                rcases Int.lt_or_le bc 0 with hbc | hbc
                · have hd1 : decide (bc < 0) = true := by simpa using hbc
                  have HB : Hid ((⟨p + l, z⟩ : Best) = lookDown rs h (fun z => (tab rs h j z).cost) a n (j2 + 1)) := by
                    show _ = _; rw [unhide HST, better, if_pos (.inl hbc)]
                  go_wp2
                  go_quiet (fail)
                  have L2 := ((L1.drewN nq).put a (p + l)).far (p := ⟨g2, a, none⟩) hg12 (.int .i64 z)
                  have N2 := ((N1.drewN nq).far (p := ⟨g1, a, none⟩) hg21 (.int .i64 (p + l))).put a z
                  rw [set_twice] at L2 N2
                  have hb2 := b_put (k := a) (b_put (k := a) (bdrewN hb nq) hgb1 (.int .i64 (p + l))) hgb2 (.int .i64 z)
                  go_wp2
                  go_roundw
                  case rel => exact ⟨j2 + 1, z - 1, ⟨p + l, z⟩, by omega, by omega, by congr 1 <;> omega, hj3, HB, L2, N2, hb2⟩
                  case measure => simp [intOf]; omega
                · have hd1 : decide (bc < 0) = false := by simpa using hbc
                  by_cases hlt : p + l < bc
                  · have hd2 : decide (p + l < bc) = true := by simpa using hlt
                    have HB : Hid ((⟨p + l, z⟩ : Best) = lookDown rs h (fun z => (tab rs h j z).cost) a n (j2 + 1)) := by
                      show _ = _; rw [unhide HST, better, if_pos (.inr hlt)]
                    go_wp2
                    go_quiet (fail)
                    have L2 := ((L1.drewN nq).put a (p + l)).far (p := ⟨g2, a, none⟩) hg12 (.int .i64 z)
                    have N2 := ((N1.drewN nq).far (p := ⟨g1, a, none⟩) hg21 (.int .i64 (p + l))).put a z
                    rw [set_twice] at L2 N2
                    have hb2 := b_put (k := a) (b_put (k := a) (bdrewN hb nq) hgb1 (.int .i64 (p + l))) hgb2 (.int .i64 z)
                    go_wp2
                    go_roundw
                    case rel => exact ⟨j2 + 1, z - 1, ⟨p + l, z⟩, by omega, by omega, by congr 1 <;> omega, hj3, HB, L2, N2, hb2⟩
                    case measure => simp [intOf]; omega
                  · have hd2 : decide (p + l < bc) = false := by simpa using hlt
                    have HB : Hid ((⟨bc, bn⟩ : Best) = lookDown rs h (fun z => (tab rs h j z).cost) a n (j2 + 1)) := by
                      show _ = _; rw [unhide HST, better, if_neg (by dsimp only; omega)]
                    go_wp2
                    go_quiet (fail)
                    have hb2 := bdrewN hb nq
                    go_wp2
                    go_roundw
                    case rel => exact ⟨j2 + 1, z - 1, ⟨bc, bn⟩, by omega, by omega, by congr 1 <;> omega, hj3, HB, L1.drewN nq, N1.drewN nq, hb2⟩
                    case measure => simp [intOf]; omega
          · obtain rfl : a = z := by omega
            have hj2' := unhide hj2
            have hbe : b = bestAt rs h (fun z => (tab rs h j z).cost) a := by
              rw [unhide hbb, bestAt, unhide HLEN, show j2 = n - a by omega]
            rw [hbe, costs_step (unhide HJL) (unhide HAJ)] at L1
            rw [hbe, nexts_step (unhide HJL) (unhide HAJ)] at N1
            have haj := unhide HAJ
            rw [unhide HLEN] at haj
            have hjn : j + 1 ≤ n := by have := unhide HJL; rw [unhide HLEN] at this; omega
            have hx2 : (a : Int) - 1 = (n : Int) - ((j + 1 : Nat) : Int) - 1 := by omega
            have HX2 := hide hx2
            clear hbb hj2 hj2' hbe haj hx2
            go_wp2
            go_roundw
            case rel => exact ⟨j + 1, (a : Int) - 1, hjn, rfl, HX2, by omega, by omega, L1, N1, hb⟩
            case measure => simp [intOf] <;> omega
      · have hjn : j = n := by have := unhide hx; omega
        rw [hjn] at L1 N1
        obtain ⟨k0, HK0⟩ : ∃ k, Hid (k = (bestTab rs h 0).cost) := ⟨_, rfl⟩
        have hc0 := L1.cell (costs_get (rs := rs) (h := h) (j := n) (i := 0) (by omega))
        have hk0 : (tab rs h n 0).cost = k0 := by rw [unhide HK0, bestTab, unhide HLEN]
        rw [hk0] at hc0
        rw [← unhide HK0] at HF
        clear hk0 hx hjn
        by_cases hneg : k0 < 0
        · have HN : Hid (bestPages rs h = [] ∧ (bestOf rs h).isSome = false) := by
            have e : bestOf rs h = none := by rw [unhide HF, if_neg (by omega)]
            show _ ∧ _; rw [bestPages, e]; exact ⟨rfl, rfl⟩
          go_wp2
          go_ret2
          rw [(unhide HN).1, (unhide HN).2]
          exact ⟨none, 0, rfl, OwnI.nil_ _ _, hb⟩
        · have hfo : bestOf rs h = some (follow rs (bestTab rs h) n 0) := by rw [unhide HF, if_pos (by omega)]
          have hon : ∀ i, i < n → 0 ≤ (bestTab rs h i).cost → i < (bestTab rs h i).next ∧ (bestTab rs h i).next ≤ n ∧ 0 ≤ (bestTab rs h (bestTab rs h i).next).cost := fun i h1 h2 => by
            have := (unhide HTB rs.length (Nat.le_refl _)).on i (by rw [unhide HLEN]; exact h1) (by omega) h2
            rw [unhide HLEN] at this
            unfold bestTab; rw [unhide HLEN]; exact this
          have hng : ∀ i, i ≤ n → (nexts rs h n)[i]? = some ((bestTab rs h i).next : Int) := fun i hi => by
            rw [nexts_get (by rw [unhide HLEN]; exact hi), bestTab, unhide HLEN]
          have hc00 : 0 ≤ (bestTab rs h 0).cost := by rw [← unhide HK0]; omega
          have HFO := hide hfo
          have HON := hide hon
          have HNG := hide hng
          have HC0 := hide hc00
          obtain ⟨wL, rfl⟩ : ∃ wL : World, wL = wr := ⟨_, rfl⟩
          have NO := N1
          have hs4 := hb.size
          clear hfo hon hng hc00 L1
          go_wp2
          go_loopw [12, 13] (fun o a wq => ∃ (aN f : Nat) (AO : Option Addr) (cO : Nat) (acc : List Int), aN ≤ n ∧ a = .int .i64 aN ∧ Hid (0 ≤ (bestTab rs h aN).cost) ∧ n ≤ aN + f ∧ acc.length + f ≤ n ∧ o = .slice AO acc.length cO ∧ Hid (follow rs (bestTab rs h) n 0 = acc ++ follow rs (bestTab rs h) f aN) ∧ OwnI wq wL.heap.size AO cO acc ∧ IntRow wq w.heap.size g2 (n + 1) (nexts rs h n) ∧ wL.heap.size ≤ wq.heap.size ∧ Below w.heap.size w wq) (fun _ a _ => n - (intOf a).toNat)
          case atStart => exact ⟨0, n, none, 0, [], Nat.zero_le _, rfl, HC0, by omega, by simp, rfl, rfl, OwnI.nil_ _ _, N1, Nat.le_refl _, hb⟩
          case round =>
            clear N1 hb hc0
            obtain ⟨aN, f, AO, cO, acc, ha, rfl, hca, hf, hac, rfl, hfol, O, N1, hbs, hb⟩ := hrel
            by_cases hlt : aN < n
            · obtain ⟨t1, t2, t3⟩ := unhide HON aN hlt (unhide hca)
              have hcell := N1.cell (unhide HNG aN ha)
              obtain ⟨z, HZ⟩ : ∃ z, Hid (z = (bestTab rs h aN).next) := ⟨_, rfl⟩
              rw [← unhide HZ] at t1 t2 t3 hcell
              obtain ⟨f', rfl⟩ : ∃ f', f = f' + 1 := ⟨f - 1, by omega⟩
              have hfol2 : follow rs (bestTab rs h) n 0 = (acc ++ [(z : Int)]) ++ follow rs (bestTab rs h) f' z := by
                rw [unhide hfol, follow, if_pos (by rw [unhide HLEN]; exact hlt), ← unhide HZ]; simp
              have HFOL := hide hfol2
              have HT3 := hide t3
              have hl8 : (acc ++ [(z : Int)]).length = acc.length + 1 := by simp
              have HL8 := hide hl8
              have hap : g2 = g2 ∧ (Value.slice AO acc.length cO).ownBlock ≠ some g2 := ⟨rfl, fun e => by have h1 := (World.ownsRow.lt O g2 e).1; have h2 := NO.lt.2; omega⟩
              have HAP := hide hap
              clear hfol hfol2 t3 hl8 hca hap
              go_wp2_with (at_builtin; refine wpList_push_I (w0 := wL) (z : Int) rfl rfl O rfl rfl (by omega) hbs ?_; intro A6 c6 w6 O6 hg6 hpre; have B6 : Below w.heap.size w w6 := b_own (bmk hb _) hpre hs4 hg6; have N6 := IntRow.kept (N1.alloc (.cells #[.int .i64 z] 3)) hg6 (unhide HAP).2; have hbs6 : wL.heap.size ≤ w6.heap.size := (by have := hg6.size; simp at this; omega); have hcell6 := N6.cell (unhide HNG aN ha); rw [← unhide HZ] at hcell6; clear hg6 hpre O N1 hb hbs hcell)
              go_roundw
              case rel => exact ⟨z, f', A6, c6, acc ++ [(z : Int)], t2, rfl, HT3, by omega, by rw [unhide HL8]; omega, by simp, HFOL, O6, N6, hbs6, B6⟩
              case measure => simp [intOf]; omega
            · have HN : Hid (bestPages rs h = acc ∧ (bestOf rs h).isSome = true) := by
                have e : follow rs (bestTab rs h) n 0 = acc := by
                  rw [unhide hfol]
                  cases f with
                  | zero => simp [follow]
                  | succ f => rw [follow, if_neg (by rw [unhide HLEN]; exact hlt)]; simp
                show _ ∧ _; rw [bestPages, unhide HFO, e]; exact ⟨rfl, rfl⟩
              clear hfol
              go_wp2
              go_ret2
              rw [(unhide HN).1, (unhide HN).2]
              exact ⟨AO, cO, rfl, own_base O hs4, hb⟩
end Go.Proofs.Ytpbccblenohhoaa
