/- Pages: the walk of the reference's BestPages. No condition. -/
import Derived.Test.YtpbccblenohhoaaPages5
namespace Go.Proofs.Ytpbccblenohhoaa
open Go.RowKit
set_option linter.unusedVariables false

theorem stepUp_skip {rs : List Row} {h : Int} {least : Nat → Int} {a z : Nat} {b : Best} (e : cand rs h least a z = none) : stepUp rs h least a z b = b := by rw [stepUp, e]
theorem stepUp_take {rs : List Row} {h : Int} {least : Nat → Int} {a z : Nat} {b : Best} {c : Int} (e : cand rs h least a z = some c) : stepUp rs h least a z b = betterEq c z b := by rw [stepUp, e]
theorem lookUp_bd {rs : List Row} {h : Int} {least : Nat → Int} {a n : Nat} {K : Int} (hK : ∀ z, a < z → z ≤ n → pCost rs h a z + least z ≤ K) (hK0 : -1 ≤ K) : ∀ j, a + j ≤ n → -1 ≤ (lookUp rs h least a j).cost ∧ (lookUp rs h least a j).cost ≤ K ∧ (lookUp rs h least a j).next ≤ n
  | 0, _ => by simp [lookUp]; omega
  | j + 1, hj => by
    have ih := lookUp_bd hK hK0 j (by omega)
    rw [lookUp]
    cases hc : cand rs h least a (a + j + 1) with
    | none => rw [stepUp_skip hc]; exact ih
    | some c =>
      rw [stepUp_take hc]
      obtain ⟨c1, c2, c3⟩ := cand_parts hc
      have hk := hK (a + j + 1) (by omega) hj
      unfold betterEq
      split
      · dsimp only; omega
      · exact ih
theorem cand_none_least {rs : List Row} {h : Int} {least : Nat → Int} {a z : Nat} (e : least z < 0) : cand rs h least a z = none := by rw [cand, if_pos (Or.inr e)]
theorem cand_none_page {rs : List Row} {h : Int} {least : Nat → Int} {a z : Nat} (e : pageOk rs h a z = false) : cand rs h least a z = none := by
  have hp : pCost rs h a z = -1 := by rw [pCost, e]; rfl
  rw [cand, hp, if_pos (Or.inl (by omega))]
theorem cand_some {rs : List Row} {h : Int} {least : Nat → Int} {a z : Nat} (e : pageOk rs h a z = true) (hl : 0 ≤ least z) : cand rs h least a z = some (pCost rs h a z + least z) := by
  have := pCost_nonneg.2 e
  rw [cand, if_neg (by omega)]
set_option maxRecDepth 100000 in
set_option maxHeartbeats 8000000 in
theorem c_bestPages' (A : Option Addr) (n c : Nat) (rs : List Row) (h : Int) (w : World) (hR : RowsAt w A n c rs) :
    Calls Try.prog 29 #[.slice A n c, .int .i64 h] w fun e w' => ∃ A' c', e = .returned (.tuple #[.slice A' (bestPages rs h).length c', .bool (bestOf rs h).isSome]) ∧ OwnI w' w.heap.size A' c' (bestPages rs h) ∧ Below w.heap.size w w' := by
  obtain ⟨i0, hi, hz0, hz1, hz2⟩ := info_parts infoInt
  have hlen := hR.len
  have hbd := hR.bd
  have E0 : OwnI (w.alloc (.cells #[] 3)) w.heap.size (some ⟨w.heap.size, 0, none⟩) 0 [] := World.ownsRow_made w #[] 0 (Nat.le_refl _) (Nat.zero_le _) rfl
  have hB0 := bof w (.cells #[] 3)
  cases h1 : rowsValid rs
  · have H : Hid (bestPages rs h = [] ∧ (bestOf rs h).isSome = false) := by show _ ∧ _; simp [bestPages, bestOf, argsOk, h1]
    go_enter Try.func29, Try.ntmps29
    go_wp2_with fail
    refine (c_rowsValid_b' h1 _ (hR.next hB0)).mono ?_
    rintro e w1 ⟨rfl, hb1⟩
    go_wp2
    go_ret2
    rw [(unhide H).1, (unhide H).2]
    exact ⟨_, 0, rfl, E0.next hb1, bnext hB0 hb1⟩
  · cases h2 : inB h 1 1000
    · have H : Hid (bestPages rs h = [] ∧ (bestOf rs h).isSome = false) := by show _ ∧ _; simp [bestPages, bestOf, argsOk, h2]
      go_enter Try.func29, Try.ntmps29
      go_wp2_with fail
      refine (c_rowsValid_b' h1 _ (hR.next hB0)).mono ?_
      rintro e w1 ⟨rfl, hb1⟩
      go_wp2_with fail
      refine (c_l1In_b h2 _).mono ?_
      rintro e w2 ⟨rfl, rfl⟩
      go_wp2
      go_ret2
      rw [(unhide H).1, (unhide H).2]
      exact ⟨_, 0, rfl, E0.next hb1, bnext hB0 hb1⟩
    · have hao : argsOk rs h = true := by simp [argsOk, h1, h2]
      obtain ⟨hva, hv, hl, hh1, hh2⟩ := args_parts hao
      have hF : bestOf rs h = if 0 ≤ (bestTab rs h 0).cost then some (follow rs (bestTab rs h) n 0) else none := by simp [bestOf, hao, hlen]
      have hTB := fun j hj => tabOk hv hl ⟨hh1, hh2⟩ j hj
      have HTB := hide hTB
      have HF := hide hF
      have HLEN := hide hlen
      have HV := hide hv
      have HL := hide hl
      have hn30 : n ≤ 30 := by omega
      clear hva hv hl hlen hF hTB hao
      go_enter Try.func29, Try.ntmps29
      go_wp2_with fail
      refine (c_rowsValid_b' h1 _ (hR.next hB0)).mono ?_
      rintro e w1 ⟨rfl, hb1⟩
      go_wp2_with fail
      refine (c_l1In_b h2 _).mono ?_
      rintro e w1 ⟨rfl, rfl⟩
      replace E0 := E0.next hb1
      have E1 := E0
      replace hb1 := bnext hB0 hb1
      clear h1 h2 hB0
      have hs1 := hb1.size
      go_wp2_with (at_make; refine wpList_make_full _ rfl _ _ 23 rfl w.heap.size 3 i0 (.int .i64 0) 1 Try.underlying23 hi hz0 hz1 .i64 .i64 ((n : Int) + 1) ((n : Int) + 1) (n + 1) rfl rfl rfl rfl ?b2 ?b3 hs1 ?_)
      case b2 => rw [hz2]; omega
      case b3 => unfold maxLen; omega
      intro w2 L hg1
      have hB12 : Below w1.heap.size w1 w2 := ⟨hg1.os, hg1.tape, hg1.output, hg1.size, fun k hk => hg1.block k hk (by simp)⟩
      have hb2 : Below w.heap.size w w2 := bnext hb1 hB12
      replace E0 := E0.next hB12
      obtain ⟨g1, HG1⟩ : ∃ g, Hid (g = w1.heap.size) := ⟨_, rfl⟩
      have L1 : IntRow w2 w.heap.size g1 (n + 1) (List.replicate (n + 1) 0) := by
        unfold IntRow; rw [← made_ints, unhide HG1]; exact L
      rw [← unhide HG1]
      have hs2 := hb2.size
      have hgs1 := L1.lt
      have HGa : Hid (w1.heap.size ≤ g1) := by show _ ≤ _; rw [unhide HG1]; exact Nat.le_refl _
      have hs12 : w1.heap.size ≤ w2.heap.size := hB12.size
      clear L hg1 HG1 hb1 hs1 hB12
      go_wp2_with (at_make; refine wpList_make_full _ rfl _ _ 23 rfl w.heap.size 3 i0 (.int .i64 0) 1 Try.underlying23 hi hz0 hz1 .i64 .i64 ((n : Int) + 1) ((n : Int) + 1) (n + 1) rfl rfl rfl rfl ?d2 ?d3 hs2 ?_)
      case d2 => rw [hz2]; omega
      case d3 => unfold maxLen; omega
      intro w3 L hg2
      have hB23 : Below w2.heap.size w2 w3 := ⟨hg2.os, hg2.tape, hg2.output, hg2.size, fun k hk => hg2.block k hk (by simp)⟩
      have hb3 : Below w.heap.size w w3 := bnext hb2 hB23
      obtain ⟨g2, HG2⟩ : ∃ g, Hid (g = w2.heap.size) := ⟨_, rfl⟩
      have N1 : IntRow w3 w.heap.size g2 (n + 1) (List.replicate (n + 1) 0) := by
        unfold IntRow; rw [← made_ints, unhide HG2]; exact L
      rw [← unhide HG2]
      have hg12 : g1 ≠ g2 := by rw [unhide HG2]; omega
      have hg21 : g2 ≠ g1 := fun e => hg12 e.symm
      replace L1 := L1.next hB23
      replace E0 := E0.next hB23
      rw [← unhide HLEN] at L1 N1
      rw [← costs_zero rs h] at L1
      rw [← nexts_zero rs h] at N1
      rw [unhide HLEN] at L1 N1
      have hgb1 : w.heap.size ≤ g1 := hgs1.1
      have hgb2 : w.heap.size ≤ g2 := N1.lt.1
      have HGb : Hid (w1.heap.size ≤ g2) := by show _ ≤ _; rw [unhide HG2]; exact hs12
      clear L hg2 HG2 hB23 hb2 hs2 hgs1
      have hEw : w.heap.size < w1.heap.size := (World.ownsRow.lt E1 w.heap.size rfl).2
      have hE1 : (Value.slice (some ⟨w.heap.size, 0, none⟩) 0 0).ownBlock ≠ some g1 := fun e => by
        have e2 : w.heap.size = g1 := by simpa [Value.ownBlock] using e
        have := unhide HGa
        omega
      have hE2 : (Value.slice (some ⟨w.heap.size, 0, none⟩) 0 0).ownBlock ≠ some g2 := fun e => by
        have e2 : w.heap.size = g2 := by simpa [Value.ownBlock] using e
        have := unhide HGb
        omega
      go_wp2
      go_loopw [10] (fun i wr => ∃ (j : Nat) (x : Int), j ≤ n ∧ i = .int .i64 x ∧ Hid (x = (n : Int) - (j : Int) - 1) ∧ -1 ≤ x ∧ x < n ∧ IntRow wr w.heap.size g1 (n + 1) (costs rs h j) ∧ IntRow wr w.heap.size g2 (n + 1) (nexts rs h j) ∧ OwnI wr w.heap.size (some ⟨w.heap.size, 0, none⟩) 0 [] ∧ Below w.heap.size w wr) (fun i _ => (intOf i + 1).toNat)
      case atStart => exact ⟨0, _, Nat.zero_le _, rfl, by show _ = _; omega, by omega, by omega, L1, N1, E0, hb3⟩
      case round =>
        clear L1 N1 E0 hb3
        obtain ⟨j, x, hj, rfl, hx, hx0, hx1, L1, N1, E0, hb⟩ := hrel
        by_cases hpos : 0 ≤ x
        · obtain ⟨a, rfl⟩ := Int.eq_ofNat_of_zero_le hpos
          have haj : a = rs.length - (j + 1) := by have := unhide hx; rw [unhide HLEN]; omega
          have hjl : j < rs.length := by have := unhide hx; rw [unhide HLEN]; omega
          have han : a < n := by omega
          have hfr := nexts_fresh (rs := rs) (h := h) (j := j) (a := a) (by omega) (by omega)
          have hbds : ∀ jj, a + jj ≤ n → -1 ≤ (lookUp rs h (fun z => (tab rs h j z).cost) a jj).cost ∧ (lookUp rs h (fun z => (tab rs h j z).cost) a jj).cost ≤ 31000000 ∧ (lookUp rs h (fun z => (tab rs h j z).cost) a jj).next ≤ n :=
            lookUp_bd (fun z h1 h2 => by
              have c1 := pCost_bd (unhide HV) (unhide HL) ⟨hh1, hh2⟩ h1 (by rw [unhide HLEN]; exact h2)
              have c2 := (unhide HTB j (by omega)).hi z
              rw [unhide HLEN] at c2
              omega) (by omega)
          have HAJ := hide haj
          have HJL := hide hjl
          have HBDS := hide hbds
          have hx2 : (a : Int) - 1 = (n : Int) - ((j + 1 : Nat) : Int) - 1 := by have := unhide hx; omega
          have HX2 := hide hx2
          have hjn : j + 1 ≤ n := by have := unhide hx; omega
          have hfz1 := L1.fz a
          have hcl := L1.cell (costs_get (rs := rs) (h := h) (j := j) (i := a) (by rw [unhide HLEN]; omega))
          have L2 := L1.put a (-1)
          have N2 := N1.far (p := ⟨g1, a, none⟩) hg21 (.int .i64 (-1))
          have E2 : OwnI (wr.setCell ⟨g1, a, none⟩ (.int .i64 (-1))) w.heap.size (some ⟨w.heap.size, 0, none⟩) 0 [] := World.ownsRow.kept E0 (gset (grefl wr (some g1)) (.inl rfl) (.int .i64 (-1))) (.inr hE1)
          rw [← hfr] at N2
          have hb2 := b_put (k := a) hb hgb1 (.int .i64 (-1))
          clear haj hjl hbds hfr hx hx2 L1 N1 E0 hb
          go_wp2
          clear hfz1 hcl
          go_loopw [11, 12] (fun q t wr => ∃ (j2 : Nat) (s : Int) (b : Best), a + j2 ≤ n ∧ t = .int .i64 (a + j2 + 1 : Nat) ∧ q = .int .i64 s ∧ Hid (s = seg rs a (a + j2)) ∧ 0 ≤ s ∧ s ≤ 1000 * (j2 : Int) ∧ Hid (b = lookUp rs h (fun z => (tab rs h j z).cost) a j2) ∧ IntRow wr w.heap.size g1 (n + 1) ((costs rs h j).set a b.cost) ∧ IntRow wr w.heap.size g2 (n + 1) ((nexts rs h j).set a (b.next : Int)) ∧ OwnI wr w.heap.size (some ⟨w.heap.size, 0, none⟩) 0 [] ∧ Below w.heap.size w wr) (fun _ t _ => n + 1 - (intOf t).toNat)
          case atStart => exact ⟨0, 0, ⟨-1, 0⟩, by omega, rfl, rfl, by show _ = _; rw [Nat.add_zero, seg_self], by omega, by omega, rfl, L2, N2, E2, hb2⟩
          case round =>
            clear L2 N2 E2 hb2
            obtain ⟨j2, s, b, hj2, rfl, rfl, hs, hs0, hs1, hbb, L1, N1, E0, hb⟩ := hrel
            have hdone : lookUp rs h (fun z => (tab rs h j z).cost) a (n - a) = b → (costs rs h j).set a b.cost = costs rs h (j + 1) ∧ (nexts rs h j).set a (b.next : Int) = nexts rs h (j + 1) := fun e => by
              have hbe : b = bestAt rs h (fun z => (tab rs h j z).cost) a := by rw [bestAt_up rs h _ (by rw [unhide HLEN]; omega), unhide HLEN, e]
              rw [hbe]; exact ⟨costs_step (unhide HJL) (unhide HAJ), nexts_step (unhide HJL) (unhide HAJ)⟩
            have HDONE := hide hdone
            clear hdone
            by_cases hzn : a + j2 + 1 ≤ n
            · obtain ⟨bo, off, r, hbo, hbl, hr, h0, h1, h2, h3⟩ := (hR.next hb).at_ (k := a + j2) (by omega)
              have hrv := List.all_eq_true.1 (unhide HV) r (mem_of_get hr)
              simp only [rowValid, Bool.and_eq_true, inB_iff] at hrv
              have hrb : 1 ≤ r.h ∧ r.h ≤ 1000 := hrv.1.1
              obtain ⟨hrb1, hrb2⟩ := hrb
              have hseg : s + r.h = seg rs a (a + j2 + 1) := by rw [seg_snoc (by omega) hr, ← unhide hs]
              have hkk : keepAt rs (a + j2 + 1 - 1) = r.k := by rw [Nat.add_sub_cancel]; exact keepAt_get hr
              have HSEG := hide hseg
              have HK := hide hkk
              have hpk := pageOk_eq rs h (a := a) (z := a + j2 + 1) (by omega) (by rw [unhide HLEN]; exact hzn)
              rw [← hseg, hkk, unhide HLEN] at hpk
              have HPK := hide hpk
              clear hrv hr hkk hpk hseg h2 h3
              subst hbo
              by_cases hhigh : h < s + r.h
              · have hstop : lookUp rs h (fun z => (tab rs h j z).cost) a (n - a) = b := by
                  have e := lookUp_stop rs h (fun z => (tab rs h j z).cost) a j2 (n - a - j2) (fun z hz1 hz2 => cand_high (by omega) (by rw [unhide HLEN]; omega) (by
                    have hm := seg_mono (unhide HV) (a := a) (z := a + j2 + 1) (by omega) (z - (a + j2 + 1)) (by rw [unhide HLEN]; omega)
                    rw [show a + j2 + 1 + (z - (a + j2 + 1)) = z by omega, ← unhide HSEG] at hm
                    omega))
                  rw [show j2 + (n - a - j2) = n - a by omega] at e
                  rw [e, unhide hbb]
                obtain ⟨d1, d2⟩ := unhide HDONE hstop
                rw [d1] at L1
                rw [d2] at N1
                clear hstop d1 d2 h1 hbb hs
                go_wp2
                go_roundw
                case rel => exact ⟨j + 1, (a : Int) - 1, hjn, rfl, HX2, by omega, by omega, L1, N1, E0, hb⟩
                case measure => simp [intOf] <;> omega
              · have hbd3 := unhide HBDS j2 hj2
                rw [← unhide hbb] at hbd3
                obtain ⟨bc, bn⟩ := b
                dsimp only at hbd3 L1 N1
                obtain ⟨hbc0, hbc1, hbn⟩ := hbd3
                obtain ⟨l, HLz⟩ : ∃ l, Hid (l = (tab rs h j (a + j2 + 1)).cost) := ⟨_, rfl⟩
                have hlb1 := (unhide HTB j (Nat.le_of_lt (unhide HJL))).lo (a + j2 + 1)
                have hlb2 := (unhide HTB j (Nat.le_of_lt (unhide HJL))).hi (a + j2 + 1)
                rw [← unhide HLz] at hlb1 hlb2
                have hlb3 : l ≤ 31000000 := by rw [unhide HLEN] at hlb2; omega
                have hz1 := L1.cell (k := a + j2 + 1) (set_get_ne (by omega) (costs_get (rs := rs) (h := h) (j := j) (i := a + j2 + 1) (by rw [unhide HLEN]; exact hzn)))
                rw [← unhide HLz] at hz1
                have ha1 := L1.cell (set_get_eq (a := a) (y := bc) (l := costs rs h j) (by rw [costs_len, unhide HLEN]; omega))
                have hn1 := N1.cell (set_get_eq (a := a) (y := (bn : Int)) (l := nexts rs h j) (by rw [nexts_len, unhide HLEN]; omega))
                have hf1 := L1.fz a
                have hf2 := N1.fz a
                clear hlb2
                by_cases hln : l < 0
                · have HB : Hid ((⟨bc, bn⟩ : Best) = lookUp rs h (fun z => (tab rs h j z).cost) a (j2 + 1)) := by
                    show _ = _; rw [lookUp, ← unhide hbb, stepUp_skip (cand_none_least (by rw [← unhide HLz]; exact hln))]
                  clear h1 hbb hs
                  go_wp2
                  go_roundw
                  case rel => exact ⟨j2 + 1, s + r.h, ⟨bc, bn⟩, hzn, by congr 1 <;> omega, rfl, HSEG, by omega, by omega, HB, L1, N1, E0, hb⟩
                  case measure => simp [intOf] <;> omega
                · by_cases hzl : a + j2 + 1 = n
                  · have hpq : pageOk rs h a (a + j2 + 1) = true := by rw [unhide HPK]; simp [hzl]; omega
                    have hpc : pCost rs h a (a + j2 + 1) = 0 := by rw [pCost, hpq, if_pos rfl, if_pos (by rw [unhide HLEN]; exact hzl)]
                    have hcd : cand rs h (fun z => (tab rs h j z).cost) a (a + j2 + 1) = some l := by rw [cand_some hpq (by rw [← unhide HLz]; omega), hpc, ← unhide HLz, Int.zero_add]
                    have hzl3 : n ≤ a + j2 + 1 := by omega
                    clear h1 hpc hzl
                    have hst : lookUp rs h (fun z => (tab rs h j z).cost) a (j2 + 1) = betterEq (l) (a + j2 + 1) ⟨bc, bn⟩ := by rw [lookUp, ← unhide hbb, stepUp_take (hcd)]
                    have HST := hide hst
                    clear hst hbb hs hpq hcd
                    rcases (show bc < 0 ∨ (0 ≤ bc ∧ l ≤ bc) ∨ (0 ≤ bc ∧ bc < l) by omega) with hbc | ⟨hbc, hcb⟩ | ⟨hbc, hcb⟩
                    · have HB : Hid ((⟨l, a + j2 + 1⟩ : Best) = lookUp rs h (fun z => (tab rs h j z).cost) a (j2 + 1)) := by
                        show _ = _; rw [unhide HST, betterEq, if_pos (.inl hbc)]
                      have L2 := (L1.put a (l)).far (p := ⟨g2, a, none⟩) hg12 (.int .i64 (a + j2 + 1 : Nat))
                      have N2 := (N1.far (p := ⟨g1, a, none⟩) hg21 (.int .i64 (l))).put a (a + j2 + 1 : Nat)
                      have E2 : OwnI _ w.heap.size (some ⟨w.heap.size, 0, none⟩) 0 [] := World.ownsRow.kept (World.ownsRow.kept E0 (gset (grefl wr (some g1)) (.inl rfl) (.int .i64 (l)) (p := ⟨g1, a, none⟩)) (.inr hE1)) (gset (grefl _ (some g2)) (.inl rfl) (.int .i64 (a + j2 + 1 : Nat)) (p := ⟨g2, a, none⟩)) (.inr hE2)
                      have hb2 := b_put (k := a) (b_put (k := a) hb hgb1 (.int .i64 (l))) hgb2 (.int .i64 (a + j2 + 1 : Nat))
                      rw [set_twice] at L2 N2
                      clear L1 N1 E0 hb
                      go_wp2
                      go_roundw
                      case rel => exact ⟨j2 + 1, s + r.h, ⟨l, a + j2 + 1⟩, hzn, by congr 1 <;> omega, rfl, HSEG, by omega, by omega, HB, L2, N2, E2, hb2⟩
                      case measure => simp [intOf] <;> omega
                    · have HB : Hid ((⟨l, a + j2 + 1⟩ : Best) = lookUp rs h (fun z => (tab rs h j z).cost) a (j2 + 1)) := by
                        show _ = _; rw [unhide HST, betterEq, if_pos (.inr hcb)]
                      have L2 := (L1.put a (l)).far (p := ⟨g2, a, none⟩) hg12 (.int .i64 (a + j2 + 1 : Nat))
                      have N2 := (N1.far (p := ⟨g1, a, none⟩) hg21 (.int .i64 (l))).put a (a + j2 + 1 : Nat)
                      have E2 : OwnI _ w.heap.size (some ⟨w.heap.size, 0, none⟩) 0 [] := World.ownsRow.kept (World.ownsRow.kept E0 (gset (grefl wr (some g1)) (.inl rfl) (.int .i64 (l)) (p := ⟨g1, a, none⟩)) (.inr hE1)) (gset (grefl _ (some g2)) (.inl rfl) (.int .i64 (a + j2 + 1 : Nat)) (p := ⟨g2, a, none⟩)) (.inr hE2)
                      have hb2 := b_put (k := a) (b_put (k := a) hb hgb1 (.int .i64 (l))) hgb2 (.int .i64 (a + j2 + 1 : Nat))
                      rw [set_twice] at L2 N2
                      clear L1 N1 E0 hb
                      go_wp2
                      go_roundw
                      case rel => exact ⟨j2 + 1, s + r.h, ⟨l, a + j2 + 1⟩, hzn, by congr 1 <;> omega, rfl, HSEG, by omega, by omega, HB, L2, N2, E2, hb2⟩
                      case measure => simp [intOf] <;> omega
                    · have HB : Hid ((⟨bc, bn⟩ : Best) = lookUp rs h (fun z => (tab rs h j z).cost) a (j2 + 1)) := by
                        show _ = _; rw [unhide HST, betterEq, if_neg (by dsimp only; omega)]
                      go_wp2
                      go_roundw
                      case rel => exact ⟨j2 + 1, s + r.h, ⟨bc, bn⟩, hzn, by congr 1 <;> omega, rfl, HSEG, by omega, by omega, HB, L1, N1, E0, hb⟩
                      case measure => simp [intOf] <;> omega
                  · have hzl2 : a + j2 + 1 < n := by omega
                    cases hrk : r.k
                    · rw [hrk] at h1
                      have hpq : pageOk rs h a (a + j2 + 1) = true := by rw [unhide HPK, hrk]; simp; omega
                      have hpc : pCost rs h a (a + j2 + 1) = (h - (s + r.h)) * (h - (s + r.h)) := by rw [pCost, hpq, if_pos rfl, if_neg (by rw [unhide HLEN]; exact hzl), ← unhide HSEG]
                      have hcd : cand rs h (fun z => (tab rs h j z).cost) a (a + j2 + 1) = some (l + (h - (s + r.h)) * (h - (s + r.h))) := by rw [cand_some hpq (by rw [← unhide HLz]; omega), hpc, ← unhide HLz, Int.add_comm]
                      have hm0 : 0 ≤ (h - (s + r.h)) * (h - (s + r.h)) := Int.mul_nonneg (by omega) (by omega)
                      have hm1 : (h - (s + r.h)) * (h - (s + r.h)) ≤ 1000 * 1000 := Int.mul_le_mul (by omega) (by omega) (by omega) (by omega)
                      clear hpc hrk
                      have hst : lookUp rs h (fun z => (tab rs h j z).cost) a (j2 + 1) = betterEq (l + (h - (s + r.h)) * (h - (s + r.h))) (a + j2 + 1) ⟨bc, bn⟩ := by rw [lookUp, ← unhide hbb, stepUp_take (hcd)]
                      have HST := hide hst
                      clear hst hbb hs hpq hcd
                      rcases (show bc < 0 ∨ (0 ≤ bc ∧ l + (h - (s + r.h)) * (h - (s + r.h)) ≤ bc) ∨ (0 ≤ bc ∧ bc < l + (h - (s + r.h)) * (h - (s + r.h))) by omega) with hbc | ⟨hbc, hcb⟩ | ⟨hbc, hcb⟩
                      · have HB : Hid ((⟨l + (h - (s + r.h)) * (h - (s + r.h)), a + j2 + 1⟩ : Best) = lookUp rs h (fun z => (tab rs h j z).cost) a (j2 + 1)) := by
                          show _ = _; rw [unhide HST, betterEq, if_pos (.inl hbc)]
                        have L2 := (L1.put a (l + (h - (s + r.h)) * (h - (s + r.h)))).far (p := ⟨g2, a, none⟩) hg12 (.int .i64 (a + j2 + 1 : Nat))
                        have N2 := (N1.far (p := ⟨g1, a, none⟩) hg21 (.int .i64 (l + (h - (s + r.h)) * (h - (s + r.h))))).put a (a + j2 + 1 : Nat)
                        have E2 : OwnI _ w.heap.size (some ⟨w.heap.size, 0, none⟩) 0 [] := World.ownsRow.kept (World.ownsRow.kept E0 (gset (grefl wr (some g1)) (.inl rfl) (.int .i64 (l + (h - (s + r.h)) * (h - (s + r.h)))) (p := ⟨g1, a, none⟩)) (.inr hE1)) (gset (grefl _ (some g2)) (.inl rfl) (.int .i64 (a + j2 + 1 : Nat)) (p := ⟨g2, a, none⟩)) (.inr hE2)
                        have hb2 := b_put (k := a) (b_put (k := a) hb hgb1 (.int .i64 (l + (h - (s + r.h)) * (h - (s + r.h))))) hgb2 (.int .i64 (a + j2 + 1 : Nat))
                        rw [set_twice] at L2 N2
                        clear L1 N1 E0 hb
                        go_wp2
                        go_roundw
                        case rel => exact ⟨j2 + 1, s + r.h, ⟨l + (h - (s + r.h)) * (h - (s + r.h)), a + j2 + 1⟩, hzn, by congr 1 <;> omega, rfl, HSEG, by omega, by omega, HB, L2, N2, E2, hb2⟩
                        case measure => simp [intOf] <;> omega
                      · have HB : Hid ((⟨l + (h - (s + r.h)) * (h - (s + r.h)), a + j2 + 1⟩ : Best) = lookUp rs h (fun z => (tab rs h j z).cost) a (j2 + 1)) := by
                          show _ = _; rw [unhide HST, betterEq, if_pos (.inr hcb)]
                        have L2 := (L1.put a (l + (h - (s + r.h)) * (h - (s + r.h)))).far (p := ⟨g2, a, none⟩) hg12 (.int .i64 (a + j2 + 1 : Nat))
                        have N2 := (N1.far (p := ⟨g1, a, none⟩) hg21 (.int .i64 (l + (h - (s + r.h)) * (h - (s + r.h))))).put a (a + j2 + 1 : Nat)
                        have E2 : OwnI _ w.heap.size (some ⟨w.heap.size, 0, none⟩) 0 [] := World.ownsRow.kept (World.ownsRow.kept E0 (gset (grefl wr (some g1)) (.inl rfl) (.int .i64 (l + (h - (s + r.h)) * (h - (s + r.h)))) (p := ⟨g1, a, none⟩)) (.inr hE1)) (gset (grefl _ (some g2)) (.inl rfl) (.int .i64 (a + j2 + 1 : Nat)) (p := ⟨g2, a, none⟩)) (.inr hE2)
                        have hb2 := b_put (k := a) (b_put (k := a) hb hgb1 (.int .i64 (l + (h - (s + r.h)) * (h - (s + r.h))))) hgb2 (.int .i64 (a + j2 + 1 : Nat))
                        rw [set_twice] at L2 N2
                        clear L1 N1 E0 hb
                        go_wp2
                        go_roundw
                        case rel => exact ⟨j2 + 1, s + r.h, ⟨l + (h - (s + r.h)) * (h - (s + r.h)), a + j2 + 1⟩, hzn, by congr 1 <;> omega, rfl, HSEG, by omega, by omega, HB, L2, N2, E2, hb2⟩
                        case measure => simp [intOf] <;> omega
                      · have HB : Hid ((⟨bc, bn⟩ : Best) = lookUp rs h (fun z => (tab rs h j z).cost) a (j2 + 1)) := by
                          show _ = _; rw [unhide HST, betterEq, if_neg (by dsimp only; omega)]
                        go_wp2
                        go_roundw
                        case rel => exact ⟨j2 + 1, s + r.h, ⟨bc, bn⟩, hzn, by congr 1 <;> omega, rfl, HSEG, by omega, by omega, HB, L1, N1, E0, hb⟩
                        case measure => simp [intOf] <;> omega
                    · have HB : Hid ((⟨bc, bn⟩ : Best) = lookUp rs h (fun z => (tab rs h j z).cost) a (j2 + 1)) := by
                        show _ = _; rw [lookUp, ← unhide hbb, stepUp_skip (cand_none_page (by rw [unhide HPK, hrk]; simp [hzl]))]
                      rw [hrk] at h1
                      clear hbb hs hrk
                      go_wp2
                      go_roundw
                      case rel => exact ⟨j2 + 1, s + r.h, ⟨bc, bn⟩, hzn, by congr 1 <;> omega, rfl, HSEG, by omega, by omega, HB, L1, N1, E0, hb⟩
                      case measure => simp [intOf] <;> omega
            · have hj2n : j2 = n - a := by omega
              obtain ⟨d1, d2⟩ := unhide HDONE (by rw [← hj2n]; exact (unhide hbb).symm)
              rw [d1] at L1
              rw [d2] at N1
              clear d1 d2 hbb hs hj2n
              go_wp2
              go_roundw
              case rel => exact ⟨j + 1, (a : Int) - 1, hjn, rfl, HX2, by omega, by omega, L1, N1, E0, hb⟩
              case measure => simp [intOf] <;> omega
        · have hjn : j = n := by have := unhide hx; omega
          rw [hjn] at L1 N1
          obtain ⟨k0, HK0⟩ : ∃ k, Hid (k = (bestTab rs h 0).cost) := ⟨_, rfl⟩
          have hc0 := L1.cell (costs_get (rs := rs) (h := h) (j := n) (i := 0) (by omega))
          have hk0 : (tab rs h n 0).cost = k0 := by rw [unhide HK0, bestTab, unhide HLEN]
          rw [hk0] at hc0
          rw [← unhide HK0] at HF
          clear hk0 hx hjn
          by_cases hneg : k0 < 0
          · have HN : Hid (bestPages rs h = [] ∧ (bestOf rs h).isSome = false) := by
              have e : bestOf rs h = none := by rw [unhide HF, if_neg (by omega)]
              show _ ∧ _; rw [bestPages, e]; exact ⟨rfl, rfl⟩
            go_wp2
            go_ret2
            rw [(unhide HN).1, (unhide HN).2]
            exact ⟨_, 0, rfl, E0, hb⟩
          · have hfo : bestOf rs h = some (follow rs (bestTab rs h) n 0) := by rw [unhide HF, if_pos (by omega)]
            have hon : ∀ i, i < n → 0 ≤ (bestTab rs h i).cost → i < (bestTab rs h i).next ∧ (bestTab rs h i).next ≤ n ∧ 0 ≤ (bestTab rs h (bestTab rs h i).next).cost := fun i h1 h2 => by
              have := (unhide HTB rs.length (Nat.le_refl _)).on i (by rw [unhide HLEN]; exact h1) (by omega) h2
              rw [unhide HLEN] at this
              unfold bestTab; rw [unhide HLEN]; exact this
            have hng : ∀ i, i ≤ n → (nexts rs h n)[i]? = some ((bestTab rs h i).next : Int) := fun i hi => by
              rw [nexts_get (by rw [unhide HLEN]; exact hi), bestTab, unhide HLEN]
            have hc00 : 0 ≤ (bestTab rs h 0).cost := by rw [← unhide HK0]; omega
            have HFO := hide hfo
            have HON := hide hon
            have HNG := hide hng
            have HC0 := hide hc00
            obtain ⟨wL, rfl⟩ : ∃ wL : World, wL = wr := ⟨_, rfl⟩
            have NO := N1
            have hs4 := hb.size
            clear hfo hon hng hc00 L1
            go_wp2
            go_loopw [6, 14] (fun o a wq => ∃ (aN f : Nat) (AO : Option Addr) (cO : Nat) (acc : List Int), aN ≤ n ∧ a = .int .i64 aN ∧ Hid (0 ≤ (bestTab rs h aN).cost) ∧ n ≤ aN + f ∧ acc.length + f ≤ n ∧ o = .slice AO acc.length cO ∧ Hid (follow rs (bestTab rs h) n 0 = acc ++ follow rs (bestTab rs h) f aN) ∧ OwnI wq w.heap.size AO cO acc ∧ Hid ((Value.slice AO acc.length cO).ownBlock ≠ some g2) ∧ IntRow wq w.heap.size g2 (n + 1) (nexts rs h n) ∧ wL.heap.size ≤ wq.heap.size ∧ Below w.heap.size w wq) (fun _ a _ => n - (intOf a).toNat)
            case atStart => exact ⟨0, n, _, _, [], Nat.zero_le _, rfl, HC0, by omega, by simp, rfl, rfl, E0, hE2, N1, Nat.le_refl _, hb⟩
            case round =>
              clear N1 hb hc0 E0
              obtain ⟨aN, f, AO, cO, acc, ha, rfl, hca, hf, hac, rfl, hfol, O, HOB, N1, hbs, hb⟩ := hrel
              by_cases hlt : aN < n
              · obtain ⟨t1, t2, t3⟩ := unhide HON aN hlt (unhide hca)
                have hcell := N1.cell (unhide HNG aN ha)
                obtain ⟨z, HZ⟩ : ∃ z, Hid (z = (bestTab rs h aN).next) := ⟨_, rfl⟩
                rw [← unhide HZ] at t1 t2 t3 hcell
                obtain ⟨f', rfl⟩ : ∃ f', f = f' + 1 := ⟨f - 1, by omega⟩
                have hfol2 : follow rs (bestTab rs h) n 0 = (acc ++ [(z : Int)]) ++ follow rs (bestTab rs h) f' z := by
                  rw [unhide hfol, follow, if_pos (by rw [unhide HLEN]; exact hlt), ← unhide HZ]; simp
                have HFOL := hide hfol2
                have HT3 := hide t3
                have hl8 : (acc ++ [(z : Int)]).length = acc.length + 1 := by simp
                have HL8 := hide hl8
                have hg2l := N1.lt.2
                have hbw := hb.size
                clear hfol hfol2 t3 hl8 hca
                go_wp2_with (at_builtin; refine wpList_push_Ia (B := w.heap.size) (z : Int) rfl rfl O rfl rfl (by omega) hbw ?_; intro A6 c6 w6 O6 hg6 hpre hat; have HOB6 := hide (hat g2 hg2l (unhide HOB)); have B6 : Below w.heap.size w w6 := b_own (bmk hb _) hpre (Nat.le_refl _) hg6; have N6 := IntRow.kept (N1.alloc (.cells #[.int .i64 z] 3)) hg6 (unhide HOB); have hbs6 : wL.heap.size ≤ w6.heap.size := (by have := hg6.size; simp at this; omega); have hcell6 := N6.cell (unhide HNG aN ha); rw [← unhide HZ] at hcell6; clear hat hg6 hpre O N1 hb hbs hbw hg2l hcell)
                go_roundw
                case rel => exact ⟨z, f', A6, c6, acc ++ [(z : Int)], t2, rfl, HT3, by omega, by rw [unhide HL8]; omega, by simp, HFOL, O6, HOB6, N6, hbs6, B6⟩
                case measure => simp [intOf]; omega
              · have HN : Hid (bestPages rs h = acc ∧ (bestOf rs h).isSome = true) := by
                  have e : follow rs (bestTab rs h) n 0 = acc := by
                    rw [unhide hfol]
                    cases f with
                    | zero => simp [follow]
                    | succ f => rw [follow, if_neg (by rw [unhide HLEN]; exact hlt)]; simp
                  show _ ∧ _; rw [bestPages, unhide HFO, e]; exact ⟨rfl, rfl⟩
                clear hfol
                go_wp2
                go_ret2
                rw [(unhide HN).1, (unhide HN).2]
                exact ⟨AO, cO, rfl, O, hb⟩
end Go.Proofs.Ytpbccblenohhoaa
