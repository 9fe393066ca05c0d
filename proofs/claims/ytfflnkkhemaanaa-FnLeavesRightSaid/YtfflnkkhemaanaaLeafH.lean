/- LeafHeight, the program's and the reference's. No condition. -/
import Derived.Test.YtfflnkkhemaanaaLeavesX
import Derived.Test.YtfflnkkhemaanaaPages2
import Derived.Deep.RegionHeld3
namespace Go.Proofs.Ytfflnkkhemaanaa
open Go.RowKit
set_option linter.unusedVariables false

theorem lh_no {rs : List Row} {x y z : Int} {fs : List Int} (h : (leafOk rs ⟨x, y, z, fs⟩ && figsIn rs fs) = false) : leafHeight rs ⟨x, y, z, fs⟩ = -1 := by
  unfold leafHeight; rw [if_neg]; simpa using h
theorem lh_yes {rs : List Row} {x y z : Int} {fs : List Int} (h : (leafOk rs ⟨x, y, z, fs⟩ && figsIn rs fs) = true) : leafHeight rs ⟨x, y, z, fs⟩ = seg rs x.toNat y.toNat + z + figsF rs fs := by
  unfold leafHeight; rw [if_pos h]
theorem figsF_snoc {rs : List Row} {fs : List Int} {k : Nat} {x : Int} (h : fs[k]? = some x) : figsF rs (fs.take (k + 1)) = figsF rs (fs.take k) + figF rs x := by
  rw [take_snoc' h, figsF_append, figsF_one]

set_option maxHeartbeats 2000000 in
theorem c_leafHeight (A : Option Addr) (n c : Nat) (rs : List Row) (x y z : Int) (A2 : Option Addr) (n2 c2 : Nat) (fs : List Int) (w : World) (hR : RowsAt w A n c rs) (hI : IntsAt w A2 n2 c2 fs) :
    Calls Try.prog 11 #[.slice A n c, .agg #[.int .i64 x, .int .i64 y, .int .i64 z, .slice A2 n2 c2]] w fun e w' => e = .returned (.int .i64 (leafHeight rs ⟨x, y, z, fs⟩)) ∧ Below w.heap.size w w' := by
  have hlen := hR.len
  have hbd := hR.bd
  have hlen2 := hI.len
  have hbd2 := hI.bd
  have HLEN := hide hlen
  have HLEN2 := hide hlen2
  have B0 := bof w (.cells #[.int .i64 x, .int .i64 y, .int .i64 z, .slice A2 n2 c2] 26)
  have q := Blk.new w 26 #[.int .i64 x, .int .i64 y, .int .i64 z, .slice A2 n2 c2]
  have hno := fun h => hide (lh_no (rs := rs) (x := x) (y := y) (z := z) (fs := fs) h)
  have hyes := fun h => hide (lh_yes (rs := rs) (x := x) (y := y) (z := z) (fs := fs) h)
  unfold leafOk at hno hyes
  dsimp only at hno hyes
  rw [hlen, hlen2] at hno hyes
  have HNO := hide hno
  have HYES := hide hyes
  clear hlen hlen2 hno hyes
  go_enter Try.func11, Try.ntmps11
  cases hv : rowsValid rs
  · have HN := unhide HNO (by simp [hv])
    go_wp2_with fail
    refine (c_rowsValid_b hv _ (hR.next B0)).mono ?_
    rintro e w1 ⟨rfl, hb1⟩
    go_wp2
    go_ret
    exact ⟨by rw [unhide HN] <;> rfl, bnext B0 hb1⟩
  · go_wp2_with fail
    refine (c_rowsValid_b hv _ (hR.next B0)).mono ?_
    rintro e w1 ⟨rfl, hb1⟩
    replace q := q.next hb1
    replace B0 := bnext B0 hb1
    clear hb1
    have q0 : w1.cell? ⟨w.heap.size, 0, none⟩ = some (.int .i64 x) := q.cell 0
    have q1 : w1.cell? ⟨w.heap.size, 1, none⟩ = some (.int .i64 y) := q.cell 1
    have q2 : w1.cell? ⟨w.heap.size, 2, none⟩ = some (.int .i64 z) := q.cell 2
    have q3 : w1.cell? ⟨w.heap.size, 3, none⟩ = some (.slice A2 n2 c2) := q.cell 3
    cases hT : inB y 0 (n : Int)
    · have HN := unhide HNO (by simp [hv, hT])
      go_wp2_with fail
      refine (c_in_b hT _).mono ?_
      rintro e w2 ⟨rfl, rfl⟩
      go_wp2
      go_ret
      exact ⟨by rw [unhide HN] <;> rfl, B0⟩
    · go_wp2_with fail
      refine (c_in_b hT _).mono ?_
      rintro e w2 ⟨rfl, rfl⟩
      cases hX : inB x 0 y
      · have HN := unhide HNO (by simp [hv, hT, hX])
        go_wp2_with fail
        refine (c_in_b hX _).mono ?_
        rintro e w3 ⟨rfl, rfl⟩
        go_wp2
        go_ret
        exact ⟨by rw [unhide HN] <;> rfl, B0⟩
      · go_wp2_with fail
        refine (c_in_b hX _).mono ?_
        rintro e w3 ⟨rfl, rfl⟩

        by_cases hL : 30 < n2
        · have HN := unhide HNO (by simp [hv, hT, hX]; intros; omega)
          go_wp2
          go_ret
          exact ⟨by rw [unhide HN] <;> rfl, B0⟩
        · cases hZ : inB z 0 1000000
          · have HN := unhide HNO (by simp [hv, hT, hX, hZ])
            go_wp2_with fail
            refine (c_in_b hZ _).mono ?_
            rintro e w4 ⟨rfl, rfl⟩
            go_wp2
            go_ret
            exact ⟨by rw [unhide HN] <;> rfl, B0⟩
          · go_wp2_with fail
            refine (c_in_b hZ _).mono ?_
            rintro e w4 ⟨rfl, rfl⟩
            obtain ⟨hz0, hz1⟩ := inB_iff.1 hZ
            obtain ⟨hva, hl30⟩ := rowsValid_iff.1 hv
            have HV := hide hva
            have HLL := hide hl30
            rw [unhide HLEN] at hl30
            obtain ⟨hy0, hy1⟩ := inB_iff.1 hT
            obtain ⟨hx0, hx1⟩ := inB_iff.1 hX
            have HNO2 : Hid (figsIn rs fs = false → leafHeight rs ⟨x, y, z, fs⟩ = -1) := fun hf => unhide (unhide HNO (by simp [hf]))
            have HYES2 : Hid (figsIn rs fs = true → leafHeight rs ⟨x, y, z, fs⟩ = seg rs x.toNat y.toNat + z + figsF rs fs) := fun hf => unhide (unhide HYES (by simp [hv, hT, hX, hZ, hf]; omega))
            obtain ⟨a, rfl⟩ := Int.eq_ofNat_of_zero_le hx0
            obtain ⟨t, rfl⟩ := Int.eq_ofNat_of_zero_le hy0
            have hat : a ≤ t := by omega
            have htn : t ≤ n := by omega
            rw [Int.toNat_natCast, Int.toNat_natCast] at HYES2
            obtain ⟨sg, HS⟩ : ∃ sg, Hid (sg = seg rs a t) := ⟨_, rfl⟩
            obtain ⟨hs0, hs1⟩ : 0 ≤ sg ∧ sg ≤ 30000 := by rw [unhide HS]; exact seg_bd hva (unhide HLL) a t
            have HSUM : Hid (sumH ((rs.drop a).take (t - a)) = sg) := (unhide HS).symm
            have hvs : Hid (((rs.drop a).take (t - a)).all rowValid = true) := all_sub hva (fun r hr => List.mem_of_mem_drop (List.mem_of_mem_take hr))
            obtain ⟨A1, hR1, hsl0⟩ := rows_mid (hR.next B0) hat htn
            have hsl := fun wx => hsl0 wx
            have hL' : n2 ≤ 30 := by omega
            clear hsl0 hva hv hT hX hZ HNO HYES hL hx0 hx1 hy0 hy1
            go_wp2
            go_region_held3 (fun w' => w'.cell? ⟨w.heap.size, 0, none⟩ = some (.int .i64 a) ∧ w'.cell? ⟨w.heap.size, 1, none⟩ = some (.int .i64 t) ∧ w'.cell? ⟨w.heap.size, 2, none⟩ = some (.int .i64 z))
              (first | go_keep | exact ⟨(q.drew.next hb5).cell 0, (q.drew.next hb5).cell 1, (q.drew.next hb5).cell 2⟩)
              ((go_at_call 41; refine (c_sumH A1 (t - a) (c - a) _ _ (hR1.next (by first | exact Below.refl _ _ | exact (Below.refl _ _).drew)) (unhide hvs) (by omega)).mono ?_; rintro e w5 ⟨he, hb5⟩; rw [unhide HSUM] at he; subst he))
            simp only [show IntKind.i64.wrap (sg + z) = sg + z from IntWalk.i64_in _ (by omega)]
            replace B0 := bnext B0.drew hb5
            replace q := Blk.next q.drew hb5
            have HFN : Hid (∀ v ∈ fs, inB v 0 ((n : Int) - 1) = false → figsIn rs fs = false) := fun v hv hf => by
              unfold figsIn; rw [List.all_eq_false]; exact ⟨v, hv, by rw [unhide HLEN, hf]; simp⟩
            clear hsl hR1 hb5 q0 q1 q2 q3 hat htn hvs HSUM
            have q3 : w5.cell? ⟨w.heap.size, 3, none⟩ = some (.slice A2 n2 c2) := q.cell 3
            go_wp2
            go_loopw [5, 52] (fun s i wr => ∃ (k : Nat) (sm : Int), k ≤ n2 ∧ i = .int .i64 k ∧ s = .int .i64 sm ∧ 0 ≤ sm ∧ sm ≤ 1030000 + 1000 * (k : Int) ∧ Hid (sm = sg + z + figsF rs (fs.take k)) ∧ Hid (figsIn rs (fs.take k) = true) ∧ Blk wr w.heap.size 26 #[.int .i64 a, .int .i64 t, .int .i64 z, .slice A2 n2 c2] ∧ Below w.heap.size w wr) (fun _ i _ => n2 - (intOf i).toNat)
            case atStart => exact ⟨0, sg + z, Nat.zero_le _, rfl, rfl, by omega, by omega, (show _ = _ by simp [figsF_nil]), rfl, q, B0⟩
            case round =>
              clear q3 q B0
              obtain ⟨k, sm, hk, rfl, rfl, hm0, hm1, hsm, hfi, q, hb⟩ := hrel
              have q3 : wr.cell? ⟨w.heap.size, 3, none⟩ = some (.slice A2 n2 c2) := q.cell 3
              by_cases hlt : k < n2
              · obtain ⟨b, off, v, rfl, hbl, hx, hc⟩ := (hI.next hb).at_ hlt
                cases hin : inB v 0 ((n : Int) - 1)
                · have HN : Hid (leafHeight rs ⟨a, t, z, fs⟩ = -1) := unhide HNO2 (unhide HFN v (mem_of_get hx) hin)
                  clear hx
                  go_wp2_with fail
                  refine (c_in_b hin _).mono ?_
                  rintro e w6 ⟨rfl, rfl⟩
                  go_wp2
                  go_ret
                  exact ⟨by rw [unhide HN] <;> rfl, hb⟩
                · obtain ⟨hv0, hv1⟩ := inB_iff.1 hin
                  obtain ⟨m, rfl⟩ := Int.eq_ofNat_of_zero_le hv0
                  obtain ⟨b2, off2, r, rfl, hbl2, hr, h0, h1, h2, h3⟩ := (hR.next hb).at_ (k := m) (by omega)
                  have hrb := (row_bd (unhide HV) hr).2.2
                  have hs2 : sm + r.f = sg + z + figsF rs (fs.take (k + 1)) := by rw [figsF_snoc hx, figF_get hr, unhide hsm]; omega
                  have hf2 : figsIn rs (fs.take (k + 1)) = true := by
                    unfold figsIn; exact all_snoc hx (unhide hfi) (by rw [unhide HLEN]; exact hin)
                  have H1 := hide hs2
                  have H2 := hide hf2
                  clear hs2 hf2 hr hx h0 h1 h2
                  go_wp2_with fail
                  refine (c_in_b hin _).mono ?_
                  rintro e w6 ⟨rfl, rfl⟩
                  go_wp2
                  go_roundw
                  case rel => exact ⟨k + 1, sm + r.f, by omega, by go_num, rfl, by omega, by omega, H1, H2, q, hb⟩
                  case measure => simp [intOf]; omega
              · have hkn : fs.take k = fs := List.take_of_length_le (by rw [unhide HLEN2]; omega)
                have hfi2 := unhide hfi
                have hsm2 := unhide hsm
                rw [hkn] at hfi2 hsm2
                have HN : Hid (leafHeight rs ⟨a, t, z, fs⟩ = sm) := by show _ = _; rw [unhide HYES2 hfi2, hsm2, ← unhide HS]
                clear hkn hfi2 hsm2
                go_wp2
                go_ret
                exact ⟨by rw [unhide HN] <;> rfl, hb⟩

set_option maxHeartbeats 2000000 in
theorem c_leafHeight' (A : Option Addr) (n c : Nat) (rs : List Row) (x y z : Int) (A2 : Option Addr) (n2 c2 : Nat) (fs : List Int) (w : World) (hR : RowsAt w A n c rs) (hI : IntsAt w A2 n2 c2 fs) :
    Calls Try.prog 12 #[.slice A n c, .agg #[.int .i64 x, .int .i64 y, .int .i64 z, .slice A2 n2 c2]] w fun e w' => e = .returned (.int .i64 (leafHeight rs ⟨x, y, z, fs⟩)) ∧ Below w.heap.size w w' := by
  have hlen := hR.len
  have hbd := hR.bd
  have hlen2 := hI.len
  have hbd2 := hI.bd
  have HLEN := hide hlen
  have HLEN2 := hide hlen2
  have B0 := bof w (.cells #[.int .i64 x, .int .i64 y, .int .i64 z, .slice A2 n2 c2] 26)
  have q := Blk.new w 26 #[.int .i64 x, .int .i64 y, .int .i64 z, .slice A2 n2 c2]
  have hno := fun h => hide (lh_no (rs := rs) (x := x) (y := y) (z := z) (fs := fs) h)
  have hyes := fun h => hide (lh_yes (rs := rs) (x := x) (y := y) (z := z) (fs := fs) h)
  unfold leafOk at hno hyes
  dsimp only at hno hyes
  rw [hlen, hlen2] at hno hyes
  have HNO := hide hno
  have HYES := hide hyes
  clear hlen hlen2 hno hyes
  go_enter Try.func12, Try.ntmps12
  cases hv : rowsValid rs
  · have HN := unhide HNO (by simp [hv])
    go_wp2_with fail
    refine (c_rowsValid_b' hv _ (hR.next B0)).mono ?_
    rintro e w1 ⟨rfl, hb1⟩
    go_wp2
    go_ret
    exact ⟨by rw [unhide HN] <;> rfl, bnext B0 hb1⟩
  · go_wp2_with fail
    refine (c_rowsValid_b' hv _ (hR.next B0)).mono ?_
    rintro e w1 ⟨rfl, hb1⟩
    replace q := q.next hb1
    replace B0 := bnext B0 hb1
    clear hb1
    have q0 : w1.cell? ⟨w.heap.size, 0, none⟩ = some (.int .i64 x) := q.cell 0
    have q1 : w1.cell? ⟨w.heap.size, 1, none⟩ = some (.int .i64 y) := q.cell 1
    have q2 : w1.cell? ⟨w.heap.size, 2, none⟩ = some (.int .i64 z) := q.cell 2
    have q3 : w1.cell? ⟨w.heap.size, 3, none⟩ = some (.slice A2 n2 c2) := q.cell 3
    cases hT : inB y 0 (n : Int)
    · have HN := unhide HNO (by simp [hv, hT])
      go_wp2_with fail
      refine (c_l1In_b hT _).mono ?_
      rintro e w2 ⟨rfl, rfl⟩
      go_wp2
      go_ret
      exact ⟨by rw [unhide HN] <;> rfl, B0⟩
    · go_wp2_with fail
      refine (c_l1In_b hT _).mono ?_
      rintro e w2 ⟨rfl, rfl⟩
      cases hX : inB x 0 y
      · have HN := unhide HNO (by simp [hv, hT, hX])
        go_wp2_with fail
        refine (c_l1In_b hX _).mono ?_
        rintro e w3 ⟨rfl, rfl⟩
        go_wp2
        go_ret
        exact ⟨by rw [unhide HN] <;> rfl, B0⟩
      · go_wp2_with fail
        refine (c_l1In_b hX _).mono ?_
        rintro e w3 ⟨rfl, rfl⟩

        by_cases hZ : z < 0 ∨ 1000000 < z
        · have HN := unhide HNO (by have : inB z 0 1000000 = false := inB_not.2 hZ; simp [hv, hT, hX, this])
          rcases hZ with hZ | hZ
          · go_wp2
            go_ret
            exact ⟨by rw [unhide HN] <;> rfl, B0⟩
          · have hz0 : 0 ≤ z := by omega
            go_wp2
            go_ret
            exact ⟨by rw [unhide HN] <;> rfl, B0⟩
        · have hz0 : 0 ≤ z := by omega
          have hz1 : z ≤ 1000000 := by omega
          have hZ2 : inB z 0 1000000 = true := inB_iff.2 ⟨hz0, hz1⟩
          clear hZ
          have hZ := hZ2
          clear hZ2
          by_cases hL : 30 < n2
          · have HN := unhide HNO (by simp [hv, hT, hX]; intros; omega)
            go_wp2
            go_ret
            exact ⟨by rw [unhide HN] <;> rfl, B0⟩
          · skip
            obtain ⟨hva, hl30⟩ := rowsValid_iff.1 hv
            have HV := hide hva
            have HLL := hide hl30
            rw [unhide HLEN] at hl30
            obtain ⟨hy0, hy1⟩ := inB_iff.1 hT
            obtain ⟨hx0, hx1⟩ := inB_iff.1 hX
            have HNO2 : Hid (figsIn rs fs = false → leafHeight rs ⟨x, y, z, fs⟩ = -1) := fun hf => unhide (unhide HNO (by simp [hf]))
            have HYES2 : Hid (figsIn rs fs = true → leafHeight rs ⟨x, y, z, fs⟩ = seg rs x.toNat y.toNat + z + figsF rs fs) := fun hf => unhide (unhide HYES (by simp [hv, hT, hX, hZ, hf]; omega))
            obtain ⟨a, rfl⟩ := Int.eq_ofNat_of_zero_le hx0
            obtain ⟨t, rfl⟩ := Int.eq_ofNat_of_zero_le hy0
            have hat : a ≤ t := by omega
            have htn : t ≤ n := by omega
            rw [Int.toNat_natCast, Int.toNat_natCast] at HYES2
            obtain ⟨sg, HS⟩ : ∃ sg, Hid (sg = seg rs a t) := ⟨_, rfl⟩
            obtain ⟨hs0, hs1⟩ : 0 ≤ sg ∧ sg ≤ 30000 := by rw [unhide HS]; exact seg_bd hva (unhide HLL) a t
            have HSUM : Hid (sumH ((rs.drop a).take (t - a)) = sg) := (unhide HS).symm
            have hvs : Hid (((rs.drop a).take (t - a)).all rowValid = true) := all_sub hva (fun r hr => List.mem_of_mem_drop (List.mem_of_mem_take hr))
            obtain ⟨A1, hR1, hsl0⟩ := rows_mid (hR.next B0) hat htn
            have hsl := fun wx => hsl0 wx
            have hL' : n2 ≤ 30 := by omega
            clear hsl0 hva hv hT hX hZ HNO HYES hL hx0 hx1 hy0 hy1
            go_wp2
            go_region_held3 (fun w' => w'.cell? ⟨w.heap.size, 0, none⟩ = some (.int .i64 a) ∧ w'.cell? ⟨w.heap.size, 1, none⟩ = some (.int .i64 t) ∧ w'.cell? ⟨w.heap.size, 2, none⟩ = some (.int .i64 z))
              (first | go_keep | exact ⟨(q.drew.next hb5).cell 0, (q.drew.next hb5).cell 1, (q.drew.next hb5).cell 2⟩)
              ((go_at_call 44; refine (c_segH (unhide HV) (unhide HLL) HS _ (hR1.next (by first | exact Below.refl _ _ | exact (Below.refl _ _).drew))).mono ?_; rintro e w5 ⟨he, hb5⟩; subst he))
            simp only [show IntKind.i64.wrap (sg + z) = sg + z from IntWalk.i64_in _ (by omega)]
            replace B0 := bnext B0.drew hb5
            replace q := Blk.next q.drew hb5
            have HFN : Hid (∀ v ∈ fs, inB v 0 ((n : Int) - 1) = false → figsIn rs fs = false) := fun v hv hf => by
              unfold figsIn; rw [List.all_eq_false]; exact ⟨v, hv, by rw [unhide HLEN, hf]; simp⟩
            clear hsl hR1 hb5 q0 q1 q2 q3 hat htn hvs HSUM
            have q3 : w5.cell? ⟨w.heap.size, 3, none⟩ = some (.slice A2 n2 c2) := q.cell 3
            go_wp2
            go_loopw [5, 6] (fun s i wr => ∃ (k : Nat) (sm : Int), k ≤ n2 ∧ i = .int .i64 k ∧ s = .int .i64 sm ∧ 0 ≤ sm ∧ sm ≤ 1030000 + 1000 * (k : Int) ∧ Hid (sm = sg + z + figsF rs (fs.take k)) ∧ Hid (figsIn rs (fs.take k) = true) ∧ Blk wr w.heap.size 26 #[.int .i64 a, .int .i64 t, .int .i64 z, .slice A2 n2 c2] ∧ Below w.heap.size w wr) (fun _ i _ => n2 - (intOf i).toNat)
            case atStart => exact ⟨0, sg + z, Nat.zero_le _, rfl, rfl, by omega, by omega, (show _ = _ by simp [figsF_nil]), rfl, q, B0⟩
            case round =>
              clear q3 q B0
              obtain ⟨k, sm, hk, rfl, rfl, hm0, hm1, hsm, hfi, q, hb⟩ := hrel
              have q3 : wr.cell? ⟨w.heap.size, 3, none⟩ = some (.slice A2 n2 c2) := q.cell 3
              by_cases hlt : k < n2
              · obtain ⟨b, off, v, rfl, hbl, hx, hc⟩ := (hI.next hb).at_ hlt
                cases hin : inB v 0 ((n : Int) - 1)
                · have HN : Hid (leafHeight rs ⟨a, t, z, fs⟩ = -1) := unhide HNO2 (unhide HFN v (mem_of_get hx) hin)
                  clear hx
                  go_wp2_with fail
                  refine (c_l1In_b hin _).mono ?_
                  rintro e w6 ⟨rfl, rfl⟩
                  go_wp2
                  go_ret
                  exact ⟨by rw [unhide HN] <;> rfl, hb⟩
                · obtain ⟨hv0, hv1⟩ := inB_iff.1 hin
                  obtain ⟨m, rfl⟩ := Int.eq_ofNat_of_zero_le hv0
                  obtain ⟨b2, off2, r, rfl, hbl2, hr, h0, h1, h2, h3⟩ := (hR.next hb).at_ (k := m) (by omega)
                  have hrb := (row_bd (unhide HV) hr).2.2
                  have hs2 : sm + r.f = sg + z + figsF rs (fs.take (k + 1)) := by rw [figsF_snoc hx, figF_get hr, unhide hsm]; omega
                  have hf2 : figsIn rs (fs.take (k + 1)) = true := by
                    unfold figsIn; exact all_snoc hx (unhide hfi) (by rw [unhide HLEN]; exact hin)
                  have H1 := hide hs2
                  have H2 := hide hf2
                  clear hs2 hf2 hr hx h0 h1 h2
                  go_wp2_with fail
                  refine (c_l1In_b hin _).mono ?_
                  rintro e w6 ⟨rfl, rfl⟩
                  go_wp2
                  go_roundw
                  case rel => exact ⟨k + 1, sm + r.f, by omega, by go_num, rfl, by omega, by omega, H1, H2, q, hb⟩
                  case measure => simp [intOf]; omega
              · have hkn : fs.take k = fs := List.take_of_length_le (by rw [unhide HLEN2]; omega)
                have hfi2 := unhide hfi
                have hsm2 := unhide hsm
                rw [hkn] at hfi2 hsm2
                have HN : Hid (leafHeight rs ⟨a, t, z, fs⟩ = sm) := by show _ = _; rw [unhide HYES2 hfi2, hsm2, ← unhide HS]
                clear hkn hfi2 hsm2
                go_wp2
                go_ret
                exact ⟨by rw [unhide HN] <;> rfl, hb⟩

end Go.Proofs.Ytfflnkkhemaanaa
