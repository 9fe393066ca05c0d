/- The reference's sum of the glues of a line: contract. · The glue and the badness of a line, the reference's: contracts. · The glue and the badness of a line, the program's: contracts. No condition. -/
import Derived.Test.YtlklkloadefihaaMl
namespace Go.Proofs.Ytlklkloadefihaa
open Go.RowKit
set_option linter.unusedVariables false

theorem tot_nil : gTot [] = ⟨0, 0, 0, 0⟩ := rfl
set_option maxRecDepth 100000 in
set_option maxHeartbeats 3200000 in
theorem c_l7Sum (A : Option Addr) (n c : Nat) (rs : List Item) (s m : Nat) (w : World) (hR : ItemsAt w A n c rs) (hval : rs.all itemValid = true) (hn60 : n ≤ 60) (hs : s ≤ m) (hm : m < n) (G1 : Gl) (HG1 : Hid (G1 = gTot (lineGls rs s m ++ endGl rs m))) :
    Calls Try.prog 73 #[.slice A n c, .int .i64 s, .int .i64 m] w fun e w' => e = .returned (.agg #[.int .i64 G1.w, .int .i64 G1.st, .int .i64 G1.sh, .int .i64 G1.od]) ∧ Below w.heap.size w w' := by
  have hlen := hR.len
  have hbd := hR.bd
  have HVAL := hide hval
  have HLEN := hide hlen
  clear hval hlen
  have hB := bmk (bof w (.cells #[.int .i64 0, .int .i64 0, .int .i64 0, .int .i64 0] 29)) (.cells #[.int .i64 0, .int .i64 0, .int .i64 0, .int .i64 0] 29)
  have q0 := (Blk.new w 29 #[.int .i64 0, .int .i64 0, .int .i64 0, .int .i64 0]).alloc (.cells #[.int .i64 0, .int .i64 0, .int .i64 0, .int .i64 0] 29)
  have q1 := Blk.new (w.alloc (.cells #[.int .i64 0, .int .i64 0, .int .i64 0, .int .i64 0] 29)) 29 #[.int .i64 0, .int .i64 0, .int .i64 0, .int .i64 0]
  simp only [size_alloc'] at q1
  go_enter Try.func73, Try.ntmps73
  go_wp2
  go_loopw [8] (fun i wr => ∃ (k : Nat) (G : Gl), s ≤ k ∧ k ≤ m ∧ i = .int .i64 k ∧ Hid (G = gTot (lineGls rs s k)) ∧ Blk wr w.heap.size 29 #[.int .i64 0, .int .i64 0, .int .i64 0, .int .i64 0] ∧ Blk wr (w.heap.size + 1) 29 #[.int .i64 G.w, .int .i64 G.st, .int .i64 G.sh, .int .i64 G.od] ∧ Below w.heap.size w wr) (fun i _ => m - (intOf i).toNat)
  case atStart => exact ⟨s, ⟨0, 0, 0, 0⟩, Nat.le_refl _, hs, rfl, by show _ = _; rw [lineGls, idxs_start]; rfl, q0, q1, hB⟩
  case round =>
    clear q0 q1 hB
    obtain ⟨k, G, hk1, hk2, rfl, hG, q0, q1, hb⟩ := hrel
    have hok := lineGls_ok (s := s) (unhide HVAL) (show k ≤ rs.length by rw [unhide HLEN]; omega)
    have hgl := lineGls_len rs s k
    have hsm : G.Small := by rw [unhide hG]; exact small_tot hok (by omega)
    have hkn : k < n := by omega
    obtain ⟨b, off, r, rfl, hbl, hr, h0, h1, h2, h3, h4, h5, h6⟩ := (hR.next hb).at_ (k := k) (by omega)
    have hrok : r.gl.ok = true := item_gl_ok (List.all_eq_true.1 (unhide HVAL) r (mem_of_get hr))
    have hrs := Gl.small_ok hrok
    have cB0 : wr.cell? ⟨w.heap.size + 1, 0, none⟩ = some (.int .i64 G.w) := q1.cell 0
    have cB1 : wr.cell? ⟨w.heap.size + 1, 1, none⟩ = some (.int .i64 G.st) := q1.cell 1
    have cB2 : wr.cell? ⟨w.heap.size + 1, 2, none⟩ = some (.int .i64 G.sh) := q1.cell 2
    have cB3 : wr.cell? ⟨w.heap.size + 1, 3, none⟩ = some (.int .i64 G.od) := q1.cell 3
    by_cases hlt : k < m
    · by_cases hkd : r.kind = 3
      · have H : Hid (G = gTot (lineGls rs s (k + 1))) := by show _ = _; rw [lineGls_skip (by rw [itAt_of hr]; exact hkd)]; exact unhide hG
        have h0' : wr.cell? ⟨b, off + k * 7, none⟩ = some (.int .i64 3) := by rw [h0, hkd]
        clear hG hr hkd h0 hok hgl hrok
        go_wp2
        go_roundw
        case rel => exact ⟨k + 1, G, by omega, by omega, by go_num, H, q0, q1, hb⟩
        case measure => simp [intOf]; omega
      · have H : Hid (gAdd G r.gl = gTot (lineGls rs s (k + 1))) := by
          show _ = _; rw [lineGls_take hk1 (by rw [itAt_of hr]; exact hkd), itAt_of hr, ← gAdd_tot hok hrok, ← unhide hG]
        have h3' : (r.kind != 3) = true := by simpa using hkd
        clear hG hr hkd hok hgl hrok
        go_wp2
        go_region_law
          ((go_simp; go_at_call 92; refine (c_l1Add G r.gl _ hsm hrs).mono ?_; rintro e w2 ⟨rfl, hb2⟩; have u1 := q1.drew.next hb2; have d0 := u1.cell 0; have d1 := u1.cell 1; have d2 := u1.cell 2; have d3 := u1.cell 3; have f0 := u1.frozen 0; have f1 := u1.frozen 1; have f2 := u1.frozen 2; have f3 := u1.frozen 3))
        all_goals
          generalize gAdd G r.gl = G2 at H ⊢
          have v1 := (((u1.set_ 0 (.int .i64 G2.w)).set_ 1 (.int .i64 G2.st)).set_ 2 (.int .i64 G2.sh)).set_ 3 (.int .i64 G2.od)
          have v0 := ((((q0.drew.next hb2).far (p := ⟨w.heap.size + 1, 0, none⟩) (by dsimp only; omega) (.int .i64 G2.w)).far (p := ⟨w.heap.size + 1, 1, none⟩) (by dsimp only; omega) (.int .i64 G2.st)).far (p := ⟨w.heap.size + 1, 2, none⟩) (by dsimp only; omega) (.int .i64 G2.sh)).far (p := ⟨w.heap.size + 1, 3, none⟩) (by dsimp only; omega) (.int .i64 G2.od)
          have hb3 := ((((bnext hb.drew hb2).setCell (p := ⟨w.heap.size + 1, 0, none⟩) (by dsimp only; omega) (.int .i64 G2.w)).setCell (p := ⟨w.heap.size + 1, 1, none⟩) (by dsimp only; omega) (.int .i64 G2.st)).setCell (p := ⟨w.heap.size + 1, 2, none⟩) (by dsimp only; omega) (.int .i64 G2.sh)).setCell (p := ⟨w.heap.size + 1, 3, none⟩) (by dsimp only; omega) (.int .i64 G2.od)
          clear u1 d0 d1 d2 d3 f0 f1 f2 f3 q0 q1 hb2 hb cB0 cB1 cB2 cB3
          go_wp2
          go_roundw
          case rel => exact ⟨k + 1, G2, by omega, by omega, by go_num, H, v0, v1, hb3⟩
          case measure => simp [intOf]; omega
    · obtain rfl : k = m := by omega
      have hit := itAt_of hr
      by_cases hkd : r.kind = 3
      · have H : Hid (gAdd G r.gl = G1) := by
          show _ = _; rw [unhide HG1, endGl, hit, if_pos hkd, ← gAdd_tot hok hrok, ← unhide hG]
        have h0' : wr.cell? ⟨b, off + k * 7, none⟩ = some (.int .i64 3) := by rw [h0, hkd]
        clear hG hr hkd h0 hok hgl hrok hit
        go_wp2
        go_region_law
          ((go_simp; go_at_call 92; refine (c_l1Add G r.gl _ hsm hrs).mono ?_; rintro e w2 ⟨rfl, hb2⟩; have u1 := q1.drew.next hb2; have d0 := u1.cell 0; have d1 := u1.cell 1; have d2 := u1.cell 2; have d3 := u1.cell 3; have f0 := u1.frozen 0; have f1 := u1.frozen 1; have f2 := u1.frozen 2; have f3 := u1.frozen 3))
        all_goals
          rw [unhide H]
          have v1 := (((u1.set_ 0 (.int .i64 G1.w)).set_ 1 (.int .i64 G1.st)).set_ 2 (.int .i64 G1.sh)).set_ 3 (.int .i64 G1.od)
          have v0 := ((((q0.drew.next hb2).far (p := ⟨w.heap.size + 1, 0, none⟩) (by dsimp only; omega) (.int .i64 G1.w)).far (p := ⟨w.heap.size + 1, 1, none⟩) (by dsimp only; omega) (.int .i64 G1.st)).far (p := ⟨w.heap.size + 1, 2, none⟩) (by dsimp only; omega) (.int .i64 G1.sh)).far (p := ⟨w.heap.size + 1, 3, none⟩) (by dsimp only; omega) (.int .i64 G1.od)
          have hb3 := ((((bnext hb.drew hb2).setCell (p := ⟨w.heap.size + 1, 0, none⟩) (by dsimp only; omega) (.int .i64 G1.w)).setCell (p := ⟨w.heap.size + 1, 1, none⟩) (by dsimp only; omega) (.int .i64 G1.st)).setCell (p := ⟨w.heap.size + 1, 2, none⟩) (by dsimp only; omega) (.int .i64 G1.sh)).setCell (p := ⟨w.heap.size + 1, 3, none⟩) (by dsimp only; omega) (.int .i64 G1.od)
          clear H
          generalize World.setCell _ _ _ = wX at v0 v1 hb3 ⊢
          have p0 := v0.cell 0
          have p1 := v0.cell 1
          have p2 := v0.cell 2
          have p3 := v0.cell 3
          have z0 := v0.frozen 0
          have z1 := v0.frozen 1
          have z2 := v0.frozen 2
          have z3 := v0.frozen 3
          have t0 : wX.cell? ⟨w.heap.size + 1, 0, none⟩ = some (.int .i64 G1.w) := v1.cell 0
          have t1 : wX.cell? ⟨w.heap.size + 1, 1, none⟩ = some (.int .i64 G1.st) := v1.cell 1
          have t2 : wX.cell? ⟨w.heap.size + 1, 2, none⟩ = some (.int .i64 G1.sh) := v1.cell 2
          have t3 : wX.cell? ⟨w.heap.size + 1, 3, none⟩ = some (.int .i64 G1.od) := v1.cell 3
          clear u1 d0 d1 d2 d3 f0 f1 f2 f3 q0 q1 hb2 hb cB0 cB1 cB2 cB3 v0 v1
          go_wp2
          refine bodyPost_ret (v := .agg #[.int .i64 G1.w, .int .i64 G1.st, .int .i64 G1.sh, .int .i64 G1.od]) (by simp [results, Try.results73, go_sem, *]) rfl ⟨rfl, ?_⟩
          repeat (refine Below.setCell ?_ (by dsimp only; omega) _)
          exact hb3
      · have H : Hid (G = G1) := by
          show _ = _; rw [unhide HG1, endGl, hit, if_neg hkd, List.append_nil, ← unhide hG]
        have h3' : (r.kind == 3) = false := by simpa using hkd
        obtain rfl := unhide H
        have p0 := q0.cell 0
        have p1 := q0.cell 1
        have p2 := q0.cell 2
        have p3 := q0.cell 3
        have z0 := q0.frozen 0
        have z1 := q0.frozen 1
        have z2 := q0.frozen 2
        have z3 := q0.frozen 3
        clear hG hr hkd hok hgl hrok hit H HG1 q0 q1
        go_wp2
        refine bodyPost_ret (v := .agg #[.int .i64 G.w, .int .i64 G.st, .int .i64 G.sh, .int .i64 G.od]) (by simp [results, Try.results73, go_sem, *]) rfl ⟨rfl, ?_⟩
        repeat (refine Below.setCell ?_ (by dsimp only; omega) _)
        exact hb
end Go.Proofs.Ytlklkloadefihaa

namespace Go.Proofs.Ytlklkloadefihaa
open Go.RowKit
set_option linter.unusedVariables false

def glOf (rs : List Item) (after to : Int) : Gl := if okL rs after to then lineTot rs after to else ⟨0, 0, 0, 0⟩
theorem glOf_not {rs : List Item} {after to : Int} (h : okL rs after to = false) : glOf rs after to = ⟨0, 0, 0, 0⟩ := by simp [glOf, h]
theorem glOf_ok {rs : List Item} {after to : Int} (h : okL rs after to = true) : glOf rs after to = lineTot rs after to := by simp [glOf, h]
theorem lineTot_eq {rs : List Item} {after to : Int} (k0 m : Nat) (ha : after + 1 = k0) (hm : to = m) : lineTot rs after to = gTot (lineGls rs (startOf rs k0) m ++ endGl rs m) := by
  subst hm
  have e1 : (after + 1).toNat = k0 := by omega
  simp [lineTot, e1]
theorem lineOk_start {rs : List Item} {after to : Int} (h : lineOk rs after to = true) (k0 m : Nat) (ha : after + 1 = k0) (hm : to = m) : startOf rs k0 ≤ m ∧ k0 ≤ m ∧ m < rs.length := by
  have hb := lineOk_bd h
  rw [lineOk_parts k0 m ha hm (by omega)] at h
  simp only [Bool.and_eq_true, decide_eq_true_eq] at h
  exact ⟨h.2.2.1, by omega, by omega⟩
theorem lineTot_small {rs : List Item} {after to : Int} (hv : itemsValid rs = true) (hl : lineOk rs after to = true) : (lineTot rs after to).Small ∧ (lineTot rs after to).w ≤ 61000 ∧ (lineTot rs after to).st ≤ 61000 ∧ (lineTot rs after to).sh ≤ (lineTot rs after to).w := by
  obtain ⟨⟨a, b⟩, ⟨c, d⟩, ⟨e, f⟩, g⟩ := lineTot_bd hv hl
  exact ⟨⟨by omega, by omega, by omega, g⟩, b, d, f⟩

set_option maxRecDepth 100000 in
set_option maxHeartbeats 1600000 in
theorem c_lineGlue' (A : Option Addr) (n c : Nat) (rs : List Item) (after to : Int) (w : World) (hR : ItemsAt w A n c rs) :
    Calls Try.prog 42 #[.slice A n c, .int .i64 after, .int .i64 to] w fun e w' => e = .returned (.tuple #[.agg #[.int .i64 (glOf rs after to).w, .int .i64 (glOf rs after to).st, .int .i64 (glOf rs after to).sh, .int .i64 (glOf rs after to).od], .bool (okL rs after to)]) ∧ Below w.heap.size w w' := by
  have hlen := hR.len
  have hbd := hR.bd
  have HLEN := hide hlen
  clear hlen
  have q0 := Blk.new w 29 #[.int .i64 0, .int .i64 0, .int .i64 0, .int .i64 0]
  have hb0 := bof w (.cells #[.int .i64 0, .int .i64 0, .int .i64 0, .int .i64 0] 29)
  go_enter Try.func42, Try.ntmps42
  go_wp2_with fail
  refine (c_itemsValid' A n c rs _ (hR.next hb0)).mono ?_
  rintro e w1 ⟨rfl, hb1⟩
  replace q0 := q0.next hb1
  replace hb0 := bnext hb0 hb1
  clear hb1
  cases hv : itemsValid rs
  · have HK := hide (okL_not (after := after) (to := to) (.inl hv))
    have p0 := q0.cell 0
    have p1 := q0.cell 1
    have p2 := q0.cell 2
    have p3 := q0.cell 3
    have z0 := q0.frozen 0
    have z1 := q0.frozen 1
    have z2 := q0.frozen 2
    have z3 := q0.frozen 3
    clear q0
    go_wp2
    rw [unhide HK, glOf_not (unhide HK)]
    refine bodyPost_ret (v := .tuple #[.agg #[.int .i64 0, .int .i64 0, .int .i64 0, .int .i64 0], .bool false]) (by simp [results, Try.results42, go_sem, *]) rfl ⟨rfl, ?_⟩
    repeat (refine Below.setCell ?_ (by dsimp only; omega) _)
    exact hb0
  · have hval := (itemsValid_iff.1 hv).1
    have hn60 := (itemsValid_iff.1 hv).2
    rw [unhide HLEN] at hn60
    have HVAL := hide hval
    have HV := hide hv
    clear hv hval
    go_wp2_with fail
    refine (c_l7Line A n c rs after to _ (hR.next hb0) (unhide HVAL) hn60).mono ?_
    rintro e w2 ⟨rfl, hb2⟩
    replace q0 := q0.next hb2
    replace hb0 := bnext hb0 hb2
    clear hb2
    cases hl : lineOk rs after to
    · have HK : Hid (okL rs after to = false) := by show _ = _; rw [okL, unhide HV, hl]; rfl
      have p0 := q0.cell 0
      have p1 := q0.cell 1
      have p2 := q0.cell 2
      have p3 := q0.cell 3
      have z0 := q0.frozen 0
      have z1 := q0.frozen 1
      have z2 := q0.frozen 2
      have z3 := q0.frozen 3
      clear q0 hl
      go_wp2
      rw [unhide HK, glOf_not (unhide HK)]
      refine bodyPost_ret (v := .tuple #[.agg #[.int .i64 0, .int .i64 0, .int .i64 0, .int .i64 0], .bool false]) (by simp [results, Try.results42, go_sem, *]) rfl ⟨rfl, ?_⟩
      repeat (refine Below.setCell ?_ (by dsimp only; omega) _)
      exact hb0
    · have HK : Hid (okL rs after to = true) := by show _ = _; rw [okL, unhide HV, hl]; rfl
      have hb := lineOk_bd hl
      rw [unhide HLEN] at hb
      obtain ⟨k0, hk0⟩ := Int.eq_ofNat_of_zero_le (show 0 ≤ after + 1 by omega)
      obtain ⟨m, rfl⟩ := Int.eq_ofNat_of_zero_le (show 0 ≤ to by omega)
      obtain ⟨hs1, hs2, hs3⟩ := lineOk_start hl k0 m hk0 rfl
      rw [unhide HLEN] at hs3
      obtain ⟨G, HG⟩ : ∃ G, Hid (glOf rs after m = G) := ⟨_, rfl⟩
      have HG2 : Hid (G = gTot (lineGls rs (startOf rs k0) m ++ endGl rs m)) := by show _ = _; rw [← unhide HG, glOf_ok (unhide HK), lineTot_eq k0 m hk0 rfl]
      obtain rfl : after = (k0 : Int) - 1 := by omega
      clear hl hb hk0
      go_wp2_with fail
      refine (c_l5Start A n c rs _ k0 (by omega) (by omega) _ (hR.next hb0) (unhide HVAL)).mono ?_
      rintro e w3 ⟨rfl, hb3⟩
      replace q0 := q0.next hb3
      replace hb0 := bnext hb0 hb3
      clear hb3
      go_wp2_with fail
      refine (c_l7Sum A n c rs (startOf rs k0) m _ (hR.next hb0) (unhide HVAL) hn60 hs1 hs3 G HG2).mono ?_
      rintro e w4 ⟨rfl, hb4⟩
      replace q0 := q0.next hb4
      replace hb0 := bnext hb0 hb4
      clear hb4
      have p0 := q0.cell 0
      have p1 := q0.cell 1
      have p2 := q0.cell 2
      have p3 := q0.cell 3
      have z0 := q0.frozen 0
      have z1 := q0.frozen 1
      have z2 := q0.frozen 2
      have z3 := q0.frozen 3
      clear q0
      go_wp2
      rw [unhide HK, unhide HG]
      refine bodyPost_ret (v := .tuple #[.agg #[.int .i64 G.w, .int .i64 G.st, .int .i64 G.sh, .int .i64 G.od], .bool true]) (by simp [results, Try.results42, go_sem, *]) rfl ⟨rfl, ?_⟩
      repeat (refine Below.setCell ?_ (by dsimp only; omega) _)
      exact hb0
set_option maxRecDepth 100000 in
set_option maxHeartbeats 1600000 in
theorem c_l7Bad (A : Option Addr) (n c : Nat) (rs : List Item) (after to width : Int) (w : World) (hR : ItemsAt w A n c rs) (hv : itemsValid rs = true) (hl : lineOk rs after to = true) (hw : 0 ≤ width ∧ width ≤ 1000) (bad : Int) (st : Bool) (HB : Hid (badOf (lineTot rs after to) width = (bad, st))) :
    Calls Try.prog 48 #[.slice A n c, .int .i64 after, .int .i64 to, .int .i64 width] w fun e w' => e = .returned (.tuple #[.int .i64 bad, .bool st]) ∧ Below w.heap.size w w' := by
  have hlen := hR.len
  have hbd := hR.bd
  have HLEN := hide hlen
  clear hlen
  have hval := (itemsValid_iff.1 hv).1
  have hn60 := (itemsValid_iff.1 hv).2
  rw [unhide HLEN] at hn60
  have HVAL := hide hval
  have hb := lineOk_bd hl
  rw [unhide HLEN] at hb
  obtain ⟨k0, hk0⟩ := Int.eq_ofNat_of_zero_le (show 0 ≤ after + 1 by omega)
  obtain ⟨m, rfl⟩ := Int.eq_ofNat_of_zero_le (show 0 ≤ to by omega)
  obtain ⟨hs1, hs2, hs3⟩ := lineOk_start hl k0 m hk0 rfl
  rw [unhide HLEN] at hs3
  obtain ⟨hsm, hwb, hstb, hshw⟩ := lineTot_small hv hl
  obtain ⟨hw0, hw1⟩ := hw
  obtain rfl : after = (k0 : Int) - 1 := by omega
  have HG2 : Hid (lineTot rs ((k0 : Int) - 1) m = gTot (lineGls rs (startOf rs k0) m ++ endGl rs m)) := lineTot_eq k0 m hk0 rfl
  obtain ⟨G, HG⟩ : ∃ G, Hid (lineTot rs ((k0 : Int) - 1) m = G) := ⟨_, rfl⟩
  rw [unhide HG] at HG2 HB hsm hwb hstb hshw
  clear hl hb hk0 hv hval
  go_enter Try.func48, Try.ntmps48
  go_wp2_with fail
  refine (c_l5Start A n c rs _ k0 (by omega) (by omega) _ hR (unhide HVAL)).mono ?_
  rintro e w3 ⟨rfl, hb0⟩
  go_wp2_with fail
  refine (c_l7Sum A n c rs (startOf rs k0) m _ (hR.next hb0) (unhide HVAL) hn60 hs1 hs3 G HG2).mono ?_
  rintro e w4 ⟨rfl, hb4⟩
  replace hb0 := bnext hb0 hb4
  clear hb4
  obtain ⟨Gw, Gst, Gsh, God⟩ := G
  obtain ⟨⟨S1, S1'⟩, ⟨S2, S2'⟩, ⟨S3, S3'⟩, S4⟩ := hsm
  dsimp only at S1 S1' S2 S2' S3 S3' S4 hwb hstb hshw ⊢
  have hf := bmk hb0 (.cells #[.int .i64 Gw, .int .i64 Gst, .int .i64 Gsh, .int .i64 God] 29)
  have HBB := unhide HB
  rw [badOf] at HBB
  dsimp only at HBB
  by_cases hle : Gw ≤ width
  · rw [if_pos hle] at HBB
    by_cases ho : God = 1
    · rw [if_pos ho] at HBB
      obtain ⟨rfl, rfl⟩ := Prod.mk.injEq _ _ _ _ ▸ HBB
      subst ho
      clear HBB HB HG HG2
      go_wp2
      go_ret2
      exact ⟨rfl, hf⟩
    · rw [if_neg ho] at HBB
      have ho' : (God == 1) = false := by simpa using ho
      obtain ⟨e1, rfl⟩ := Prod.mk.injEq _ _ _ _ ▸ HBB
      have E1 := hide e1
      clear HBB HB HG HG2 e1
      go_wp2_with (go_at_call 75; refine (c_badness' (width - Gw) Gst ⟨by omega, by omega⟩ ⟨by omega, by omega⟩ _).mono ?_; rintro e w' ⟨rfl, rfl⟩)
      go_ret2
      exact ⟨by rw [unhide E1] <;> rfl, hf⟩
  · rw [if_neg hle] at HBB
    by_cases ho : Gw - width ≤ Gsh
    · rw [if_pos ho] at HBB
      have ho' : decide (width < Gw - Gsh) = false := by simp; omega
      obtain ⟨e1, rfl⟩ := Prod.mk.injEq _ _ _ _ ▸ HBB
      have E1 := hide e1
      clear HBB HB HG HG2 e1
      go_wp2_with (go_at_call 75; refine (c_badness' (Gw - width) Gsh ⟨by omega, by omega⟩ ⟨by omega, by omega⟩ _).mono ?_; rintro e w' ⟨rfl, rfl⟩)
      go_ret2
      exact ⟨by rw [unhide E1] <;> rfl, hf⟩
    · rw [if_neg ho] at HBB
      have ho' : decide (width < Gw - Gsh) = true := by simp; omega
      obtain ⟨rfl, rfl⟩ := Prod.mk.injEq _ _ _ _ ▸ HBB
      clear HBB HB HG HG2
      go_wp2
      go_ret2
      exact ⟨rfl, hf⟩
set_option maxRecDepth 100000 in
set_option maxHeartbeats 1600000 in
theorem c_lineBadness' (A : Option Addr) (n c : Nat) (rs : List Item) (after to width : Int) (w : World) (hR : ItemsAt w A n c rs) :
    Calls Try.prog 15 #[.slice A n c, .int .i64 after, .int .i64 to, .int .i64 width] w fun e w' => e = .returned (.tuple #[.int .i64 (lineBad rs after to width).1, .bool (lineBad rs after to width).2]) ∧ Below w.heap.size w w' := by
  have hlen := hR.len
  have hbd := hR.bd
  have HLEN := hide hlen
  clear hlen
  obtain ⟨G, HG⟩ : ∃ G, Hid (glOf rs after to = G) := ⟨_, rfl⟩
  go_enter Try.func15, Try.ntmps15
  go_wp2_with fail
  refine (c_lineGlue' A n c rs after to _ hR).mono ?_
  rw [unhide HG]
  rintro e w1 ⟨rfl, hb1⟩
  have hb2 := bmk hb1 (.cells #[.int .i64 G.w, .int .i64 G.st, .int .i64 G.sh, .int .i64 G.od] 29)
  clear hb1
  cases hk : okL rs after to
  · have H : Hid (lineBad rs after to width = (-1, false)) := by
      show _ = _
      have : fitsB rs after to width = false := by rw [fitsB, ← Bool.and_assoc, ← okL, hk]; rfl
      rw [lineBad, this]; rfl
    clear HG hk
    go_wp2
    go_ret2
    rw [unhide H]
    exact ⟨rfl, hb2⟩
  · cases hw : inB width 0 1000
    · have H : Hid (lineBad rs after to width = (-1, false)) := by
        show _ = _
        have : fitsB rs after to width = false := by rw [fitsB, hw]; simp
        rw [lineBad, this]; rfl
      clear HG hk
      go_wp2_with (go_at_call 47; refine (c_l1In _ _ _ _).mono ?_; rintro e w' ⟨rfl, rfl⟩)
      go_ret2
      rw [unhide H]
      exact ⟨rfl, hb2⟩
    · have hf : fitsB rs after to width = true := by rw [fitsB, ← Bool.and_assoc, ← okL, hk, hw]; rfl
      obtain ⟨f1, f2, f3⟩ := fitsB_iff.1 hf
      obtain ⟨bad, st, HB⟩ : ∃ bad st, Hid (badOf (lineTot rs after to) width = (bad, st)) := ⟨_, _, rfl⟩
      have H : Hid (lineBad rs after to width = (bad, st)) := by show _ = _; rw [lineBad, if_pos hf, unhide HB]
      have F1 := hide f1
      have F2 := hide f2
      clear HG hk hf f1 f2
      go_wp2_with (go_at_call 47; refine (c_l1In _ _ _ _).mono ?_; rintro e w' ⟨rfl, rfl⟩)
      refine (c_l7Bad A n c rs after to width _ (hR.next hb2) (unhide F1) (unhide F2) f3 bad st HB).mono ?_
      rintro e w2 ⟨rfl, hb3⟩
      replace hb2 := bnext hb2 hb3
      go_wp2
      go_ret2
      rw [unhide H]
      exact ⟨rfl, hb2⟩
end Go.Proofs.Ytlklkloadefihaa

namespace Go.Proofs.Ytlklkloadefihaa
open Go.RowKit
set_option linter.unusedVariables false

def pGlOf (rs : List Item) (after to : Int) : Gl := if okL rs after to then lineTot rs after to else ⟨0, 0, 0, 0⟩
theorem pGlOf_not {rs : List Item} {after to : Int} (h : okL rs after to = false) : pGlOf rs after to = ⟨0, 0, 0, 0⟩ := by simp [pGlOf, h]
theorem pGlOf_ok {rs : List Item} {after to : Int} (h : okL rs after to = true) : pGlOf rs after to = lineTot rs after to := by simp [pGlOf, h]
theorem okL_iff {rs : List Item} {after to : Int} : okL rs after to = true ↔ itemsValid rs = true ∧ lineOk rs after to = true := by simp [okL]
theorem ints_get {l : List Nat} {k : Nat} {x : Int} (h : (ints l)[k]? = some x) : ∃ m, l[k]? = some m ∧ x = (m : Int) := by
  unfold ints at h
  rw [List.getElem?_map] at h
  cases hl : l[k]? with
  | none => rw [hl] at h; simp at h
  | some m => rw [hl] at h; simp at h; exact ⟨m, rfl, h.symm⟩
def glsTo (rs : List Item) (l : List Nat) (k : Nat) : List Gl := (l.take k).map fun n => (itAt rs n).gl
theorem glsTo_step {rs : List Item} {l : List Nat} {k m : Nat} (h : l[k]? = some m) : glsTo rs l (k + 1) = glsTo rs l k ++ [(itAt rs m).gl] := by simp [glsTo, take_snoc' h]
theorem glsTo_len (rs : List Item) (l : List Nat) (k : Nat) : (glsTo rs l k).length ≤ k := by simp [glsTo]; omega

set_option maxRecDepth 100000 in
set_option maxHeartbeats 3200000 in
theorem c_lineGlue (A : Option Addr) (n c : Nat) (rs : List Item) (after to : Int) (w : World) (hR : ItemsAt w A n c rs) :
    Calls Try.prog 16 #[.slice A n c, .int .i64 after, .int .i64 to] w fun e w' => e = .returned (.tuple #[.agg #[.int .i64 (pGlOf rs after to).w, .int .i64 (pGlOf rs after to).st, .int .i64 (pGlOf rs after to).sh, .int .i64 (pGlOf rs after to).od], .bool (okL rs after to)]) ∧ Below w.heap.size w w' := by
  have hlen := hR.len
  have hbd := hR.bd
  have HLEN := hide hlen
  clear hlen
  have q0 := Blk.new w 29 #[.int .i64 0, .int .i64 0, .int .i64 0, .int .i64 0]
  have hb0 := bof w (.cells #[.int .i64 0, .int .i64 0, .int .i64 0, .int .i64 0] 29)
  obtain ⟨its, HI⟩ : ∃ its, Hid (lineIts rs after to = its) := ⟨_, rfl⟩
  go_enter Try.func16, Try.ntmps16
  go_wp2_with fail
  refine (c_lineItems A n c rs after to _ (hR.next hb0)).mono ?_
  rw [unhide HI]
  rintro e w1 ⟨A1, c1, rfl, I0, hb1⟩
  replace q0 := q0.next hb1
  replace hb0 := bnext hb0 hb1
  rw [size_alloc'] at I0
  clear hb1
  cases hk : okL rs after to
  · have p0 := q0.cell 0
    have p1 := q0.cell 1
    have p2 := q0.cell 2
    have p3 := q0.cell 3
    have z0 := q0.frozen 0
    have z1 := q0.frozen 1
    have z2 := q0.frozen 2
    have z3 := q0.frozen 3
    have HK := hide hk
    clear q0 I0 hk
    go_wp2
    rw [unhide HK, pGlOf_not (unhide HK)]
    refine bodyPost_ret (v := .tuple #[.agg #[.int .i64 0, .int .i64 0, .int .i64 0, .int .i64 0], .bool false]) (by simp [results, Try.results16, go_sem, *]) rfl ⟨rfl, ?_⟩
    repeat (refine Below.setCell ?_ (by dsimp only; omega) _)
    exact hb0
  · obtain ⟨hv, hl⟩ := okL_iff.1 hk
    have HVAL := hide (itemsValid_iff.1 hv).1
    have hn60 := (itemsValid_iff.1 hv).2
    rw [unhide HLEN] at hn60
    have hb := lineOk_bd hl
    rw [unhide HLEN] at hb
    obtain ⟨k0, hk0⟩ := Int.eq_ofNat_of_zero_le (show 0 ≤ after + 1 by omega)
    obtain ⟨m, rfl⟩ := Int.eq_ofNat_of_zero_le (show 0 ≤ to by omega)
    have hmn : m < n := by omega
    obtain ⟨l, HL⟩ : ∃ l, Hid (l = idxs rs (startOf rs k0) m) := ⟨_, rfl⟩
    have HI2 : Hid (its = ints l) := by show _ = _; rw [← unhide HI, lineIts_ok hk k0 m hk0 rfl, unhide HL]
    have hil : its.length ≤ 60 := by
      rw [unhide HI2, ints_len, unhide HL]; have := idxs_len rs (startOf rs k0) m; omega
    have HT : Hid (pGlOf rs after m = gTot (glsTo rs l its.length ++ endGl rs m)) := by
      have e1 : (after + 1).toNat = k0 := by omega
      show _ = _
      rw [pGlOf_ok hk, lineTot, e1, Int.toNat_natCast, glsTo, unhide HI2, ints_len, List.take_length, lineGls, ← unhide HL]
    have hin : ∀ x ∈ l, x < m := fun x hx => by rw [unhide HL] at hx; exact (idxs_mem hx).2.1
    have HIN := hide hin
    have HK := hide hk
    clear hk hv hl hb hk0 hin HI
    have hsz := hb0.size
    have hs1 : w.heap.size + 1 ≤ w1.heap.size := q0.lt
    go_wp2
    go_loopw [10, 25] (fun o i wr => ∃ (k : Nat) (A' : Option Addr) (c' : Nat) (gs : List Gl), k ≤ its.length ∧ i = .int .i64 k ∧ Hid (gs = glsTo rs l k) ∧ o = .slice A' gs.length c' ∧ OwnG wr w1.heap.size A' c' gs ∧ Blk wr w.heap.size 29 #[.int .i64 0, .int .i64 0, .int .i64 0, .int .i64 0] ∧ Below w1.heap.size w1 wr) (fun _ i _ => its.length - (intOf i).toNat)
    case atStart => exact ⟨0, none, 0, [], Nat.zero_le _, rfl, by show _ = _; simp [glsTo], rfl, OwnG.nil_ _ _, q0, Below.refl _ _⟩
    case round =>
      clear q0
      obtain ⟨k, A', c', gs, hk, rfl, hgs, rfl, hown, q0, hb⟩ := hrel
      have hbs := hb.size
      have hgl : gs.length ≤ 60 := by rw [unhide hgs]; have := glsTo_len rs l k; omega
      by_cases hlt : k < its.length
      · obtain ⟨b1, off1, x, e1, hbl1, hx, hcx⟩ := (I0.at_.next hb).at_ hlt
        subst e1
        obtain ⟨j, hj, rfl⟩ := ints_get (by rw [← unhide HI2]; exact hx)
        have hjm := unhide HIN j (mem_of_get hj)
        obtain ⟨b, off, r, rfl, hbl, hr, h0, h1, h2, h3, h4, h5, h6⟩ := (hR.next (bnext hb0 hb)).at_ (k := j) (by omega)
        have H : Hid (gs ++ [r.gl] = glsTo rs l (k + 1)) := by show _ = _; rw [glsTo_step hj, ← unhide hgs, itAt_of hr]
        have hjn : j < n := by omega
        clear hgs hr hj hx
        go_wp2_with (at_builtin; refine wpList_push_G r.gl rfl rfl hown rfl rfl (by omega) (by omega) ?_; intro A2 c2 w2 hown2 hg2 ho2)
        go_roundw
        case rel => exact ⟨k + 1, A2, c2, _, by omega, by go_num, H, by simp, hown2, (q0.alloc _).grown hg2 (fun e => by have := (World.ownsRow.lt ho2 _ e.symm).1; omega), b_own (bmk hb _) ho2 (Nat.le_refl _) hg2⟩
        case measure => simp [intOf]; omega
      · obtain rfl : its.length = k := by omega
        obtain ⟨b, off, r, rfl, hbl, hr, h0, h1, h2, h3, h4, h5, h6⟩ := (hR.next (bnext hb0 hb)).at_ hmn
        have hit := itAt_of hr
        have hgok : gs.all Gl.ok = true := by
          rw [unhide hgs, List.all_eq_true]
          intro g hg
          simp only [glsTo, List.mem_map] at hg
          obtain ⟨x, hx, rfl⟩ := hg
          have hx' := unhide HIN x (List.mem_of_mem_take hx)
          exact item_gl_ok (itAt_valid (unhide HVAL) (by rw [unhide HLEN]; omega))
        have hrok : r.gl.ok = true := item_gl_ok (List.all_eq_true.1 (unhide HVAL) r (mem_of_get hr))
        have HGOK := hide hgok
        obtain ⟨G, HG⟩ : ∃ G, Hid (pGlOf rs after m = G) := ⟨_, rfl⟩
        by_cases hkd : r.kind = 3
        case' pos =>
          have h0' : _ = some (Value.int .i64 3) := h0.trans (by rw [hkd])
          have HT2 : Hid (G = gTot (gs ++ [r.gl])) := by show _ = _; rw [← unhide HG, unhide HT, endGl, hit, if_pos hkd, ← unhide hgs]
          have HGK : Hid ((gs ++ [r.gl]).all Gl.ok = true) := by show _ = _; rw [List.all_append, unhide HGOK]; simp [hrok]
          have hln : (gs ++ [r.gl]).length ≤ 61 := by simp; omega
          clear hgs hr hit hgok hrok hkd HT h0
          go_wp2_with (at_builtin; refine wpList_push_G r.gl rfl rfl hown rfl rfl (by omega) (by omega) ?_; intro A2 c2 w2 hown2 hg2 ho2)
          have hb2 := bnext hb0 (b_own (bmk hb _) ho2 (Nat.le_refl _) hg2)
          replace q0 := (q0.alloc _).grown hg2 (fun e => by have := (World.ownsRow.lt ho2 _ e.symm).1; omega)
          obtain ⟨gL, HGL⟩ : ∃ gL, Hid (gL = gs ++ [r.gl]) := ⟨_, rfl⟩
          rw [← unhide HGL] at hown2 HT2 HGK hln
          have hgn : gs.length + 1 = gL.length := by rw [unhide HGL]; simp
          rw [hgn]
          clear hgn
        case' neg =>
          have h0' : (r.kind == 3) = false := by simpa using hkd
          have HT2 : Hid (G = gTot gs) := by show _ = _; rw [← unhide HG, unhide HT, endGl, hit, if_neg hkd, ← unhide hgs, List.append_nil]
          have hln : gs.length ≤ 61 := by omega
          have HGK := HGOK
          have hown2 := hown
          have hb2 := bnext hb0 hb
          clear hgs hr hit hgok hrok hkd HT hown
          go_wp2_with fail
          obtain ⟨gL, rfl⟩ : ∃ gL, gL = gs := ⟨_, rfl⟩
        all_goals
          refine (c_glTotal _ _ _ gL _ hown2.at_ (unhide HGK) (by omega)).mono ?_
          rw [← unhide HT2]
          rintro e wF ⟨rfl, hbF⟩
          replace q0 := q0.next hbF
          have hb3 := bnext hb2 hbF
          have p0 := q0.cell 0
          have p1 := q0.cell 1
          have p2 := q0.cell 2
          have p3 := q0.cell 3
          have z0 := q0.frozen 0
          have z1 := q0.frozen 1
          have z2 := q0.frozen 2
          have z3 := q0.frozen 3
          clear q0 hbF hown2 h1 h2 h3 h4 h5 h6 h0'
          go_wp2
          rw [unhide HG, unhide HK]
          refine bodyPost_ret (v := .tuple #[.agg #[.int .i64 G.w, .int .i64 G.st, .int .i64 G.sh, .int .i64 G.od], .bool true]) (by simp [results, Try.results16, go_sem, *]) rfl ⟨rfl, ?_⟩
          repeat (refine Below.setCell ?_ (by dsimp only; omega) _)
          exact hb3
set_option maxRecDepth 100000 in
set_option maxHeartbeats 1600000 in
theorem c_lineBadness (A : Option Addr) (n c : Nat) (rs : List Item) (after to width : Int) (w : World) (hR : ItemsAt w A n c rs) :
    Calls Try.prog 14 #[.slice A n c, .int .i64 after, .int .i64 to, .int .i64 width] w fun e w' => e = .returned (.tuple #[.int .i64 (lineBad rs after to width).1, .bool (lineBad rs after to width).2]) ∧ Below w.heap.size w w' := by
  have hlen := hR.len
  have hbd := hR.bd
  have HLEN := hide hlen
  clear hlen
  obtain ⟨G, HG⟩ : ∃ G, Hid (pGlOf rs after to = G) := ⟨_, rfl⟩
  go_enter Try.func14, Try.ntmps14
  go_wp2_with fail
  refine (c_lineGlue A n c rs after to _ hR).mono ?_
  rw [unhide HG]
  rintro e w1 ⟨rfl, hb1⟩
  have hb2 := bmk hb1 (.cells #[.int .i64 G.w, .int .i64 G.st, .int .i64 G.sh, .int .i64 G.od] 29)
  clear hb1
  cases hk : okL rs after to
  · have H : Hid (lineBad rs after to width = (-1, false)) := by
      show _ = _
      have : fitsB rs after to width = false := by rw [fitsB, ← Bool.and_assoc, ← okL, hk]; rfl
      rw [lineBad, this]; rfl
    clear HG hk
    go_wp2
    go_ret2
    rw [unhide H]
    exact ⟨rfl, hb2⟩
  · cases hw : inB width 0 1000
    · have H : Hid (lineBad rs after to width = (-1, false)) := by
        show _ = _
        have : fitsB rs after to width = false := by rw [fitsB, hw]; simp
        rw [lineBad, this]; rfl
      clear HG hk
      go_wp2_with (go_at_call 45; refine (c_in _ _ _ _).mono ?_; rintro e w' ⟨rfl, rfl⟩)
      go_ret2
      rw [unhide H]
      exact ⟨rfl, hb2⟩
    · have hf : fitsB rs after to width = true := by rw [fitsB, ← Bool.and_assoc, ← okL, hk, hw]; rfl
      obtain ⟨f1, f2, f3, f4⟩ := fitsB_iff.1 hf
      obtain ⟨⟨S1, S1'⟩, ⟨S2, S2'⟩, ⟨S3, S3'⟩, S4⟩ := lineTot_bd f1 f2
      obtain ⟨bad, st, HB⟩ : ∃ bad st, Hid (badOf (lineTot rs after to) width = (bad, st)) := ⟨_, _, rfl⟩
      have H : Hid (lineBad rs after to width = (bad, st)) := by show _ = _; rw [lineBad, if_pos hf, unhide HB]
      have e : lineTot rs after to = G := by rw [← unhide HG, pGlOf_ok hk]
      rw [e] at HB S1 S1' S2 S2' S3 S3' S4
      obtain ⟨Gw, Gst, Gsh, God⟩ := G
      dsimp only at S1 S1' S2 S2' S3 S3' S4 hb2 ⊢
      have HBB := unhide HB
      rw [badOf] at HBB
      dsimp only at HBB
      clear HG hk hf f1 f2 e HB
      by_cases hle : Gw ≤ width
      · rw [if_pos hle] at HBB
        by_cases ho : God = 1
        · rw [if_pos ho] at HBB
          obtain ⟨rfl, rfl⟩ := Prod.mk.injEq _ _ _ _ ▸ HBB
          subst ho
          clear HBB
          go_wp2_with (go_at_call 45; refine (c_in _ _ _ _).mono ?_; rintro e w' ⟨rfl, rfl⟩)
          go_ret2
          rw [unhide H]
          exact ⟨rfl, hb2⟩
        · rw [if_neg ho] at HBB
          have ho' : (God == 1) = false := by simpa using ho
          obtain ⟨e1, rfl⟩ := Prod.mk.injEq _ _ _ _ ▸ HBB
          have E1 := hide e1
          clear HBB e1
          go_wp2_with (first | (go_at_call 45; refine (c_in _ _ _ _).mono ?_; rintro e w' ⟨rfl, rfl⟩) | (go_at_call 46; refine (c_badness (width - Gw) Gst ⟨by omega, by omega⟩ ⟨by omega, by omega⟩ _).mono ?_; rintro e w' ⟨rfl, rfl⟩))
          go_ret2
          rw [unhide H]
          exact ⟨by rw [unhide E1] <;> rfl, hb2⟩
      · rw [if_neg hle] at HBB
        have hle' : decide (Gw ≤ width) = false := by simpa using hle
        by_cases ho : Gw - width ≤ Gsh
        · rw [if_pos ho] at HBB
          obtain ⟨e1, rfl⟩ := Prod.mk.injEq _ _ _ _ ▸ HBB
          have E1 := hide e1
          clear HBB e1
          go_wp2_with (first | (go_at_call 45; refine (c_in _ _ _ _).mono ?_; rintro e w' ⟨rfl, rfl⟩) | (go_at_call 46; refine (c_badness (Gw - width) Gsh ⟨by omega, by omega⟩ ⟨by omega, by omega⟩ _).mono ?_; rintro e w' ⟨rfl, rfl⟩))
          go_ret2
          rw [unhide H]
          exact ⟨by rw [unhide E1] <;> rfl, hb2⟩
        · rw [if_neg ho] at HBB
          obtain ⟨rfl, rfl⟩ := Prod.mk.injEq _ _ _ _ ▸ HBB
          clear HBB
          go_wp2_with (go_at_call 45; refine (c_in _ _ _ _).mono ?_; rintro e w' ⟨rfl, rfl⟩)
          go_ret2
          rw [unhide H]
          exact ⟨rfl, hb2⟩
end Go.Proofs.Ytlklkloadefihaa
