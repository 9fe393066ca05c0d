/- The reference's sum of the glues of a line: contract. No condition. -/
import Derived.Test.YtadcbigioldejaaLine4
namespace Go.Proofs.Ytadcbigioldejaa
open Go.RowKit
set_option linter.unusedVariables false

theorem tot_nil : gTot [] = ⟨0, 0, 0, 0⟩ := rfl
set_option maxRecDepth 100000 in
set_option maxHeartbeats 3200000 in
theorem c_l7Sum (A : Option Addr) (n c : Nat) (rs : List Item) (s m : Nat) (w : World) (hR : ItemsAt w A n c rs) (hval : rs.all itemValid = true) (hn60 : n ≤ 60) (hs : s ≤ m) (hm : m < n) (G1 : Gl) (HG1 : Hid (G1 = gTot (lineGls rs s m ++ endGl rs m))) :
    Calls Try.prog 61 #[.slice A n c, .int .i64 s, .int .i64 m] w fun e w' => e = .returned (.agg #[.int .i64 G1.w, .int .i64 G1.st, .int .i64 G1.sh, .int .i64 G1.od]) ∧ Below w.heap.size w w' := by
  have hlen := hR.len
  have hbd := hR.bd
  have HVAL := hide hval
  have HLEN := hide hlen
  clear hval hlen
  have hB := bmk (bof w (.cells #[.int .i64 0, .int .i64 0, .int .i64 0, .int .i64 0] 49)) (.cells #[.int .i64 0, .int .i64 0, .int .i64 0, .int .i64 0] 49)
  have q0 := (Blk.new w 49 #[.int .i64 0, .int .i64 0, .int .i64 0, .int .i64 0]).alloc (.cells #[.int .i64 0, .int .i64 0, .int .i64 0, .int .i64 0] 49)
  have q1 := Blk.new (w.alloc (.cells #[.int .i64 0, .int .i64 0, .int .i64 0, .int .i64 0] 49)) 49 #[.int .i64 0, .int .i64 0, .int .i64 0, .int .i64 0]
  simp only [size_alloc'] at q1
  go_enter Try.func61, Try.ntmps61
  go_wp2
  go_loopw [8] (fun i wr => ∃ (k : Nat) (G : Gl), s ≤ k ∧ k ≤ m ∧ i = .int .i64 k ∧ Hid (G = gTot (lineGls rs s k)) ∧ Blk wr w.heap.size 49 #[.int .i64 0, .int .i64 0, .int .i64 0, .int .i64 0] ∧ Blk wr (w.heap.size + 1) 49 #[.int .i64 G.w, .int .i64 G.st, .int .i64 G.sh, .int .i64 G.od] ∧ Below w.heap.size w wr) (fun i _ => m - (intOf i).toNat)
  case atStart => exact ⟨s, ⟨0, 0, 0, 0⟩, Nat.le_refl _, hs, rfl, by show _ = _; rw [lineGls, idxs_start]; rfl, q0, q1, hB⟩
  case round =>
    clear q0 q1 hB
    obtain ⟨k, G, hk1, hk2, rfl, hG, q0, q1, hb⟩ := hrel
    have hok := lineGls_ok (s := s) (unhide HVAL) (show k ≤ rs.length by rw [unhide HLEN]; omega)
    have hgl := lineGls_len rs s k
    have hsm : G.Small := by rw [unhide hG]; exact small_tot hok (by omega)
    have hkn : k < n := by omega
    obtain ⟨b, off, r, rfl, hbl, hr, h0, h1, h2, h3, h4, h5, h6⟩ := (hR.next hb).at_ (k := k) (by omega)
    have hrok : r.gl.ok = true := item_gl_ok (List.all_eq_true.1 (unhide HVAL) r (mem_of_get hr))
    have hrs := Gl.small_ok hrok
    have cB0 : wr.cell? ⟨w.heap.size + 1, 0, none⟩ = some (.int .i64 G.w) := q1.cell 0
    have cB1 : wr.cell? ⟨w.heap.size + 1, 1, none⟩ = some (.int .i64 G.st) := q1.cell 1
    have cB2 : wr.cell? ⟨w.heap.size + 1, 2, none⟩ = some (.int .i64 G.sh) := q1.cell 2
    have cB3 : wr.cell? ⟨w.heap.size + 1, 3, none⟩ = some (.int .i64 G.od) := q1.cell 3
    by_cases hlt : k < m
    · by_cases hkd : r.kind = 3
      · have H : Hid (G = gTot (lineGls rs s (k + 1))) := by show _ = _; rw [lineGls_skip (by rw [itAt_of hr]; exact hkd)]; exact unhide hG
        have h0' : wr.cell? ⟨b, off + k * 7, none⟩ = some (.int .i64 3) := by rw [h0, hkd]
        clear hG hr hkd h0 hok hgl hrok
        go_wp2
        go_roundw
        case rel => exact ⟨k + 1, G, by omega, by omega, by go_num, H, q0, q1, hb⟩
        case measure => simp [intOf]; omega
      · have H : Hid (gAdd G r.gl = gTot (lineGls rs s (k + 1))) := by
          show _ = _; rw [lineGls_take hk1 (by rw [itAt_of hr]; exact hkd), itAt_of hr, ← gAdd_tot hok hrok, ← unhide hG]
        have h3' : (r.kind != 3) = true := by simpa using hkd
        clear hG hr hkd hok hgl hrok
        go_wp2
        go_region_law
          ((go_simp; go_at_call 75; refine (c_l1Add G r.gl _ hsm hrs).mono ?_; rintro e w2 ⟨rfl, hb2⟩; have u1 := q1.drew.next hb2; have d0 := u1.cell 0; have d1 := u1.cell 1; have d2 := u1.cell 2; have d3 := u1.cell 3; have f0 := u1.frozen 0; have f1 := u1.frozen 1; have f2 := u1.frozen 2; have f3 := u1.frozen 3))
        all_goals
          generalize gAdd G r.gl = G2 at H ⊢
          have v1 := (((u1.set_ 0 (.int .i64 G2.w)).set_ 1 (.int .i64 G2.st)).set_ 2 (.int .i64 G2.sh)).set_ 3 (.int .i64 G2.od)
          have v0 := ((((q0.drew.next hb2).far (p := ⟨w.heap.size + 1, 0, none⟩) (by dsimp only; omega) (.int .i64 G2.w)).far (p := ⟨w.heap.size + 1, 1, none⟩) (by dsimp only; omega) (.int .i64 G2.st)).far (p := ⟨w.heap.size + 1, 2, none⟩) (by dsimp only; omega) (.int .i64 G2.sh)).far (p := ⟨w.heap.size + 1, 3, none⟩) (by dsimp only; omega) (.int .i64 G2.od)
          have hb3 := ((((bnext hb.drew hb2).setCell (p := ⟨w.heap.size + 1, 0, none⟩) (by dsimp only; omega) (.int .i64 G2.w)).setCell (p := ⟨w.heap.size + 1, 1, none⟩) (by dsimp only; omega) (.int .i64 G2.st)).setCell (p := ⟨w.heap.size + 1, 2, none⟩) (by dsimp only; omega) (.int .i64 G2.sh)).setCell (p := ⟨w.heap.size + 1, 3, none⟩) (by dsimp only; omega) (.int .i64 G2.od)
          clear u1 d0 d1 d2 d3 f0 f1 f2 f3 q0 q1 hb2 hb cB0 cB1 cB2 cB3
          go_wp2
          go_roundw
          case rel => exact ⟨k + 1, G2, by omega, by omega, by go_num, H, v0, v1, hb3⟩
          case measure => simp [intOf]; omega
    · obtain rfl : k = m := by omega
      have hit := itAt_of hr
      by_cases hkd : r.kind = 3
      · have H : Hid (gAdd G r.gl = G1) := by
          show _ = _; rw [unhide HG1, endGl, hit, if_pos hkd, ← gAdd_tot hok hrok, ← unhide hG]
        have h0' : wr.cell? ⟨b, off + k * 7, none⟩ = some (.int .i64 3) := by rw [h0, hkd]
        clear hG hr hkd h0 hok hgl hrok hit
        go_wp2
        go_region_law
          ((go_simp; go_at_call 75; refine (c_l1Add G r.gl _ hsm hrs).mono ?_; rintro e w2 ⟨rfl, hb2⟩; have u1 := q1.drew.next hb2; have d0 := u1.cell 0; have d1 := u1.cell 1; have d2 := u1.cell 2; have d3 := u1.cell 3; have f0 := u1.frozen 0; have f1 := u1.frozen 1; have f2 := u1.frozen 2; have f3 := u1.frozen 3))
        all_goals
          rw [unhide H]
          have v1 := (((u1.set_ 0 (.int .i64 G1.w)).set_ 1 (.int .i64 G1.st)).set_ 2 (.int .i64 G1.sh)).set_ 3 (.int .i64 G1.od)
          have v0 := ((((q0.drew.next hb2).far (p := ⟨w.heap.size + 1, 0, none⟩) (by dsimp only; omega) (.int .i64 G1.w)).far (p := ⟨w.heap.size + 1, 1, none⟩) (by dsimp only; omega) (.int .i64 G1.st)).far (p := ⟨w.heap.size + 1, 2, none⟩) (by dsimp only; omega) (.int .i64 G1.sh)).far (p := ⟨w.heap.size + 1, 3, none⟩) (by dsimp only; omega) (.int .i64 G1.od)
          have hb3 := ((((bnext hb.drew hb2).setCell (p := ⟨w.heap.size + 1, 0, none⟩) (by dsimp only; omega) (.int .i64 G1.w)).setCell (p := ⟨w.heap.size + 1, 1, none⟩) (by dsimp only; omega) (.int .i64 G1.st)).setCell (p := ⟨w.heap.size + 1, 2, none⟩) (by dsimp only; omega) (.int .i64 G1.sh)).setCell (p := ⟨w.heap.size + 1, 3, none⟩) (by dsimp only; omega) (.int .i64 G1.od)
          clear H
          generalize World.setCell _ _ _ = wX at v0 v1 hb3 ⊢
          have p0 := v0.cell 0
          have p1 := v0.cell 1
          have p2 := v0.cell 2
          have p3 := v0.cell 3
          have z0 := v0.frozen 0
          have z1 := v0.frozen 1
          have z2 := v0.frozen 2
          have z3 := v0.frozen 3
          have t0 : wX.cell? ⟨w.heap.size + 1, 0, none⟩ = some (.int .i64 G1.w) := v1.cell 0
          have t1 : wX.cell? ⟨w.heap.size + 1, 1, none⟩ = some (.int .i64 G1.st) := v1.cell 1
          have t2 : wX.cell? ⟨w.heap.size + 1, 2, none⟩ = some (.int .i64 G1.sh) := v1.cell 2
          have t3 : wX.cell? ⟨w.heap.size + 1, 3, none⟩ = some (.int .i64 G1.od) := v1.cell 3
          clear u1 d0 d1 d2 d3 f0 f1 f2 f3 q0 q1 hb2 hb cB0 cB1 cB2 cB3 v0 v1
          go_wp2
          refine bodyPost_ret (v := .agg #[.int .i64 G1.w, .int .i64 G1.st, .int .i64 G1.sh, .int .i64 G1.od]) (by simp [results, Try.results61, go_sem, *]) rfl ⟨rfl, ?_⟩
          repeat (refine Below.setCell ?_ (by dsimp only; omega) _)
          exact hb3
      · have H : Hid (G = G1) := by
          show _ = _; rw [unhide HG1, endGl, hit, if_neg hkd, List.append_nil, ← unhide hG]
        have h3' : (r.kind == 3) = false := by simpa using hkd
        obtain rfl := unhide H
        have p0 := q0.cell 0
        have p1 := q0.cell 1
        have p2 := q0.cell 2
        have p3 := q0.cell 3
        have z0 := q0.frozen 0
        have z1 := q0.frozen 1
        have z2 := q0.frozen 2
        have z3 := q0.frozen 3
        clear hG hr hkd hok hgl hrok hit H HG1 q0 q1
        go_wp2
        refine bodyPost_ret (v := .agg #[.int .i64 G.w, .int .i64 G.st, .int .i64 G.sh, .int .i64 G.od]) (by simp [results, Try.results61, go_sem, *]) rfl ⟨rfl, ?_⟩
        repeat (refine Below.setCell ?_ (by dsimp only; omega) _)
        exact hb
end Go.Proofs.Ytadcbigioldejaa
