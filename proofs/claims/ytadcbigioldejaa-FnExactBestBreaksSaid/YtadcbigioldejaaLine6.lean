/- The glue and the badness of a line, the reference's: contracts. No condition. -/
import Derived.Test.YtadcbigioldejaaLine5
namespace Go.Proofs.Ytadcbigioldejaa
open Go.RowKit
set_option linter.unusedVariables false

def glOf (rs : List Item) (after to : Int) : Gl := if okL rs after to then lineTot rs after to else ⟨0, 0, 0, 0⟩
theorem glOf_not {rs : List Item} {after to : Int} (h : okL rs after to = false) : glOf rs after to = ⟨0, 0, 0, 0⟩ := by simp [glOf, h]
theorem glOf_ok {rs : List Item} {after to : Int} (h : okL rs after to = true) : glOf rs after to = lineTot rs after to := by simp [glOf, h]
theorem lineTot_eq {rs : List Item} {after to : Int} (k0 m : Nat) (ha : after + 1 = k0) (hm : to = m) : lineTot rs after to = gTot (lineGls rs (startOf rs k0) m ++ endGl rs m) := by
  subst hm
  have e1 : (after + 1).toNat = k0 := by omega
  simp [lineTot, e1]
theorem lineOk_start {rs : List Item} {after to : Int} (h : lineOk rs after to = true) (k0 m : Nat) (ha : after + 1 = k0) (hm : to = m) : startOf rs k0 ≤ m ∧ k0 ≤ m ∧ m < rs.length := by
  have hb := lineOk_bd h
  rw [lineOk_parts k0 m ha hm (by omega)] at h
  simp only [Bool.and_eq_true, decide_eq_true_eq] at h
  exact ⟨h.2.2.1, by omega, by omega⟩
theorem lineTot_small {rs : List Item} {after to : Int} (hv : itemsValid rs = true) (hl : lineOk rs after to = true) : (lineTot rs after to).Small ∧ (lineTot rs after to).w ≤ 61000 ∧ (lineTot rs after to).st ≤ 61000 ∧ (lineTot rs after to).sh ≤ (lineTot rs after to).w := by
  obtain ⟨⟨a, b⟩, ⟨c, d⟩, ⟨e, f⟩, g⟩ := lineTot_bd hv hl
  exact ⟨⟨by omega, by omega, by omega, g⟩, b, d, f⟩

set_option maxRecDepth 100000 in
set_option maxHeartbeats 1600000 in
theorem c_lineGlue' (A : Option Addr) (n c : Nat) (rs : List Item) (after to : Int) (w : World) (hR : ItemsAt w A n c rs) :
    Calls Try.prog 46 #[.slice A n c, .int .i64 after, .int .i64 to] w fun e w' => e = .returned (.tuple #[.agg #[.int .i64 (glOf rs after to).w, .int .i64 (glOf rs after to).st, .int .i64 (glOf rs after to).sh, .int .i64 (glOf rs after to).od], .bool (okL rs after to)]) ∧ Below w.heap.size w w' := by
  have hlen := hR.len
  have hbd := hR.bd
  have HLEN := hide hlen
  clear hlen
  have q0 := Blk.new w 49 #[.int .i64 0, .int .i64 0, .int .i64 0, .int .i64 0]
  have hb0 := bof w (.cells #[.int .i64 0, .int .i64 0, .int .i64 0, .int .i64 0] 49)
  go_enter Try.func46, Try.ntmps46
  go_wp2_with fail
  refine (c_itemsValid' A n c rs _ (hR.next hb0)).mono ?_
  rintro e w1 ⟨rfl, hb1⟩
  replace q0 := q0.next hb1
  replace hb0 := bnext hb0 hb1
  clear hb1
  cases hv : itemsValid rs
  · have HK := hide (okL_not (after := after) (to := to) (.inl hv))
    have p0 := q0.cell 0
    have p1 := q0.cell 1
    have p2 := q0.cell 2
    have p3 := q0.cell 3
    have z0 := q0.frozen 0
    have z1 := q0.frozen 1
    have z2 := q0.frozen 2
    have z3 := q0.frozen 3
    clear q0
    go_wp2
    rw [unhide HK, glOf_not (unhide HK)]
    refine bodyPost_ret (v := .tuple #[.agg #[.int .i64 0, .int .i64 0, .int .i64 0, .int .i64 0], .bool false]) (by simp [results, Try.results46, go_sem, *]) rfl ⟨rfl, ?_⟩
    repeat (refine Below.setCell ?_ (by dsimp only; omega) _)
    exact hb0
  · have hval := (itemsValid_iff.1 hv).1
    have hn60 := (itemsValid_iff.1 hv).2
    rw [unhide HLEN] at hn60
    have HVAL := hide hval
    have HV := hide hv
    clear hv hval
    go_wp2_with fail
    refine (c_l7Line A n c rs after to _ (hR.next hb0) (unhide HVAL) hn60).mono ?_
    rintro e w2 ⟨rfl, hb2⟩
    replace q0 := q0.next hb2
    replace hb0 := bnext hb0 hb2
    clear hb2
    cases hl : lineOk rs after to
    · have HK : Hid (okL rs after to = false) := by show _ = _; rw [okL, unhide HV, hl]; rfl
      have p0 := q0.cell 0
      have p1 := q0.cell 1
      have p2 := q0.cell 2
      have p3 := q0.cell 3
      have z0 := q0.frozen 0
      have z1 := q0.frozen 1
      have z2 := q0.frozen 2
      have z3 := q0.frozen 3
      clear q0 hl
      go_wp2
      rw [unhide HK, glOf_not (unhide HK)]
      refine bodyPost_ret (v := .tuple #[.agg #[.int .i64 0, .int .i64 0, .int .i64 0, .int .i64 0], .bool false]) (by simp [results, Try.results46, go_sem, *]) rfl ⟨rfl, ?_⟩
      repeat (refine Below.setCell ?_ (by dsimp only; omega) _)
      exact hb0
    · have HK : Hid (okL rs after to = true) := by show _ = _; rw [okL, unhide HV, hl]; rfl
      have hb := lineOk_bd hl
      rw [unhide HLEN] at hb
      obtain ⟨k0, hk0⟩ := Int.eq_ofNat_of_zero_le (show 0 ≤ after + 1 by omega)
      obtain ⟨m, rfl⟩ := Int.eq_ofNat_of_zero_le (show 0 ≤ to by omega)
      obtain ⟨hs1, hs2, hs3⟩ := lineOk_start hl k0 m hk0 rfl
      rw [unhide HLEN] at hs3
      obtain ⟨G, HG⟩ : ∃ G, Hid (glOf rs after m = G) := ⟨_, rfl⟩
      have HG2 : Hid (G = gTot (lineGls rs (startOf rs k0) m ++ endGl rs m)) := by show _ = _; rw [← unhide HG, glOf_ok (unhide HK), lineTot_eq k0 m hk0 rfl]
      obtain rfl : after = (k0 : Int) - 1 := by omega
      clear hl hb hk0
      go_wp2_with fail
      refine (c_l5Start A n c rs _ k0 (by omega) (by omega) _ (hR.next hb0) (unhide HVAL)).mono ?_
      rintro e w3 ⟨rfl, hb3⟩
      replace q0 := q0.next hb3
      replace hb0 := bnext hb0 hb3
      clear hb3
      go_wp2_with fail
      refine (c_l7Sum A n c rs (startOf rs k0) m _ (hR.next hb0) (unhide HVAL) hn60 hs1 hs3 G HG2).mono ?_
      rintro e w4 ⟨rfl, hb4⟩
      replace q0 := q0.next hb4
      replace hb0 := bnext hb0 hb4
      clear hb4
      have p0 := q0.cell 0
      have p1 := q0.cell 1
      have p2 := q0.cell 2
      have p3 := q0.cell 3
      have z0 := q0.frozen 0
      have z1 := q0.frozen 1
      have z2 := q0.frozen 2
      have z3 := q0.frozen 3
      clear q0
      go_wp2
      rw [unhide HK, unhide HG]
      refine bodyPost_ret (v := .tuple #[.agg #[.int .i64 G.w, .int .i64 G.st, .int .i64 G.sh, .int .i64 G.od], .bool true]) (by simp [results, Try.results46, go_sem, *]) rfl ⟨rfl, ?_⟩
      repeat (refine Below.setCell ?_ (by dsimp only; omega) _)
      exact hb0
set_option maxRecDepth 100000 in
set_option maxHeartbeats 1600000 in
theorem c_l7Bad (A : Option Addr) (n c : Nat) (rs : List Item) (after to width : Int) (w : World) (hR : ItemsAt w A n c rs) (hv : itemsValid rs = true) (hl : lineOk rs after to = true) (hw : 0 ≤ width ∧ width ≤ 1000) (bad : Int) (st : Bool) (HB : Hid (badOf (lineTot rs after to) width = (bad, st))) :
    Calls Try.prog 39 #[.slice A n c, .int .i64 after, .int .i64 to, .int .i64 width] w fun e w' => e = .returned (.tuple #[.int .i64 bad, .bool st]) ∧ Below w.heap.size w w' := by
  have hlen := hR.len
  have hbd := hR.bd
  have HLEN := hide hlen
  clear hlen
  have hval := (itemsValid_iff.1 hv).1
  have hn60 := (itemsValid_iff.1 hv).2
  rw [unhide HLEN] at hn60
  have HVAL := hide hval
  have hb := lineOk_bd hl
  rw [unhide HLEN] at hb
  obtain ⟨k0, hk0⟩ := Int.eq_ofNat_of_zero_le (show 0 ≤ after + 1 by omega)
  obtain ⟨m, rfl⟩ := Int.eq_ofNat_of_zero_le (show 0 ≤ to by omega)
  obtain ⟨hs1, hs2, hs3⟩ := lineOk_start hl k0 m hk0 rfl
  rw [unhide HLEN] at hs3
  obtain ⟨hsm, hwb, hstb, hshw⟩ := lineTot_small hv hl
  obtain ⟨hw0, hw1⟩ := hw
  obtain rfl : after = (k0 : Int) - 1 := by omega
  have HG2 : Hid (lineTot rs ((k0 : Int) - 1) m = gTot (lineGls rs (startOf rs k0) m ++ endGl rs m)) := lineTot_eq k0 m hk0 rfl
  obtain ⟨G, HG⟩ : ∃ G, Hid (lineTot rs ((k0 : Int) - 1) m = G) := ⟨_, rfl⟩
  rw [unhide HG] at HG2 HB hsm hwb hstb hshw
  clear hl hb hk0 hv hval
  go_enter Try.func39, Try.ntmps39
  go_wp2_with fail
  refine (c_l5Start A n c rs _ k0 (by omega) (by omega) _ hR (unhide HVAL)).mono ?_
  rintro e w3 ⟨rfl, hb0⟩
  go_wp2_with fail
  refine (c_l7Sum A n c rs (startOf rs k0) m _ (hR.next hb0) (unhide HVAL) hn60 hs1 hs3 G HG2).mono ?_
  rintro e w4 ⟨rfl, hb4⟩
  replace hb0 := bnext hb0 hb4
  clear hb4
  obtain ⟨Gw, Gst, Gsh, God⟩ := G
  obtain ⟨⟨S1, S1'⟩, ⟨S2, S2'⟩, ⟨S3, S3'⟩, S4⟩ := hsm
  dsimp only at S1 S1' S2 S2' S3 S3' S4 hwb hstb hshw ⊢
  have hf := bmk hb0 (.cells #[.int .i64 Gw, .int .i64 Gst, .int .i64 Gsh, .int .i64 God] 49)
  have HBB := unhide HB
  rw [badOf] at HBB
  dsimp only at HBB
  by_cases hle : Gw ≤ width
  · rw [if_pos hle] at HBB
    by_cases ho : God = 1
    · rw [if_pos ho] at HBB
      obtain ⟨rfl, rfl⟩ := Prod.mk.injEq _ _ _ _ ▸ HBB
      subst ho
      clear HBB HB HG HG2
      go_wp2
      go_ret2
      exact ⟨rfl, hf⟩
    · rw [if_neg ho] at HBB
      have ho' : (God == 1) = false := by simpa using ho
      obtain ⟨e1, rfl⟩ := Prod.mk.injEq _ _ _ _ ▸ HBB
      have E1 := hide e1
      clear HBB HB HG HG2 e1
      go_wp2_with (go_at_call 62; refine (c_badness' (width - Gw) Gst ⟨by omega, by omega⟩ ⟨by omega, by omega⟩ _).mono ?_; rintro e w' ⟨rfl, rfl⟩)
      go_ret2
      exact ⟨by rw [unhide E1] <;> rfl, hf⟩
  · rw [if_neg hle] at HBB
    by_cases ho : Gw - width ≤ Gsh
    · rw [if_pos ho] at HBB
      have ho' : decide (width < Gw - Gsh) = false := by simp; omega
      obtain ⟨e1, rfl⟩ := Prod.mk.injEq _ _ _ _ ▸ HBB
      have E1 := hide e1
      clear HBB HB HG HG2 e1
      go_wp2_with (go_at_call 62; refine (c_badness' (Gw - width) Gsh ⟨by omega, by omega⟩ ⟨by omega, by omega⟩ _).mono ?_; rintro e w' ⟨rfl, rfl⟩)
      go_ret2
      exact ⟨by rw [unhide E1] <;> rfl, hf⟩
    · rw [if_neg ho] at HBB
      have ho' : decide (width < Gw - Gsh) = true := by simp; omega
      obtain ⟨rfl, rfl⟩ := Prod.mk.injEq _ _ _ _ ▸ HBB
      clear HBB HB HG HG2
      go_wp2
      go_ret2
      exact ⟨rfl, hf⟩
set_option maxRecDepth 100000 in
set_option maxHeartbeats 1600000 in
theorem c_lineBadness' (A : Option Addr) (n c : Nat) (rs : List Item) (after to width : Int) (w : World) (hR : ItemsAt w A n c rs) :
    Calls Try.prog 32 #[.slice A n c, .int .i64 after, .int .i64 to, .int .i64 width] w fun e w' => e = .returned (.tuple #[.int .i64 (lineBad rs after to width).1, .bool (lineBad rs after to width).2]) ∧ Below w.heap.size w w' := by
  have hlen := hR.len
  have hbd := hR.bd
  have HLEN := hide hlen
  clear hlen
  obtain ⟨G, HG⟩ : ∃ G, Hid (glOf rs after to = G) := ⟨_, rfl⟩
  go_enter Try.func32, Try.ntmps32
  go_wp2_with fail
  refine (c_lineGlue' A n c rs after to _ hR).mono ?_
  rw [unhide HG]
  rintro e w1 ⟨rfl, hb1⟩
  have hb2 := bmk hb1 (.cells #[.int .i64 G.w, .int .i64 G.st, .int .i64 G.sh, .int .i64 G.od] 49)
  clear hb1
  cases hk : okL rs after to
  · have H : Hid (lineBad rs after to width = (-1, false)) := by
      show _ = _
      have : fitsB rs after to width = false := by rw [fitsB, ← Bool.and_assoc, ← okL, hk]; rfl
      rw [lineBad, this]; rfl
    clear HG hk
    go_wp2
    go_ret2
    rw [unhide H]
    exact ⟨rfl, hb2⟩
  · cases hw : inB width 0 1000
    · have H : Hid (lineBad rs after to width = (-1, false)) := by
        show _ = _
        have : fitsB rs after to width = false := by rw [fitsB, hw]; simp
        rw [lineBad, this]; rfl
      clear HG hk
      go_wp2_with (go_at_call 37; refine (c_l1In _ _ _ _).mono ?_; rintro e w' ⟨rfl, rfl⟩)
      go_ret2
      rw [unhide H]
      exact ⟨rfl, hb2⟩
    · have hf : fitsB rs after to width = true := by rw [fitsB, ← Bool.and_assoc, ← okL, hk, hw]; rfl
      obtain ⟨f1, f2, f3⟩ := fitsB_iff.1 hf
      obtain ⟨bad, st, HB⟩ : ∃ bad st, Hid (badOf (lineTot rs after to) width = (bad, st)) := ⟨_, _, rfl⟩
      have H : Hid (lineBad rs after to width = (bad, st)) := by show _ = _; rw [lineBad, if_pos hf, unhide HB]
      have F1 := hide f1
      have F2 := hide f2
      clear HG hk hf f1 f2
      go_wp2_with (go_at_call 37; refine (c_l1In _ _ _ _).mono ?_; rintro e w' ⟨rfl, rfl⟩)
      refine (c_l7Bad A n c rs after to width _ (hR.next hb2) (unhide F1) (unhide F2) f3 bad st HB).mono ?_
      rintro e w2 ⟨rfl, hb3⟩
      replace hb2 := bnext hb2 hb3
      go_wp2
      go_ret2
      rw [unhide H]
      exact ⟨rfl, hb2⟩
end Go.Proofs.Ytadcbigioldejaa
