/- The glue and the badness of a line, the program's: contracts. No condition. -/
import Derived.Test.YtadcbigioldejaaLine3
namespace Go.Proofs.Ytadcbigioldejaa
open Go.RowKit
set_option linter.unusedVariables false

def pGlOf (rs : List Item) (after to : Int) : Gl := if okL rs after to then lineTot rs after to else ⟨0, 0, 0, 0⟩
theorem pGlOf_not {rs : List Item} {after to : Int} (h : okL rs after to = false) : pGlOf rs after to = ⟨0, 0, 0, 0⟩ := by simp [pGlOf, h]
theorem pGlOf_ok {rs : List Item} {after to : Int} (h : okL rs after to = true) : pGlOf rs after to = lineTot rs after to := by simp [pGlOf, h]
theorem okL_iff {rs : List Item} {after to : Int} : okL rs after to = true ↔ itemsValid rs = true ∧ lineOk rs after to = true := by simp [okL]
theorem ints_get {l : List Nat} {k : Nat} {x : Int} (h : (ints l)[k]? = some x) : ∃ m, l[k]? = some m ∧ x = (m : Int) := by
  unfold ints at h
  rw [List.getElem?_map] at h
  cases hl : l[k]? with
  | none => rw [hl] at h; simp at h
  | some m => rw [hl] at h; simp at h; exact ⟨m, rfl, h.symm⟩
def glsTo (rs : List Item) (l : List Nat) (k : Nat) : List Gl := (l.take k).map fun n => (itAt rs n).gl
theorem glsTo_step {rs : List Item} {l : List Nat} {k m : Nat} (h : l[k]? = some m) : glsTo rs l (k + 1) = glsTo rs l k ++ [(itAt rs m).gl] := by simp [glsTo, take_snoc' h]
theorem glsTo_len (rs : List Item) (l : List Nat) (k : Nat) : (glsTo rs l k).length ≤ k := by simp [glsTo]; omega

set_option maxRecDepth 100000 in
set_option maxHeartbeats 3200000 in
theorem c_lineGlue (A : Option Addr) (n c : Nat) (rs : List Item) (after to : Int) (w : World) (hR : ItemsAt w A n c rs) :
    Calls Try.prog 55 #[.slice A n c, .int .i64 after, .int .i64 to] w fun e w' => e = .returned (.tuple #[.agg #[.int .i64 (pGlOf rs after to).w, .int .i64 (pGlOf rs after to).st, .int .i64 (pGlOf rs after to).sh, .int .i64 (pGlOf rs after to).od], .bool (okL rs after to)]) ∧ Below w.heap.size w w' := by
  have hlen := hR.len
  have hbd := hR.bd
  have HLEN := hide hlen
  clear hlen
  have q0 := Blk.new w 49 #[.int .i64 0, .int .i64 0, .int .i64 0, .int .i64 0]
  have hb0 := bof w (.cells #[.int .i64 0, .int .i64 0, .int .i64 0, .int .i64 0] 49)
  obtain ⟨its, HI⟩ : ∃ its, Hid (lineIts rs after to = its) := ⟨_, rfl⟩
  go_enter Try.func55, Try.ntmps55
  go_wp2_with fail
  refine (c_lineItems A n c rs after to _ (hR.next hb0)).mono ?_
  rw [unhide HI]
  rintro e w1 ⟨A1, c1, rfl, I0, hb1⟩
  replace q0 := q0.next hb1
  replace hb0 := bnext hb0 hb1
  rw [size_alloc'] at I0
  clear hb1
  cases hk : okL rs after to
  · have p0 := q0.cell 0
    have p1 := q0.cell 1
    have p2 := q0.cell 2
    have p3 := q0.cell 3
    have z0 := q0.frozen 0
    have z1 := q0.frozen 1
    have z2 := q0.frozen 2
    have z3 := q0.frozen 3
    have HK := hide hk
    clear q0 I0 hk
    go_wp2
    rw [unhide HK, pGlOf_not (unhide HK)]
    refine bodyPost_ret (v := .tuple #[.agg #[.int .i64 0, .int .i64 0, .int .i64 0, .int .i64 0], .bool false]) (by simp [results, Try.results55, go_sem, *]) rfl ⟨rfl, ?_⟩
    repeat (refine Below.setCell ?_ (by dsimp only; omega) _)
    exact hb0
  · obtain ⟨hv, hl⟩ := okL_iff.1 hk
    have HVAL := hide (itemsValid_iff.1 hv).1
    have hn60 := (itemsValid_iff.1 hv).2
    rw [unhide HLEN] at hn60
    have hb := lineOk_bd hl
    rw [unhide HLEN] at hb
    obtain ⟨k0, hk0⟩ := Int.eq_ofNat_of_zero_le (show 0 ≤ after + 1 by omega)
    obtain ⟨m, rfl⟩ := Int.eq_ofNat_of_zero_le (show 0 ≤ to by omega)
    have hmn : m < n := by omega
    obtain ⟨l, HL⟩ : ∃ l, Hid (l = idxs rs (startOf rs k0) m) := ⟨_, rfl⟩
    have HI2 : Hid (its = ints l) := by show _ = _; rw [← unhide HI, lineIts_ok hk k0 m hk0 rfl, unhide HL]
    have hil : its.length ≤ 60 := by
      rw [unhide HI2, ints_len, unhide HL]; have := idxs_len rs (startOf rs k0) m; omega
    have HT : Hid (pGlOf rs after m = gTot (glsTo rs l its.length ++ endGl rs m)) := by
      have e1 : (after + 1).toNat = k0 := by omega
      show _ = _
      rw [pGlOf_ok hk, lineTot, e1, Int.toNat_natCast, glsTo, unhide HI2, ints_len, List.take_length, lineGls, ← unhide HL]
    have hin : ∀ x ∈ l, x < m := fun x hx => by rw [unhide HL] at hx; exact (idxs_mem hx).2.1
    have HIN := hide hin
    have HK := hide hk
    clear hk hv hl hb hk0 hin HI
    have hsz := hb0.size
    have hs1 : w.heap.size + 1 ≤ w1.heap.size := q0.lt
    go_wp2
    go_loopw [10, 25] (fun o i wr => ∃ (k : Nat) (A' : Option Addr) (c' : Nat) (gs : List Gl), k ≤ its.length ∧ i = .int .i64 k ∧ Hid (gs = glsTo rs l k) ∧ o = .slice A' gs.length c' ∧ OwnG wr w1.heap.size A' c' gs ∧ Blk wr w.heap.size 49 #[.int .i64 0, .int .i64 0, .int .i64 0, .int .i64 0] ∧ Below w1.heap.size w1 wr) (fun _ i _ => its.length - (intOf i).toNat)
    case atStart => exact ⟨0, none, 0, [], Nat.zero_le _, rfl, by show _ = _; simp [glsTo], rfl, OwnG.nil_ _ _, q0, Below.refl _ _⟩
    case round =>
      clear q0
      obtain ⟨k, A', c', gs, hk, rfl, hgs, rfl, hown, q0, hb⟩ := hrel
      have hbs := hb.size
      have hgl : gs.length ≤ 60 := by rw [unhide hgs]; have := glsTo_len rs l k; omega
      by_cases hlt : k < its.length
      · obtain ⟨b1, off1, x, e1, hbl1, hx, hcx⟩ := (I0.at_.next hb).at_ hlt
        subst e1
        obtain ⟨j, hj, rfl⟩ := ints_get (by rw [← unhide HI2]; exact hx)
        have hjm := unhide HIN j (mem_of_get hj)
        obtain ⟨b, off, r, rfl, hbl, hr, h0, h1, h2, h3, h4, h5, h6⟩ := (hR.next (bnext hb0 hb)).at_ (k := j) (by omega)
        have H : Hid (gs ++ [r.gl] = glsTo rs l (k + 1)) := by show _ = _; rw [glsTo_step hj, ← unhide hgs, itAt_of hr]
        have hjn : j < n := by omega
        clear hgs hr hj hx
        go_wp2_with (at_builtin; refine wpList_push_G r.gl rfl rfl hown rfl rfl (by omega) (by omega) ?_; intro A2 c2 w2 hown2 hg2 ho2)
        go_roundw
        case rel => exact ⟨k + 1, A2, c2, _, by omega, by go_num, H, by simp, hown2, (q0.alloc _).grown hg2 (fun e => by have := (World.ownsRow.lt ho2 _ e.symm).1; omega), b_own (bmk hb _) ho2 (Nat.le_refl _) hg2⟩
        case measure => simp [intOf]; omega
      · obtain rfl : its.length = k := by omega
        obtain ⟨b, off, r, rfl, hbl, hr, h0, h1, h2, h3, h4, h5, h6⟩ := (hR.next (bnext hb0 hb)).at_ hmn
        have hit := itAt_of hr
        have hgok : gs.all Gl.ok = true := by
          rw [unhide hgs, List.all_eq_true]
          intro g hg
          simp only [glsTo, List.mem_map] at hg
          obtain ⟨x, hx, rfl⟩ := hg
          have hx' := unhide HIN x (List.mem_of_mem_take hx)
          exact item_gl_ok (itAt_valid (unhide HVAL) (by rw [unhide HLEN]; omega))
        have hrok : r.gl.ok = true := item_gl_ok (List.all_eq_true.1 (unhide HVAL) r (mem_of_get hr))
        have HGOK := hide hgok
        obtain ⟨G, HG⟩ : ∃ G, Hid (pGlOf rs after m = G) := ⟨_, rfl⟩
        by_cases hkd : r.kind = 3
        case' pos =>
          have h0' : _ = some (Value.int .i64 3) := h0.trans (by rw [hkd])
          have HT2 : Hid (G = gTot (gs ++ [r.gl])) := by show _ = _; rw [← unhide HG, unhide HT, endGl, hit, if_pos hkd, ← unhide hgs]
          have HGK : Hid ((gs ++ [r.gl]).all Gl.ok = true) := by show _ = _; rw [List.all_append, unhide HGOK]; simp [hrok]
          have hln : (gs ++ [r.gl]).length ≤ 61 := by simp; omega
          clear hgs hr hit hgok hrok hkd HT h0
          go_wp2_with (at_builtin; refine wpList_push_G r.gl rfl rfl hown rfl rfl (by omega) (by omega) ?_; intro A2 c2 w2 hown2 hg2 ho2)
          have hb2 := bnext hb0 (b_own (bmk hb _) ho2 (Nat.le_refl _) hg2)
          replace q0 := (q0.alloc _).grown hg2 (fun e => by have := (World.ownsRow.lt ho2 _ e.symm).1; omega)
          obtain ⟨gL, HGL⟩ : ∃ gL, Hid (gL = gs ++ [r.gl]) := ⟨_, rfl⟩
          rw [← unhide HGL] at hown2 HT2 HGK hln
          have hgn : gs.length + 1 = gL.length := by rw [unhide HGL]; simp
          rw [hgn]
          clear hgn
        case' neg =>
          have h0' : (r.kind == 3) = false := by simpa using hkd
          have HT2 : Hid (G = gTot gs) := by show _ = _; rw [← unhide HG, unhide HT, endGl, hit, if_neg hkd, ← unhide hgs, List.append_nil]
          have hln : gs.length ≤ 61 := by omega
          have HGK := HGOK
          have hown2 := hown
          have hb2 := bnext hb0 hb
          clear hgs hr hit hgok hrok hkd HT hown
          go_wp2_with fail
          obtain ⟨gL, rfl⟩ : ∃ gL, gL = gs := ⟨_, rfl⟩
        all_goals
          refine (c_glTotal _ _ _ gL _ hown2.at_ (unhide HGK) (by omega)).mono ?_
          rw [← unhide HT2]
          rintro e wF ⟨rfl, hbF⟩
          replace q0 := q0.next hbF
          have hb3 := bnext hb2 hbF
          have p0 := q0.cell 0
          have p1 := q0.cell 1
          have p2 := q0.cell 2
          have p3 := q0.cell 3
          have z0 := q0.frozen 0
          have z1 := q0.frozen 1
          have z2 := q0.frozen 2
          have z3 := q0.frozen 3
          clear q0 hbF hown2 h1 h2 h3 h4 h5 h6 h0'
          go_wp2
          rw [unhide HG, unhide HK]
          refine bodyPost_ret (v := .tuple #[.agg #[.int .i64 G.w, .int .i64 G.st, .int .i64 G.sh, .int .i64 G.od], .bool true]) (by simp [results, Try.results55, go_sem, *]) rfl ⟨rfl, ?_⟩
          repeat (refine Below.setCell ?_ (by dsimp only; omega) _)
          exact hb3
set_option maxRecDepth 100000 in
set_option maxHeartbeats 1600000 in
theorem c_lineBadness (A : Option Addr) (n c : Nat) (rs : List Item) (after to width : Int) (w : World) (hR : ItemsAt w A n c rs) :
    Calls Try.prog 34 #[.slice A n c, .int .i64 after, .int .i64 to, .int .i64 width] w fun e w' => e = .returned (.tuple #[.int .i64 (lineBad rs after to width).1, .bool (lineBad rs after to width).2]) ∧ Below w.heap.size w w' := by
  have hlen := hR.len
  have hbd := hR.bd
  have HLEN := hide hlen
  clear hlen
  obtain ⟨G, HG⟩ : ∃ G, Hid (pGlOf rs after to = G) := ⟨_, rfl⟩
  go_enter Try.func34, Try.ntmps34
  go_wp2_with fail
  refine (c_lineGlue A n c rs after to _ hR).mono ?_
  rw [unhide HG]
  rintro e w1 ⟨rfl, hb1⟩
  have hb2 := bmk hb1 (.cells #[.int .i64 G.w, .int .i64 G.st, .int .i64 G.sh, .int .i64 G.od] 49)
  clear hb1
  cases hk : okL rs after to
  · have H : Hid (lineBad rs after to width = (-1, false)) := by
      show _ = _
      have : fitsB rs after to width = false := by rw [fitsB, ← Bool.and_assoc, ← okL, hk]; rfl
      rw [lineBad, this]; rfl
    clear HG hk
    go_wp2
    go_ret2
    rw [unhide H]
    exact ⟨rfl, hb2⟩
  · cases hw : inB width 0 1000
    · have H : Hid (lineBad rs after to width = (-1, false)) := by
        show _ = _
        have : fitsB rs after to width = false := by rw [fitsB, hw]; simp
        rw [lineBad, this]; rfl
      clear HG hk
      go_wp2_with (go_at_call 41; refine (c_in _ _ _ _).mono ?_; rintro e w' ⟨rfl, rfl⟩)
      go_ret2
      rw [unhide H]
      exact ⟨rfl, hb2⟩
    · have hf : fitsB rs after to width = true := by rw [fitsB, ← Bool.and_assoc, ← okL, hk, hw]; rfl
      obtain ⟨f1, f2, f3, f4⟩ := fitsB_iff.1 hf
      obtain ⟨⟨S1, S1'⟩, ⟨S2, S2'⟩, ⟨S3, S3'⟩, S4⟩ := lineTot_bd f1 f2
      obtain ⟨bad, st, HB⟩ : ∃ bad st, Hid (badOf (lineTot rs after to) width = (bad, st)) := ⟨_, _, rfl⟩
      have H : Hid (lineBad rs after to width = (bad, st)) := by show _ = _; rw [lineBad, if_pos hf, unhide HB]
      have e : lineTot rs after to = G := by rw [← unhide HG, pGlOf_ok hk]
      rw [e] at HB S1 S1' S2 S2' S3 S3' S4
      obtain ⟨Gw, Gst, Gsh, God⟩ := G
      dsimp only at S1 S1' S2 S2' S3 S3' S4 hb2 ⊢
      have HBB := unhide HB
      rw [badOf] at HBB
      dsimp only at HBB
      clear HG hk hf f1 f2 e HB
      by_cases hle : Gw ≤ width
      · rw [if_pos hle] at HBB
        by_cases ho : God = 1
        · rw [if_pos ho] at HBB
          obtain ⟨rfl, rfl⟩ := Prod.mk.injEq _ _ _ _ ▸ HBB
          subst ho
          clear HBB
          go_wp2_with (go_at_call 41; refine (c_in _ _ _ _).mono ?_; rintro e w' ⟨rfl, rfl⟩)
          go_ret2
          rw [unhide H]
          exact ⟨rfl, hb2⟩
        · rw [if_neg ho] at HBB
          have ho' : (God == 1) = false := by simpa using ho
          obtain ⟨e1, rfl⟩ := Prod.mk.injEq _ _ _ _ ▸ HBB
          have E1 := hide e1
          clear HBB e1
          go_wp2_with (first | (go_at_call 41; refine (c_in _ _ _ _).mono ?_; rintro e w' ⟨rfl, rfl⟩) | (go_at_call 56; refine (c_badness (width - Gw) Gst ⟨by omega, by omega⟩ ⟨by omega, by omega⟩ _).mono ?_; rintro e w' ⟨rfl, rfl⟩))
          go_ret2
          rw [unhide H]
          exact ⟨by rw [unhide E1] <;> rfl, hb2⟩
      · rw [if_neg hle] at HBB
        have hle' : decide (Gw ≤ width) = false := by simpa using hle
        by_cases ho : Gw - width ≤ Gsh
        · rw [if_pos ho] at HBB
          obtain ⟨e1, rfl⟩ := Prod.mk.injEq _ _ _ _ ▸ HBB
          have E1 := hide e1
          clear HBB e1
          go_wp2_with (first | (go_at_call 41; refine (c_in _ _ _ _).mono ?_; rintro e w' ⟨rfl, rfl⟩) | (go_at_call 56; refine (c_badness (Gw - width) Gsh ⟨by omega, by omega⟩ ⟨by omega, by omega⟩ _).mono ?_; rintro e w' ⟨rfl, rfl⟩))
          go_ret2
          rw [unhide H]
          exact ⟨by rw [unhide E1] <;> rfl, hb2⟩
        · rw [if_neg ho] at HBB
          obtain ⟨rfl, rfl⟩ := Prod.mk.injEq _ _ _ _ ▸ HBB
          clear HBB
          go_wp2_with (go_at_call 41; refine (c_in _ _ _ _).mono ?_; rintro e w' ⟨rfl, rfl⟩)
          go_ret2
          rw [unhide H]
          exact ⟨rfl, hb2⟩
end Go.Proofs.Ytadcbigioldejaa
